/- FnLaidMost: joined from DrawLaid, PerfN, DomN, TurnN, TurnI, PutI, RTurn, LLaidMost. -/
import Derived.Test.YtnciemnlnijhfaaDrawFew
import Derived.Test.YtnciemnlnijhfaaLaidN
import Derived.Test.YtnciemnlnijhfaaMTilB
import Derived.Test.YtnciemnlnijhfaaGb
import Derived.Test.YtnciemnlnijhfaaColour
import Derived.Test.YtnciemnlnijhfaaAlive
import Derived.Test.YtnciemnlnijhfaaSet
import Derived.Test.YtnciemnlnijhfaaLaidI
import Derived.Test.YtnciemnlnijhfaaLaidS
/- Contracts: more draws of a region with few dark cells. -/
namespace Go.Proofs.Ytnciemnlnijhfaa
open Go.RowKit

set_option maxRecDepth 100000 in
set_option maxHeartbeats 2000000 in
theorem drawLaidMost_any (A : Option Addr) (c : Nat) (bs : List Int) (w : World) (hr : Rd w A (bs.map (.int .u8))) (hw : ∀ x ∈ bs, 0 ≤ x ∧ x ≤ 255) (hn : bs.length ≤ 1048576) (hcap : bs.length ≤ c) :
    Calls Try.prog 10 #[.slice A bs.length c] w (Drawn0 w) := by
  have HW := Lib.hid hw
  clear hw
  have hr1 := hr.alloc (.cells #[.int .i64 0, .int .i64 0, .slice none 0 0] 25)
  have P0 : (w.alloc (.cells #[.int .i64 0, .int .i64 0, .slice none 0 0] 25)).heap[w.heap.size]? = some (.cells #[.int .i64 0, .int .i64 0, .slice none 0 0] 25 (0, 0)) := heap_alloc_new w _
  have Z0 := bl_alloc (Below.refl w.heap.size w) (.cells #[.int .i64 0, .int .i64 0, .slice none 0 0] 25)
  have hs0 : (w.alloc (.cells #[.int .i64 0, .int .i64 0, .slice none 0 0] 25)).heap.size = w.heap.size + 1 := by simp
  go_enter Try.func10, Try.ntmps10
  go_wp2_with fail
  generalize w.alloc (.cells #[.int .i64 0, .int .i64 0, .slice none 0 0] 25) = wa at *
  refine (open_any A c bs _ hr1 HW.out hn hcap).mono ?_
  rintro e w1 ⟨g, A1, c1, by1, rfl, O1⟩
  clear hr1 HW hn hcap hr
  go_wp2_with fail
  refine (few_any 9 _ g A1 c1 by1 0 O1.1 (by omega) (by omega) (by omega)).mono ?_
  rintro e w2 ⟨W, T, xs, B, k, p2, rfl, R2, hl2, S2, hp2, G2, f2⟩
  have O2 := O1.pick S2 G2
  have hsz : w.heap.size < w1.heap.size := by have := O1.lt; have := O1.2.1; omega
  clear S2 G2 O1
  have hB := O2.2.2
  obtain ⟨s0, s1, s2, g0, g1, g2⟩ := blk3 ((hB.block w.heap.size (by omega)).trans P0)
  have K := fun (v : World) (i : Nat) (u : Value) (R : Rd v B (xs.map .bool)) => R.grownBelow (set_grownR v ⟨w.heap.size, i, none⟩ u) (fun _ ad ha e => by have := f2 ad ha; have e' : ad.block = w.heap.size := (by simpa using e); omega)
  have R8 := K _ 2 (.slice B xs.length k) (K _ 1 (.int .i64 T) (K _ 0 (.int .i64 W) R2))
  have B8 := (((Z0.trans (hB.mono (show w.heap.size ≤ wa.heap.size by omega))).setCell (p := ⟨w.heap.size, 0, none⟩) (Nat.le_refl _) (.int .i64 W)).setCell (p := ⟨w.heap.size, 1, none⟩) (Nat.le_refl _) (.int .i64 T)).setCell (p := ⟨w.heap.size, 2, none⟩) (Nat.le_refl _) (.slice B xs.length k)
  clear K
  go_wp2
  refine bodyPost_ret (v := .agg #[.int .i64 W, .int .i64 T, .slice B xs.length k]) (by simp [results, Try.results10, go_sem, s0, s1, s2]) rfl ⟨W, T, xs, B, k, rfl, R8, hl2, B8⟩
end Go.Proofs.Ytnciemnlnijhfaa

/- Tilings are there exactly if all cells can be laid, plainly. -/
namespace Go.Proofs.Ytnciemnlnijhfaa
open Go.RowKit

/-- cells in pairs -/
def PM (W T : Int) (F : List Bool) : Prop := ∃ g : Nat → Nat, ∀ k, k < F.length → F.getD k false = true → g k < F.length ∧ F.getD (g k) false = true ∧ g (g k) = k ∧ ∃ way : Int, 1 ≤ way ∧ way ≤ 4 ∧ stepZ W T k way = (g k : Int)
theorem cnt_none {F : List Bool} (h : cnt F ≤ 0) (k : Nat) : F.getD k false = false := by
  rcases Nat.lt_or_ge k F.length with hk | hk
  · cases e : F[k] with
    | false => rw [List.getD_eq_getElem?_getD, List.getElem?_eq_getElem hk]; exact e
    | true =>
      have h1 := cnt_set_lt F k hk e
      have h2 := (cnt_le (F.set k false)).1
      omega
  · rw [List.getD_eq_getElem?_getD, List.getElem?_eq_none hk]; rfl
theorem first_none {F : List Bool} (h : firstB F = F.length) (k : Nat) : F.getD k false = false := by
  rcases Nat.lt_or_ge k F.length with hk | hk
  · rw [List.getD_eq_getElem?_getD, List.getElem?_eq_getElem hk]; exact firstB_f (by omega) hk
  · rw [List.getD_eq_getElem?_getD, List.getElem?_eq_none hk]; rfl
theorem getD2 {F : List Bool} {c s k : Nat} (hc : c < F.length) (hs : s < F.length) : ((F.set c false).set s false).getD k false = if k = s then false else if k = c then false else F.getD k false := by
  rw [getD_set _ false false s k (by simpa using hs), getD_set _ false false c k hc]
theorem getD_lt {F : List Bool} {k : Nat} (h : F.getD k false = true) : k < F.length := by
  rcases Nat.lt_or_ge k F.length with hk | hk
  · exact hk
  · rw [List.getD_eq_getElem?_getD, List.getElem?_eq_none hk] at h; cases h
theorem getD_el {F : List Bool} {k : Nat} (hk : k < F.length) : F.getD k false = F[k] := by rw [List.getD_eq_getElem?_getD, List.getElem?_eq_getElem hk]; rfl
theorem pos_pm {W T : Int} (h1 : 1 ≤ W) (h2 : W ≤ 6) (h3 : 1 ≤ T) (h4 : T ≤ 6) : ∀ (f : Nat) (F : List Bool), (F.length : Int) = W * T → cnt F ≤ f → 0 < barsN W T 2 f F → PM W T F
  | 0, F, _, hc, _ => ⟨id, fun k _ h => by rw [cnt_none (by omega)] at h; cases h⟩
  | f + 1, F, hl, hc, hp => by
    by_cases hF : firstB F = F.length
    · exact ⟨id, fun k _ h => by rw [first_none hF] at h; cases h⟩
    · have hlt : firstB F < F.length := by have := firstB_le F; omega
      have ht := firstB_t hlt
      rw [barsN, if_neg hF] at hp
      generalize firstB F = c at *
      have hnn : ∀ G, 0 ≤ barsN W T 2 f G := fun G => (barsN_bd W T 2 f G).1
      have hpart : ∀ d : Int, 0 < partB W T 2 (barsN W T 2 f) F c d → ∃ s : Nat, stepZ W T c d = (s : Int) ∧ F.getD s false = true ∧ 0 < barsN W T 2 f ((F.set c false).set s false) := fun d hd => by
        by_cases hs : stepZ W T c d < 0 ∨ F.getD (stepZ W T c d).toNat false = false
        · rw [part_f hlt ht hs] at hd; omega
        · have hs0 : 0 ≤ stepZ W T c d := by
            rcases Int.lt_or_le (stepZ W T c d) 0 with h | h
            · exact absurd (.inl h) hs
            · exact h
          obtain ⟨s, e⟩ := Int.eq_ofNat_of_zero_le hs0
          have hFs : F.getD s false = true := by
            cases e2 : F.getD s false with
            | true => rfl
            | false => exact absurd (.inr (by rw [e, Int.toNat_natCast]; exact e2)) hs
          rw [part_t hlt ht e hFs] at hd
          exact ⟨s, e, hFs, hd⟩
      have hex : ∃ d : Int, 1 ≤ d ∧ d ≤ 4 ∧ 0 < partB W T 2 (barsN W T 2 f) F c d := by
        have e : sumB W T 2 (barsN W T 2 f) F c 2 = 0 + partB W T 2 (barsN W T 2 f) F c (((0 : Nat) : Int) + 1) + partB W T 2 (barsN W T 2 f) F c (((1 : Nat) : Int) + 1) := rfl
        rw [e] at hp
        rcases Int.lt_or_le 0 (partB W T 2 (barsN W T 2 f) F c (((0 : Nat) : Int) + 1)) with h | h
        · exact ⟨_, by omega, by omega, h⟩
        · exact ⟨((1 : Nat) : Int) + 1, by omega, by omega, by omega⟩
      obtain ⟨d, d1, d4, hd⟩ := hex
      obtain ⟨s, e, hFs, hps⟩ := hpart d hd
      have hs := getD_lt hFs
      have hsc : s ≠ c := fun x => by
        have := step_neq (W := W) (T := T) (c := (c : Int)) (d := d) h1 (by omega)
        rw [e, x] at this; exact this rfl
      have hc2 : cnt ((F.set c false).set s false) ≤ f := by
        have a := cnt_set_lt F c hlt ht
        have b := cnt_set_le (F.set c false) s
        omega
      obtain ⟨g, hg⟩ := pos_pm h1 h2 h3 h4 f ((F.set c false).set s false) (by simpa using hl) hc2 hps
      have hr := step_rev (W := W) (T := T) (c := (c : Int)) (d := d) h1 h2 h3 h4 (by omega) (by omega) d1 d4 (by omega)
      rw [e] at hr
      have hb := back_bd d
      refine ⟨fun k => if k = c then s else if k = s then c else g k, fun k hk hFk => ?_⟩
      by_cases hkc : k = c
      · subst hkc
        simp only [if_true, if_neg hsc]
        exact ⟨hs, hFs, trivial, d, d1, d4, e⟩
      · by_cases hks : k = s
        · subst hks
          simp only [if_true, if_neg hsc]
          exact ⟨hlt, by rw [getD_el hlt]; exact ht, trivial, backZ d, hb.1, hb.2, hr⟩
        · obtain ⟨g1, g2, g3, g4⟩ := hg k (by simpa using hk) (by rw [getD2 hlt hs, if_neg hks, if_neg hkc]; exact hFk)
          rw [getD2 hlt hs] at g2
          have n1 : g k ≠ s := fun x => by rw [if_pos x] at g2; cases g2
          have n2 : g k ≠ c := fun x => by rw [if_neg n1, if_pos x] at g2; cases g2
          rw [if_neg n1, if_neg n2] at g2
          simp only [if_neg hkc, if_neg hks, if_neg n1, if_neg n2]
          exact ⟨by simpa using g1, g2, g3, g4⟩
theorem pm_pos {W T : Int} (h1 : 1 ≤ W) : ∀ (f : Nat) (F : List Bool), cnt F ≤ f → PM W T F → 0 < barsN W T 2 f F
  | 0, F, hc, _ => by show (0 : Int) < 1; omega
  | f + 1, F, hc, hpm => by
    by_cases hF : firstB F = F.length
    · rw [barsN, if_pos hF]; omega
    · have hlt : firstB F < F.length := by have := firstB_le F; omega
      have ht := firstB_t hlt
      have hfirst := fun k (hk : k < F.length) (h : k < firstB F) => firstB_f h hk
      rw [barsN, if_neg hF]
      generalize firstB F = c at *
      obtain ⟨g, hg⟩ := hpm
      obtain ⟨g1, g2, g3, way, w1, w2, hw⟩ := hg c hlt (by rw [getD_el hlt]; exact ht)
      have hsc : g c ≠ c := fun x => by
        have := step_neq (W := W) (T := T) (c := (c : Int)) (d := way) h1 (by omega)
        rw [hw, x] at this; exact this rfl
      have hgt : c < g c := by
        rcases Nat.lt_or_ge (g c) c with h | h
        · have := hfirst (g c) g1 h
          rw [getD_el g1, this] at g2; cases g2
        · omega
      have hw12 : way = 1 ∨ way = 2 := by
        rcases (show way = 1 ∨ way = 2 ∨ way = 3 ∨ way = 4 from by omega) with rfl | rfl | rfl | rfl
        · exact .inl rfl
        · exact .inr rfl
        · rw [step3] at hw; split at hw <;> omega
        · rw [step4] at hw; split at hw <;> omega
      have hc2 : cnt ((F.set c false).set (g c) false) ≤ f := by
        have a := cnt_set_lt F c hlt ht
        have b := cnt_set_le (F.set c false) (g c)
        omega
      have hrec := pm_pos h1 f ((F.set c false).set (g c) false) hc2 ⟨g, fun k hk hFk => by
        rw [getD2 hlt g1] at hFk
        have n1 : k ≠ g c := fun x => by rw [if_pos x] at hFk; cases hFk
        have n2 : k ≠ c := fun x => by rw [if_neg n1, if_pos x] at hFk; cases hFk
        rw [if_neg n1, if_neg n2] at hFk
        obtain ⟨a1, a2, a3, a4⟩ := hg k (by simpa using hk) hFk
        refine ⟨by simpa using a1, ?_, a3, a4⟩
        rw [getD2 hlt g1, if_neg (fun x => n2 (by rw [← a3, x, g3])), if_neg (fun x => n1 (by rw [← a3, x]))]
        exact a2⟩
      have hp := part_t (W := W) (T := T) (rec := barsN W T 2 f) hlt ht hw g2
      have hnn : ∀ d, 0 ≤ partB W T 2 (barsN W T 2 f) F c d := fun d => by
        unfold partB; split
        · exact (barsN_bd W T 2 f _).1
        · omega
      have e : sumB W T 2 (barsN W T 2 f) F c 2 = 0 + partB W T 2 (barsN W T 2 f) F c (((0 : Nat) : Int) + 1) + partB W T 2 (barsN W T 2 f) F c (((1 : Nat) : Int) + 1) := rfl
      rw [e]
      have n1 := hnn (((0 : Nat) : Int) + 1)
      have n2 := hnn (((1 : Nat) : Int) + 1)
      rcases hw12 with rfl | rfl
      · rw [← hp] at hrec
        have : partB W T 2 (barsN W T 2 f) F c (((0 : Nat) : Int) + 1) = partB W T 2 (barsN W T 2 f) F c 1 := rfl
        omega
      · rw [← hp] at hrec
        have : partB W T 2 (barsN W T 2 f) F c (((1 : Nat) : Int) + 1) = partB W T 2 (barsN W T 2 f) F c 2 := rfl
        omega
/-! ### Pairs and dominoes -/
def lightC (W : Int) (bs : List Bool) (n : Nat) : Nat := (List.range n).countP fun k => bs.getD k false && !darkB W k
theorem cnt_split (W : Int) (bs : List Bool) : cnt bs = ((darkNn W bs).length : Int) + lightC W bs bs.length := by
  have key : ∀ m, m ≤ bs.length → cnt (bs.take m) = (((List.range m).countP fun k => bs.getD k false && darkB W k : Nat) : Int) + ((List.range m).countP fun k => bs.getD k false && !darkB W k : Nat) := by
    intro m
    induction m with
    | zero => intro _; rfl
    | succ m ih =>
      intro hm
      have ih := ih (by omega)
      have hg : bs.getD m false = bs[m] := getD_el (by omega)
      rw [cnt_step bs m (by omega), ih, List.range_succ, List.countP_append, List.countP_append]
      simp only [List.countP_cons, List.countP_nil, hg]
      cases bs[m] <;> cases darkB W m <;> simp <;> omega
  have h := key bs.length (Nat.le_refl _)
  rw [List.take_length] at h
  rw [h]
  unfold lightC darkNn
  rw [← List.countP_eq_length_filter]
  have e : (List.range bs.length).countP (isCol W bs true) = (List.range bs.length).countP fun k => bs.getD k false && darkB W k := by
    refine List.countP_congr (fun k _ => ?_)
    unfold isCol
    cases bs.getD k false <;> cases darkB W k <;> simp
  rw [e]
theorem pm_colour {W T : Int} {F : List Bool} {k g : Nat} (hf : Fld W T F) {way : Int} (hw : stepZ W T k way = (g : Int)) : darkB W g = !darkB W k := by
  have h := dark_step (W := W) (T := T) (c := (k : Int)) way hf.w1 hf.w6 (by omega)
  rw [hw] at h
  exact h
theorem laid_le_dark (W T : Int) (bs : List Bool) : laidN W T bs ≤ (darkNn W bs).length := by
  obtain ⟨M, hM, hs⟩ := laid_max W T bs
  rw [← hs]
  refine Nat.le_trans ?_ (inj_count bs.length hM.1.inj (darkNn W bs))
  unfold szM
  refine List.countP_mono_left (fun l _ hl => ?_)
  obtain ⟨d, hd⟩ := Option.isSome_iff_exists.1 hl
  exact List.any_eq_true.2 ⟨d, (hM.1.edge l d hd).2.1, by simp [hd]⟩
theorem mat_light {W T : Int} {bs : List Bool} (hf : Fld W T bs) {M : Nat → Option Nat} (h : IsM (adjL W T bs) bs.length (darkNn W bs) M) {l d : Nat} (e : M l = some d) : bs.getD l false = true ∧ darkB W l = false := by
  obtain ⟨-, e2, way, w1, w2, hs, hb⟩ := h.edge l d e
  refine ⟨hb, ?_⟩
  rw [pm_colour hf hs, (darkNn_mem.1 e2).2.2]; rfl
theorem laid_le_light {W T : Int} {bs : List Bool} (hf : Fld W T bs) : laidN W T bs ≤ lightC W bs bs.length := by
  obtain ⟨M, hM, hs⟩ := laid_max W T bs
  have hM' := hM.1.congr (adj' := adjL W T bs) (fun d hd l => nb_adj hf (darkNn_mem.1 hd).1 l)
  rw [← hs]
  unfold szM lightC
  refine List.countP_mono_left (fun l _ hl => ?_)
  obtain ⟨d, hd⟩ := Option.isSome_iff_exists.1 hl
  obtain ⟨a, b⟩ := mat_light hf hM' hd
  rw [a, b]; rfl
theorem pm_laid {W T : Int} {bs : List Bool} (hf : Fld W T bs) (h : PM W T bs) : (2 : Int) * laidN W T bs = cnt bs := by
  obtain ⟨g, hg⟩ := h
  have hM : IsM (adjL W T bs) bs.length (darkNn W bs) (fun l => if bs.getD l false = true ∧ darkB W l = false then some (g l) else none) := by
    have key : ∀ l d, (if bs.getD l false = true ∧ darkB W l = false then some (g l) else none) = some d → bs.getD l false = true ∧ darkB W l = false ∧ g l = d := fun l d e => by
      by_cases hc : bs.getD l false = true ∧ darkB W l = false
      · rw [if_pos hc] at e; injection e with e; exact ⟨hc.1, hc.2, e⟩
      · rw [if_neg hc] at e; cases e
    refine ⟨fun l d e => ?_, fun l l' d e e' => ?_⟩
    · obtain ⟨a, b, rfl⟩ := key l d e
      have hl := getD_lt a
      obtain ⟨g1, g2, g3, way, w1, w2, hw⟩ := hg l hl a
      have hn := hf.n
      have hr := step_rev (W := W) (T := T) (c := (l : Int)) (d := way) hf.w1 hf.w6 hf.t1 hf.t6 (by omega) (by omega) w1 w2 (by omega)
      rw [hw] at hr
      have hb := back_bd way
      exact ⟨hl, darkNn_mem.2 ⟨g1, g2, by rw [pm_colour hf hw, b]; rfl⟩, backZ way, hb.1, hb.2, hr, a⟩
    · obtain ⟨a, -, e1⟩ := key l d e
      obtain ⟨a', -, e2⟩ := key l' d e'
      have h1 := (hg l (getD_lt a) a).2.2.1
      have h2 := (hg l' (getD_lt a') a').2.2.1
      rw [e1] at h1; rw [e2] at h2; omega
  have hsz : szM (fun l => if bs.getD l false = true ∧ darkB W l = false then some (g l) else none) bs.length = lightC W bs bs.length := by
    unfold szM lightC
    refine List.countP_congr (fun l _ => ?_)
    have key : ∀ u v : Bool, ((if u = true ∧ v = false then some (g l) else none).isSome = true ↔ (u && !v) = true) := by
      intro u v; cases u <;> cases v <;> simp
    exact key _ _
  have hle : lightC W bs bs.length ≤ laidN W T bs := by
    obtain ⟨M, hMx, hs⟩ := laid_max W T bs
    rw [← hsz, ← hs]
    exact hMx.2 _ (hM.congr (fun d hd l => (nb_adj hf (darkNn_mem.1 hd).1 l).symm))
  have hdl : (darkNn W bs).length ≤ lightC W bs bs.length := by
    have hinj : ∀ l l' d, (if bs.getD l false = true ∧ darkB W l = true then some (g l) else none) = some d → (if bs.getD l' false = true ∧ darkB W l' = true then some (g l') else none) = some d → l = l' := fun l l' d e e' => by
      by_cases hc : bs.getD l false = true ∧ darkB W l = true
      · by_cases hc' : bs.getD l' false = true ∧ darkB W l' = true
        · rw [if_pos hc] at e; rw [if_pos hc'] at e'
          injection e with e; injection e' with e'
          have h1 := (hg l (getD_lt hc.1) hc.1).2.2.1
          have h2 := (hg l' (getD_lt hc'.1) hc'.1).2.2.1
          rw [e] at h1; rw [e'] at h2; omega
        · rw [if_neg hc'] at e'; cases e'
      · rw [if_neg hc] at e; cases e
    have h1 := inj_count (M := fun l => if bs.getD l false = true ∧ darkB W l = true then some (g l) else none) bs.length hinj ((List.range bs.length).filter fun k => bs.getD k false && !darkB W k)
    rw [← List.countP_eq_length_filter] at h1
    refine Nat.le_trans ?_ h1
    unfold darkNn
    rw [← List.countP_eq_length_filter]
    refine List.countP_mono_left (fun d hd hc => ?_)
    unfold isCol at hc
    have hc' : bs.getD d false = true ∧ darkB W d = true := by
      rw [Bool.and_eq_true] at hc
      exact ⟨hc.1, by simpa using hc.2⟩
    obtain ⟨g1, g2, g3, way, w1, w2, hw⟩ := hg d (getD_lt hc'.1) hc'.1
    refine List.any_eq_true.2 ⟨g d, List.mem_filter.2 ⟨List.mem_range.2 g1, by rw [g2, pm_colour hf hw, hc'.2]; rfl⟩, ?_⟩
    rw [if_pos hc']; simp
  have h1 := laid_le_dark W T bs
  have h2 := cnt_split W bs
  omega
theorem laid_pm {W T : Int} {bs : List Bool} (hf : Fld W T bs) (h : (2 : Int) * laidN W T bs = cnt bs) : PM W T bs := by
  have h1 := laid_le_dark W T bs
  have h2 := cnt_split W bs
  have h3 := laid_le_light hf
  obtain ⟨M, hMx, hs⟩ := laid_max W T bs
  have hM := hMx.1.congr (adj' := adjL W T bs) (fun d hd l => nb_adj hf (darkNn_mem.1 hd).1 l)
  have hn := hf.n
  -- every light cell has an owner
  have hlight : ∀ l, l < bs.length → bs.getD l false = true → darkB W l = false → ∃ d, M l = some d := by
    have key : ∀ m, m ≤ bs.length → (List.range m).countP (fun l => (M l).isSome) ≤ (List.range m).countP (fun k => bs.getD k false && !darkB W k) ∧ ((List.range m).countP (fun l => (M l).isSome) = (List.range m).countP (fun k => bs.getD k false && !darkB W k) → ∀ l, l < m → bs.getD l false = true → darkB W l = false → ∃ d, M l = some d) := by
      intro m
      induction m with
      | zero => intro _; exact ⟨by simp, fun _ l hl => by omega⟩
      | succ m ih =>
        intro hm
        obtain ⟨i1, i2⟩ := ih (by omega)
        rw [List.range_succ, List.countP_append, List.countP_append]
        simp only [List.countP_cons, List.countP_nil]
        generalize (List.range m).countP (fun l => (M l).isSome) = ca at *
        generalize (List.range m).countP (fun k => bs.getD k false && !darkB W k) = cb at *
        cases hMm : M m with
        | none =>
          cases hb : (bs.getD m false && !darkB W m) with
          | false =>
            refine ⟨by simp; exact i1, fun e l hl a b => ?_⟩
            simp at e
            rcases Nat.lt_or_ge l m with h4 | h4
            · exact i2 e l h4 a b
            · obtain rfl : l = m := by omega
              rw [a, b] at hb; cases hb
          | true => exact ⟨by simp; omega, fun e => by simp at e; omega⟩
        | some d =>
          obtain ⟨a', b'⟩ := mat_light hf hM hMm
          rw [a', b']
          refine ⟨by simp; exact i1, fun e l hl a b => ?_⟩
          simp at e
          rcases Nat.lt_or_ge l m with h4 | h4
          · exact i2 e l h4 a b
          · obtain rfl : l = m := by omega
            exact ⟨d, hMm⟩
    obtain ⟨k1, k2⟩ := key bs.length (Nat.le_refl _)
    exact k2 (by
      have e : (List.range bs.length).countP (fun l => (M l).isSome) = laidN W T bs := hs
      have e2 : (List.range bs.length).countP (fun k => bs.getD k false && !darkB W k) = lightC W bs bs.length := rfl
      omega)
  -- every dark cell owns one
  have hdark : ∀ d, d ∈ darkNn W bs → ∃ l, M l = some d := fun d hd => by
    by_cases hex : ∃ l, M l = some d
    · exact hex
    · exfalso
      have h5 := inj_count bs.length hM.inj ((darkNn W bs).erase d)
      have h6 : szM M bs.length ≤ ((List.range bs.length).countP fun l => ((darkNn W bs).erase d).any fun d => M l == some d) := by
        unfold szM
        refine List.countP_mono_left (fun l _ hl => ?_)
        obtain ⟨d', hd'⟩ := Option.isSome_iff_exists.1 hl
        have hne : d' ≠ d := fun x => hex ⟨l, by rw [hd', x]⟩
        exact List.any_eq_true.2 ⟨d', (List.mem_erase_of_ne hne).2 (hM.edge l d' hd').2.1, by simp [hd']⟩
      rw [List.length_erase_of_mem hd] at h5
      have h7 := List.length_pos_of_mem hd
      omega
  have hch : ∀ k, ∃ j, k < bs.length → bs.getD k false = true → (darkB W k = false → M k = some j) ∧ (darkB W k = true → M j = some k) := fun k => by
    by_cases hk : k < bs.length ∧ bs.getD k false = true
    · cases hc : darkB W k with
      | false =>
        obtain ⟨d, hd⟩ := hlight k hk.1 hk.2 hc
        exact ⟨d, fun _ _ => ⟨fun _ => hd, (fun x => by cases x)⟩⟩
      | true =>
        obtain ⟨l, hl⟩ := hdark k (darkNn_mem.2 ⟨hk.1, hk.2, hc⟩)
        exact ⟨l, fun _ _ => ⟨(fun x => by cases x), fun _ => hl⟩⟩
    · exact ⟨0, fun a b => absurd ⟨a, b⟩ hk⟩
  obtain ⟨g, hg⟩ := Classical.axiomOfChoice hch
  refine ⟨g, fun k hk hFk => ?_⟩
  obtain ⟨p1, p2⟩ := hg k hk hFk
  cases hc : darkB W k with
  | false =>
    have e := p1 hc
    obtain ⟨-, e2, way, w1, w2, hs2, hb⟩ := hM.edge k (g k) e
    obtain ⟨d1, d2, d3⟩ := darkNn_mem.1 e2
    have hr := step_rev (W := W) (T := T) (c := ((g k : Nat) : Int)) (d := way) hf.w1 hf.w6 hf.t1 hf.t6 (by omega) (by omega) w1 w2 (by omega)
    rw [hs2] at hr
    have hbb := back_bd way
    have q := (hg (g k) d1 d2).2 d3
    exact ⟨d1, d2, hM.inj _ _ _ q e, backZ way, hbb.1, hbb.2, hr⟩
  | true =>
    have e := p2 hc
    obtain ⟨e1, e2, way, w1, w2, hs2, hb⟩ := hM.edge (g k) k e
    obtain ⟨a, b⟩ := mat_light hf hM e
    have q := (hg (g k) e1 a).1 b
    rw [e] at q
    injection q with q
    exact ⟨e1, a, q.symm, way, w1, w2, hs2⟩
/-- there is a tiling exactly if all cells can be laid -/
theorem til_laid {W T : Int} {bs : List Bool} (hv : validB W T bs = true) : 0 < tilN W T bs ↔ (2 : Int) * laidN W T bs = cnt bs := by
  obtain ⟨h1, h2, h3, h4, h5, h6⟩ := valid_len hv
  have hf : Fld W T bs := ⟨h1, h2, h3, h4, h6⟩
  have hc : cnt bs ≤ 24 := (validB_iff.1 hv).2.2.2
  constructor
  · intro h; exact pm_laid hf (pos_pm h1 h2 h3 h4 24 bs h6 hc h)
  · intro h; exact pm_pos h1 24 bs hc (laid_pm hf h)
end Go.Proofs.Ytnciemnlnijhfaa

/- Dominoes in a region as a list of pairs, plainly: how many can be laid; one cell less. -/
namespace Go.Proofs.Ytnciemnlnijhfaa
open Go.RowKit

/-- two cells of a region, side by side -/
def Pr (W T : Int) (bs : List Bool) (p : Nat × Nat) : Prop := p.1 < bs.length ∧ p.2 < bs.length ∧ bs.getD p.1 false = true ∧ bs.getD p.2 false = true ∧ ∃ way : Int, 1 ≤ way ∧ way ≤ 4 ∧ stepZ W T p.1 way = (p.2 : Int)
def flatP (L : List (Nat × Nat)) : List Nat := L.flatMap fun p => [p.1, p.2]
theorem flatP_cons (p : Nat × Nat) (L : List (Nat × Nat)) : flatP (p :: L) = p.1 :: p.2 :: flatP L := by unfold flatP; simp
/-- dominoes that lie apart -/
def Doms (W T : Int) (bs : List Bool) (L : List (Nat × Nat)) : Prop := (∀ p ∈ L, Pr W T bs p) ∧ (flatP L).Nodup
theorem Pr.swap {W T : Int} {bs : List Bool} {a b : Nat} (hf : Fld W T bs) (h : Pr W T bs (a, b)) : Pr W T bs (b, a) := by
  obtain ⟨h1, h2, h3, h4, way, w1, w2, hs⟩ := h
  have hn := hf.n
  have hr := step_rev (W := W) (T := T) (c := (a : Int)) (d := way) hf.w1 hf.w6 hf.t1 hf.t6 (by omega) (by simp only at h1; omega) w1 w2 (by simp only at hs; omega)
  have hbb := back_bd way
  simp only at hs h1 h2 h3 h4
  rw [hs] at hr
  exact ⟨h2, h1, h4, h3, backZ way, hbb.1, hbb.2, hr⟩
theorem Pr.dark {W T : Int} {bs : List Bool} {a b : Nat} (hf : Fld W T bs) (h : Pr W T bs (a, b)) : darkB W b = !darkB W a := by
  obtain ⟨h1, h2, h3, h4, way, w1, w2, hs⟩ := h
  simp only at hs
  have := dark_step (W := W) (T := T) (c := (a : Int)) way hf.w1 hf.w6 (by omega)
  rw [hs] at this
  exact this
theorem szM_put {M : Nat → Option Nat} {l0 : Nat} (d : Nat) (h : M l0 = none) (n : Nat) : szM (fun l => if l = l0 then some d else M l) n = szM M n + (if l0 < n then 1 else 0) := by
  induction n with
  | zero => simp [szM]
  | succ n ih =>
    rw [szM_succ, szM_succ, ih]
    rcases Nat.decEq n l0 with hn | hn
    · rw [if_neg hn]
      have e : (if l0 < n + 1 then 1 else 0) = (if l0 < n then 1 else 0) := by split <;> split <;> omega
      rw [e]; omega
    · subst hn
      have e1 : (if n < n then 1 else 0) = 0 := if_neg (by omega)
      have e2 : (if n < n + 1 then 1 else 0) = 1 := if_pos (by omega)
      rw [if_pos rfl, h, e1, e2]; simp
/-- dominoes make a matching -/
theorem doms_mat {W T : Int} {bs : List Bool} (hf : Fld W T bs) : ∀ L : List (Nat × Nat), Doms W T bs L → ∃ M, IsM (adjL W T bs) bs.length (darkNn W bs) M ∧ szM M bs.length = L.length ∧ ∀ l d, M l = some d → l ∈ flatP L ∧ d ∈ flatP L
  | [], _ => ⟨fun _ => none, (IsMax.nil (adjL W T bs) bs.length).1.mono (by simp), szM_zero _, fun l d e => by cases e⟩
  | (a, b) :: L, h => by
    obtain ⟨h1, h2⟩ := h
    have h2' := h2
    rw [flatP_cons, List.nodup_cons, List.nodup_cons] at h2
    obtain ⟨n1, n2, n3⟩ := h2
    obtain ⟨M, m1, m2, m3⟩ := doms_mat hf L ⟨fun p hp => h1 p (List.mem_cons_of_mem _ hp), n3⟩
    have hp := h1 (a, b) (List.mem_cons_self ..)
    simp only [List.mem_cons, not_or] at n1
    -- the light one and the dark one
    have key : ∀ l d : Nat, Pr W T bs (d, l) → darkB W d = true → l ∉ flatP L → d ∉ flatP L → (∀ x, x ∈ flatP L → x ∈ flatP ((a, b) :: L)) → l ∈ flatP ((a, b) :: L) → d ∈ flatP ((a, b) :: L) →
        ∃ M, IsM (adjL W T bs) bs.length (darkNn W bs) M ∧ szM M bs.length = ((a, b) :: L).length ∧ ∀ l d, M l = some d → l ∈ flatP ((a, b) :: L) ∧ d ∈ flatP ((a, b) :: L) := by
      intro l0 d0 hpr hdk hl0 hd0 hsub hl1 hd1
      obtain ⟨p1, p2, p3, p4, way, w1, w2, hs⟩ := hpr
      have hno : M l0 = none := by
        cases e : M l0 with
        | none => rfl
        | some d => exact absurd (m3 l0 d e).1 hl0
      refine ⟨fun l => if l = l0 then some d0 else M l, ⟨fun l d e => ?_, fun l l' d e e' => ?_⟩, ?_, fun l d e => ?_⟩
      · by_cases hl : l = l0
        · simp only [if_pos hl, Option.some.injEq] at e
          subst hl e
          exact ⟨p2, darkNn_mem.2 ⟨p1, p3, hdk⟩, way, w1, w2, hs, p4⟩
        · simp only [if_neg hl] at e
          exact m1.edge l d e
      · by_cases hl : l = l0
        · by_cases hl' : l' = l0
          · rw [hl, hl']
          · simp only [if_pos hl, Option.some.injEq] at e
            simp only [if_neg hl'] at e'
            subst e
            exact absurd (m3 l' _ e').2 hd0
        · by_cases hl' : l' = l0
          · simp only [if_pos hl', Option.some.injEq] at e'
            simp only [if_neg hl] at e
            subst e'
            exact absurd (m3 l _ e).2 hd0
          · simp only [if_neg hl] at e
            simp only [if_neg hl'] at e'
            exact m1.inj l l' d e e'
      · rw [szM_put d0 hno, m2, if_pos p2]; rfl
      · by_cases hl : l = l0
        · simp only [if_pos hl, Option.some.injEq] at e
          subst hl e
          exact ⟨hl1, hd1⟩
        · simp only [if_neg hl] at e
          exact ⟨hsub _ (m3 l d e).1, hsub _ (m3 l d e).2⟩
    have hsub : ∀ x, x ∈ flatP L → x ∈ flatP ((a, b) :: L) := fun x hx => by rw [flatP_cons]; simp [hx]
    have ha : a ∈ flatP ((a, b) :: L) := by rw [flatP_cons]; simp
    have hb : b ∈ flatP ((a, b) :: L) := by rw [flatP_cons]; simp
    cases hd : darkB W a with
    | true => exact key b a hp hd n2 n1.2 hsub hb ha
    | false => exact key a b (hp.swap hf) (by rw [hp.dark hf, hd]; rfl) n1.2 n2 hsub ha hb
theorem doms_le {W T : Int} {bs : List Bool} (hf : Fld W T bs) {L : List (Nat × Nat)} (h : Doms W T bs L) : L.length ≤ laidN W T bs := by
  obtain ⟨M, m1, m2, -⟩ := doms_mat hf L h
  obtain ⟨M', a, b⟩ := laid_max W T bs
  rw [← m2, ← b]
  exact a.2 M (m1.congr (fun d hd l => (nb_adj hf (darkNn_mem.1 hd).1 l).symm))
/-- .. and a matching makes dominoes -/
theorem mat_doms {W T : Int} {bs : List Bool} (hf : Fld W T bs) {M : Nat → Option Nat} (hM : IsM (adjL W T bs) bs.length (darkNn W bs) M) : ∀ n, n ≤ bs.length → ∃ L, Doms W T bs L ∧ L.length = szM M n ∧ ∀ x ∈ flatP L, ∃ l, l < n ∧ ((M l).isSome = true ∧ x = l ∨ M l = some x)
  | 0, _ => ⟨[], ⟨by simp, by unfold flatP; simp⟩, by simp [szM], fun x hx => by unfold flatP at hx; simp at hx⟩
  | n + 1, hn => by
    obtain ⟨L, d1, d2, d3⟩ := mat_doms hf hM n (by omega)
    cases e : M n with
    | none => exact ⟨L, d1, by rw [szM_succ, e, d2]; simp, fun x hx => by obtain ⟨l, h1, h2⟩ := d3 x hx; exact ⟨l, by omega, h2⟩⟩
    | some d =>
      obtain ⟨e1, e2, way, w1, w2, hs, hb⟩ := hM.edge n d e
      obtain ⟨f1, f2, f3⟩ := darkNn_mem.1 e2
      have hl := mat_light hf hM e
      have hnl : n ∉ flatP L := fun hx => by
        obtain ⟨l, h1, h2 | h2⟩ := d3 n hx
        · omega
        · have := (darkNn_mem.1 (hM.edge l n h2).2.1).2.2
          rw [hl.2] at this; cases this
      have hnd : d ∉ flatP L := fun hx => by
        obtain ⟨l, h1, h2 | h2⟩ := d3 d hx
        · obtain ⟨d', hd'⟩ := Option.isSome_iff_exists.1 h2.1
          have := (mat_light hf hM hd').2
          rw [← h2.2, f3] at this; cases this
        · have := hM.inj l n d h2 e
          omega
      have hne : d ≠ n := fun x => by subst x; rw [hl.2] at f3; cases f3
      refine ⟨(d, n) :: L, ⟨fun p hp => ?_, ?_⟩, ?_, fun x hx => ?_⟩
      · rcases List.mem_cons.1 hp with rfl | hp
        · exact ⟨f1, e1, f2, hb, way, w1, w2, hs⟩
        · exact d1.1 p hp
      · rw [flatP_cons, List.nodup_cons, List.nodup_cons]
        exact ⟨by simp only [List.mem_cons, not_or]; exact ⟨hne, hnd⟩, hnl, d1.2⟩
      · rw [szM_succ, e, List.length_cons, d2]; simp
      · rw [flatP_cons] at hx
        simp only [List.mem_cons] at hx
        rcases hx with rfl | rfl | hx
        · exact ⟨n, by omega, .inr e⟩
        · exact ⟨x, by omega, .inl ⟨by rw [e]; rfl, rfl⟩⟩
        · obtain ⟨l, h1, h2⟩ := d3 x hx; exact ⟨l, by omega, h2⟩
theorem doms_ex {W T : Int} {bs : List Bool} (hf : Fld W T bs) : ∃ L, Doms W T bs L ∧ L.length = laidN W T bs := by
  obtain ⟨M, a, b⟩ := laid_max W T bs
  have hM := a.1.congr (adj' := adjL W T bs) (fun d hd l => nb_adj hf (darkNn_mem.1 hd).1 l)
  obtain ⟨L, h1, h2, -⟩ := mat_doms hf hM bs.length (Nat.le_refl _)
  exact ⟨L, h1, by rw [h2, b]⟩
theorem rem_len (k : Nat) : ∀ L : List (Nat × Nat), L.length ≤ (L.filter fun p => !(p.1 == k) && !(p.2 == k)).length + (flatP L).count k
  | [] => by simp
  | p :: L => by
    have := rem_len k L
    rw [flatP_cons, List.filter_cons, List.count_cons, List.count_cons]
    by_cases h1 : p.1 = k
    · simp [h1]; split <;> omega
    · by_cases h2 : p.2 = k
      · simp [h1, h2]; omega
      · simp [h1, h2]; omega
theorem flatP_filter {q : Nat × Nat → Bool} : ∀ L : List (Nat × Nat), ((flatP (L.filter q)).Sublist (flatP L))
  | [] => by simp
  | p :: L => by
    have := flatP_filter (q := q) L
    rw [List.filter_cons, flatP_cons]
    split
    · rw [flatP_cons]; exact (this.cons_cons _).cons_cons _
    · exact (this.cons _).cons _
theorem getD_set_ne {bs : List Bool} {k j : Nat} {v : Bool} (h : j ≠ k) : (bs.set k v).getD j false = bs.getD j false := by
  rw [List.getD_eq_getElem?_getD, List.getD_eq_getElem?_getD, List.getElem?_set_ne (by omega)]
theorem getD_off {bs : List Bool} {k j : Nat} (h : (bs.set k false).getD j false = true) : j ≠ k ∧ bs.getD j false = true := by
  have hne : j ≠ k := fun e => by
    subst e
    rw [List.getD_eq_getElem?_getD] at h
    rcases Nat.lt_or_ge j bs.length with hj | hj
    · rw [List.getElem?_set_self hj] at h; cases h
    · rw [List.getElem?_eq_none (by rw [List.length_set]; omega)] at h; cases h
  exact ⟨hne, by rwa [getD_set_ne hne] at h⟩
/-- one cell less: as many dominoes, or one less -/
theorem laid_off {W T : Int} {bs : List Bool} (hf : Fld W T bs) (k : Nat) : laidN W T (bs.set k false) ≤ laidN W T bs ∧ laidN W T bs ≤ laidN W T (bs.set k false) + 1 := by
  have hf' : Fld W T (bs.set k false) := ⟨hf.w1, hf.w6, hf.t1, hf.t6, by rw [List.length_set]; exact hf.n⟩
  constructor
  · obtain ⟨L, h1, h2⟩ := doms_ex hf'
    rw [← h2]
    refine doms_le hf ⟨fun p hp => ?_, h1.2⟩
    obtain ⟨a, b, c, d, e⟩ := h1.1 p hp
    rw [List.length_set] at a b
    exact ⟨a, b, (getD_off c).2, (getD_off d).2, e⟩
  · obtain ⟨L, h1, h2⟩ := doms_ex hf
    have h3 := rem_len k L
    have h4 : (flatP L).count k ≤ 1 := List.nodup_iff_count.1 h1.2 k
    have h5 : (L.filter fun p => !(p.1 == k) && !(p.2 == k)).length ≤ laidN W T (bs.set k false) := by
      refine doms_le hf' ⟨fun p hp => ?_, (flatP_filter L).nodup h1.2⟩
      rw [List.mem_filter] at hp
      obtain ⟨a, b, c, d, e⟩ := h1.1 p hp.1
      have hq := hp.2
      simp only [Bool.and_eq_true, Bool.not_eq_true', beq_eq_false_iff_ne, ne_eq] at hq
      exact ⟨by rw [List.length_set]; exact a, by rw [List.length_set]; exact b, by rw [getD_set_ne hq.1]; exact c, by rw [getD_set_ne hq.2]; exact d, e⟩
    omega
end Go.Proofs.Ytnciemnlnijhfaa

/- A turned region lays as many dominoes, plainly. -/
namespace Go.Proofs.Ytnciemnlnijhfaa
open Go.RowKit

theorem divmod {T x r : Int} (h0 : 0 ≤ r) (h1 : r < T) : (x * T + r) % T = r ∧ (x * T + r) / T = x := by
  have hT : T ≠ 0 := by omega
  constructor
  · rw [Int.add_comm, Int.add_mul_emod_self_right]; exact Int.emod_eq_of_lt h0 h1
  · rw [Int.add_comm, Int.add_mul_ediv_right _ _ hT, Int.ediv_eq_zero_of_lt h0 h1]; omega
theorem flatP_map (f : Nat → Nat) : ∀ L : List (Nat × Nat), flatP (L.map fun p => (f p.1, f p.2)) = (flatP L).map f
  | [] => rfl
  | p :: L => by rw [List.map_cons, flatP_cons, flatP_cons, flatP_map f L]; rfl
theorem nodup_on {f : Nat → Nat} : ∀ {l : List Nat}, l.Nodup → (∀ i ∈ l, ∀ j ∈ l, f i = f j → i = j) → (l.map f).Nodup
  | [], _, _ => by simp
  | a :: l, h, hf => by
    rw [List.nodup_cons] at h
    rw [List.map_cons, List.nodup_cons]
    refine ⟨fun hm => ?_, nodup_on h.2 (fun i hi j hj => hf i (List.mem_cons_of_mem _ hi) j (List.mem_cons_of_mem _ hj))⟩
    obtain ⟨b, hb, e⟩ := List.mem_map.1 hm
    have := hf b (List.mem_cons_of_mem _ hb) a (List.mem_cons_self ..) e
    subst this
    exact h.1 hb
theorem flatP_lt {W T : Int} {bs : List Bool} {L : List (Nat × Nat)} (h : ∀ p ∈ L, Pr W T bs p) : ∀ x ∈ flatP L, x < bs.length := fun x hx => by
  unfold flatP at hx
  obtain ⟨p, hp, h2⟩ := List.mem_flatMap.1 hx
  obtain ⟨a, b, -⟩ := h p hp
  simp only [List.mem_cons, List.not_mem_nil, or_false] at h2
  rcases h2 with rfl | rfl
  · exact a
  · exact b
/-- a map of the cells that keeps neighbours keeps dominoes -/
theorem laid_map {W T W' T' : Int} {bs bs' : List Bool} (f : Nat → Nat) (hf : Fld W T bs) (hf' : Fld W' T' bs')
    (h1 : ∀ k, k < bs.length → f k < bs'.length ∧ bs'.getD (f k) false = bs.getD k false)
    (h2 : ∀ i j, i < bs.length → j < bs.length → f i = f j → i = j)
    (h3 : ∀ (k j : Nat) (way : Int), k < bs.length → j < bs.length → 1 ≤ way → way ≤ 4 → stepZ W T k way = (j : Int) → ∃ way' : Int, 1 ≤ way' ∧ way' ≤ 4 ∧ stepZ W' T' (f k) way' = (f j : Int)) :
    laidN W T bs ≤ laidN W' T' bs' := by
  obtain ⟨L, d1, d2⟩ := doms_ex hf
  rw [← d2, ← List.length_map (fun p : Nat × Nat => (f p.1, f p.2))]
  refine doms_le hf' ⟨fun p hp => ?_, ?_⟩
  · obtain ⟨q, hq, rfl⟩ := List.mem_map.1 hp
    obtain ⟨a, b, c, d, way, w1, w2, hs⟩ := d1.1 q hq
    exact ⟨(h1 _ a).1, (h1 _ b).1, (h1 _ a).2.trans c, (h1 _ b).2.trans d, h3 _ _ way a b w1 w2 hs⟩
  · rw [flatP_map]
    exact nodup_on d1.2 (fun i hi j hj => h2 i j (flatP_lt d1.1 i hi) (flatP_lt d1.1 j hj))

/-- where a cell goes when the region is turned, and back -/
def tauZ (W T c : Int) : Int := c % W * T + (T - 1 - c / W)
def iotaZ (W T c : Int) : Int := (T - 1 - c % T) * W + c / T
theorem tau_xy {W T X Y : Int} (x0 : 0 ≤ X) (x1 : X ≤ W - 1) : tauZ W T (Y * W + X) = X * T + (T - 1 - Y) := by
  obtain ⟨a, b⟩ := divmod (T := W) (x := Y) x0 (by omega)
  unfold tauZ; rw [a, b]
theorem iota_xy {W T X Y : Int} (x0 : 0 ≤ X) (x1 : X ≤ T - 1) : iotaZ W T (Y * T + X) = (T - 1 - X) * W + Y := by
  obtain ⟨a, b⟩ := divmod (T := T) (x := Y) x0 (by omega)
  unfold iotaZ; rw [a, b]
theorem step_xy {W T X Y : Int} (d : Int) (x0 : 0 ≤ X) (x1 : X ≤ W - 1) : stepZ W T (Y * W + X) d = if d = 1 then (if X < W - 1 then Y * W + (X + 1) else -1) else if d = 2 then (if Y < T - 1 then (Y + 1) * W + X else -1)
  else if d = 3 then (if 0 < X then Y * W + (X - 1) else -1) else if d = 4 then (if 0 < Y then (Y - 1) * W + X else -1) else -1 := by
  obtain ⟨a, b⟩ := divmod (T := W) (x := Y) x0 (by omega)
  unfold stepZ; rw [a, b, show Y * W + X + 1 = Y * W + (X + 1) by omega, show Y * W + X - 1 = Y * W + (X - 1) by omega, Int.add_mul, Int.sub_mul, Int.one_mul, show Y * W + X + W = Y * W + W + X by omega, show Y * W + X - W = Y * W - W + X by omega]
theorem tau_step {W T c : Int} (h1 : 1 ≤ W) (h2 : W ≤ 6) (h3 : 1 ≤ T) (h4 : T ≤ 6) (c0 : 0 ≤ c) (c1 : c < W * T) {way : Int} (w1 : 1 ≤ way) (w2 : way ≤ 4) (h : 0 ≤ stepZ W T c way) :
    ∃ way' : Int, 1 ≤ way' ∧ way' ≤ 4 ∧ stepZ T W (tauZ W T c) way' = tauZ W T (stepZ W T c way) := by
  obtain ⟨X, Y, -, -, x0, x1, y0, y1, rfl, -⟩ := cell_xy h1 h2 h3 h4 c0 c1
  rw [step_xy way x0 x1] at h ⊢
  rw [tau_xy x0 x1]
  have q0 : 0 ≤ T - 1 - Y := by omega
  have q1 : T - 1 - Y ≤ T - 1 := by omega
  rcases (show way = 1 ∨ way = 2 ∨ way = 3 ∨ way = 4 from by omega) with rfl | rfl | rfl | rfl
  · simp only [if_true] at h ⊢
    by_cases hc : X < W - 1
    · rw [if_pos hc, tau_xy (by omega) (by omega)]
      exact ⟨2, by omega, by omega, by rw [step_xy 2 q0 q1]; simp [hc]⟩
    · rw [if_neg hc] at h; omega
  · simp only [show ¬ ((2 : Int) = 1) by decide, if_false, if_true] at h ⊢
    by_cases hc : Y < T - 1
    · rw [if_pos hc, tau_xy (by omega) (by omega)]
      exact ⟨3, by omega, by omega, by rw [step_xy 3 q0 q1]; simp only [show ¬ ((3 : Int) = 1) by decide, show ¬ ((3 : Int) = 2) by decide, if_false, if_true]; rw [if_pos (by omega)]; congr 1; omega⟩
    · rw [if_neg hc] at h; omega
  · simp only [show ¬ ((3 : Int) = 1) by decide, show ¬ ((3 : Int) = 2) by decide, if_false, if_true] at h ⊢
    by_cases hc : 0 < X
    · rw [if_pos hc, tau_xy (by omega) (by omega)]
      exact ⟨4, by omega, by omega, by rw [step_xy 4 q0 q1]; simp [hc]⟩
    · rw [if_neg hc] at h; omega
  · simp only [show ¬ ((4 : Int) = 1) by decide, show ¬ ((4 : Int) = 2) by decide, show ¬ ((4 : Int) = 3) by decide, if_false, if_true] at h ⊢
    by_cases hc : 0 < Y
    · rw [if_pos hc, tau_xy (by omega) (by omega)]
      exact ⟨1, by omega, by omega, by rw [step_xy 1 q0 q1]; simp only [if_true]; rw [if_pos (by omega)]; congr 1; omega⟩
    · rw [if_neg hc] at h; omega
theorem iota_step {W T c : Int} (h1 : 1 ≤ W) (h2 : W ≤ 6) (h3 : 1 ≤ T) (h4 : T ≤ 6) (c0 : 0 ≤ c) (c1 : c < T * W) {way : Int} (w1 : 1 ≤ way) (w2 : way ≤ 4) (h : 0 ≤ stepZ T W c way) :
    ∃ way' : Int, 1 ≤ way' ∧ way' ≤ 4 ∧ stepZ W T (iotaZ W T c) way' = iotaZ W T (stepZ T W c way) := by
  obtain ⟨X, Y, -, -, x0, x1, y0, y1, rfl, -⟩ := cell_xy h3 h4 h1 h2 c0 c1
  rw [step_xy way x0 x1] at h ⊢
  rw [iota_xy x0 x1]
  rcases (show way = 1 ∨ way = 2 ∨ way = 3 ∨ way = 4 from by omega) with rfl | rfl | rfl | rfl
  · simp only [if_true] at h ⊢
    by_cases hc : X < T - 1
    · rw [if_pos hc, iota_xy (by omega) (by omega)]
      exact ⟨4, by omega, by omega, by rw [step_xy 4 y0 y1]; simp only [show ¬ ((4 : Int) = 1) by decide, show ¬ ((4 : Int) = 2) by decide, show ¬ ((4 : Int) = 3) by decide, if_false, if_true]; rw [if_pos (by omega)]; congr 2; omega⟩
    · rw [if_neg hc] at h; omega
  · simp only [show ¬ ((2 : Int) = 1) by decide, if_false, if_true] at h ⊢
    by_cases hc : Y < W - 1
    · rw [if_pos hc, iota_xy (by omega) (by omega)]
      exact ⟨1, by omega, by omega, by rw [step_xy 1 y0 y1]; simp [hc]⟩
    · rw [if_neg hc] at h; omega
  · simp only [show ¬ ((3 : Int) = 1) by decide, show ¬ ((3 : Int) = 2) by decide, if_false, if_true] at h ⊢
    by_cases hc : 0 < X
    · rw [if_pos hc, iota_xy (by omega) (by omega)]
      exact ⟨2, by omega, by omega, by rw [step_xy 2 y0 y1]; simp only [show ¬ ((2 : Int) = 1) by decide, if_false, if_true]; rw [if_pos (by omega)]; congr 2; omega⟩
    · rw [if_neg hc] at h; omega
  · simp only [show ¬ ((4 : Int) = 1) by decide, show ¬ ((4 : Int) = 2) by decide, show ¬ ((4 : Int) = 3) by decide, if_false, if_true] at h ⊢
    by_cases hc : 0 < Y
    · rw [if_pos hc, iota_xy (by omega) (by omega)]
      exact ⟨3, by omega, by omega, by rw [step_xy 3 y0 y1]; simp [hc]⟩
    · rw [if_neg hc] at h; omega
theorem tau_in {W T c : Int} (h1 : 1 ≤ W) (h2 : W ≤ 6) (h3 : 1 ≤ T) (h4 : T ≤ 6) (c0 : 0 ≤ c) (c1 : c < W * T) : 0 ≤ tauZ W T c ∧ tauZ W T c < W * T ∧ iotaZ W T (tauZ W T c) = c := by
  obtain ⟨X, Y, -, -, x0, x1, y0, y1, rfl, -⟩ := cell_xy h1 h2 h3 h4 c0 c1
  rw [tau_xy x0 x1, iota_xy (by omega) (by omega)]
  have := xy_cell (X := T - 1 - Y) (Y := X) h3 h4 h1 h2 (by omega) (by omega) x0 x1
  rw [Int.mul_comm T W] at this
  exact ⟨this.1, this.2, by rw [show T - 1 - (T - 1 - Y) = Y by omega]⟩
theorem iota_in {W T c : Int} (h1 : 1 ≤ W) (h2 : W ≤ 6) (h3 : 1 ≤ T) (h4 : T ≤ 6) (c0 : 0 ≤ c) (c1 : c < T * W) : 0 ≤ iotaZ W T c ∧ iotaZ W T c < W * T ∧ tauZ W T (iotaZ W T c) = c := by
  obtain ⟨X, Y, -, -, x0, x1, y0, y1, rfl, -⟩ := cell_xy h3 h4 h1 h2 c0 c1
  rw [iota_xy x0 x1, tau_xy (by omega) (by omega)]
  have := xy_cell (X := Y) (Y := T - 1 - X) h1 h2 h3 h4 (by omega) (by omega) (by omega) (by omega)
  exact ⟨this.1, this.2, by rw [show T - 1 - (T - 1 - X) = X by omega]⟩
/-- a turned region -/
structure IsTurn (W T : Int) (bs bs' : List Bool) : Prop where
  len : bs'.length = bs.length
  at_ : ∀ k, k < bs.length → bs'.getD (tauZ W T k).toNat false = bs.getD k false
  cn : cnt bs' ≤ cnt bs
theorem IsTurn.fld {W T : Int} {bs bs' : List Bool} (h : IsTurn W T bs bs') (hf : Fld W T bs) : Fld T W bs' :=
  ⟨hf.t1, hf.t6, hf.w1, hf.w6, by rw [h.len, Int.mul_comm]; exact hf.n⟩
theorem laid_turn {W T : Int} {bs bs' : List Bool} (hf : Fld W T bs) (h : IsTurn W T bs bs') : laidN T W bs' = laidN W T bs := by
  have hf' := h.fld hf
  have hn := hf.n
  have hn' : (bs.length : Int) = T * W := by rw [Int.mul_comm]; exact hn
  have hl := h.len
  have tin := fun k (hk : k < bs.length) => tau_in (W := W) (T := T) (c := (k : Int)) hf.w1 hf.w6 hf.t1 hf.t6 (by omega) (by omega)
  have iin := fun k (hk : k < bs.length) => iota_in (W := W) (T := T) (c := (k : Int)) hf.w1 hf.w6 hf.t1 hf.t6 (by omega) (by omega)
  refine Nat.le_antisymm ?_ ?_
  · refine laid_map (fun k => (iotaZ W T k).toNat) hf' hf (fun k hk => ?_) (fun i j hi hj e => ?_) (fun k j way hk hj w1 w2 hs => ?_)
    · rw [hl] at hk
      obtain ⟨a, b, c⟩ := iin k hk
      have hlt : (iotaZ W T k).toNat < bs.length := by omega
      refine ⟨hlt, ?_⟩
      have := h.at_ _ hlt
      rw [show (((iotaZ W T k).toNat : Nat) : Int) = iotaZ W T k by omega, c] at this
      rw [← this]; simp
    · rw [hl] at hi hj
      obtain ⟨a, b, c⟩ := iin i hi
      obtain ⟨a', b', c'⟩ := iin j hj
      have e' : iotaZ W T i = iotaZ W T j := by omega
      rw [e', c'] at c; omega
    · rw [hl] at hk hj
      obtain ⟨a, b, c⟩ := iin k hk
      obtain ⟨a', b', c'⟩ := iin j hj
      obtain ⟨way', p1, p2, p3⟩ := iota_step (W := W) (T := T) (c := (k : Int)) hf.w1 hf.w6 hf.t1 hf.t6 (by omega) (by omega) w1 w2 (by omega)
      rw [hs] at p3
      exact ⟨way', p1, p2, by rw [show (((iotaZ W T k).toNat : Nat) : Int) = iotaZ W T k by omega, show (((iotaZ W T j).toNat : Nat) : Int) = iotaZ W T j by omega]; exact p3⟩
  · refine laid_map (fun k => (tauZ W T k).toNat) hf hf' (fun k hk => ?_) (fun i j hi hj e => ?_) (fun k j way hk hj w1 w2 hs => ?_)
    · obtain ⟨a, b, c⟩ := tin k hk
      exact ⟨by omega, h.at_ k hk⟩
    · obtain ⟨a, b, c⟩ := tin i hi
      obtain ⟨a', b', c'⟩ := tin j hj
      have e' : tauZ W T i = tauZ W T j := by omega
      rw [e', c'] at c; omega
    · obtain ⟨a, b, c⟩ := tin k hk
      obtain ⟨a', b', c'⟩ := tin j hj
      obtain ⟨way', p1, p2, p3⟩ := tau_step (W := W) (T := T) (c := (k : Int)) hf.w1 hf.w6 hf.t1 hf.t6 (by omega) (by omega) w1 w2 (by omega)
      rw [hs] at p3
      exact ⟨way', p1, p2, by rw [show (((tauZ W T k).toNat : Nat) : Int) = tauZ W T k by omega, show (((tauZ W T j).toNat : Nat) : Int) = tauZ W T j by omega]; exact p3⟩
end Go.Proofs.Ytnciemnlnijhfaa

/- Contract: where a cell goes when the region is turned. -/
namespace Go.Proofs.Ytnciemnlnijhfaa
open Go.RowKit

set_option maxHeartbeats 1000000 in
theorem turned_any (W T : Int) (S : Value) (c : Int) (w : World) (h1 : 1 ≤ W) (h2 : W ≤ 6) (h3 : 1 ≤ T) (h4 : T ≤ 6) (c0 : 0 ≤ c) (c1 : c < W * T) :
    Calls Try.prog 63 #[.agg #[.int .i64 W, .int .i64 T, S], .int .i64 c] w fun e w' => e = .returned (.int .i64 (tauZ W T c)) ∧ Below w.heap.size w w' := by
  obtain ⟨X, Y, eX, eY, x0, x1, y0, y1, -, -, -, hc⟩ := cell_xy h1 h2 h3 h4 c0 c1
  have HE := Lib.hid (show X * T + T - 1 - Y = tauZ W T c by unfold tauZ; rw [eX, eY]; omega)
  have XY := Lib.hid (fun w => by have := xy_any W T S c w h1 h2 c0 (by omega); rw [eX, eY] at this; exact this)
  have X0 := C3.new w (.int .i64 W) (.int .i64 T) S 25
  obtain ⟨m0, m1⟩ : 0 ≤ X * T ∧ X * T ≤ 36 := by
    rcases (show T = 1 ∨ T = 2 ∨ T = 3 ∨ T = 4 ∨ T = 5 ∨ T = 6 from by omega) with rfl | rfl | rfl | rfl | rfl | rfl <;> omega
  obtain ⟨x0', x1', x2'⟩ := id X0
  go_enter Try.func63, Try.ntmps63
  go_wp2_with fail
  refine (XY.out _).mono ?_
  rintro e w1 ⟨rfl, b1⟩
  have B1 := bl_go (bl_alloc (Below.refl w.heap.size w) _) b1
  obtain ⟨y0', y1', y2'⟩ := X0.belo b1
  have i1 : IntKind.i64.wrap (X * T) = X * T := IntWalk.i64_in _ (by omega)
  have i2 : IntKind.i64.wrap (X * T + T) = X * T + T := IntWalk.i64_in _ (by omega)
  have i3 : IntKind.i64.wrap (X * T + T - 1) = X * T + T - 1 := IntWalk.i64_in _ (by omega)
  have i4 : IntKind.i64.wrap (X * T + T - 1 - Y) = X * T + T - 1 - Y := IntWalk.i64_in _ (by omega)
  clear c1 eX eY
  go_wp2
  go_ret
  exact ⟨ret_i HE.out, B1⟩
end Go.Proofs.Ytnciemnlnijhfaa

/- Contracts: a region put at other places; the program's RegionTurn. -/
namespace Go.Proofs.Ytnciemnlnijhfaa
open Go.RowKit

/-- the first k cells are put -/
def PutT (W T : Int) (bs : List Bool) (k : Nat) (xs : List Bool) : Prop := xs.length = bs.length ∧ (∀ i, i < k → xs.getD (tauZ W T i).toNat false = bs.getD i false) ∧ cnt xs ≤ cnt (bs.take k)
theorem putT_zero (W T : Int) (bs : List Bool) : PutT W T bs 0 (List.replicate bs.length false) := ⟨by simp, fun i hi => by omega, by
    have : ∀ n, cnt (List.replicate n false) = 0 := fun n => by
      induction n with
      | zero => rfl
      | succ n ih => rw [List.replicate_succ', cnt_snoc, ih]; rfl
    rw [this]; exact (cnt_le _).1⟩
theorem cnt_set_up (l : List Bool) (k : Nat) : cnt (l.set k true) ≤ cnt l + 1 := by
  rcases Nat.lt_or_ge k l.length with hk | hk
  · have h1 := cnt_set_le (l.set k true) k
    have h2 := cnt_set_lt (l.set k true) k (by rw [List.length_set]; exact hk) (by simp)
    have h3 : ∀ (l : List Bool) (k : Nat), cnt (l.set k true) ≤ cnt (l.set k false) + 1 := by
      intro l
      induction l with
      | nil => intro k; simp [cnt]
      | cons b l ih => intro k; cases k with
        | zero => simp [cnt]
        | succ k => have := ih k; cases b <;> simp [cnt] at this ⊢ <;> omega
    have h4 := h3 l k
    have h5 := cnt_set_le l k
    omega
  · rw [List.set_eq_of_length_le hk]; omega
theorem putT_step {W T : Int} {bs xs : List Bool} {k : Nat} (hf : Fld W T bs) (h : PutT W T bs k xs) (hk : k < bs.length) : PutT W T bs (k + 1) (xs.set (tauZ W T k).toNat (bs.getD k false)) := by
  obtain ⟨h1, h2, h3⟩ := h
  have hn := hf.n
  have tin := fun i (hi : i < bs.length) => tau_in (W := W) (T := T) (c := (i : Int)) hf.w1 hf.w6 hf.t1 hf.t6 (by omega) (by omega)
  refine ⟨by rw [List.length_set]; exact h1, fun i hi => ?_, ?_⟩
  rotate_left
  · rw [cnt_step _ _ hk, List.getD_eq_getElem?_getD, List.getElem?_eq_getElem hk]
    cases e : bs[k] with
    | true => have := cnt_set_up xs (tauZ W T k).toNat; simp only [Option.getD_some, if_true]; omega
    | false => have := cnt_set_le xs (tauZ W T k).toNat; simp; omega
  obtain ⟨a, b, c⟩ := tin k hk
  rcases Nat.lt_or_ge i k with h | h
  · obtain ⟨a', b', c'⟩ := tin i (by omega)
    rw [getD_set_ne (fun e => by
      have e' : tauZ W T i = tauZ W T k := by omega
      rw [e', c] at c'; omega)]
    exact h2 i h
  · obtain rfl : i = k := by omega
    rw [List.getD_eq_getElem?_getD, List.getElem?_set_self (by omega)]; rfl
theorem putT_all {W T : Int} {bs xs : List Bool} (h : PutT W T bs bs.length xs) : IsTurn W T bs xs := ⟨h.1, h.2.1, by have := h.2.2; rwa [List.take_length] at this⟩
theorem keep1 {w : World} {b o g m : Nat} {u v : Value} (h : ¬ (b = g)) (e : w.cell? ⟨b, o, none⟩ = some v) : (w.setCell ⟨g, m, none⟩ u).cell? ⟨b, o, none⟩ = some v := by
  rw [World.cell?_setCell_other _ _ _ _ (by intro x; injection x with x; omega)]; exact e
set_option maxRecDepth 100000 in
set_option maxHeartbeats 2000000 in
theorem put_turn (W T : Int) (A : Option Addr) (c : Nat) (bs : List Bool) (w : World) (hr : Rd w A (bs.map .bool)) (hf : Fld W T bs) (h36 : bs.length ≤ 36) :
    Calls Try.prog 62 #[.agg #[.int .i64 W, .int .i64 T, .slice A bs.length c], .int .i64 T, .int .i64 W, .func (.func 63) #[.agg #[.int .i64 W, .int .i64 T, .slice A bs.length c]] #[]] w
      fun e w' => ∃ xs, IsTurn W T bs xs ∧ NewRW T W xs w e w' := by
  have hw1 := hf.w1
  have hw6 := hf.w6
  have ht1 := hf.t1
  have ht6 := hf.t6
  have hn := hf.n
  have FD := Lib.hid (fun w => field_any T W bs.length w (by omega) ht6 (by omega) hw6 (by rw [Int.mul_comm]; exact hn.symm))
  have HF := Lib.hid hf
  have CT := Lib.hid (fun (k : Nat) (hk : k < bs.length) (z : World) => turned_any W T (.slice A bs.length c) k z hw1 hw6 ht1 ht6 (by omega) (by omega))
  have TI := Lib.hid (fun (k : Nat) (hk : k < bs.length) => tau_in (W := W) (T := T) (c := (k : Int)) hw1 hw6 ht1 ht6 (by omega) (by omega))
  have HN := Lib.hid hn
  have Z := C3.new w (.int .i64 W) (.int .i64 T) (.slice A bs.length c) 25
  have Z0 := Z.alloc (.cells #[.int .i64 0, .int .i64 0, .slice none 0 0] 25)
  have B0 := bl_alloc (bl_alloc (Below.refl w.heap.size w) (.cells #[.int .i64 W, .int .i64 T, .slice A bs.length c] 25)) (.cells #[.int .i64 0, .int .i64 0, .slice none 0 0] 25)
  have P0 : ((w.alloc (.cells #[.int .i64 W, .int .i64 T, .slice A bs.length c] 25)).alloc (.cells #[.int .i64 0, .int .i64 0, .slice none 0 0] 25)).heap[w.heap.size + 1]? = some (.cells #[.int .i64 0, .int .i64 0, .slice none 0 0] 25 (0, 0)) := by
    have := heap_alloc_new (w.alloc (.cells #[.int .i64 W, .int .i64 T, .slice A bs.length c] 25)) (.cells #[.int .i64 0, .int .i64 0, .slice none 0 0] 25)
    simpa using this
  have hs0 : ((w.alloc (.cells #[.int .i64 W, .int .i64 T, .slice A bs.length c] 25)).alloc (.cells #[.int .i64 0, .int .i64 0, .slice none 0 0] 25)).heap.size = w.heap.size + 2 := by simp
  clear hf hn Z
  go_enter Try.func62, Try.ntmps62
  go_wp2_with fail
  generalize (w.alloc (.cells #[.int .i64 W, .int .i64 T, .slice A bs.length c] 25)).alloc (.cells #[.int .i64 0, .int .i64 0, .slice none 0 0] 25) = wa at *
  refine (FD.out _).mono ?_
  rintro e w1 ⟨B, d, rfl, hw, hb⟩
  simp only [List.length_replicate]
  have Z1 := (Z0.belo hb).alloc (.cells #[.int .i64 T, .int .i64 W, .slice B bs.length d] 25)
  have Y1 := C3.new w1 (.int .i64 T) (.int .i64 W) (.slice B bs.length d) 25
  have Q1 := hw.belo (bl_alloc (Below.refl _ _) (.cells #[.int .i64 T, .int .i64 W, .slice B bs.length d] 25))
  have hsz := hb.size
  have B1 := bl_alloc (bl_go B0 hb) (.cells #[.int .i64 T, .int .i64 W, .slice B bs.length d] 25)
  have P1 := ((bl_alloc (Below.refl w1.heap.size w1) (.cells #[.int .i64 T, .int .i64 W, .slice B bs.length d] 25)).block (w.heap.size + 1) (by omega)).trans ((hb.block (w.heap.size + 1) (by omega)).trans P0)
  have hB : ∀ ad, B = some ad → bs ≠ [] → ad.block < w1.heap.size := fun ad ha hne => hw.rd.lt ha (by simpa using hne)
  obtain ⟨z0, z1, z2⟩ := id Z1
  go_wp2_with fail
  obtain ⟨b9, hb9⟩ : ∃ b9, w1.heap.size = b9 := ⟨_, rfl⟩
  generalize hwb : w1.alloc (.cells #[.int .i64 T, .int .i64 W, .slice B bs.length d] 25) = wb at *
  rw [hb9] at Y1 hsz hB
  simp only [hb9] at *
  clear hwb hw hb z0 z1 z2 B0 Z0
  go_loopw [18] (fun i wr => ∃ (k : Nat) (xs : List Bool), k ≤ bs.length ∧ i = .int .i64 k ∧ PutT W T bs k xs ∧ Wr wr wa.heap.size 4 B (xs.map .bool) ∧ Below w.heap.size w wr ∧ C3 wr w.heap.size (.int .i64 W) (.int .i64 T) (.slice A bs.length c) ∧ C3 wr b9 (.int .i64 T) (.int .i64 W) (.slice B bs.length d) ∧ wr.heap[w.heap.size + 1]? = some (.cells #[.int .i64 0, .int .i64 0, .slice none 0 0] 25 (0, 0))) (fun i _ => bs.length - (intOf i).toNat)
  case atStart => exact ⟨0, List.replicate bs.length false, Nat.zero_le _, rfl, putT_zero W T bs, Q1, B1, Z1, Y1, P1⟩
  case round =>
    clear Q1 B1 Z1 Y1 P1
    obtain ⟨k, xs, hk, rfl, HP, Q1, B1, Z1, Y1, P1⟩ := hrel
    obtain ⟨z0, z1, z2⟩ := id Z1
    obtain ⟨y0, y1, y2⟩ := id Y1
    by_cases hlt : k < bs.length
    · obtain ⟨ad, rfl, hc⟩ := (hr.belo B1).atM hlt
      obtain ⟨t0, t1, t2⟩ := TI.out k hlt
      have hxl := HP.1
      have hne : xs.map Value.bool ≠ [] := by intro e; simp at e; rw [e] at hxl; simp at hxl; omega
      obtain ⟨g, rfl, hlo, hgs, hfr⟩ := Q1.form hne
      have hgb : g < b9 := hB _ rfl (by intro e; rw [e] at hlt; simp at hlt)
      obtain ⟨m, hm⟩ := Int.eq_ofNat_of_zero_le t0
      have hml : m < bs.length := by have := HN.out; omega
      have CT' := Lib.hid (fun z => by have := CT.out k hlt z; rw [hm] at this; exact this)
      have HST := putT_step HF.out HP hlt
      rw [hm, List.getD_eq_getElem?_getD, List.getElem?_eq_getElem hlt] at HST
      obtain ⟨v, hv⟩ : ∃ v, bs[k] = v := ⟨_, rfl⟩
      rw [hv] at hc HST
      simp only [Int.toNat_natCast, Option.getD_some] at HST
      have HST := Lib.hid HST
      obtain ⟨ov, hco⟩ : ∃ ov, wr.cell? ⟨g, m, none⟩ = some ov := ⟨_, by simpa using Q1.rd.cellEM (k := m) (by omega)⟩
      clear hne hv t2 hm CT
      go_wp2_with fail
      have hgn : ¬ (b9 = g) := by omega
      have hf := hfr m
      have mI : (m : Int) < (bs.length : Int) := by omega
      go_region_held3 (fun w' => w'.cell? ⟨b9, 2, none⟩ = some (.slice (some ⟨g, 0, none⟩) bs.length d))
        (first | (with_reducible exact y2) | (with_reducible exact dr_cell y2) | (with_reducible exact y5) | (with_reducible exact keep1 hgn y5) | go_keep)
        ((go_at_call 63; refine (CT'.out _).mono ?_; rintro e w5 ⟨rfl, b5⟩; have y5 := kb1 b5 y2; have q5 := (Q1.belo (Below.refl wr.heap.size wr).drew).belo b5; have c5 := kb1 b5 hco; have fr5 : w5.frozen? ⟨g, m, none⟩ = false := by (obtain ⟨g', e', -, -, h'⟩ := q5.form (by intro e; simp at e; rw [e] at hxl; simp at hxl; omega); injection e' with e'; injection e' with e' _ _; rw [e']; exact h' m)))
      have X0' := Lib.hid (And.intro ((Z1.belo (Below.refl wr.heap.size wr).drew).belo b5) ((Y1.belo (Below.refl wr.heap.size wr).drew).belo b5))
      go_wp2_with fail
      refine ⟨⟨k + 1, xs.set m v, by omega, by go_num, HST.out, ?_, ?_, ?_, ?_, ?_⟩, by simp [intOf]; omega⟩
      · rw [List.map_set]; exact q5.store m (.bool v)
      · exact (bl_go B1 (bl_go (Below.refl wr.heap.size wr).drew b5)).setCell (by show w.heap.size ≤ g; omega) _
      · exact X0'.out.1.set (by show ¬ (g = w.heap.size); omega) _
      · exact X0'.out.2.set (by show ¬ (g = b9); omega) _
      · rw [Below.heap_setCell _ _ _ _ (by show ¬ (w.heap.size + 1 = g); omega)]
        exact ((bl_go (Below.refl wr.heap.size wr).drew b5).block _ (by omega)).trans P1
    · obtain rfl : k = bs.length := by omega
      have HT := Lib.hid (putT_all HP)
      have hl := HP.1
      obtain ⟨g0, g1, g2, f0, f1, f2⟩ := blk3 P1
      go_wp2_with fail
      refine bodyPost_ret (v := .agg #[.int .i64 T, .int .i64 W, .slice B bs.length d]) (by simp [results, Try.results62, go_sem, g0, g1, g2]) rfl ?_
      refine ⟨xs, HT.out, B, d, by rw [hl], ?_, ?_⟩
      · refine (Q1.lower (lo' := w.heap.size) (by omega)).keep fun g hg hg2 => ?_
        have hlo := Q1.1 _ hg
        simp only at hlo
        rw [Below.heap_setCell _ _ _ _ (by simp; omega), Below.heap_setCell _ _ _ _ (by simp; omega), Below.heap_setCell _ _ _ _ (by simp; omega)]
      · exact ((B1.setCell (p := ⟨w.heap.size + 1, 0, none⟩) (by show w.heap.size ≤ w.heap.size + 1; omega) _).setCell (p := ⟨w.heap.size + 1, 1, none⟩) (by show w.heap.size ≤ w.heap.size + 1; omega) _).setCell (p := ⟨w.heap.size + 1, 2, none⟩) (by show w.heap.size ≤ w.heap.size + 1; omega) _
end Go.Proofs.Ytnciemnlnijhfaa

/- Contract: the program's RegionTurn, of a valid region. -/
namespace Go.Proofs.Ytnciemnlnijhfaa
open Go.RowKit

set_option maxRecDepth 100000 in
set_option maxHeartbeats 2000000 in
theorem iRegionTurn_ok (W T : Int) (A : Option Addr) (c : Nat) (bs : List Bool) (w : World) (hr : Rd w A (bs.map .bool)) (hv : validB W T bs = true) :
    Calls Try.prog 15 #[.agg #[.int .i64 W, .int .i64 T, .slice A bs.length c]] w fun e w' => ∃ xs, IsTurn W T bs xs ∧ NewRW T W xs w e w' := by
  obtain ⟨h1, h2, h3, h4, h5, h6⟩ := valid_len hv
  have CP := Lib.hid (fun (z : World) (R : Rd z A (bs.map .bool)) => put_turn W T A c bs z R ⟨h1, h2, h3, h4, h6⟩ h5)
  have HV := Lib.hid hv
  have Z := C3.new w (.int .i64 W) (.int .i64 T) (.slice A bs.length c) 25
  have Z0 := Z.alloc (.cells #[.int .i64 0, .int .i64 0, .slice none 0 0] 25)
  have R0 := (hr.alloc (.cells #[.int .i64 W, .int .i64 T, .slice A bs.length c] 25)).alloc (.cells #[.int .i64 0, .int .i64 0, .slice none 0 0] 25)
  have B0 := bl_alloc (bl_alloc (Below.refl w.heap.size w) (.cells #[.int .i64 W, .int .i64 T, .slice A bs.length c] 25)) (.cells #[.int .i64 0, .int .i64 0, .slice none 0 0] 25)
  have P0 : ((w.alloc (.cells #[.int .i64 W, .int .i64 T, .slice A bs.length c] 25)).alloc (.cells #[.int .i64 0, .int .i64 0, .slice none 0 0] 25)).heap[w.heap.size + 1]? = some (.cells #[.int .i64 0, .int .i64 0, .slice none 0 0] 25 (0, 0)) := by
    have := heap_alloc_new (w.alloc (.cells #[.int .i64 W, .int .i64 T, .slice A bs.length c] 25)) (.cells #[.int .i64 0, .int .i64 0, .slice none 0 0] 25)
    simpa using this
  have hs0 : ((w.alloc (.cells #[.int .i64 W, .int .i64 T, .slice A bs.length c] 25)).alloc (.cells #[.int .i64 0, .int .i64 0, .slice none 0 0] 25)).heap.size = w.heap.size + 2 := by simp
  have hm : bs.length ≤ maxLen := by unfold maxLen; omega
  clear hv h6 Z
  go_enter Try.func15, Try.ntmps15
  go_wp2_with fail
  generalize (w.alloc (.cells #[.int .i64 W, .int .i64 T, .slice A bs.length c] 25)).alloc (.cells #[.int .i64 0, .int .i64 0, .slice none 0 0] 25) = wa at *
  refine (iRegionValid_any _ _ _ _ _ _ R0 hm).mono ?_
  rintro e w1 ⟨rfl, b1⟩
  rw [HV.out]
  have R1 := R0.belo b1
  have Z1 := Z0.belo b1
  have B1 := bl_go B0 b1
  have P1 := (b1.block (w.heap.size + 1) (by omega)).trans P0
  have hs1 := b1.size
  obtain ⟨z0, z1, z2⟩ := id Z1
  go_wp2_with fail
  refine (CP.out _ R1).mono ?_
  rintro e w2 ⟨xs, HT, B, d, rfl, q2, b2⟩
  have P2 := (b2.block (w.heap.size + 1) (by omega)).trans P1
  obtain ⟨g0, g1, g2, f0, f1, f2⟩ := blk3 P2
  have B2 := bl_go B1 b2
  go_wp2_with fail
  refine bodyPost_ret (v := .agg #[.int .i64 T, .int .i64 W, .slice B xs.length d]) (by simp [results, Try.results15, go_sem, g0, g1, g2]) rfl ?_
  refine ⟨xs, HT, B, d, rfl, ?_, ?_⟩
  · refine (q2.lower (lo' := w.heap.size) (by omega)).keep fun g hg hg2 => ?_
    have hlo := q2.1 _ hg
    simp only at hlo
    rw [Below.heap_setCell _ _ _ _ (by simp; omega), Below.heap_setCell _ _ _ _ (by simp; omega), Below.heap_setCell _ _ _ _ (by simp; omega)]
  · exact ((B2.setCell (p := ⟨w.heap.size + 1, 0, none⟩) (by show w.heap.size ≤ w.heap.size + 1; omega) _).setCell (p := ⟨w.heap.size + 1, 1, none⟩) (by show w.heap.size ≤ w.heap.size + 1; omega) _).setCell (p := ⟨w.heap.size + 1, 2, none⟩) (by show w.heap.size ≤ w.heap.size + 1; omega) _
end Go.Proofs.Ytnciemnlnijhfaa

/- The walk of the law FnLaidMost. -/
namespace Go.Proofs.Ytnciemnlnijhfaa
open Go.RowKit

theorem laidZ_f {W T : Int} {bs : List Bool} (h : validB W T bs = false) : laidZ W T bs = -1 := by unfold laidZ; rw [h]; rfl
theorem valid_off {W T : Int} {bs : List Bool} (h : validB W T bs = true) (k : Nat) : validB W T (bs.set k false) = true := by
  rw [validB_iff] at h ⊢
  refine ⟨h.1, h.2.1, by rw [List.length_set]; exact h.2.2.1, ?_⟩
  have h4 := h.2.2.2
  by_cases hk : k < bs.length
  · cases e : bs[k] with
    | true => have := cnt_set_lt bs k hk e; omega
    | false => rw [show bs.set k false = bs by rw [← e]; exact List.set_getElem_self ..]; exact h4
  · rw [List.set_eq_of_length_le (by omega)]; exact h4
/-- what the law asks -/
theorem laid_law {W T : Int} {bs : List Bool} (hv : validB W T bs = true) : ∃ n : Int, laidZ W T bs = n ∧ 0 ≤ n ∧ n ≤ 36 ∧ cellsMany W T bs = cnt bs ∧
    (∀ k, laidZ W T (bs.set k false) = n ∨ laidZ W T (bs.set k false) = n - 1) ∧ (∀ xs, IsTurn W T bs xs → laidZ T W xs = n) ∧ (0 < tilZ W T bs ↔ 2 * n = cnt bs) := by
  obtain ⟨h1, h2, h3, h4, h5, h6⟩ := valid_len hv
  have hf : Fld W T bs := ⟨h1, h2, h3, h4, h6⟩
  have e1 : laidZ W T bs = laidN W T bs := by unfold laidZ; rw [if_pos hv]
  have e2 := laidN_le W T bs
  refine ⟨laidN W T bs, e1, by omega, by omega, by unfold cellsMany; rw [if_pos hv], fun k => ?_, fun xs h => ?_, ?_⟩
  · have e3 : laidZ W T (bs.set k false) = laidN W T (bs.set k false) := by unfold laidZ; rw [if_pos (valid_off hv k)]
    have := laid_off hf k
    omega
  · have := laid_turn hf h
    have e4 : validB T W xs = true := by
      rw [validB_iff] at hv ⊢
      have := h.cn
      exact ⟨hv.2.1, hv.1, by rw [h.len, Int.mul_comm]; exact hv.2.2.1, by omega⟩
    unfold laidZ; rw [if_pos e4, this]
  · unfold tilZ; rw [if_pos hv]
    have := til_laid hv
    omega

theorem c3s {w : World} {b : Nat} {x y z : Value} (h : C3 w b x y z) : w.cell? ⟨b, 0, none⟩ = some x ∧ w.cell? ⟨b, 1, none⟩ = some y ∧ w.cell? ⟨b, 2, none⟩ = some z := h
theorem bl_drew {B : Nat} {a w : World} (h : Below B a w) : Below B a w.drew := ⟨h.os, h.tape, h.output, h.size, h.block⟩
set_option maxRecDepth 100000 in
set_option maxHeartbeats 4000000 in
theorem fnLaidMost_walk {w0 : World} (A : Option Addr) (c : Nat) (bs : List Int) (hcap : bs.length ≤ c) (hm : bs.length ≤ maxLen) (hr : Rd w0 A (bs.map (.int .u8))) (hw : ∀ n ∈ bs, 0 ≤ n ∧ n ≤ 255) :
    Calls Try.prog 3 #[.slice A bs.length c] w0 fun e w' => e = .returned (.bool true) ∧ Below w0.heap.size w0 w' := by
  have HW := Lib.hid hw
  clear hw
  unfold maxLen at hm
  by_cases hn : bs.length ≤ 1048576
  · have hg : decide ((1048576 : Int) < (bs.length : Int)) = false := by simp; omega
    go_enter Try.func3, Try.ntmps3
    go_wp2_with fail
    refine (drawLaidMost_any A c bs _ hr HW.out hn hcap).mono ?_
    rintro e w1 ⟨W, T, xs, B, k, rfl, R1, hl1, B1⟩
    clear hg hn hm hr HW hcap
    have hmx : xs.length ≤ maxLen := by unfold maxLen; omega
    have cI := fun (z : World) (R : Rd z B (xs.map .bool)) => iLaidMost_any W T B k xs z R hmx
    have cS := fun (z : World) (R : Rd z B (xs.map .bool)) => sLaidMost_any W T B k xs z R hmx
    have R2 := R1.alloc (.cells #[.int .i64 W, .int .i64 T, .slice B xs.length k] 25)
    have B2 := bl_alloc B1 (.cells #[.int .i64 W, .int .i64 T, .slice B xs.length k] 25)
    have X2 := C3.new w1 (.int .i64 W) (.int .i64 T) (.slice B xs.length k) 25
    clear R1 B1
    go_wp2_with fail
    generalize w1.alloc (.cells #[.int .i64 W, .int .i64 T, .slice B xs.length k] 25) = w2 at *
    generalize w1.heap.size = bx at *
    cases hv : validB W T xs with
    | true =>
      obtain ⟨n, hne, n0, n1, hce, hoff, htu, htil⟩ := laid_law hv
      rw [hne] at cI cS
      have CI := Lib.hid cI
      have CS := Lib.hid cS
      have CT := Lib.hid (fun (z : World) (R : Rd z B (xs.map .bool)) => iTilingsMany_any W T B k xs z R hmx)
      have CC := Lib.hid (fun (z : World) (R : Rd z B (xs.map .bool)) => iCellsMany_any W T B k xs z R hmx)
      rw [hce] at CC
      have CR := Lib.hid (fun (z : World) (R : Rd z B (xs.map .bool)) => iRegionTurn_ok W T B k xs z R hv)
      have CO := Lib.hid (fun (i : Nat) (hi : i < xs.length) (z : World) (R : Rd z B (xs.map .bool)) => iRegionSet_ok W T B k i xs false z R hv hi (valid_off hv i))
      have HO := Lib.hid hoff
      have HT := Lib.hid htu
      clear cI cS hce hoff htu hv hne
      generalize tilZ W T xs = t at *
      generalize cnt xs = cc at *
      obtain ⟨x0, x1, x2⟩ := id X2
      have hnn : (n != n) = false := by simp
      have hlt : decide (n < 0) = false := by simp; omega
      refine (CI.out _ R2).mono ?_
      rintro e w3 ⟨rfl, b3⟩
      have R3 := R2.belo b3
      have B3 := bl_go B2 b3
      have X3 := X2.belo b3
      clear R2 B2 X2 b3 x0 x1 x2
      obtain ⟨x0, x1, x2⟩ := id X3
      go_wp2_with fail
      refine (CS.out _ R3).mono ?_
      rintro e w4 ⟨rfl, b4⟩
      have R4 := R3.belo b4
      have B4 := bl_go B3 b4
      have X4 := X3.belo b4
      clear R3 B3 X3 b4 x0 x1 x2
      obtain ⟨x0, x1, x2⟩ := id X4
      go_wp2_with fail
      go_loopw [5] (fun i wr => ∃ j : Nat, j ≤ xs.length ∧ i = .int .i64 j ∧ Rd wr B (xs.map .bool) ∧ Below w0.heap.size w0 wr ∧ C3 wr bx (.int .i64 W) (.int .i64 T) (.slice B xs.length k)) (fun i _ => xs.length - (intOf i).toNat)
      case atStart => exact ⟨0, Nat.zero_le _, rfl, R4, B4, X4⟩
      case round =>
        clear R4 B4 X4 x0 x1 x2
        obtain ⟨j, hj, rfl, R4, B4, X4⟩ := hrel
        obtain ⟨x0, x1, x2⟩ := id X4
        by_cases hjl : j < xs.length
        · go_wp2_with fail
          refine (CO.out j hjl _ R4).mono ?_
          rintro e w5 ⟨A5, c5, rfl, q5, b5⟩
          have HM := HO.out j
          have CY := Lib.hid (fun (z : World) (R : Rd z A5 ((xs.set j false).map .bool)) => iLaidMost_any W T A5 c5 (xs.set j false) z R (by rw [List.length_set]; exact hmx))
          have RY := q5.rd
          generalize xs.set j false = ys at *
          generalize laidZ W T ys = m at *
          have R5 := (R4.belo b5).alloc (.cells #[.int .i64 W, .int .i64 T, .slice A5 ys.length c5] 25)
          have B5 := bl_alloc (bl_go B4 b5) (.cells #[.int .i64 W, .int .i64 T, .slice A5 ys.length c5] 25)
          have X5 := (X4.belo b5).alloc (.cells #[.int .i64 W, .int .i64 T, .slice A5 ys.length c5] 25)
          have Y5 := C3.new w5 (.int .i64 W) (.int .i64 T) (.slice A5 ys.length c5) 25
          have RY5 := RY.alloc (.cells #[.int .i64 W, .int .i64 T, .slice A5 ys.length c5] 25)
          clear RY q5 b5 R4 B4 X4 x0 x1 x2
          go_wp2_with fail
          refine (CY.out _ RY5).mono ?_
          rintro e w6 ⟨rfl, b6⟩
          have R6 := R5.belo b6
          have B6 := bl_go B5 b6
          have X6 := X5.belo b6
          clear RY5 R5 B5 X5 Y5 b6
          rcases HM with rfl | rfl
          · have g1 : (m != m) = false := by simp
            go_wp2_with fail
            go_roundw
            case rel => exact ⟨j + 1, by omega, by go_num, R6, B6, X6⟩
            case measure => simp [intOf]; omega
          · have g1 : (n - 1 != n) = true := by simp; omega
            have g2 : (n - 1 != n - 1) = false := by simp
            have i1 : IntKind.i64.wrap (n - 1) = n - 1 := IntWalk.i64_in _ (by omega)
            go_wp2_with fail
            go_roundw
            case rel => exact ⟨j + 1, by omega, by go_num, R6, B6, X6⟩
            case measure => simp [intOf]; omega
        · obtain rfl : j = xs.length := by omega
          have hpp : (n == n) = true := by simp
          have i2 : IntKind.i64.wrap (2 * n) = 2 * n := IntWalk.i64_in _ (by omega)
          have hlast : decide (0 < t) = (2 * n == cc) := by
            by_cases h : 0 < t
            · have := htil.1 h; simp [h, this]
            · have : ¬ 2 * n = cc := fun e => h (htil.2 e)
              simp [h, this]
          clear htil HO CO CI CS
          have Y4 := c3s X4.drew
          have B4d : Below w0.heap.size w0 wr.drew := bl_drew B4
          go_wp2_with fail
          go_region_held3 (fun w' => w'.cell? ⟨bx, 0, none⟩ = some (.int .i64 W) ∧ w'.cell? ⟨bx, 1, none⟩ = some (.int .i64 T) ∧ w'.cell? ⟨bx, 2, none⟩ = some (.slice B xs.length k))
            (first | with_reducible exact Y8 | with_reducible exact Y7 | with_reducible exact Y6 | with_reducible exact Y5 | with_reducible exact Y4 | go_keep)
            (first
              | (go_at_call 15; (with_reducible refine (CR.out _ R4.drew).mono ?_); rintro e w5 ⟨zs, hz, A5, c5, rfl, q5, b5⟩; have X5 := X4.drew.belo b5; have Y5 := c3s X5; have R5 := R4.drew.belo b5; have B5 := bl_go B4d b5; have hzv := Lib.hid (HT.out zs hz); have CL := Lib.hid (fun (z : World) (R : Rd z A5 (zs.map .bool)) => iLaidMost_any T W A5 c5 zs z R (by have := hz.len; omega)); have RZ := q5.rd; clear hz q5; rw [hzv.out] at CL)
              | (go_at_call 11; (with_reducible refine (CL.out _ RZ).mono ?_); rintro e w6 ⟨rfl, b6⟩; have X6 := X5.belo b6; have Y6 := c3s X6; have R6 := R5.belo b6; have B6 := bl_go B5 b6)
              | (go_at_call 16; (with_reducible refine (CT.out _ R7).mono ?_); rintro e w8 ⟨rfl, b8⟩; have X8 := X7.belo b8; have Y8 := c3s X8; have B8 := bl_go B7 b8)
              | (go_at_call 16; (with_reducible refine (CT.out _ R6).mono ?_); rintro e w7 ⟨rfl, b7⟩; have X7 := X6.belo b7; have Y7 := c3s X7; have R7 := R6.belo b7; have B7 := bl_go B6 b7)
              | (go_at_call 17; (with_reducible refine (CC.out _ R7).mono ?_); rintro e w8 ⟨rfl, b8⟩; have X8 := X7.belo b8; have Y8 := c3s X8; have B8 := bl_go B7 b8)
              | (go_at_call 17; (with_reducible refine (CC.out _ R6).mono ?_); rintro e w7 ⟨rfl, b7⟩; have X7 := X6.belo b7; have Y7 := c3s X7; have R7 := R6.belo b7; have B7 := bl_go B6 b7))
          go_wp2
          go_ret
          exact ⟨rfl, B8⟩
    | false =>
      have hMe := laidZ_f hv
      rw [hMe] at cI cS
      clear hMe
      have CI := Lib.hid cI
      have CS := Lib.hid cS
      clear cI cS
      obtain ⟨x0, x1, x2⟩ := id X2
      refine (CI.out _ R2).mono ?_
      rintro e w3 ⟨rfl, b3⟩
      have R3 := R2.belo b3
      have B3 := bl_go B2 b3
      have X3 := X2.belo b3
      clear R2 B2 X2 b3 x0 x1 x2
      obtain ⟨x0, x1, x2⟩ := id X3
      go_wp2_with fail
      refine (CS.out _ R3).mono ?_
      rintro e w4 ⟨rfl, b4⟩
      have B4 := bl_go B3 b4
      clear x0 x1 x2
      go_wp2_with (go_at_call 13; refine (alive_any _).mono ?_; rintro e w7 ⟨rfl, b7⟩)
      go_ret
      exact ⟨rfl, bl_go B4 b7⟩
  · have hg : decide ((1048576 : Int) < (bs.length : Int)) = true := by simp; omega
    go_enter Try.func3, Try.ntmps3
    go_wp2
    go_ret
    exact ⟨rfl, Below.refl _ _⟩
end Go.Proofs.Ytnciemnlnijhfaa


/- FnExactFillsAll: joined from MarkSS, FlsS, FlsT, MarkII, Cellss2, MarkE, EFillsAll. -/
import Derived.Test.YtejkbjcmndnfeaaGreatFormI
import Derived.Test.YtejkbjcmndnfeaaGreatMFa
import Derived.Test.YtejkbjcmndnfeaaGreatCellMark
import Derived.Deep.RegionHeld3
import Derived.Test.YtejkbjcmndnfeaaGreatMFb
import Derived.Test.YtejkbjcmndnfeaaGreatEq
import Derived.Test.YtejkbjcmndnfeaaGreatCellss
import Derived.Test.YtejkbjcmndnfeaaGreatApp
/- Lists of lists of cells: equal; marks in each of their own. -/
namespace Go.Proofs.YtejkbjcmndnfeaaGreat
open Go.RowKit

/-- a slice that reads as lists of cells -/
def RdSN (w : World) (A : Option Addr) (pss : List (List Ce)) : Prop :=
  ∀ k (h : k < pss.length), ∃ (b off : Nat) (A' : Option Addr) (c' : Nat), A = some ⟨b, off, none⟩ ∧ w.cell? ⟨b, off + k, none⟩ = some (.slice A' pss[k].length c') ∧ pss[k].length ≤ maxLen ∧ RdC w A' pss[k]
theorem RdSN.belo {w w' : World} {A : Option Addr} {pss : List (List Ce)} (h : RdSN w A pss) (hb : Below w.heap.size w w') : RdSN w' A pss := fun k hk => by
  obtain ⟨b, off, A', c', e, h1, h3, h4⟩ := h k hk
  exact ⟨b, off, A', c', e, ((bcell hb).1 _ _ (World.block_lt_of_cell? w _ h1)).trans h1, h3, h4.belo hb⟩
theorem rd_cellE {w : World} {A : Option Addr} {xs : List Value} (h : Rd w A xs) {k : Nat} {x : Value} (hk : xs[k]? = some x) : ∃ b off, A = some ⟨b, off, none⟩ ∧ w.cell? ⟨b, off + k, none⟩ = some x := by
  obtain ⟨ad, e, hc⟩ := h (by rintro rfl; simp at hk)
  have h0 : ∃ y, xs[0]? = some y := by
    cases xs with
    | nil => simp at hk
    | cons a l => exact ⟨a, rfl⟩
  obtain ⟨y, hy⟩ := h0
  have h1 := hc 0 _ hy
  rw [add_zero'] at h1
  have hs := World.cell?_spot h1
  obtain ⟨b, off, spot⟩ := ad
  simp only at hs
  subst hs
  have h2 := hc k _ hk
  rw [add_off] at h2
  exact ⟨b, off, e, h2⟩
theorem RdSN.ofR {w : World} {A : Option Addr} {xs : List Value} {pss : List (List Ce)} (hr : Rd w A xs) (h : HeadsR w xs pss) : RdSN w A pss := fun k hk => by
  obtain ⟨B, c', h1, -, h3, h4⟩ := h.2 k hk
  obtain ⟨b, off, e, hc⟩ := rd_cellE hr h1
  exact ⟨b, off, B, c', e, hc, by unfold maxLen; omega, h4⟩
theorem RdSN.ofN {w : World} {A : Option Addr} {xs : List Value} {pss : List (List Ce)} (hr : Rd w A xs) (h : HeadsN w xs pss) : RdSN w A pss := fun k hk => by
  obtain ⟨B, c', h1, h3, h4⟩ := h.2 k hk
  obtain ⟨b, off, e, hc⟩ := rd_cellE hr h1
  exact ⟨b, off, B, c', e, hc, by unfold maxLen; omega, h4⟩
set_option maxHeartbeats 2000000 in
theorem eqCellSN_t (A A' : Option Addr) (c c' : Nat) (pss : List (List Ce)) (w : World) (hr : RdSN w A pss) (hr' : RdSN w A' pss) (hn : pss.length ≤ maxLen) :
    Calls Tryz.prog 25 #[.slice A pss.length c, .slice A' pss.length c'] w fun e w' => e = .returned (.bool true) ∧ Below w.heap.size w w' := by
  unfold maxLen at hn
  go_enter Tryz.func25, Tryz.ntmps25
  go_wp2_with fail
  go_loopw [5] (fun i wr => ∃ k : Nat, k ≤ pss.length ∧ i = .int .i64 k ∧ Below w.heap.size w wr) (fun i _ => pss.length - (intOf i).toNat)
  case atStart => exact ⟨0, Nat.zero_le _, rfl, Below.refl _ _⟩
  case round =>
    obtain ⟨k, hk, rfl, hbel⟩ := hrel
    by_cases hlt : k < pss.length
    · obtain ⟨b, off, A1, c1, rfl, h1, h3, h4⟩ := (hr.belo hbel) k hlt
      obtain ⟨g, goff, A2, c2, rfl, k1, -, k4⟩ := (hr'.belo hbel) k hlt
      generalize pss[k] = ps at h1 h3 h4 k1 k4
      have gs := World.block_lt_of_cell? wr _ h1
      have gt := World.block_lt_of_cell? wr _ k1
      simp only at gs gt
      have L0 : ∀ z : BW wr, z.wo.cell? ⟨b, off + k, none⟩ = some (.slice A1 ps.length c1) := fun z => z.cell gs h1
      have L1 : ∀ z : BW wr, z.wo.cell? ⟨g, goff + k, none⟩ = some (.slice A2 ps.length c2) := fun z => z.cell gt k1
      go_wp2_with fail
      (refine region_bw (by kernel_rfl) (by kernel_rfl) ?_; (repeat (first | go_big_quiet_skip | (go_big_quiet_want; go_big_quiet_op; first | go_big_quiet_on | (refine ⟨.bool true, fun zz => ?_, ?_⟩; (go_at_call 86; exact zz.on (eqCellS_t _ _ _ _ ps _ (h4.belo zz.ok) (k4.belo zz.ok) h3)); go_big_quiet_on)))); refine wpQuiet_nil ?_; intro wz hw'; obtain ⟨zw, hw''⟩ := hw'; subst hw'')
      go_wp2
      go_roundw
      case rel => exact ⟨k + 1, by omega, by go_num, bl_go hbel zw.ok⟩
      case measure => simp [intOf]; omega
    · go_wp2_with fail
      go_ret
      exact ⟨rfl, hbel⟩
/-! ### Rows that may be written, each in a block of its own -/
def RowsW (w : World) (lo : Nat) (A : Option Addr) (xs : List Value) (R : List (List Value)) : Prop :=
  xs.length = R.length ∧ ∀ k (h : k < R.length), ∃ gk nk, xs[k]? = some (.slice (some ⟨gk, 0, none⟩) nk nk) ∧ R[k].length = nk * 2 ∧ Wr w lo 89 (some ⟨gk, 0, none⟩) R[k] ∧ (∀ ad, A = some ad → ad.block ≠ gk) ∧ gk < w.heap.size ∧ ∀ j, j < k → ∀ gj n c, xs[j]? = some (.slice (some ⟨gj, 0, none⟩) n c) → gj < gk
theorem RowsW.belo {w w' : World} {lo : Nat} {A : Option Addr} {xs : List Value} {R : List (List Value)} (h : RowsW w lo A xs R) (hb : Below w.heap.size w w') : RowsW w' lo A xs R :=
  ⟨h.1, fun k hk => by
    obtain ⟨gk, nk, a1, a2, a3, a4, a5, a6⟩ := h.2 k hk
    exact ⟨gk, nk, a1, a2, a3.belo hb, a4, Nat.lt_of_lt_of_le a5 hb.size, a6⟩⟩
theorem RowsW.elder {w w' : World} {lo : Nat} {A A' : Option Addr} {xs : List Value} {R : List (List Value)} (h : RowsW w lo A xs R) (hg : w.grownBy w' (A'.map (·.block))) (hA : ∀ ad, A' = some ad → ad.block < lo) : RowsW w' lo A xs R :=
  ⟨h.1, fun k hk => by
    obtain ⟨gk, nk, a1, a2, a3, a4, a5, a6⟩ := h.2 k hk
    exact ⟨gk, nk, a1, a2, a3.elder hg hA, a4, Nat.lt_of_lt_of_le a5 hg.size, a6⟩⟩
theorem RowsW.of {w : World} {lo : Nat} {A : Option Addr} {xs : List Value} {F : List (List Ce)} (hl : xs.length = F.length) (h : Fresh w lo F.length A xs F) : RowsW w lo A xs (F.map cellsV) :=
  ⟨by rw [List.length_map]; exact hl, fun k hk => by
    have hkF : k < F.length := by simpa using hk
    obtain ⟨gk, a1, a2, a3, a4, a5⟩ := h k hkF hkF
    rw [List.getElem_map]
    exact ⟨gk, _, a1, cellsV_len _, a2, a3, a4, a5⟩⟩
theorem RowsW.mark {w w' : World} {lo i gi ni : Nat} {A : Option Addr} {xs : List Value} {R : List (List Value)} (h : RowsW w lo A xs R) (hi : xs[i]? = some (.slice (some ⟨gi, 0, none⟩) ni ni)) {r : List Value} (hr : r.length = ni * 2) (hw : Wr w' lo 89 (some ⟨gi, 0, none⟩) r)
    (hg : w.grownBy w' (some gi)) : RowsW w' lo A xs (R.set i r) :=
  ⟨by rw [List.length_set]; exact h.1, fun k hk => by
    rw [List.length_set] at hk
    obtain ⟨gk, nk, a1, a2, a3, a4, a5, a6⟩ := h.2 k hk
    rw [List.getElem_set]
    by_cases hik : i = k
    · subst hik
      rw [hi] at a1
      injection a1 with a1
      injection a1 with e1 e2 e3
      injection e1 with e1
      injection e1 with e1
      subst e1; subst e2
      rw [if_pos rfl]
      exact ⟨gi, ni, hi, hr, hw, a4, Nat.lt_of_lt_of_le a5 hg.size, a6⟩
    · rw [if_neg hik]
      have hne : gk ≠ gi := by
        rcases Nat.lt_or_ge i k with h1 | h1
        · have := a6 i h1 _ _ _ hi; omega
        · have hil : i < R.length := by
            have := h.1
            rcases Nat.lt_or_ge i xs.length with h2 | h2
            · omega
            · rw [List.getElem?_eq_none h2] at hi; cases hi
          obtain ⟨gi', ni', b1, -, -, -, -, b6⟩ := h.2 i hil
          rw [hi] at b1
          injection b1 with b1
          injection b1 with e1 e2 e3
          injection e1 with e1
          injection e1 with e1
          subst e1
          have := b6 k (by omega) _ _ _ a1
          omega
      exact ⟨gk, nk, a1, a2, a3.keep (fun g e hlt => hg.block g hlt (fun e2 => hne (by injection e with e; injection e with e; injection e2 with e2; omega))), a4, Nat.lt_of_lt_of_le a5 hg.size, a6⟩⟩
/-- all rows marked, one behind the other -/
def mrk : Int → List (List Value) → List (List Value)
  | _, [] => []
  | k, r :: R => (marks k r.length).map (.int .i64) :: mrk (k + r.length) R
def totR : List (List Value) → Nat
  | [] => 0
  | r :: R => r.length + totR R
theorem totR_take (R : List (List Value)) : ∀ (i : Nat) (h : i < R.length), totR (R.take (i + 1)) = totR (R.take i) + R[i].length := by
  induction R with
  | nil => intro i h; simp at h
  | cons r R ih =>
    intro i h
    cases i with
    | zero => simp [totR]
    | succ i =>
      have := ih i (by simpa using h)
      simp only [List.take_succ_cons, totR, List.getElem_cons_succ]
      omega
theorem totR_le (R : List (List Value)) : ∀ i, totR (R.take i) ≤ totR R := by
  induction R with
  | nil => intro i; simp [totR]
  | cons r R ih =>
    intro i
    cases i with
    | zero => simp [totR]
    | succ i => have := ih i; simp only [List.take_succ_cons, totR]; omega
theorem tot_le (n : Nat) : ∀ (F : List (List Ce)), (∀ x ∈ F, x.length ≤ n) → totR (F.map cellsV) ≤ F.length * (n * 2)
  | [], _ => by simp [totR]
  | a :: F, h => by
    have ih := tot_le n F (fun x hx => h x (by simp [hx]))
    have ha := h a (by simp)
    rw [List.map_cons, totR, cellsV_len, List.length_cons, Nat.add_mul]
    have : a.length * 2 ≤ n * 2 := by omega
    omega
theorem mrk_len (k : Int) (R : List (List Value)) : (mrk k R).length = R.length := by
  induction R generalizing k with
  | nil => rfl
  | cons r R ih => simp [mrk, ih]
theorem mrk_get (R : List (List Value)) : ∀ (k : Int) (i : Nat) (h : i < R.length) (h2 : i < (mrk k R).length), (mrk k R)[i] = (marks (k + totR (R.take i)) R[i].length).map (.int .i64) := by
  induction R with
  | nil => intro k i h; simp at h
  | cons r R ih =>
    intro k i h h2
    cases i with
    | zero => simp [mrk, totR]
    | succ i =>
      have := ih (k + r.length) i (by simpa using h) (by simpa [mrk] using h2)
      simp only [mrk, List.getElem_cons_succ, List.take_succ_cons, totR]
      rw [this]
      congr 2
      omega
/-- the first i marked -/
def mrkTo (k : Int) (R : List (List Value)) (i : Nat) : List (List Value) := mrk k (R.take i) ++ R.drop i
theorem mrkTo_zero (k : Int) (R : List (List Value)) : mrkTo k R 0 = R := by simp [mrkTo, mrk]
theorem mrkTo_all (k : Int) (R : List (List Value)) : mrkTo k R R.length = mrk k R := by simp [mrkTo]
theorem mrkTo_len (k : Int) (R : List (List Value)) (i : Nat) (h : i ≤ R.length) : (mrkTo k R i).length = R.length := by
  unfold mrkTo; rw [List.length_append, mrk_len, List.length_take, List.length_drop]; omega
theorem mrk_snoc (k : Int) (R : List (List Value)) (r : List Value) : mrk k (R ++ [r]) = mrk k R ++ [(marks (k + totR R) r.length).map (.int .i64)] := by
  induction R generalizing k with
  | nil => simp [mrk, totR]
  | cons a R ih =>
    show _ :: mrk (k + a.length) (R ++ [r]) = _ :: mrk (k + a.length) R ++ _
    rw [ih]
    simp only [totR, List.cons_append]
    congr 5
    omega
theorem mrkTo_step (k : Int) (R : List (List Value)) (i : Nat) (h : i < R.length) : (mrkTo k R i).set i ((marks (k + totR (R.take i)) R[i].length).map (.int .i64)) = mrkTo k R (i + 1) := by
  unfold mrkTo
  have h1 : (mrk k (R.take i)).length = i := by rw [mrk_len, List.length_take]; omega
  rw [List.set_append_right _ _ (by omega), h1, Nat.sub_self, List.drop_eq_getElem_cons h, List.set_cons_zero, take_one_more R i h, mrk_snoc, List.append_assoc]
  rfl
theorem mrkTo_at (k : Int) (R : List (List Value)) (i : Nat) (h : i < R.length) (h2 : i < (mrkTo k R i).length) : (mrkTo k R i)[i] = R[i] := by
  have h3 : (mrkTo k R i)[i]? = R[i]? := by
    unfold mrkTo
    have h1 : (mrk k (R.take i)).length = i := by rw [mrk_len, List.length_take]; omega
    rw [List.getElem?_append_right (by omega), h1, Nat.sub_self, List.getElem?_drop]
    simp
  rw [List.getElem?_eq_getElem h2, List.getElem?_eq_getElem h] at h3
  injection h3
/-- only what lies from lo on is written -/
def Above (lo : Nat) (w w' : World) : Prop := ∀ B w0, B ≤ lo → B ≤ w.heap.size → Below B w0 w → Below B w0 w'
set_option maxHeartbeats 2000000 in
theorem markCellSS_any (A : Option Addr) (n c : Nat) (xs : List Value) (R : List (List Value)) (k : Int) (w : World) (lo : Nat) (h : RowsW w lo A xs R) (hr : Rd w A xs) (hx : R.length = n) (ht : totR R ≤ 1000000) (hn : n ≤ 1000000) (k0 : 0 ≤ k) (k1 : k ≤ 1000000000) :
    Calls Tryz.prog 27 #[.slice A n c, .int .i64 k] w fun e w' => e = .returned (.int .i64 (k + totR R)) ∧ RowsW w' lo A xs (mrk k R) ∧ Rd w' A xs ∧ Above lo w w' ∧ w.heap.size ≤ w'.heap.size := by
  have HX := Lib.hid hx
  clear hx
  go_enter Tryz.func27, Tryz.ntmps27
  go_wp2
  go_loopw [1, 5] (fun v i wr => ∃ j : Nat, j ≤ n ∧ i = .int .i64 j ∧ v = .int .i64 (k + totR (R.take j)) ∧ RowsW wr lo A xs (mrkTo k R j) ∧ Rd wr A xs ∧ Above lo w wr ∧ w.heap.size ≤ wr.heap.size) (fun _ i _ => n - (intOf i).toNat)
  case atStart => exact ⟨0, Nat.zero_le _, rfl, by simp [totR], by rw [mrkTo_zero]; exact h, hr, fun B w0 _ _ hb => hb, Nat.le_refl _⟩
  case round =>
    obtain ⟨j, hj, rfl, rfl, hw, hrd, hab, hsz⟩ := hrel
    by_cases hlt : j < n
    · have hjR : j < R.length := by rw [HX.out]; exact hlt
      have hjM : j < (mrkTo k R j).length := by rw [mrkTo_len k R j (by omega)]; exact hjR
      obtain ⟨gk, nk, a1, a2, a3, a4, a5, -⟩ := hw.2 j hjM
      obtain ⟨b, off, rfl, hc⟩ := rd_cellE hrd a1
      have HA1 := Lib.hid a1
      have hle := totR_le R (j + 1)
      have HT := Lib.hid (totR_take R j hjR)
      rw [HT.out] at hle
      have HM := Lib.hid (mrkTo_at k R j hjR hjM)
      rw [HM.out] at a2 a3
      have HS := Lib.hid (mrkTo_step k R j hjR)
      rw [a2] at hle
      have HA2 := Lib.hid a2
      have HW := Lib.hid hw
      have HRD := Lib.hid hrd
      have HAB := Lib.hid hab
      have hne : (⟨b, off, none⟩ : Addr).block ≠ gk := a4 _ rfl
      have CC := Lib.hid (markCellS_any (some ⟨gk, 0, none⟩) nk nk R[j] (k + totR (R.take j)) wr lo a3 a2 (by omega) (by omega) (by omega))
      clear a1 a2 a3 a4 hw hrd hab
      generalize totR (R.take j) = t at hle CC HT HS
      go_wp2_with (go_at_call 88; refine CC.out.mono ?_; rintro e w5 ⟨rfl, m1, m2⟩)
      have hsz5 := m2.size
      go_roundw
      case rel =>
        refine ⟨j + 1, by omega, by go_num, ?_, ?_, ?_, ?_, by omega⟩
        · rw [HT.out, HA2.out]; congr 1; omega
        · rw [← HS.out, HA2.out]
          exact HW.out.mark HA1.out (by rw [List.length_map, marks_len]) m1 m2
        · exact Rd.grownBelow HRD.out m2 (fun _ ad ha e => by injection ha with ha; subst ha; exact hne (by simpa using e))
        · intro B w0 hB hBs hb
          refine (HAB.out B w0 hB hBs hb).grown m2 (by omega) (fun q hq => ?_)
          have h2 := m1.1 _ rfl
          simp at hq h2
          omega
      case measure => simp [intOf]; omega
    · have hjn : j = n := by omega
      subst hjn
      have HW : Hid (RowsW wr lo A xs (mrk k R)) := by
        show RowsW _ _ _ _ _
        have := hw
        rw [← HX.out, mrkTo_all] at this
        exact this
      have HTT : Hid (totR (R.take j) = totR R) := by show _ = _; rw [← HX.out, List.take_length]
      clear hw
      go_wp2
      go_ret
      exact ⟨ret_i (by rw [HTT.out]), HW.out, hrd, hab, hsz⟩
end Go.Proofs.YtejkbjcmndnfeaaGreat

/- Contract: the reference's search for fills. -/
namespace Go.Proofs.YtejkbjcmndnfeaaGreat
open Go.RowKit Go.Sort

/-- the search from some on is right -/
def FsOk (W T : Int) (n c c' : Nat) (bs : List Bool) (pss : List (List Ce)) (A A' : Option Addr) (m : Nat) : Prop :=
  ∀ (w : World) (Af : Option Addr) (cf u : Nat) (fill : List Int) (used : List Bool), Rd w A (bs.map .bool) → RdSS w A' pss → Rd w Af (fill.map (.int .i64)) → n ≤ cf → StF bs pss.length fill used → unN used ≤ m → u = mskN used →
    Calls Tryz.prog 82 #[.agg #[.int .i64 W, .int .i64 T, .slice A n c], .slice A' pss.length c', .slice Af n cf, .int .i64 u] w (FsR (fillsN W T bs pss true m fill used) Af w)
set_option maxRecDepth 100000 in
set_option maxHeartbeats 8000000 in
theorem fs_step {W T : Int} {n c c' : Nat} {bs : List Bool} {pss : List (List Ce)} {A A' : Option Addr} {m : Nat} (hf : FldF W T bs.length) (hn : bs.length = n) (hp : ∀ k, k < pss.length → PieceOk (pss.getD k [])) (hP6 : pss.length ≤ 6) (hm6 : m ≤ 6)
    (IH : ∀ m', m = m' + 1 → FsOk W T n c c' bs pss A A' m') : FsOk W T n c c' bs pss A A' m := by
  intro w Af cf u fill used hr hr' hrF hcf St hu hm
  have n36 : n ≤ 36 := by have := hf.bd; omega
  have n1 : 1 ≤ n := by
    have h1 := Int.mul_le_mul hf.w1 hf.t1 (by omega) (by have := hf.w1; omega)
    have := hf.len
    omega
  have X0 := C3.new w (.int .i64 W) (.int .i64 T) (.slice A n c) 25
  have B0 := bl_alloc (Below.refl w.heap.size w) (.cells #[.int .i64 W, .int .i64 T, .slice A n c] 25)
  have zs : (w.alloc (.cells #[.int .i64 W, .int .i64 T, .slice A n c] 25)).heap.size = w.heap.size + 1 := by simp
  obtain ⟨W0, hW0⟩ : ∃ W0, w.alloc (.cells #[.int .i64 W, .int .i64 T, .slice A n c] 25) = W0 := ⟨_, rfl⟩
  rw [hW0] at X0 B0 zs
  have hown0 : (W0.alloc (.cells #[] 27)).ownsRow W0.heap.size 27 1 (.slice (some ⟨W0.heap.size, 0, none⟩) 0 0) 0 [] := World.ownsRow_lit _ #[] 0 (Nat.le_refl _) (by unfold maxLen; omega) (by simp)
  have B1 := bl_alloc (Below.refl W0.heap.size W0) (.cells #[] 27)
  have hu63 : u ≤ 63 := by
    have h1 := mskN_lt used
    rw [St.ulen] at h1
    have h2 : 2 ^ pss.length ≤ 2 ^ 6 := Nat.pow_le_pow_right (by omega) hP6
    rw [hm]; omega
  have O1 : OutF W0 Af (.slice (some ⟨W0.heap.size, 0, none⟩) 0 0) [] [] (W0.alloc (.cells #[] 27)) :=
    ⟨⟨⟨_, _, rfl, hown0⟩, HeadsI.nil _, fun _ h => absurd h AtL.nil⟩, fun _ h => absurd h AtL.nil, B1⟩
  have hmx := fills_max W T bs pss true hP6 hm6
  have HN := Lib.hid hn
  have HFL := Lib.hid (show fill.length = n by rw [St.len, hn])
  have HIH := Lib.hid IH
  have HU := Lib.hid hu
  have HST := Lib.hid St
  have HF := Lib.hid hf
  have HP := Lib.hid hp
  have HM := Lib.hid hm
  have HMX := Lib.hid (show (fillsN W T bs pss true m fill used).length ≤ 900000000000 by have := hmx fill used; omega)
  clear hn IH hu hp hown0 hm hmx
  have hrW := hr.belo B0
  have hrW' := hr'.belo B0
  have hrFW := hrF.belo B0
  have hAf := hrF
  have HAF := Lib.hid (fun ad (e : Af = some ad) => show ad.block < w.heap.size from hrF.lt e (by intro e2; have := congrArg List.length e2; rw [List.length_map, HFL.out] at this; simp at this; omega))
  have HZS := Lib.hid zs
  have HB0 := Lib.hid B0
  clear hr hr' hrF zs B0
  go_enter Tryz.func82, Tryz.ntmps82
  go_wp2_with fail
  clear hW0
  obtain ⟨W1, hW1⟩ : ∃ W1, W0.alloc (.cells #[] 27) = W1 := ⟨_, rfl⟩
  rw [hW1] at O1 B1 ⊢
  clear hW1
  have hrF1 := hrFW.belo B1
  have hr1 := hrW.belo B1
  obtain ⟨r0, r1, r2⟩ := X0.belo B1
  go_loop [10] (fun v => ∃ k : Nat, k ≤ n ∧ v = .int .i64 k ∧ Hid (∀ j, j < k → freK bs fill j = false)) (fun v => n - (intOf v).toNat)
  case atStart => exact ⟨0, Nat.zero_le _, rfl, fun j h => by omega⟩
  case round =>
    obtain ⟨k, hk, rfl, HKF⟩ := hrel
    by_cases hlt : k < n
    · have kb : k < bs.length := by have := HN.out; omega
      have kf : k < fill.length := by have := HFL.out; omega
      obtain ⟨b, off, rfl, cb⟩ := hr1.atEM kb
      obtain ⟨bf, offf, rfl, cf9⟩ := hrF1.atEM kf
      have kI : (k : Int) < (n : Int) := by omega
      have HG1 := Lib.hid (show bs.getD k false = bs[k] by rw [List.getD_eq_getElem?_getD, List.getElem?_eq_getElem kb]; rfl)
      have HG2 := Lib.hid (show fill.getD k 0 = fill[k] by rw [List.getD_eq_getElem?_getD, List.getElem?_eq_getElem kf]; rfl)
      obtain ⟨bb, hbb⟩ : ∃ bb, bs[k] = bb := ⟨_, rfl⟩
      obtain ⟨ff, hff⟩ : ∃ ff, fill[k] = ff := ⟨_, rfl⟩
      rw [hbb] at cb HG1
      rw [hff] at cf9 HG2
      clear hbb hff
      cases bb with
      | false =>
        have HF := Lib.hid (show freK bs fill k = false by unfold freK; rw [HG1.out]; rfl)
        go_wp2_with fail
        go_round
        case rel =>
          refine ⟨k + 1, by omega, by go_num, fun j hj => ?_⟩
          rcases Nat.lt_or_ge j k with h | h
          · exact HKF.out j h
          · obtain rfl : j = k := by omega
            exact HF.out
        case measure => simp [intOf]; omega
      | true =>
        cases hge : decide (0 ≤ ff) with
        | true =>
          have hge' : 0 ≤ ff := of_decide_eq_true hge
          have HF := Lib.hid (show freK bs fill k = false by unfold freK; rw [HG1.out, HG2.out, decide_eq_false (by omega)]; rfl)
          go_wp2_with fail
          go_round
          case rel =>
            refine ⟨k + 1, by omega, by go_num, fun j hj => ?_⟩
            rcases Nat.lt_or_ge j k with h | h
            · exact HKF.out j h
            · obtain rfl : j = k := by omega
              exact HF.out
          case measure => simp [intOf]; omega
        | false =>
          have hge' : ¬ 0 ≤ ff := of_decide_eq_false hge
          have HFT := show freK bs fill k = true by unfold freK; rw [HG1.out, HG2.out, decide_eq_true (by omega)]; rfl
          have HAT := Lib.hid (atF_eq (bs := bs) (fill := fill) (c := k) (by omega) HKF.out (fun _ => HFT))
          have hkn : ((k : Int) == (n : Int)) = false := by rw [beq_eq_false_iff_ne]; omega
          have HBR := Lib.hid (fills_branch (W := W) (T := T) (bs := bs) (pss := pss) (chk := true) (m := m) (fill := fill) (used := used) (by rw [HAT.out, HN.out]; exact hlt) HU.out)
          clear HFT hf
          go_wp2_with fail
          clear r0 r1 r2 cb cf9 hge hge' hrF1 hr1 B1
          go_loopw [9, 11] (fun out i wr => LpF (fun k2 => k2 ≤ pss.length ∧ ∃ v2 xs2, v2 = out ∧ OutF W0 (some ⟨bf, offf, none⟩) v2 xs2 ((List.range k2).flatMap (pcF W T bs pss true m fill used)) wr) i) (fun _ i _ => pss.length - (intOf i).toNat)
          case atStart => exact ⟨0, rfl, Nat.zero_le _, _, [], rfl, O1⟩
          case round =>
            clear O1
            obtain ⟨k2, rfl, hk2, out2, xs2, hout2, O2⟩ := hrel
            subst hout2
            obtain ⟨wa, hwa⟩ : ∃ wa : World, wa = wr := ⟨_, rfl⟩
            subst hwa
            by_cases hlt2 : k2 < pss.length
            · have hI2 : (k2 : Int) < (pss.length : Int) := by omega
              have O2b := O2.ok
              obtain ⟨b2, o2, A2, c2, eA, cA2, hA2c, hA2m, RA2⟩ := (hrW'.belo O2b) k2 hlt2
              subst eA
              have k2u : k2 < used.length := by rw [HST.out.ulen]; exact hlt2
              have HUG := Lib.hid (show used.getD k2 true = used[k2] by rw [List.getD_eq_getElem?_getD, List.getElem?_eq_getElem k2u]; rfl)
              have HUG2 := Lib.hid (show used.getD k2 false = used[k2] by rw [List.getD_eq_getElem?_getD, List.getElem?_eq_getElem k2u]; rfl)
              have HPD := Lib.hid (show pss.getD k2 [] = pss[k2] by rw [List.getD_eq_getElem?_getD, List.getElem?_eq_getElem hlt2]; rfl)
              have hpb : pieceB pss[k2] = true := by have := pieceB_t (HP.out k2 hlt2); rw [HPD.out] at this; exact this
              have CPF := Lib.hid (fun (z : World) (R : RdC z A2 pss[k2]) => sPieceForms_n A2 c2 pss[k2] z R hA2m hA2c hpb)
              obtain ⟨ps, hps⟩ : ∃ ps, pss[k2] = ps := ⟨_, rfl⟩
              rw [hps] at cA2 RA2 HPD CPF
              obtain ⟨fs, hfs⟩ : ∃ fs, formsV ps = fs := ⟨_, rfl⟩
              rw [hfs] at CPF
              have HFS := Lib.hid (show formsV (pss.getD k2 []) = fs by rw [HPD.out, hfs])
              have hf8 : fs.length ≤ 8 := by rw [← hfs]; exact formsV_len_le _
              have HOWN := Lib.hid (fun q (e : out2.ownBlock = some q) => O2.gr.own.lt q e)
              clear hps hfs hpb hA2m hA2c
              go_wp2_with fail
              refine (CPF.out _ RA2).mono ?_
              rintro e w5 ⟨b5, c5, xs5, rfl, hc5, R5, H5, B5, nb5, nx5⟩
              have O5 := O2.belo B5
              have F5 : FrmR wa.heap.size w5 out2 w5 := ⟨fun _ _ _ => rfl, fun q hq => .inl (HOWN.out q hq).2, Nat.le_refl _⟩
              have H5x := Lib.hid H5
              have HR5 := Lib.hid R5
              have HN5 := Lib.hid nx5
              clear cA2 RA2 CPF O2 O2b H5 R5 nx5
              have HBIT := Lib.hid (msk_bit (k := k2) HM.out)
              cases huu : used[k2] with
              | true =>
                have HPC := Lib.hid (show pcF W T bs pss true m fill used k2 = [] by unfold pcF; rw [HUG.out, huu]; rfl)
                go_wp2_with fail
                go_loop [9, 13] (fun o i => out2 = o ∧ i = .int .i64 0) (fun _ _ => 0)
                case atStart => exact ⟨rfl, rfl⟩
                case round =>
                  obtain ⟨rfl, rfl⟩ := hrel
                  by_cases hf0 : 0 < fs.length
                  · have hI0 : (0 : Int) < (fs.length : Int) := by omega
                    have hbit := HBIT.out.trans (by rw [HUG2.out, huu]; rfl : (!used.getD k2 false) = false)
                    go_wp2_with fail
                    go_roundw
                    case rel => exact ⟨k2 + 1, by go_num, by omega, _, xs2, rfl, by rw [flat_range, HPC.out, List.append_nil]; exact O5⟩
                    case measure => simp [intOf]; omega
                  · have hI0 : fs.length = 0 := by omega
                    go_wp2_with fail
                    go_roundw
                    case rel => exact ⟨k2 + 1, by go_num, by omega, _, xs2, rfl, by rw [flat_range, HPC.out, List.append_nil]; exact O5⟩
                    case measure => simp [intOf]; omega
              | false =>
                have HPC := Lib.hid (show pcF W T bs pss true m fill used k2 = fs.flatMap (brF W T bs pss true m fill used k2) by unfold pcF; rw [HUG.out, huu, HFS.out]; rfl)
                have HPRE := Lib.hid (fun j (hj : j < fs.length) => by have := pre_le (W := W) (T := T) (bs := bs) (pss := pss) (chk := true) (m := m) (fill := fill) (used := used) (k := k2) (j := j) hlt2 (by rw [HUG.out, huu]) (by rw [HFS.out]; exact hj); simp only [HFS.out] at this; exact this)
                have HFO := Lib.hid (fun j (hj : j < fs.length) => by have := forms_of_form (ps := pss.getD k2 []) (x := fs[j]) (by rw [HFS.out]; exact List.getElem_mem hj); exact this)
                have HFE := Lib.hid (fun j (hj : j < fs.length) => form_edge (p := pss.getD k2 []) (x := fs[j]) (by rw [HFS.out]; exact List.getElem_mem hj))
                have hun := unN_set (used := used) (n := k2) (by rw [HUG.out, huu])
                obtain ⟨m', rfl⟩ : ∃ m', m = m' + 1 := ⟨m - 1, by have := HU.out; omega⟩
                have HUN := Lib.hid (show unN (used.set k2 true) ≤ m' by have := HU.out; omega)
                have HMS := Lib.hid (mskN_set used k2 k2u (by rw [HUG.out, huu]))
                have HUU := Lib.hid huu
                clear hun huu
                have O5' := O5
                go_wp2_with fail
                go_loopw [9, 13] (fun o i wr => LpF (fun j => j ≤ fs.length ∧ ∃ v3 xs3, v3 = o ∧ OutF W0 (some ⟨bf, offf, none⟩) v3 xs3 ((List.range k2).flatMap (pcF W T bs pss true (m' + 1) fill used) ++ (fs.take j).flatMap (brF W T bs pss true (m' + 1) fill used k2)) wr ∧ FrmR wa.heap.size w5 v3 wr) i) (fun _ i _ => fs.length - (intOf i).toNat)
                case atStart => exact ⟨0, rfl, Nat.zero_le _, out2, xs2, rfl, by simpa using O5', F5⟩
                case round =>
                  clear O5 O5' F5
                  obtain ⟨j, rfl, hj, v3, xs3, hv3, O6, F6⟩ := hrel
                  subst hv3
                  obtain ⟨wb, hwb⟩ : ∃ wb : World, wb = wr := ⟨_, rfl⟩
                  subst hwb
                  by_cases hltj : j < fs.length
                  · have hIj : (j : Int) < (fs.length : Int) := by omega
                    have hbit := HBIT.out.trans (by rw [HUG2.out, HUU.out]; rfl : (!used.getD k2 false) = true)
                    obtain ⟨Bk, ck, e5, hle7, RCk⟩ := H5x.out.2 j hltj
                    obtain ⟨b5', o5', eb, cb5⟩ := rd_cellE HR5.out e5
                    injection eb with eb
                    injection eb with eb1 eb2 eb3
                    subst eb1
                    subst eb2
                    rw [Nat.zero_add] at cb5
                    have hb5 : b5 < w5.heap.size := World.block_lt_of_cell? w5 _ cb5
                    have cbj := cellH (F6.blk b5 nb5 hb5) cb5
                    have hbl6 : b5 < wb.heap.size := Nat.lt_of_lt_of_le hb5 F6.size
                    have RCb : RdC wb Bk fs[j] := Rd.blk (show Rd w5 Bk (cellsV fs[j]) from RCk) (fun hne ad e => F6.blk ad.block (HN5.out ad fs[j].length ck (by rw [← e]; exact List.mem_of_getElem? e5)) (Rd.lt RCk e hne))
                    obtain ⟨-, hok⟩ := HFO.out j hltj
                    have hhd := form_head (HP.out k2 hlt2) (x := fs[j]) (by rw [HFS.out]; exact List.getElem_mem hltj)
                    have CP := Lib.hid (fun (z : World) (hb : Below wb.heap.size wb z) => sPut_any W T (some ⟨b, off, none⟩) (some ⟨bf, offf, none⟩) Bk c cf ck n k k2 bs fill fs[j] z ((hrW.belo O6.ok).belo hb) ((hrFW.belo O6.ok).belo hb) (RCb.belo hb) HF.out HN.out HFL.out hlt (by have := hok.1.2; omega) (fun q hq => by have := hok.2.1 q hq; omega) hhd hok.2.2.1)
                    have HTK := Lib.hid (flat_take fs (brF W T bs pss true (m' + 1) fill used k2) hltj)
                    have HPJ := Lib.hid (HPRE.out j hltj)
                    have HBR0 := Lib.hid (show brF W T bs pss true (m' + 1) fill used k2 fs[j] = if fitF W T bs fill k fs[j] = true then fillsN W T bs pss true m' (setF fill (plcL W k fs[j]) k2) (used.set k2 true) else [] by rw [← HAT.out]; rfl)
                    have HNX := Lib.hid (fun (h : fitF W T bs fill k fs[j] = true) => HST.out.next h hlt2)
                    obtain ⟨fm, hfm⟩ : ∃ fm, fs[j] = fm := ⟨_, rfl⟩
                    rw [hfm] at cbj CP HTK HPJ HBR0 HNX
                    have KS := Lib.hid (fun (z : World) (hb : Below wb.heap.size wb z) => show (z.cell? ⟨w.heap.size, 0, none⟩ = some (.int .i64 W) ∧ z.cell? ⟨w.heap.size, 1, none⟩ = some (.int .i64 T) ∧ z.cell? ⟨w.heap.size, 2, none⟩ = some (.slice (some ⟨b, off, none⟩) n c)) ∧ z.cell? ⟨b5, j, none⟩ = some (.slice Bk fm.length ck) from ⟨(X0.belo O6.ok).belo hb, cellB hb cbj⟩)
                    clear hfm e5 RCk cb5 RCb hok hhd
                    obtain ⟨⟨x0, x1, x2⟩, x3⟩ := KS.out _ (Below.refl wb.heap.size wb)
                    cases hfit : fitF W T bs fill k fm with
                    | false =>
                      rw [hfit] at CP
                      have HB0' := Lib.hid (show brF W T bs pss true (m' + 1) fill used k2 fm = [] by rw [HBR0.out, hfit]; rfl)
                      clear hfit
                      go_wp2_with fail
                      go_region_held3 (fun w' => (w'.cell? ⟨w.heap.size, 0, none⟩ = some (.int .i64 W) ∧ w'.cell? ⟨w.heap.size, 1, none⟩ = some (.int .i64 T) ∧ w'.cell? ⟨w.heap.size, 2, none⟩ = some (.slice (some ⟨b, off, none⟩) n c)) ∧ w'.cell? ⟨b5, j, none⟩ = some (.slice Bk fm.length ck))
                        (first | exact KS.out _ b7' | exact KS.out _ (Below.refl _ _) | exact KS.out _ (Below.refl _ _).drew)
                        ((go_at_call 133; refine (CP.out wb.drew (Below.refl wb.heap.size wb).drew).mono ?_; rintro e w7 ⟨-, hp2, b7⟩; have he := hp2 rfl; subst he; have b7' : Below wb.heap.size wb w7 := bl_go (Below.refl wb.heap.size wb).drew b7))
                      have O7 := O6.belo b7'
                      have F7 := F6.belo b7'
                      clear x0 x1 x2 x3 KS CP
                      go_wp2_with fail
                      go_roundw
                      case rel => exact ⟨j + 1, by go_num, by omega, v3, xs3, rfl, by rw [HTK.out, HB0'.out, List.append_nil]; exact O7, F7⟩
                      case measure => simp [intOf]; omega
                    | true =>
                      rw [hfit] at CP
                      have HB1' := Lib.hid (show brF W T bs pss true (m' + 1) fill used k2 fm = fillsN W T bs pss true m' (setF fill (plcL W k fm) k2) (used.set k2 true) by rw [HBR0.out, hfit]; rfl)
                      have HNX' := Lib.hid (HNX.out hfit)
                      clear hfit HNX
                      go_wp2_with fail
                      go_region_held3 (fun w' => (w'.cell? ⟨w.heap.size, 0, none⟩ = some (.int .i64 W) ∧ w'.cell? ⟨w.heap.size, 1, none⟩ = some (.int .i64 T) ∧ w'.cell? ⟨w.heap.size, 2, none⟩ = some (.slice (some ⟨b, off, none⟩) n c)) ∧ w'.cell? ⟨b5, j, none⟩ = some (.slice Bk fm.length ck))
                        (first | exact KS.out _ b7' | exact KS.out _ (Below.refl _ _) | exact KS.out _ (Below.refl _ _).drew)
                        ((go_at_call 133; refine (CP.out wb.drew (Below.refl wb.heap.size wb).drew).mono ?_; rintro e w7 ⟨hp1, -, b7⟩; obtain ⟨g, cc, he, hcc, Wg, hg⟩ := hp1 rfl; subst he; have b7' : Below wb.heap.size wb w7 := bl_go (Below.refl wb.heap.size wb).drew b7))
                      have O7 := O6.belo b7'
                      have F7 := F6.belo b7'
                      have hgb : wb.heap.size ≤ g := Wg.1 _ rfl
                      have HOW := Lib.hid (fun q (e : v3.ownBlock = some q) => (O6.gr.own.lt q e).2)
                      have hx3 := O6.gr.hd.1
                      have HXS := Lib.hid (show xs3.length + (fillsN W T bs pss true m' (setF fill (plcL W k fm) k2) (used.set k2 true)).length ≤ 1000000000000 by
                        have h1 := HPJ.out
                        have h2 := HMX.out
                        rw [HB1'.out] at h1
                        rw [HBR.out] at h2
                        rw [List.length_append] at hx3
                        omega)
                      obtain ⟨q2, hq2⟩ : ∃ q, 2 ^ k2 = q := ⟨_, rfl⟩
                      have hw2 := wrap2 (P := k2) (by omega)
                      rw [hq2] at hw2
                      have HQ2 := Lib.hid hq2
                      obtain ⟨w1', hq64⟩ := hw2
                      have w1'' : IntKind.i64.wrap ((2 : Int) ^ k2) = (q2 : Int) := (IntWalk.i64_left _).trans w1'
                      obtain ⟨w2', w2''⟩ := wsum hu63 hq64
                      have CF7 := Lib.hid (fun (z : World) (hb : Below w7.heap.size w7 z) => HIH.out m' rfl z (some ⟨g, 0, none⟩) cc (u + q2) _ (used.set k2 true) ((hrW.belo O7.ok).belo hb) ((hrW'.belo O7.ok).belo hb) (Wg.rd.belo hb) hcc HNX'.out HUN.out (by rw [HMS.out, HM.out, HQ2.out]))
                      have KS7 := Lib.hid (fun (z : World) (hb : Below w7.heap.size w7 z) => show z.cell? ⟨w.heap.size, 0, none⟩ = some (.int .i64 W) ∧ z.cell? ⟨w.heap.size, 1, none⟩ = some (.int .i64 T) ∧ z.cell? ⟨w.heap.size, 2, none⟩ = some (.slice (some ⟨b, off, none⟩) n c) from (X0.belo O7.ok).belo hb)
                      clear x0 x1 x2 x3 KS CP hq2 hx3
                      obtain ⟨x0, x1, x2⟩ := KS7.out _ (Below.refl w7.heap.size w7)
                      go_wp2_with fail
                      go_region_held3 (fun w' => w'.cell? ⟨w.heap.size, 0, none⟩ = some (.int .i64 W) ∧ w'.cell? ⟨w.heap.size, 1, none⟩ = some (.int .i64 T) ∧ w'.cell? ⟨w.heap.size, 2, none⟩ = some (.slice (some ⟨b, off, none⟩) n c))
                        (first | exact KS9.out | exact KS7.out _ b8' | exact KS7.out _ (Below.refl _ _) | exact KS7.out _ (Below.refl _ _).drew)
                        ((first
                          | (go_at_call 82; refine (CF7.out w7.drew (Below.refl w7.heap.size w7).drew).mono ?_; rintro e w8 ⟨A8, c8, xs8, he, hc8, hA8, R8, H8, T8, b8⟩; subst he; have b8' : Below w7.heap.size w7 w8 := bl_go (Below.refl w7.heap.size w7).drew b8; have O8 := O7.belo b8')
                          | (refine step_headsR _ (by rfl) _ _ (by rfl) W0.heap.size v3 xs3 (by rfl) O8.gr.own A8 _ c8 xs8 (by rfl) H8.1 hA8 R8 H8.cell HXS.out O8.ok.size ?_; intro v9 w9 o9 g9 e9; have O9 := O8.app H8 (fun q hq => by
                              obtain ⟨t1, t2⟩ := T8 q hq
                              have t0 := b7'.size
                              have t00 := O6.ok.size
                              have t5 : wb.heap.size ≤ q := by
                                rcases t2 with ⟨ad, t3, t4⟩ | t3
                                · injection t3 with t3
                                  rw [← t3] at t4
                                  simp only at t4
                                  omega
                                · have t3' : w7.heap.size ≤ q := t3
                                  omega
                              exact ⟨t1, fun e => by have := HOW.out q e; omega, .inr (by omega)⟩) o9 g9 e9; have KS9 := Lib.hid (show w9.cell? ⟨w.heap.size, 0, none⟩ = some (.int .i64 W) ∧ w9.cell? ⟨w.heap.size, 1, none⟩ = some (.int .i64 T) ∧ w9.cell? ⟨w.heap.size, 2, none⟩ = some (.slice (some ⟨b, off, none⟩) n c) from X0.belo O9.ok))))
                      have F9 := (F7.belo b8').app g9 e9
                      clear KS9 KS7 CF7 o9 g9 e9 x0 x1 x2 O8 O7 F7 R8 H8 T8
                      go_wp2_with fail
                      go_roundw
                      case rel => exact ⟨j + 1, by go_num, by omega, v9, xs3 ++ xs8, rfl, by rw [HTK.out, HB1'.out, ← List.append_assoc]; exact O9, F9⟩
                      case measure => simp [intOf]; omega
                  · obtain rfl : j = fs.length := by omega
                    go_wp2_with fail
                    go_roundw
                    case rel => exact ⟨k2 + 1, by go_num, by omega, v3, xs3, rfl, by rw [flat_range, HPC.out]; rw [List.take_length] at O6; exact O6⟩
                    case measure => simp [intOf]; omega
            · obtain rfl : k2 = pss.length := by omega
              obtain ⟨A9, c9, rfl, hres⟩ := O2.res
              have HRS := Lib.hid hres
              clear O2 hres
              go_wp2_with fail
              go_ret
              rw [HBR.out]
              exact HRS.out.lower HB0.out
    · obtain rfl : k = n := by omega
      have HAT := Lib.hid (show atF bs fill = bs.length from by
        rw [HN.out]
        exact atF_eq (by rw [HN.out]; exact Nat.le_refl _) HKF.out (fun h => by have := HN.out; omega))
      have HLF := Lib.hid (fills_leafT (W := W) (T := T) (pss := pss) (m := m) (used := used) HAT.out)
      have HTS := Lib.hid (msk_test HST.out.ulen hP6 HM.out)
      have O2 := O1.belo (bl_alloc (Below.refl W1.heap.size W1) (.cells #[.slice Af k cf] 27))
      have hs2 : W0.heap.size ≤ (W1.alloc (.cells #[.slice Af k cf] 27)).heap.size := O2.ok.size
      cases hall : used.all id with
      | true =>
        have hq := HTS.out.trans hall
        rw [hall] at HLF
        go_wp2_with (at_builtin; refine wpList_headsL _ rfl _ _ rfl W0.heap.size _ [] rfl O2.gr.own ⟨W1.heap.size, 0, none⟩ 1 1 [.slice Af k cf] rfl rfl (one_atL _ _ _) (one_oneL _ _ _) (by simp) hs2 ?_; intro v3 w3 o3 g3 e3)
        have O3 := O2.app (G := [fill]) (HeadsI.one ⟨_, _, by rw [HFL.out], by rw [HFL.out]; exact hcf, by rw [HFL.out]; omega, hrFW.belo O2.ok⟩) (fun b hb => by
          obtain ⟨ad, e1, e2⟩ := hb.one
          have h1 := HAF.out ad e1
          have h2 := O2.ok.size
          have h3 := HZS.out
          refine ⟨by omega, fun e => ?_, .inl ⟨ad, e1, e2⟩⟩
          have := (O2.gr.own.lt b e).1
          omega) o3 g3 e3
        obtain ⟨A9, c9, rfl, hres⟩ := O3.res
        go_ret
        rw [HLF.out]
        exact hres.lower HB0.out
      | false =>
        have hq := HTS.out.trans hall
        rw [hall] at HLF
        have HRS := Lib.hid (show FsR [] Af W0 (.returned (.slice (some ⟨W0.heap.size, 0, none⟩) 0 0)) W1 from by
          obtain ⟨A9, c9, e9, hres⟩ := O1.res
          injection e9 with e9 _ e9c
          subst e9
          subst e9c
          exact hres)
        clear O1 O2 hs2 hall
        go_wp2_with fail
        go_ret
        rw [HLF.out]
        exact HRS.out.lower HB0.out
end Go.Proofs.YtejkbjcmndnfeaaGreat

/- Contract: the reference's FillsAll. -/
namespace Go.Proofs.YtejkbjcmndnfeaaGreat
open Go.RowKit Go.Sort

theorem fs_all {W T : Int} {n c c' : Nat} {bs : List Bool} {pss : List (List Ce)} {A A' : Option Addr} (hf : FldF W T bs.length) (hn : bs.length = n) (hp : ∀ k, k < pss.length → PieceOk (pss.getD k [])) (hP6 : pss.length ≤ 6) :
    ∀ m, m ≤ 6 → FsOk W T n c c' bs pss A A' m
  | 0, h => fs_step hf hn hp hP6 h (fun m' h => by omega)
  | m + 1, h => fs_step hf hn hp hP6 h (fun m' h' => by obtain rfl : m = m' := by omega
                                                        exact fs_all hf hn hp hP6 m (by omega))
theorem FsR.ll {fs : List (List Int)} {Af : Option Addr} {w w' : World} {e : Ending} (h : FsR fs Af w e w') : NewLL fs w e w' := by
  obtain ⟨A, c, xs, h1, h2, -, h4, h5, -, h7⟩ := h
  exact ⟨A, c, h1, h2, ⟨xs, h4, h5⟩, h7⟩
theorem NewLL.lower {fs : List (List Int)} {w0 w w' : World} {e : Ending} (h : NewLL fs w0 e w') (hb : Below w.heap.size w w0) : NewLL fs w e w' := by
  obtain ⟨A, c, h1, h2, h3, h4⟩ := h
  exact ⟨A, c, h1, h2, h3, bl_go hb h4⟩
set_option maxRecDepth 100000 in
set_option maxHeartbeats 2000000 in
theorem sFillsAll_f (W T : Int) (A A' : Option Addr) (c c' : Nat) (bs : List Bool) (pss : List (List Ce)) (w : World) (hr : Rd w A (bs.map .bool)) (hn : bs.length ≤ maxLen) (hr' : RdSS w A' pss) (hn' : pss.length ≤ maxLen)
    (h : validB W T bs = false ∨ (decide (pss.length ≤ 6) && piecesB pss) = false) :
    Calls Tryz.prog 20 #[.agg #[.int .i64 W, .int .i64 T, .slice A bs.length c], .slice A' pss.length c'] w (NewLL [] w) := by
  have X0 := C3.new w (.int .i64 W) (.int .i64 T) (.slice A bs.length c) 25
  have Z0 := bl_alloc (Below.refl w.heap.size w) (.cells #[.int .i64 W, .int .i64 T, .slice A bs.length c] 25)
  obtain ⟨x0, x1, x2⟩ := id X0
  cases hv : validB W T bs with
  | false =>
    have HV := Lib.hid hv
    clear hv h
    go_enter Tryz.func20, Tryz.ntmps20
    go_wp2_with fail
    refine (sRegionValid_any W T A c bs _ (hr.alloc _) hn).mono ?_
    rintro e w1 ⟨rfl, b1⟩
    rw [HV.out]
    have Z1 := bl_go Z0 b1
    go_wp2_with fail
    go_ret
    exact ⟨_, 0, rfl, Nat.le_refl _, ⟨[], Rd.nil _ _, HeadsI.nil _⟩, bl_alloc Z1 _⟩
  | true =>
    have HV := Lib.hid hv
    have hp : (decide (pss.length ≤ 6) && piecesB pss) = false := by
      rcases h with h | h
      · rw [hv] at h; cases h
      · exact h
    have HP := Lib.hid hp
    clear hv h hp
    go_enter Tryz.func20, Tryz.ntmps20
    go_wp2_with fail
    refine (sRegionValid_any W T A c bs _ (hr.alloc _) hn).mono ?_
    rintro e w1 ⟨rfl, b1⟩
    rw [HV.out]
    have Z1 := bl_go Z0 b1
    have R1 := hr'.belo Z1
    go_wp2_with fail
    refine (sPiecesValid_any _ _ _ _ R1 hn').mono ?_
    rintro e w2 ⟨rfl, b2⟩
    rw [HP.out]
    have Z2 := bl_go Z1 b2
    go_wp2_with fail
    go_ret
    exact ⟨_, 0, rfl, Nat.le_refl _, ⟨[], Rd.nil _ _, HeadsI.nil _⟩, bl_alloc Z2 _⟩
set_option maxRecDepth 100000 in
set_option maxHeartbeats 4000000 in
theorem sFillsAll_t (W T : Int) (A A' : Option Addr) (c c' : Nat) (bs : List Bool) (pss : List (List Ce)) (w : World) (hr : Rd w A (bs.map .bool)) (hn : bs.length ≤ maxLen) (hr' : RdSS w A' pss) (hn' : pss.length ≤ maxLen)
    (hv : validB W T bs = true) (hp : (decide (pss.length ≤ 6) && piecesB pss) = true) :
    Calls Tryz.prog 20 #[.agg #[.int .i64 W, .int .i64 T, .slice A bs.length c], .slice A' pss.length c'] w (NewLL (fillsV W T bs pss) w) := by
  obtain ⟨P6, hok⟩ := pieces_ok hp
  have X0 := C3.new w (.int .i64 W) (.int .i64 T) (.slice A bs.length c) 25
  have Z0 := bl_alloc (Below.refl w.heap.size w) (.cells #[.int .i64 W, .int .i64 T, .slice A bs.length c] 25)
  obtain ⟨x0, x1, x2⟩ := id X0
  have HV := Lib.hid hv
  have HP := Lib.hid hp
  obtain ⟨⟨q1, q6⟩, ⟨t1, t6⟩, hlen, -⟩ := validB_iff.1 hv
  have n36 : bs.length ≤ 36 := by have := mul_bd q1 q6 t1 t6; omega
  have HF := Lib.hid (show FldF W T bs.length from ⟨q1, q6, t1, t6, hlen⟩)
  have HOK := Lib.hid hok
  clear hv hp hlen hok
  go_enter Tryz.func20, Tryz.ntmps20
  go_wp2_with fail
  refine (sRegionValid_any W T A c bs _ (hr.alloc _) hn).mono ?_
  rintro e w1 ⟨rfl, b1⟩
  rw [HV.out]
  have Z1 := bl_go Z0 b1
  have R1 := hr'.belo Z1
  have X1 := X0.belo b1
  clear x0 x1 x2 X0 b1 Z0
  go_wp2_with fail
  refine (sPiecesValid_any _ _ _ _ R1 hn').mono ?_
  rintro e w2 ⟨rfl, b2⟩
  rw [HP.out]
  have Z2 := bl_go Z1 b2
  have X2 := X1.belo b2
  have hX2 := X2.lt
  clear X1 R1 Z1 b2
  have O2 := OwnI.empty w2
  have B2 := bl_alloc (Below.refl w2.heap.size w2) (.cells #[] 3)
  obtain ⟨x0, x1, x2⟩ := X2.belo B2
  go_wp2_with fail
  go_loopw [5, 6] (fun v i wr => LpF (fun k => k ≤ bs.length ∧ OwnI wr w2.heap.size v (List.replicate k (-1)) ∧ Below w2.heap.size w2 wr) i) (fun _ i _ => bs.length - (intOf i).toNat)
  case atStart => exact ⟨0, rfl, Nat.zero_le _, O2, B2⟩
  case round =>
    clear x0 x1 x2 O2 B2
    obtain ⟨k, rfl, hk, O3, B3⟩ := hrel
    obtain ⟨x0, x1, x2⟩ := X2.belo B3
    have HB3 := Lib.hid B3
    have hsz := B3.size
    by_cases hlt : k < bs.length
    · have kI : (k : Int) < (bs.length : Int) := by omega
      go_wp2_with (at_builtin; refine app_int _ rfl _ _ rfl w2.heap.size _ _ rfl O3 (-1) rfl (by rw [List.length_replicate]; omega) hsz ?_; intro A4 c4 w4 O4 g4)
      go_roundw
      case rel => exact ⟨k + 1, by go_num, by omega, by rw [List.replicate_succ']; rw [List.length_replicate] at O4; exact O4, app_below HB3.out (Nat.le_refl _) hsz O3 g4⟩
      case measure => simp [intOf]; omega
    · obtain rfl : k = bs.length := by omega
      obtain ⟨A4, c4, hv4, own4⟩ := id O3
      subst hv4
      have RF := Rd.own own4
      have hcap : bs.length ≤ c4 := by
        rcases own4.2 with ⟨e, e2⟩ | ⟨g, cap, cur, e, _, _, h3, _⟩
        · exfalso
          have h36 := mul_bd q1 q6 t1 t6
          have := HF.out.len
          rw [List.length_replicate] at e2
          omega
        · injection e with _ _ e3; rw [List.length_replicate] at h3; omega
      have HCF := Lib.hid (fs_all (c := c) (c' := c') (A := A) (A' := A') HF.out rfl HOK.out P6 pss.length P6 wr A4 c4 0 (fill0 bs.length) (used0 pss.length) (hr.belo (bl_go Z2 B3)) (hr'.belo (bl_go Z2 B3)) RF hcap (st_0 bs pss.length) (by rw [unN_0]; exact Nat.le_refl _) (mskN_0 _).symm)
      have ZZ := bl_go Z2 B3
      rw [List.length_replicate]
      clear O3 own4 RF
      go_wp2_with fail
      refine HCF.out.mono ?_
      rintro e w5 h5
      have h6 := (h5.ll).lower ZZ
      obtain ⟨A5, c5, rfl, h7, h8, h9⟩ := h6
      have HRS := Lib.hid (show NewLL (fillsV W T bs pss) w (.returned (.slice A5 (fillsV W T bs pss).length c5)) w5 from ⟨A5, c5, rfl, h7, h8, h9⟩)
      clear h5 h7 h8 h9 ZZ HCF
      go_wp2_with fail
      go_ret
      exact HRS.out
theorem sFillsAll_any (W T : Int) (A A' : Option Addr) (c c' : Nat) (bs : List Bool) (pss : List (List Ce)) (w : World) (hr : Rd w A (bs.map .bool)) (hn : bs.length ≤ maxLen) (hr' : RdSS w A' pss) (hn' : pss.length ≤ maxLen) :
    Calls Tryz.prog 20 #[.agg #[.int .i64 W, .int .i64 T, .slice A bs.length c], .slice A' pss.length c'] w (NewLL (fillsW W T bs pss) w) := by
  cases h1 : validB W T bs with
  | false =>
    rw [fillsW_f (fun h => by rw [h1] at h; cases h.1)]
    exact sFillsAll_f W T A A' c c' bs pss w hr hn hr' hn' (.inl h1)
  | true =>
    cases h2 : (decide (pss.length ≤ 6) && piecesB pss) with
    | false =>
      rw [fillsW_f (fun h => by rw [h2] at h; cases h.2)]
      exact sFillsAll_f W T A A' c c' bs pss w hr hn hr' hn' (.inr h2)
    | true =>
      rw [fillsW_t h1 h2]
      exact sFillsAll_t W T A A' c c' bs pss w hr hn hr' hn' h1 h2
end Go.Proofs.YtejkbjcmndnfeaaGreat

/- Lists of lists of numbers: equal; marks in each of their own. -/
namespace Go.Proofs.YtejkbjcmndnfeaaGreat
open Go.RowKit

set_option maxHeartbeats 2000000 in
theorem eqIntSS_t (A A' : Option Addr) (c c' : Nat) (L : List (List Int)) (w : World) (hr : RdLL w A L) (hr' : RdLL w A' L) (hn : L.length ≤ maxLen) :
    Calls Tryz.prog 23 #[.slice A L.length c, .slice A' L.length c'] w fun e w' => e = .returned (.bool true) ∧ Below w.heap.size w w' := by
  unfold maxLen at hn
  go_enter Tryz.func23, Tryz.ntmps23
  go_wp2_with fail
  go_loopw [5] (fun i wr => ∃ k : Nat, k ≤ L.length ∧ i = .int .i64 k ∧ Below w.heap.size w wr) (fun i _ => L.length - (intOf i).toNat)
  case atStart => exact ⟨0, Nat.zero_le _, rfl, Below.refl _ _⟩
  case round =>
    obtain ⟨k, hk, rfl, hbel⟩ := hrel
    by_cases hlt : k < L.length
    · obtain ⟨b, off, A1, c1, rfl, h1, -, h3, h4⟩ := (hr.belo hbel).at_ hlt
      obtain ⟨g, goff, A2, c2, rfl, k1, -, -, k4⟩ := (hr'.belo hbel).at_ hlt
      generalize L[k] = ps at h1 h3 h4 k1 k4
      have gs := World.block_lt_of_cell? wr _ h1
      have gt := World.block_lt_of_cell? wr _ k1
      simp only at gs gt
      have L0 : ∀ z : BW wr, z.wo.cell? ⟨b, off + k, none⟩ = some (.slice A1 ps.length c1) := fun z => z.cell gs h1
      have L1 : ∀ z : BW wr, z.wo.cell? ⟨g, goff + k, none⟩ = some (.slice A2 ps.length c2) := fun z => z.cell gt k1
      go_wp2_with fail
      (refine region_bw (by kernel_rfl) (by kernel_rfl) ?_; (repeat (first | go_big_quiet_skip | (go_big_quiet_want; go_big_quiet_op; first | go_big_quiet_on | (refine ⟨.bool true, fun zz => ?_, ?_⟩; (go_at_call 51; exact zz.on (eqIntS_t _ _ _ _ ps _ (h4.belo zz.ok) (k4.belo zz.ok) (by unfold maxLen; omega))); go_big_quiet_on)))); refine wpQuiet_nil ?_; intro wz hw'; obtain ⟨zw, hw''⟩ := hw'; subst hw'')
      go_wp2
      go_roundw
      case rel => exact ⟨k + 1, by omega, by go_num, bl_go hbel zw.ok⟩
      case measure => simp [intOf]; omega
    · go_wp2_with fail
      go_ret
      exact ⟨rfl, hbel⟩
/-! ### Rows that may be written, each in a block of its own -/
def RowsV (w : World) (lo : Nat) (A : Option Addr) (xs : List Value) (R : List (List Value)) : Prop :=
  xs.length = R.length ∧ ∀ k (h : k < R.length), ∃ gk nk, xs[k]? = some (.slice (some ⟨gk, 0, none⟩) nk nk) ∧ R[k].length = nk ∧ Wr w lo 3 (some ⟨gk, 0, none⟩) R[k] ∧ (∀ ad, A = some ad → ad.block ≠ gk) ∧ gk < w.heap.size ∧ ∀ j, j < k → ∀ gj n c, xs[j]? = some (.slice (some ⟨gj, 0, none⟩) n c) → gj < gk
theorem RowsV.belo {w w' : World} {lo : Nat} {A : Option Addr} {xs : List Value} {R : List (List Value)} (h : RowsV w lo A xs R) (hb : Below w.heap.size w w') : RowsV w' lo A xs R :=
  ⟨h.1, fun k hk => by
    obtain ⟨gk, nk, a1, a2, a3, a4, a5, a6⟩ := h.2 k hk
    exact ⟨gk, nk, a1, a2, a3.belo hb, a4, Nat.lt_of_lt_of_le a5 hb.size, a6⟩⟩
theorem RowsV.elder {w w' : World} {lo : Nat} {A A' : Option Addr} {xs : List Value} {R : List (List Value)} (h : RowsV w lo A xs R) (hg : w.grownBy w' (A'.map (·.block))) (hA : ∀ ad, A' = some ad → ad.block < lo) : RowsV w' lo A xs R :=
  ⟨h.1, fun k hk => by
    obtain ⟨gk, nk, a1, a2, a3, a4, a5, a6⟩ := h.2 k hk
    exact ⟨gk, nk, a1, a2, a3.elder hg hA, a4, Nat.lt_of_lt_of_le a5 hg.size, a6⟩⟩
theorem RowsV.of {w : World} {lo : Nat} {A : Option Addr} {xs : List Value} {L : List (List Int)} (h : RowsI w lo xs L) (hA : ∀ ad, A = some ad → ¬ AtL xs ad.block) : RowsV w lo A xs (L.map fun f => f.map (.int .i64)) :=
  ⟨by rw [List.length_map]; exact h.1, fun k hk => by
    have hkL : k < L.length := by simpa using hk
    obtain ⟨gk, nk, a1, a2, a3, a4, a5⟩ := h.2 k hkL
    rw [List.getElem_map]
    exact ⟨gk, nk, a1, by rw [List.length_map]; exact a2, a3, fun ad e e2 => hA ad e ⟨k, _, _, _, a1, e2.symm⟩, a4, a5⟩⟩
theorem RowsV.mark {w w' : World} {lo i gi ni : Nat} {A : Option Addr} {xs : List Value} {R : List (List Value)} (h : RowsV w lo A xs R) (hi : xs[i]? = some (.slice (some ⟨gi, 0, none⟩) ni ni)) {r : List Value} (hr : r.length = ni) (hw : Wr w' lo 3 (some ⟨gi, 0, none⟩) r)
    (hg : w.grownBy w' (some gi)) : RowsV w' lo A xs (R.set i r) :=
  ⟨by rw [List.length_set]; exact h.1, fun k hk => by
    rw [List.length_set] at hk
    obtain ⟨gk, nk, a1, a2, a3, a4, a5, a6⟩ := h.2 k hk
    rw [List.getElem_set]
    by_cases hik : i = k
    · subst hik
      rw [hi] at a1
      injection a1 with a1
      injection a1 with e1 e2 e3
      injection e1 with e1
      injection e1 with e1
      subst e1; subst e2
      rw [if_pos rfl]
      exact ⟨gi, ni, hi, hr, hw, a4, Nat.lt_of_lt_of_le a5 hg.size, a6⟩
    · rw [if_neg hik]
      have hne : gk ≠ gi := by
        rcases Nat.lt_or_ge i k with h1 | h1
        · have := a6 i h1 _ _ _ hi; omega
        · have hil : i < R.length := by
            have := h.1
            rcases Nat.lt_or_ge i xs.length with h2 | h2
            · omega
            · rw [List.getElem?_eq_none h2] at hi; cases hi
          obtain ⟨gi', ni', b1, -, -, -, -, b6⟩ := h.2 i hil
          rw [hi] at b1
          injection b1 with b1
          injection b1 with e1 e2 e3
          injection e1 with e1
          injection e1 with e1
          subst e1
          have := b6 k (by omega) _ _ _ a1
          omega
      exact ⟨gk, nk, a1, a2, a3.keep (fun g e hlt => hg.block g hlt (fun e2 => hne (by injection e with e; injection e with e; injection e2 with e2; omega))), a4, Nat.lt_of_lt_of_le a5 hg.size, a6⟩⟩
set_option maxHeartbeats 2000000 in
theorem markIntSS_any (A : Option Addr) (n c : Nat) (xs : List Value) (L : List (List Int)) (k : Int) (w : World) (lo : Nat) (R : List (List Value)) (hR : R = L.map fun f => f.map (.int .i64)) (h : RowsV w lo A xs R) (hr : Rd w A xs) (hx : R.length = n) (ht : totR R ≤ 900000000000) (hn : n ≤ 1000000000000) (k0 : 0 ≤ k) (k1 : k ≤ 1) :
    Calls Tryz.prog 28 #[.slice A n c, .int .i64 k] w fun e w' => e = .returned (.int .i64 (k + totR R)) ∧ RowsV w' lo A xs (mrk k R) ∧ Rd w' A xs ∧ Above lo w w' ∧ w.heap.size ≤ w'.heap.size := by
  have HX := Lib.hid hx
  have HR0 := Lib.hid hR
  clear hx hR
  go_enter Tryz.func28, Tryz.ntmps28
  go_wp2
  go_loopw [1, 5] (fun v i wr => ∃ j : Nat, j ≤ n ∧ i = .int .i64 j ∧ v = .int .i64 (k + totR (R.take j)) ∧ RowsV wr lo A xs (mrkTo k R j) ∧ Rd wr A xs ∧ Above lo w wr ∧ w.heap.size ≤ wr.heap.size) (fun _ i _ => n - (intOf i).toNat)
  case atStart => exact ⟨0, Nat.zero_le _, rfl, by simp [totR], by rw [mrkTo_zero]; exact h, hr, fun B w0 _ _ hb => hb, Nat.le_refl _⟩
  case round =>
    obtain ⟨j, hj, rfl, rfl, hw, hrd, hab, hsz⟩ := hrel
    by_cases hlt : j < n
    · have hjR : j < R.length := by rw [HX.out]; exact hlt
      have hjM : j < (mrkTo k R j).length := by rw [mrkTo_len k R j (by omega)]; exact hjR
      obtain ⟨gk, nk, a1, a2, a3, a4, a5, -⟩ := hw.2 j hjM
      obtain ⟨b, off, rfl, hc⟩ := rd_cellE hrd a1
      have HA1 := Lib.hid a1
      have hle := totR_le R (j + 1)
      have HT := Lib.hid (totR_take R j hjR)
      rw [HT.out] at hle
      have HM := Lib.hid (mrkTo_at k R j hjR hjM)
      rw [HM.out] at a2 a3
      have HS := Lib.hid (mrkTo_step k R j hjR)
      rw [a2] at hle
      have HA2 := Lib.hid a2
      have HW := Lib.hid hw
      have HRD := Lib.hid hrd
      have HAB := Lib.hid hab
      have hne : (⟨b, off, none⟩ : Addr).block ≠ gk := a4 _ rfl
      obtain ⟨ns, hns⟩ : ∃ ns : List Int, R[j] = ns.map (.int .i64) := by have hR := HR0.out; subst hR; exact ⟨L[j]'(by simpa using hjR), by simp⟩
      have hnl : ns.length = nk := by rw [← a2, hns, List.length_map]
      have cc := markIntS_any (some ⟨gk, 0, none⟩) nk ns (k + totR (R.take j)) wr lo (by rw [← hns]; exact a3) (by omega) (by omega) (by omega)
      rw [hnl] at cc
      have CC := Lib.hid cc
      clear cc hns hnl
      clear a1 a2 a3 a4 hw hrd hab
      generalize totR (R.take j) = t at hle CC HT HS
      go_wp2_with (go_at_call 54; refine CC.out.mono ?_; rintro e w5 ⟨rfl, m1, m2⟩)
      have hsz5 := m2.size
      go_roundw
      case rel =>
        refine ⟨j + 1, by omega, by go_num, ?_, ?_, ?_, ?_, by omega⟩
        · rw [HT.out, HA2.out]; congr 1; omega
        · rw [← HS.out, HA2.out]
          exact HW.out.mark HA1.out (by rw [List.length_map, marks_len]) m1 m2
        · exact Rd.grownBelow HRD.out m2 (fun _ ad ha e => by injection ha with ha; subst ha; exact hne (by simpa using e))
        · intro B w0 hB hBs hb
          refine (HAB.out B w0 hB hBs hb).grown m2 (by omega) (fun q hq => ?_)
          have h2 := m1.1 _ rfl
          simp at hq h2
          omega
      case measure => simp [intOf]; omega
    · have hjn : j = n := by omega
      subst hjn
      have HW : Hid (RowsV wr lo A xs (mrk k R)) := by
        show RowsV _ _ _ _ _
        have := hw
        rw [← HX.out, mrkTo_all] at this
        exact this
      have HTT : Hid (totR (R.take j) = totR R) := by show _ = _; rw [← HX.out, List.take_length]
      clear hw
      go_wp2
      go_ret
      exact ⟨ret_i (by rw [HTT.out]), HW.out, hrd, hab, hsz⟩
set_option maxHeartbeats 2000000 in
theorem heldIntSS_any (A : Option Addr) (n c : Nat) (xs : List Value) (R : List (List Value)) (k : Int) (w : World) (lo : Nat) (h : RowsV w lo A xs (mrk k R)) (hr : Rd w A xs) (hx : R.length = n) (ht : totR R ≤ 900000000000) (hn : n ≤ 1000000000000) (k0 : 0 ≤ k) (k1 : k ≤ 1) :
    Calls Tryz.prog 29 #[.slice A n c, .int .i64 k] w fun e w' => e = .returned (.int .i64 (k + totR R)) ∧ w = w' := by
  have HX := Lib.hid hx
  clear hx
  go_enter Tryz.func29, Tryz.ntmps29
  go_wp2
  go_loop [1, 5] (fun v i => ∃ j : Nat, j ≤ n ∧ i = .int .i64 j ∧ v = .int .i64 (k + totR (R.take j))) (fun _ i => n - (intOf i).toNat)
  case atStart => exact ⟨0, Nat.zero_le _, rfl, by simp [totR]⟩
  case round =>
    obtain ⟨j, hj, rfl, rfl⟩ := hrel
    by_cases hlt : j < n
    · have hjR : j < R.length := by rw [HX.out]; exact hlt
      have hjM : j < (mrk k R).length := by rw [mrk_len]; exact hjR
      obtain ⟨gk, nk, a1, a2, a3, -, -, -⟩ := h.2 j hjM
      obtain ⟨b, off, rfl, hc⟩ := rd_cellE hr a1
      have hg := mrk_get R k j hjR hjM
      have hlen : R[j].length = nk := by rw [hg, List.length_map, marks_len] at a2; exact a2
      rw [hg, hlen] at a3
      have hle := totR_le R (j + 1)
      have HT := Lib.hid (totR_take R j hjR)
      rw [HT.out, hlen] at hle
      have HLEN := Lib.hid hlen
      have CC := Lib.hid (fun (z : World) (R3 : Rd z (some ⟨gk, 0, none⟩) ((marks (k + totR (R.take j)) (nk)).map (.int .i64))) => heldIntS_any (some ⟨gk, 0, none⟩) nk nk (k + totR (R.take j)) z R3 (by omega) (by omega) (by omega))
      have R3 := a3.rd
      clear a1 a2 a3 hg hlen
      generalize totR (R.take j) = t at hle CC HT R3
      have hnn : ¬ (k + (t : Int) + (nk : Int) < 0) := by omega
      go_wp2_with (go_at_call 55; refine (CC.out _ R3).mono ?_; rintro e w5 ⟨rfl, rfl⟩)
      go_round
      case rel => exact ⟨j + 1, by omega, by go_num, by rw [HT.out, HLEN.out]; congr 1; omega⟩
      case measure => simp [intOf]; omega
    · have hjn : j = n := by omega
      subst hjn
      have HTT : Hid (totR (R.take j) = totR R) := by show _ = _; rw [← HX.out, List.take_length]
      go_wp2
      go_ret
      exact ⟨ret_i (by rw [HTT.out]), rfl⟩
theorem tot_leI (n : Nat) : ∀ (L : List (List Int)), (∀ x ∈ L, x.length ≤ n) → totR (L.map fun f => f.map (Value.int .i64)) ≤ L.length * n
  | [], _ => by simp [totR]
  | a :: L, h => by
    have ih := tot_leI n L (fun x hx => h x (by simp [hx]))
    have ha := h a (by simp)
    rw [List.map_cons, totR, List.length_map, List.length_cons, Nat.add_mul]
    omega
end Go.Proofs.YtejkbjcmndnfeaaGreat

/- Copies, comparison, sizes of lists of lists of cells, as the laws make them; such an argument opened. -/
namespace Go.Proofs.YtejkbjcmndnfeaaGreat
open Go.RowKit

theorem Tryz.infoCS : (Tryz.prog.info? 32).map (fun i => (i.zero, i.size, i.bytes)) = some (some (.slice none 0 0), 1, 24) := by kernel_rfl
/-- what is left of the room, or less than nothing -/
def Room (pss : List (List Ce)) (w : World) (e : Ending) (w' : World) : Prop := ∃ r : Int, e = .returned (.int .i64 r) ∧ Hid (0 ≤ r → pss.length ≤ 1048576 ∧ ∀ ps ∈ pss, ps.length ≤ 1048576) ∧ w = w'
set_option maxHeartbeats 1000000 in
theorem szCellSS_any (A : Option Addr) (c : Nat) (pss : List (List Ce)) (w : World) (hr : RdSS w A pss) (hn : pss.length ≤ maxLen) :
    Calls Tryz.prog 19 #[.slice A pss.length c, .int .i64 1048576] w (Room pss w) := by
  unfold maxLen at hn
  by_cases hs : pss.length ≤ 1048576
  · have hs1 : (pss.length : Int) ≤ 1048576 := by omega
    go_enter Tryz.func19, Tryz.ntmps19
    go_wp2_with fail
    go_loopw [1, 5] (fun l i wr => ∃ (k : Nat) (r : Int), k ≤ pss.length ∧ i = .int .i64 k ∧ l = .int .i64 r ∧ 0 ≤ r ∧ r ≤ 1048576 ∧ Hid (∀ j (h : j < pss.length), j < k → pss[j].length ≤ 1048576) ∧ w = wr) (fun _ i _ => pss.length - (intOf i).toNat)
    case atStart => exact ⟨0, 1048576 - pss.length, Nat.zero_le _, rfl, rfl, by omega, by omega, fun j h h2 => by omega, rfl⟩
    case round =>
      obtain ⟨k, r, hk, rfl, rfl, hr0, hr1, HK, rfl⟩ := hrel
      by_cases hlt : k < pss.length
      · obtain ⟨b, off, A', c', rfl, h1, h2, h3, h4⟩ := hr k hlt
        obtain ⟨n, hnn⟩ : ∃ n, pss[k].length = n := ⟨_, rfl⟩
        have HN := Lib.hid hnn
        rw [hnn] at h1 h2 h3
        clear hnn h4
        by_cases hf : (n : Int) ≤ r
        · go_wp2_with (go_at_call 81; refine (szCellS_t _ _ _ _ _ hr1 hf).mono ?_; rintro e w1 ⟨rfl, rfl⟩)
          go_roundw
          case rel =>
            refine ⟨k + 1, r - n, by omega, by go_num, rfl, by omega, by omega, fun j h h2 => ?_, by trivial⟩
            rcases Nat.lt_or_ge j k with h5 | h5
            · exact HK.out j h h5
            · obtain rfl : j = k := by omega
              rw [HN.out]; omega
          case measure => simp [intOf]; omega
        · have hf' : r < n := by omega
          go_wp2_with (go_at_call 81; refine (szCellS_f _ _ _ _ _ hr0 h3 hf').mono ?_; rintro e w1 ⟨rfl, rfl⟩)
          go_ret
          exact ⟨_, rfl, fun h => by omega, rfl⟩
      · go_wp2_with fail
        go_ret
        exact ⟨_, rfl, fun _ => ⟨hs, fun ps hp => by obtain ⟨j, hj, e⟩ := List.getElem_of_mem hp; rw [← e]; exact HK.out j hj (by omega)⟩, rfl⟩
  · have hs1 : (1048576 : Int) < pss.length := by omega
    go_enter Tryz.func19, Tryz.ntmps19
    go_wp2_with fail
    go_ret
    exact ⟨_, rfl, fun h => by omega, rfl⟩
set_option maxHeartbeats 2000000 in
theorem eqCellSS_t (A A' : Option Addr) (c c' : Nat) (pss : List (List Ce)) (w : World) (hr : RdSS w A pss) (hr' : RdSS w A' pss) (hn : pss.length ≤ maxLen) :
    Calls Tryz.prog 25 #[.slice A pss.length c, .slice A' pss.length c'] w fun e w' => e = .returned (.bool true) ∧ Below w.heap.size w w' := by
  unfold maxLen at hn
  go_enter Tryz.func25, Tryz.ntmps25
  go_wp2_with fail
  go_loopw [5] (fun i wr => ∃ k : Nat, k ≤ pss.length ∧ i = .int .i64 k ∧ Below w.heap.size w wr) (fun i _ => pss.length - (intOf i).toNat)
  case atStart => exact ⟨0, Nat.zero_le _, rfl, Below.refl _ _⟩
  case round =>
    obtain ⟨k, hk, rfl, hbel⟩ := hrel
    by_cases hlt : k < pss.length
    · obtain ⟨b, off, A1, c1, rfl, h1, -, h3, h4⟩ := (hr.belo hbel) k hlt
      obtain ⟨g, goff, A2, c2, rfl, k1, -, -, k4⟩ := (hr'.belo hbel) k hlt
      generalize pss[k] = ps at h1 h3 h4 k1 k4
      have gs := World.block_lt_of_cell? wr _ h1
      have gt := World.block_lt_of_cell? wr _ k1
      simp only at gs gt
      have L0 : ∀ z : BW wr, z.wo.cell? ⟨b, off + k, none⟩ = some (.slice A1 ps.length c1) := fun z => z.cell gs h1
      have L1 : ∀ z : BW wr, z.wo.cell? ⟨g, goff + k, none⟩ = some (.slice A2 ps.length c2) := fun z => z.cell gt k1
      go_wp2_with fail
      (refine region_bw (by kernel_rfl) (by kernel_rfl) ?_; (repeat (first | go_big_quiet_skip | (go_big_quiet_want; go_big_quiet_op; first | go_big_quiet_on | (refine ⟨.bool true, fun zz => ?_, ?_⟩; (go_at_call 86; exact zz.on (eqCellS_t _ _ _ _ ps _ (h4.belo zz.ok) (k4.belo zz.ok) h3)); go_big_quiet_on)))); refine wpQuiet_nil ?_; intro wz hw'; obtain ⟨zw, hw''⟩ := hw'; subst hw'')
      go_wp2
      go_roundw
      case rel => exact ⟨k + 1, by omega, by go_num, bl_go hbel zw.ok⟩
      case measure => simp [intOf]; omega
    · go_wp2_with fail
      go_ret
      exact ⟨rfl, hbel⟩
set_option maxRecDepth 100000 in
set_option maxHeartbeats 2000000 in
theorem toCellSS_any (A : Option Addr) (c : Nat) (pss : List (List Ce)) (w : World) (hr : RdSS w A pss) (hn : pss.length ≤ 1048576) (hall : ∀ ps ∈ pss, ps.length ≤ 1048576) :
    Calls Tryz.prog 22 #[.slice A pss.length c] w fun e w' => ∃ A' : Option Addr, e = .returned (.slice A' pss.length pss.length) ∧ RdSS w' A' pss ∧ Below w.heap.size w w' := by
  obtain ⟨i0, hi, hz0, hz1, hz2⟩ := info_parts Tryz.infoCS
  have hb1 : i0.bytes * pss.length ≤ 281474976710656 := by rw [hz2]; omega
  have HZ := Lib.hid (And.intro hz0 (And.intro hz1 hz2))
  have HALL := Lib.hid hall
  clear hall
  go_enter Tryz.func22, Tryz.ntmps22
  go_wp2_with (at_make; refine wpList_make_full _ rfl _ _ 26 rfl w.heap.size 32 i0 (.slice none 0 0) 1 Tryz.underlying26 hi HZ.out.1 HZ.out.2.1 .i64 .i64 _ _ pss.length rfl rfl rfl rfl hb1 (by unfold maxLen; omega) (Nat.le_refl _) ?_; intro w1 hown1 hgrow1)
  go_loopw [4] (fun i wr => ∃ (k : Nat) (L : List Value), k ≤ pss.length ∧ i = .int .i64 k ∧ wr.ownsRow w.heap.size 32 1 (.slice (some ⟨w.heap.size, 0, none⟩) pss.length pss.length) pss.length L ∧ Hid (L.length = pss.length ∧ ∀ j (h : j < pss.length), j < k → ∃ A', L[j]? = some (.slice A' pss[j].length pss[j].length) ∧ OwnC wr (w.heap.size + 1) (.slice A' pss[j].length pss[j].length) pss[j]) ∧ Below w.heap.size w wr) (fun i _ => pss.length - (intOf i).toNat)
  case atStart =>
    refine ⟨0, _, Nat.zero_le _, rfl, hown1, ⟨?_, fun j h h2 => by omega⟩, (Below.refl _ _).grown hgrow1 (Nat.le_refl _) (fun k hk => by cases hk)⟩
    rw [show (Value.slice none 0 0).cells = #[.slice none 0 0] from rfl, toList_madeCells_one]; simp
  case round =>
    clear hgrow1 hown1
    obtain ⟨k, L, hk, rfl, hown, HL, hbel⟩ := hrel
    by_cases hlt : k < pss.length
    · obtain ⟨b, off, A1, c1, rfl, h1, h2, h3, h4⟩ := (hr.belo hbel) k hlt
      have hLk : k < L.length := by rw [HL.out.1]; exact hlt
      have hc0 := (hown.cellAt k (by omega)).trans (List.getElem?_eq_getElem hLk)
      have hsz := World.block_lt_of_cell? wr _ hc0
      simp only at hsz
      obtain ⟨ps, hps⟩ : ∃ ps, pss[k] = ps := ⟨_, rfl⟩
      have HPS := Lib.hid hps
      have hpl := HALL.out _ (List.getElem_mem hlt)
      rw [hps] at h1 h2 h3 h4 hpl
      clear hps
      have CC := Lib.hid (toCellS_any A1 c1 ps wr h4 (by omega))
      clear h2 h3 h4
      go_wp2_with (go_at_call 84; refine CC.out.mono ?_; rintro e w3 ⟨A3, rfl, o3, b3⟩; have own3 := own_below hown b3 (Nat.le_refl _); have hf1 := own3.frozenAt k; have hc1 := (own3.cellAt k (by omega)).trans (List.getElem?_eq_getElem hLk))
      go_roundw
      case rel =>
        refine ⟨k + 1, L.set k (.slice A3 ps.length ps.length), by omega, by go_num, (own3.stored k _).1, ⟨by rw [List.length_set]; exact HL.out.1, fun j h h2 => ?_⟩, (hbel.trans (b3.mono hbel.size)).setCell (Nat.le_refl _) _⟩
        have keep : ∀ {v : Value} {qs : List Ce}, OwnC w3 (w.heap.size + 1) v qs → OwnC (w3.setCell ⟨w.heap.size, k, none⟩ (.slice A3 ps.length ps.length)) (w.heap.size + 1) v qs := fun ⟨A5, c5, e5, h5⟩ => ⟨A5, c5, e5, ownsRow_setCell_below h5 (by simp) _⟩
        rcases Nat.lt_or_ge j k with h5 | h5
        · obtain ⟨A6, e6, h6⟩ := HL.out.2 j h h5
          exact ⟨A6, by rw [List.getElem?_set_ne (by omega)]; exact e6, keep (h6.belo b3)⟩
        · obtain rfl : j = k := by omega
          rw [HPS.out]
          exact ⟨A3, by rw [List.getElem?_set_self hLk], keep (o3.base (by omega))⟩
      case measure => simp [intOf]; omega
    · go_wp2_with fail
      go_ret
      refine ⟨_, rfl, fun j hj => ?_, hbel⟩
      obtain ⟨A6, e6, h6⟩ := HL.out.2 j hj (by omega)
      exact ⟨_, 0, A6, _, rfl, by rw [Nat.zero_add]; exact (hown.cellAt j (by omega)).trans e6, Nat.le_refl _, by have := HALL.out _ (List.getElem_mem hj); unfold maxLen; omega, OwnC.rd h6⟩
section
open Go.ChangeShapes Go.WideShapes Go.ChangeAt Go.RowKit Go.Deep
variable {H : Type} {enc : TypeId × Value → H} {w : World} {r : Reach} {b0 base : Nat} {v : Value} {d : DataW H} {p : List MemPlace} {held : Bool} {fuel : Nat} {cs : List Value} {x : DataW H × List MemPlace}
set_option maxRecDepth 100000 in
theorem rd_cellss (h : DataW.trod enc Tryz.prog w 0 (fun _ => true) held fuel 39 cs = some x) :
    ∃ (A : Option Addr) (c : Nat) (pss : List (List Ce)), cs = [.slice A pss.length c] ∧ pss.length ≤ maxLen ∧ RdSS w A pss := by
  rcases open_slice Tryz.underlying39 h with ⟨hcs, _⟩ | ⟨a, len, cap, m, n, D, Pl, rfl, hb, hl, hm, hmm, -, hx⟩
  · exact ⟨none, 0, [], by simpa using hcs, by simp, fun k hk => by simp at hk⟩
  · have hmm' : m = cap := by simpa using hmm
    have hc1 : Tryz.prog.cellsOf 101 = 1 := by kernel_rfl
    have hv : ∀ i, ∃ q : List Ce, i < len → ∃ (A' : Option Addr) (c' : Nat), w.cell? (a.add i) = some (.slice A' q.length c') ∧ q.length ≤ c' ∧ q.length ≤ maxLen ∧ RdC w A' q := fun i => by
      by_cases hi : i < len
      · obtain ⟨cs', h1, h2⟩ := hx i (by omega)
        rw [hc1, Nat.mul_one] at h1
        obtain ⟨A', c', q, rfl, e1, e2, e3⟩ := rd_cells h2
        obtain ⟨_, -, hcell⟩ := World.cells?_some h1
        have h0 := (hcell 0 (by omega)).trans (List.getElem?_cons_zero)
        rw [add_zero'] at h0
        exact ⟨q, fun _ => ⟨A', c', h0, e2, e1, e3⟩⟩
      · exact ⟨[], fun h => absurd h hi⟩
    obtain ⟨f, hf⟩ := Classical.axiomOfChoice hv
    have hlen : ((List.range len).map f).length = len := by simp
    refine ⟨some a, cap, (List.range len).map f, by rw [hlen], by rw [hlen]; omega, fun k hk => ?_⟩
    rw [hlen] at hk
    obtain ⟨A', c', g1, g2, g3, g4⟩ := hf k hk
    obtain ⟨A0, c0, z1, -, -, -⟩ := hf 0 (by omega)
    rw [add_zero'] at z1
    have hs := World.cell?_spot z1
    obtain ⟨b, off, spot⟩ := a
    simp only at hs
    subst hs
    rw [add_off] at g1
    have hg : ((List.range len).map f)[k]'(by rw [hlen]; exact hk) = f k := by rw [List.getElem_map, List.getElem_range]
    rw [hg]
    exact ⟨b, off, A', c', rfl, g1, g2, g3, g4⟩
set_option maxRecDepth 100000 in
/-- a slice of slices of cells that came in -/
theorem open_cellss (hv : Value.okWide Tryz.prog w r b0 39 v) (h : DataW.Trod enc Tryz.prog w 0 (fun _ => true) held 39 v d p) :
    ∃ (A : Option Addr) (c : Nat) (pss : List (List Ce)), v = .slice A pss.length c ∧ pss.length ≤ maxLen ∧ RdSS w A pss := by
  obtain ⟨a0, len0, cap0, rfl⟩ := okWide_slice Tryz.underlying39 hv
  obtain ⟨fuel, hf⟩ := h
  obtain ⟨A, c, zs, hcs, h1, h2⟩ := rd_cellss hf
  simp only [Value.cells, List.cons.injEq, Value.slice.injEq, and_true] at hcs
  obtain ⟨rfl, rfl, rfl⟩ := hcs
  exact ⟨_, _, zs, rfl, h1, h2⟩
end
end Go.Proofs.YtejkbjcmndnfeaaGreat

/- Lists of lists of cells that the call has copied: marks in each. -/
namespace Go.Proofs.YtejkbjcmndnfeaaGreat
open Go.RowKit

/-- a block, or none -/
def bkO (og : Option Nat) : Option Addr := og.map fun g => (⟨g, 0, none⟩ : Addr)
/-- rows that may be written, each in a block of its own, or empty -/
def RowsE (w : World) (lo : Nat) (A : Option Addr) (xs : List Value) (R : List (List Value)) : Prop :=
  xs.length = R.length ∧ ∀ k (h : k < R.length), ∃ (og : Option Nat) (nk : Nat), xs[k]? = some (.slice (bkO og) nk nk) ∧ R[k].length = nk * 2 ∧ Wr w lo 89 (bkO og) R[k] ∧ ∀ gk, og = some gk → (∀ ad, A = some ad → ad.block ≠ gk) ∧ gk < w.heap.size ∧ ∀ j, j < k → ∀ gj n c, xs[j]? = some (.slice (some ⟨gj, 0, none⟩) n c) → gj < gk
theorem RowsE.belo {w w' : World} {lo : Nat} {A : Option Addr} {xs : List Value} {R : List (List Value)} (h : RowsE w lo A xs R) (hb : Below w.heap.size w w') : RowsE w' lo A xs R :=
  ⟨h.1, fun k hk => by
    obtain ⟨og, nk, a1, a2, a3, a4⟩ := h.2 k hk
    exact ⟨og, nk, a1, a2, a3.belo hb, fun gk e => ⟨(a4 gk e).1, Nat.lt_of_lt_of_le (a4 gk e).2.1 hb.size, (a4 gk e).2.2⟩⟩⟩
theorem RowsE.elder {w w' : World} {lo : Nat} {A A' : Option Addr} {xs : List Value} {R : List (List Value)} (h : RowsE w lo A xs R) (hg : w.grownBy w' (A'.map (·.block))) (hA : ∀ ad, A' = some ad → ad.block < lo) : RowsE w' lo A xs R :=
  ⟨h.1, fun k hk => by
    obtain ⟨og, nk, a1, a2, a3, a4⟩ := h.2 k hk
    exact ⟨og, nk, a1, a2, a3.elder hg hA, fun gk e => ⟨(a4 gk e).1, Nat.lt_of_lt_of_le (a4 gk e).2.1 hg.size, (a4 gk e).2.2⟩⟩⟩
theorem RowsE.mark {w w' : World} {lo i ni : Nat} {og : Option Nat} {A : Option Addr} {xs : List Value} {R : List (List Value)} (h : RowsE w lo A xs R) (hi : xs[i]? = some (.slice (bkO og) ni ni)) {r : List Value} (hr : r.length = ni * 2) (hw : Wr w' lo 89 (bkO og) r)
    (hg : w.grownBy w' ((bkO og).map (·.block))) : RowsE w' lo A xs (R.set i r) :=
  ⟨by rw [List.length_set]; exact h.1, fun k hk => by
    rw [List.length_set] at hk
    obtain ⟨ok, nk, a1, a2, a3, a4⟩ := h.2 k hk
    rw [List.getElem_set]
    have inj : ∀ o o' : Option Nat, bkO o = bkO o' → o = o' := fun o o' e => by
      cases o <;> cases o' <;> simp_all [bkO]
    by_cases hik : i = k
    · subst hik
      rw [hi] at a1
      injection a1 with a1
      injection a1 with e1 e2 e3
      have e1 := inj _ _ e1
      subst e1; subst e2
      rw [if_pos rfl]
      exact ⟨og, ni, hi, hr, hw, fun gk e => ⟨(a4 gk e).1, Nat.lt_of_lt_of_le (a4 gk e).2.1 hg.size, (a4 gk e).2.2⟩⟩
    · rw [if_neg hik]
      refine ⟨ok, nk, a1, a2, a3.keep (fun g e hlt => hg.block g hlt (fun e2 => ?_)), fun gk e => ⟨(a4 gk e).1, Nat.lt_of_lt_of_le (a4 gk e).2.1 hg.size, (a4 gk e).2.2⟩⟩
      cases ok with
      | none => simp [bkO] at e
      | some gk =>
        cases og with
        | none => simp [bkO] at e2
        | some gi =>
          have ek : gk = g := by simpa [bkO] using e
          have ei : g = gi := by simpa [bkO] using e2
          have hil : i < R.length := by
            have := h.1
            rcases Nat.lt_or_ge i xs.length with h2 | h2
            · omega
            · rw [List.getElem?_eq_none h2] at hi; cases hi
          rcases Nat.lt_or_ge i k with h1 | h1
          · have := (a4 gk rfl).2.2 i h1 gi _ _ hi; omega
          · obtain ⟨oi, ni', b1, -, -, b4⟩ := h.2 i hil
            rw [hi] at b1
            injection b1 with b1
            injection b1 with e1 _ _
            have e1 := inj _ _ e1
            subst e1
            have := (b4 gi rfl).2.2 k (by omega) gk _ _ a1
            omega⟩
theorem own_bk {w : World} {base n : Nat} {A : Option Addr} {ps : List Ce} (h : OwnC w base (.slice A n n) ps) : ∃ og, A = bkO og ∧ Wr w base 89 (bkO og) (cellsV ps) ∧ ∀ g, og = some g → base ≤ g ∧ g < w.heap.size := by
  obtain ⟨A', c', e, o⟩ := id h
  injection e with _ e2 _
  subst e2
  have hw := Wr.of_ownC o
  rcases o.2 with ⟨e1, e2⟩ | ⟨g, cap, cur, hv, hg, _⟩
  · injection e1 with e1 _ _
    exact ⟨none, e1, by rw [show bkO none = A from e1.symm]; exact hw, fun g e => by cases e⟩
  · injection hv with e1 _ _
    have hlt := (o.lt g (by rw [e1]; rfl))
    exact ⟨some g, e1, by rw [show bkO (some g) = A from e1.symm]; exact hw, fun g' e => by injection e with e; subst e; exact hlt⟩
/-- a copy of lists of cells, each in a block of its own -/
def ToE (pss : List (List Ce)) (w : World) (e : Ending) (w' : World) : Prop :=
  ∃ (A' : Option Addr) (xs : List Value), e = .returned (.slice A' pss.length pss.length) ∧ Rd w' A' xs ∧ RdSS w' A' pss ∧ RowsE w' w.heap.size A' xs (pss.map cellsV) ∧ (∀ ad, A' = some ad → w.heap.size ≤ ad.block) ∧ Below w.heap.size w w'
set_option maxRecDepth 100000 in
set_option maxHeartbeats 2000000 in
theorem toCellSSE_any (A : Option Addr) (c : Nat) (pss : List (List Ce)) (w : World) (hr : RdSS w A pss) (hn : pss.length ≤ 1048576) (hall : ∀ ps ∈ pss, ps.length ≤ 1048576) :
    Calls Tryz.prog 22 #[.slice A pss.length c] w fun e w' => ToE pss w e w' := by
  obtain ⟨i0, hi, hz0, hz1, hz2⟩ := info_parts Tryz.infoCS
  have hb1 : i0.bytes * pss.length ≤ 281474976710656 := by rw [hz2]; omega
  have HZ := Lib.hid (And.intro hz0 (And.intro hz1 hz2))
  have HALL := Lib.hid hall
  clear hall
  go_enter Tryz.func22, Tryz.ntmps22
  go_wp2_with (at_make; refine wpList_make_full _ rfl _ _ 26 rfl w.heap.size 32 i0 (.slice none 0 0) 1 Tryz.underlying26 hi HZ.out.1 HZ.out.2.1 .i64 .i64 _ _ pss.length rfl rfl rfl rfl hb1 (by unfold maxLen; omega) (Nat.le_refl _) ?_; intro w1 hown1 hgrow1)
  go_loopw [4] (fun i wr => ∃ (k : Nat) (L : List Value), k ≤ pss.length ∧ i = .int .i64 k ∧ wr.ownsRow w.heap.size 32 1 (.slice (some ⟨w.heap.size, 0, none⟩) pss.length pss.length) pss.length L ∧ Hid (L.length = pss.length ∧ ∀ j (h : j < pss.length), j < k → ∃ A', L[j]? = some (.slice A' pss[j].length pss[j].length) ∧ OwnC wr (w.heap.size + 1) (.slice A' pss[j].length pss[j].length) pss[j] ∧ ∀ g, A' = some ⟨g, 0, none⟩ → ∀ i, i < j → ∀ gi n c, L[i]? = some (.slice (some ⟨gi, 0, none⟩) n c) → gi < g) ∧ Below w.heap.size w wr) (fun i _ => pss.length - (intOf i).toNat)
  case atStart =>
    refine ⟨0, _, Nat.zero_le _, rfl, hown1, ⟨?_, fun j h h2 => by omega⟩, (Below.refl _ _).grown hgrow1 (Nat.le_refl _) (fun k hk => by cases hk)⟩
    rw [show (Value.slice none 0 0).cells = #[.slice none 0 0] from rfl, toList_madeCells_one]; simp
  case round =>
    clear hgrow1 hown1
    obtain ⟨k, L, hk, rfl, hown, HL, hbel⟩ := hrel
    by_cases hlt : k < pss.length
    · obtain ⟨b, off, A1, c1, rfl, h1, h2, h3, h4⟩ := (hr.belo hbel) k hlt
      have hLk : k < L.length := by rw [HL.out.1]; exact hlt
      have hc0 := (hown.cellAt k (by omega)).trans (List.getElem?_eq_getElem hLk)
      have hsz := World.block_lt_of_cell? wr _ hc0
      simp only at hsz
      obtain ⟨ps, hps⟩ : ∃ ps, pss[k] = ps := ⟨_, rfl⟩
      have HPS := Lib.hid hps
      have hpl := HALL.out _ (List.getElem_mem hlt)
      rw [hps] at h1 h2 h3 h4 hpl
      clear hps
      have CC := Lib.hid (toCellS_any A1 c1 ps wr h4 (by omega))
      clear h2 h3 h4
      go_wp2_with (go_at_call 84; refine CC.out.mono ?_; rintro e w3 ⟨A3, rfl, o3, b3⟩; have own3 := own_below hown b3 (Nat.le_refl _); have hf1 := own3.frozenAt k; have hc1 := (own3.cellAt k (by omega)).trans (List.getElem?_eq_getElem hLk))
      go_roundw
      case rel =>
        refine ⟨k + 1, L.set k (.slice A3 ps.length ps.length), by omega, by go_num, (own3.stored k _).1, ⟨by rw [List.length_set]; exact HL.out.1, fun j h h2 => ?_⟩, (hbel.trans (b3.mono hbel.size)).setCell (Nat.le_refl _) _⟩
        have keep : ∀ {v : Value} {qs : List Ce}, OwnC w3 (w.heap.size + 1) v qs → OwnC (w3.setCell ⟨w.heap.size, k, none⟩ (.slice A3 ps.length ps.length)) (w.heap.size + 1) v qs := fun ⟨A5, c5, e5, h5⟩ => ⟨A5, c5, e5, ownsRow_setCell_below h5 (by simp) _⟩
        rcases Nat.lt_or_ge j k with h5 | h5
        · obtain ⟨A6, e6, h6, i6⟩ := HL.out.2 j h h5
          exact ⟨A6, by rw [List.getElem?_set_ne (by omega)]; exact e6, keep (h6.belo b3), fun g eg i hi gi n' c' e => by
            rw [List.getElem?_set_ne (by omega)] at e
            exact i6 g eg i hi gi n' c' e⟩
        · obtain rfl : j = k := by omega
          rw [HPS.out]
          refine ⟨A3, by rw [List.getElem?_set_self hLk], keep (o3.base (by omega)), fun g eg i hi gi n' c' e => ?_⟩
          rw [List.getElem?_set_ne (by omega)] at e
          obtain ⟨A6, e6, h6, -⟩ := HL.out.2 i (by omega) hi
          rw [e] at e6
          injection e6 with e6
          injection e6 with e6a e6b e6c
          subst e6b
          subst e6c
          obtain ⟨og, eo, -, ho⟩ := own_bk h6
          obtain ⟨og3, eo3, -, ho3⟩ := own_bk o3
          have x1 : og = some gi := by
            rw [eo] at e6a
            cases og with
            | none => simp [bkO] at e6a
            | some q => simp [bkO] at e6a; rw [e6a]
          have x2 : og3 = some g := by
            rw [eo3] at eg
            cases og3 with
            | none => simp [bkO] at eg
            | some q => simp [bkO] at eg; rw [eg]
          have y1 := (ho gi x1).2
          have y2 := (ho3 g x2).1
          omega
      case measure => simp [intOf]; omega
    · go_wp2_with fail
      go_ret
      have hrd := Rd.own hown
      have HD : ∀ k (h : k < pss.length), ∃ (og : Option Nat), L[k]? = some (.slice (bkO og) pss[k].length pss[k].length) ∧ Wr wr (w.heap.size + 1) 89 (bkO og) (cellsV pss[k]) ∧ ∀ g, og = some g → (w.heap.size + 1 ≤ g ∧ g < wr.heap.size) ∧ ∀ j, j < k → ∀ gj n c, L[j]? = some (.slice (some ⟨gj, 0, none⟩) n c) → gj < g := fun k hk => by
        obtain ⟨A6, e6, h6, i6⟩ := HL.out.2 k hk (by omega)
        obtain ⟨og, eo, h7, h8⟩ := own_bk h6
        exact ⟨og, by rw [← eo]; exact e6, h7, fun g eg => ⟨h8 g eg, i6 g (by rw [eo, eg]; rfl)⟩⟩
      refine ⟨_, L, rfl, hrd, fun j hj => ?_, ⟨by rw [HL.out.1, List.length_map], fun k hk => ?_⟩, fun ad e => by injection e with e; subst e; exact Nat.le_refl _, hbel⟩
      · obtain ⟨A6, e6, h6, -⟩ := HL.out.2 j hj (by omega)
        exact ⟨_, 0, A6, _, rfl, by rw [Nat.zero_add]; exact (hown.cellAt j (by omega)).trans e6, Nat.le_refl _, by have := HALL.out _ (List.getElem_mem hj); unfold maxLen; omega, OwnC.rd h6⟩
      · have hk' : k < pss.length := by simpa using hk
        obtain ⟨og, e6, h7, h8⟩ := HD k hk'
        rw [List.getElem_map]
        exact ⟨og, _, e6, cellsV_len _, h7.lower (by omega), fun g eg => ⟨fun ad e => by injection e with e; subst e; have := (h8 g eg).1.1; show w.heap.size ≠ g; omega, (h8 g eg).1.2, (h8 g eg).2⟩⟩
/-- only the rows' blocks are written -/
def FrE (xs : List Value) (w w' : World) : Prop := w.heap.size ≤ w'.heap.size ∧ ∀ b, b < w.heap.size → (∀ (k n c : Nat), xs[k]? ≠ some (Value.slice (some ⟨b, 0, none⟩) n c)) → w'.heap[b]? = w.heap[b]?
set_option maxHeartbeats 2000000 in
theorem markCellSSE_any (A : Option Addr) (n c : Nat) (xs : List Value) (R : List (List Value)) (k : Int) (w : World) (lo : Nat) (h : RowsE w lo A xs R) (hr : Rd w A xs) (hx : R.length = n) (ht : totR R ≤ 900000000000) (hn : n ≤ 900000000000) (k0 : 0 ≤ k) (k1 : k ≤ 90000000000) :
    Calls Tryz.prog 27 #[.slice A n c, .int .i64 k] w fun e w' => e = .returned (.int .i64 (k + totR R)) ∧ RowsE w' lo A xs (mrk k R) ∧ Rd w' A xs ∧ Above lo w w' ∧ w.heap.size ≤ w'.heap.size ∧ FrE xs w w' := by
  have HX := Lib.hid hx
  clear hx
  go_enter Tryz.func27, Tryz.ntmps27
  go_wp2
  go_loopw [1, 5] (fun v i wr => ∃ j : Nat, j ≤ n ∧ i = .int .i64 j ∧ v = .int .i64 (k + totR (R.take j)) ∧ RowsE wr lo A xs (mrkTo k R j) ∧ Rd wr A xs ∧ Above lo w wr ∧ w.heap.size ≤ wr.heap.size ∧ FrE xs w wr) (fun _ i _ => n - (intOf i).toNat)
  case atStart => exact ⟨0, Nat.zero_le _, rfl, by simp [totR], by rw [mrkTo_zero]; exact h, hr, fun B w0 _ _ hb => hb, Nat.le_refl _, Nat.le_refl _, fun _ _ _ => rfl⟩
  case round =>
    obtain ⟨j, hj, rfl, rfl, hw, hrd, hab, hsz, hfre⟩ := hrel
    by_cases hlt : j < n
    · have hjR : j < R.length := by rw [HX.out]; exact hlt
      have hjM : j < (mrkTo k R j).length := by rw [mrkTo_len k R j (by omega)]; exact hjR
      obtain ⟨og, nk, a1, a2, a3, a4⟩ := hw.2 j hjM
      obtain ⟨b, off, rfl, hc⟩ := rd_cellE hrd a1
      have HA1 := Lib.hid a1
      have hle := totR_le R (j + 1)
      have HT := Lib.hid (totR_take R j hjR)
      rw [HT.out] at hle
      have HM := Lib.hid (mrkTo_at k R j hjR hjM)
      rw [HM.out] at a2 a3
      have HS := Lib.hid (mrkTo_step k R j hjR)
      rw [a2] at hle
      have HA2 := Lib.hid a2
      have HW := Lib.hid hw
      have HRD := Lib.hid hrd
      have HAB := Lib.hid hab
      have HFR := Lib.hid hfre
      have HNE := Lib.hid (fun gk (e : og = some gk) => show b ≠ gk from (a4 gk e).1 _ rfl)
      have CC := Lib.hid (markCellS_any (bkO og) nk nk R[j] (k + totR (R.take j)) wr lo a3 a2 (by omega) (by omega) (by omega))
      clear a1 a2 a3 a4 hw hrd hab hfre
      generalize totR (R.take j) = t at hle CC HT HS
      go_wp2_with (go_at_call 88; refine CC.out.mono ?_; rintro e w5 ⟨rfl, m1, m2⟩)
      have hsz5 := m2.size
      go_roundw
      case rel =>
        refine ⟨j + 1, by omega, by go_num, ?_, ?_, ?_, ?_, by omega, ?_⟩
        · rw [HT.out, HA2.out]; congr 1; omega
        · rw [← HS.out, HA2.out]
          exact HW.out.mark HA1.out (by rw [List.length_map, marks_len]) m1 m2
        · exact Rd.grownBelow HRD.out m2 (fun _ ad ha e => by
            injection ha with ha; subst ha
            cases og with
            | none => simp [bkO] at e
            | some gk => exact HNE.out gk rfl (by simpa [bkO] using e))
        · intro B w0 hB hBs hb
          refine (HAB.out B w0 hB hBs hb).grown m2 (by omega) (fun q hq => ?_)
          cases og with
          | none => simp [bkO] at hq
          | some gk =>
            have h2 := m1.1 _ rfl
            simp [bkO] at hq
            simp only at h2
            omega
        · have hge := HFR.out.1
          refine ⟨by omega, fun q hq hn => (m2.block q (by omega) (fun e => ?_)).trans (HFR.out.2 q hq hn)⟩
          cases og with
          | none => simp [bkO] at e
          | some gk =>
            have e' : gk = q := by simpa [bkO] using e.symm
            subst e'
            exact hn j nk nk HA1.out
      case measure => simp [intOf]; omega
    · have hjn : j = n := by omega
      subst hjn
      have HW : Hid (RowsE wr lo A xs (mrk k R)) := by
        show RowsE _ _ _ _ _
        have := hw
        rw [← HX.out, mrkTo_all] at this
        exact this
      have HTT : Hid (totR (R.take j) = totR R) := by show _ = _; rw [← HX.out, List.take_length]
      clear hw
      go_wp2
      go_ret
      exact ⟨ret_i (by rw [HTT.out]), HW.out, hrd, hab, hsz, hfre⟩
/-- the sizes of all together -/
def RoomT (pss : List (List Ce)) (w : World) (e : Ending) (w' : World) : Prop := ∃ r : Int, e = .returned (.int .i64 r) ∧ Hid (0 ≤ r → pss.length ≤ 1048576 ∧ (pss.map List.length).sum ≤ 1048576) ∧ w = w'
set_option maxHeartbeats 1000000 in
theorem szCellSST_any (L : Int) (l0 : 0 ≤ L) (l1 : L ≤ 1048576) (A : Option Addr) (c : Nat) (pss : List (List Ce)) (w : World) (hr : RdSS w A pss) (hn : pss.length ≤ maxLen) :
    Calls Tryz.prog 19 #[.slice A pss.length c, .int .i64 L] w (RoomT pss w) := by
  unfold maxLen at hn
  by_cases hs : (pss.length : Int) ≤ L
  · have hs1 : pss.length ≤ 1048576 := by omega
    go_enter Tryz.func19, Tryz.ntmps19
    go_wp2_with fail
    go_loopw [1, 5] (fun l i wr => ∃ (k : Nat) (r : Int), k ≤ pss.length ∧ i = .int .i64 k ∧ l = .int .i64 r ∧ 0 ≤ r ∧ r ≤ 1048576 ∧ Hid (r + ((((pss.take k).map List.length).sum : Nat) : Int) ≤ 1048576) ∧ w = wr) (fun _ i _ => pss.length - (intOf i).toNat)
    case atStart => exact ⟨0, L - pss.length, Nat.zero_le _, rfl, rfl, by omega, by omega, by show _ ≤ _; simp; omega, rfl⟩
    case round =>
      obtain ⟨k, r, hk, rfl, rfl, hr0, hr1, HK, rfl⟩ := hrel
      by_cases hlt : k < pss.length
      · obtain ⟨b, off, A', c', rfl, h1, h2, h3, h4⟩ := hr k hlt
        have HSN := Lib.hid (show ((pss.take (k + 1)).map List.length).sum = ((pss.take k).map List.length).sum + pss[k].length by rw [take_one_more pss k hlt, List.map_append, List.sum_append]; simp)
        obtain ⟨n, hnn⟩ : ∃ n, pss[k].length = n := ⟨_, rfl⟩
        have HN := Lib.hid hnn
        rw [hnn] at h1 h2 h3 HSN
        clear hnn h4
        by_cases hf : (n : Int) ≤ r
        · go_wp2_with (go_at_call 81; refine (szCellS_t _ _ _ _ _ hr1 hf).mono ?_; rintro e w1 ⟨rfl, rfl⟩)
          go_roundw
          case rel =>
            exact ⟨k + 1, r - n, by omega, by go_num, rfl, by omega, by omega, by show _ ≤ _; have := HK.out; rw [HSN.out]; omega, by trivial⟩
          case measure => simp [intOf]; omega
        · have hf' : r < n := by omega
          go_wp2_with (go_at_call 81; refine (szCellS_f _ _ _ _ _ hr0 h3 hf').mono ?_; rintro e w1 ⟨rfl, rfl⟩)
          go_ret
          exact ⟨_, rfl, fun h => by omega, rfl⟩
      · go_wp2_with fail
        go_ret
        exact ⟨_, rfl, fun _ => ⟨hs1, by have h9 := HK.out; rw [List.take_of_length_le (by omega)] at h9; omega⟩, rfl⟩
  · have hs1 : L < pss.length := by omega
    go_enter Tryz.func19, Tryz.ntmps19
    go_wp2_with fail
    go_ret
    exact ⟨_, rfl, fun h => by omega, rfl⟩

theorem sum_each : ∀ {pss : List (List Ce)} {m : Nat}, (pss.map List.length).sum ≤ m → ∀ ps ∈ pss, ps.length ≤ m
  | [], _, _ => fun _ h => by cases h
  | a :: l, m, h => fun ps hp => by
    rw [List.map_cons, List.sum_cons] at h
    rcases List.mem_cons.1 hp with rfl | hl
    · omega
    · have := sum_each (pss := l) (m := m) (by omega) ps hl
      exact this
theorem totR_sum : ∀ pss : List (List Ce), totR (pss.map cellsV) = (pss.map List.length).sum * 2
  | [] => rfl
  | a :: l => by
    have := totR_sum l
    rw [List.map_cons, totR, this, cellsV_len, List.map_cons, List.sum_cons, Nat.add_mul]
end Go.Proofs.YtejkbjcmndnfeaaGreat

/- The walk of the law FnExactFillsAll. -/
namespace Go.Proofs.YtejkbjcmndnfeaaGreat
open Go.RowKit

theorem rdLL_of {w : World} {lo : Nat} {A : Option Addr} {xs : List Value} {L : List (List Int)} (hr : Rd w A xs) (h : RowsI w lo xs L) (hb : ∀ f ∈ L, f.length ≤ 1000000) : RdLL w A L :=
  ⟨xs, hr, h.1, fun k hk hx => by
    obtain ⟨gk, nk, a1, a2, a3, -⟩ := h.2 k hk
    rw [List.getElem?_eq_getElem hx] at a1
    injection a1 with a1
    exact ⟨_, _, by rw [a1, a2], by omega, hb _ (List.getElem_mem hk), a3.rd⟩⟩
theorem fillsW_each {W T : Int} {bs : List Bool} {pss : List (List Ce)} : (fillsW W T bs pss).length ≤ 12230590464 ∧ ∀ f ∈ fillsW W T bs pss, f.length ≤ 36 := by
  unfold fillsW
  split
  · rename_i h
    obtain ⟨h1, h2⟩ := h
    obtain ⟨P6, hok⟩ := pieces_ok h2
    obtain ⟨⟨q1, q6⟩, ⟨t1, t6⟩, hlen, -⟩ := validB_iff.1 h1
    have hf : FldF W T bs.length := ⟨q1, q6, t1, t6, hlen⟩
    refine ⟨fills_max W T bs pss true P6 P6 _ _, fun f hfm => ?_⟩
    have := ((fillsV_mem hf hok f).1 hfm).1
    have := hf.bd
    omega
  · simp
theorem AtL.lo {w : World} {lo : Nat} {xs : List Value} {L : List (List Int)} (h : RowsI w lo xs L) {b : Nat} (hb : AtL xs b) : lo ≤ b ∧ b < w.heap.size := by
  obtain ⟨k, ad, n, c, e, hbk⟩ := hb
  have hx := (List.getElem?_eq_some_iff.1 e).1
  obtain ⟨gk, nk, a1, a2, a3, a4, -⟩ := h.2 k (by rw [← h.1]; exact hx)
  rw [e] at a1
  injection a1 with a1
  injection a1 with e1 _ _
  injection e1 with e1
  subst e1
  have := a3.1 _ rfl
  simp only at this hbk
  subst hbk
  exact ⟨this, a4⟩
theorem RowsE.lt {w : World} {lo : Nat} {A : Option Addr} {xs : List Value} {R : List (List Value)} (h : RowsE w lo A xs R) {k b n c : Nat} (e : xs[k]? = some (.slice (some ⟨b, 0, none⟩) n c)) : b < w.heap.size := by
  have hx := (List.getElem?_eq_some_iff.1 e).1
  obtain ⟨og, nk, a1, -, -, a4⟩ := h.2 k (by rw [← h.1]; exact hx)
  rw [e] at a1
  injection a1 with a1
  injection a1 with e1 _ _
  cases og with
  | none => simp [bkO] at e1
  | some g =>
    have e2 : b = g := by simpa [bkO] using e1
    subst e2
    exact (a4 b rfl).2.1
set_option maxRecDepth 100000 in
set_option maxHeartbeats 8000000 in
theorem fnExactFillsAll_walk {w0 : World} (W T : Int) (A : Option Addr) (c : Nat) (bs : List Bool) (_wW : (Lit.int .i64 W).wf = true) (_wT : (Lit.int .i64 T).wf = true) (hn : bs.length ≤ maxLen) (hr : Rd w0 A (bs.map .bool)) (A8 : Option Addr) (c8 : Nat) (pss : List (List Ce)) (hn8 : pss.length ≤ maxLen) (hr8 : RdSS w0 A8 pss) :
    Calls Tryz.prog 4 #[.agg #[.int .i64 W, .int .i64 T, .slice A bs.length c], .slice A8 pss.length c8] w0 fun e w' => e = .returned (.bool true) ∧ Below w0.heap.size w0 w' := by
  clear _wW _wT
  by_cases hs : bs.length ≤ 1048576
  · have hs1 : (bs.length : Int) ≤ 1048576 := by omega
    have hV := fillsW_each (W := W) (T := T) (bs := bs) (pss := pss)
    have hS := fun A A' c c' w R R' => sFillsAll_any W T A A' c c' bs pss w R hn R' hn8
    have hI := fun A A' c c' w R R' => iFillsAll_any W T A A' c c' bs pss w R hn R' hn8
    generalize fillsW W T bs pss = V at hV hS hI
    obtain ⟨hV1, hV2⟩ := hV
    have HV2 := Lib.hid hV2
    have HS := Lib.hid hS
    have HI := Lib.hid hI
    have htot := tot_leI 36 V hV2
    obtain ⟨Q, hQ⟩ : ∃ Q, totR (V.map fun f => f.map (Value.int .i64)) = Q := ⟨_, rfl⟩
    have HQ := Lib.hid hQ
    rw [hQ] at htot
    have hXm : V.length ≤ maxLen := by unfold maxLen; omega
    clear hS hI hV2 hQ
    have hne : ((1 : Int) + (Q : Int) != 1 + (Q : Int)) = false := by simp
    have hng : ¬ ((1 : Int) + (Q : Int) < 0) := by omega
    have Z0 := Below.refl (w0.heap.size + 1) (w0.alloc (.cells #[.int .i64 W, .int .i64 T, .slice A bs.length c] 38))
    have s0 : w0.heap.size + 1 ≤ (w0.alloc (.cells #[.int .i64 W, .int .i64 T, .slice A bs.length c] 38)).heap.size := by simp
    go_enter Tryz.func4, Tryz.ntmps4
    go_wp2_with fail
    refine (szRegion_t _ _ _ _ _ _ _ (by omega) hs1).mono ?_
    rintro e w1 ⟨rfl, b1⟩
    have Z1 := bx_go Z0 b1 s0
    have s1 := Nat.le_trans s0 b1.size
    clear Z0 s0 b1
    obtain ⟨B1, x0, x1, x2⟩ := bx Z1
    have P1 := hr8.belo B1
    have hlf : decide ((1048576 : Int) - (bs.length : Int) < 0) = false := by simp; omega
    go_wp2_with fail
    refine (szCellSST_any (1048576 - (bs.length : Int)) (by omega) (by omega) _ _ _ _ P1 hn8).mono ?_
    rintro e w1' ⟨r, rfl, HR, rfl⟩
    by_cases h0 : r < 0
    · go_wp2_with fail
      go_ret
      exact ⟨rfl, B1⟩
    · obtain ⟨hp1, hp2⟩ := HR.out (by omega)
      have H2 := Lib.hid (And.intro hp1 (sum_each hp2))
      have htr : totR (pss.map cellsV) ≤ 2097152 := by rw [totR_sum]; omega
      obtain ⟨R, hR⟩ : ∃ R, totR (pss.map cellsV) = R := ⟨_, rfl⟩
      have HRR := Lib.hid hR
      rw [hR] at htr
      clear HR P1 hp1 hp2 hR
      go_wp2_with fail
      refine (toRegion_any _ _ _ _ _ _ (hr.belo B1) (by omega)).mono ?_
      rintro e w2 ⟨A2, c2, rfl, o2, b2⟩
      have Z2 := bx_go Z1 b2 s1
      have s2 := Nat.le_trans s1 b2.size
      have S2 := Rd.own o2
      clear o2 b2 Z1 B1 x0 x1 x2
      obtain ⟨B2, x0, x1, x2⟩ := bx Z2
      have P2 := hr8.belo B2
      go_wp2_with fail
      refine (toCellSS_any _ _ _ _ P2 H2.out.1 H2.out.2).mono ?_
      rintro e w25 ⟨A25, rfl, P25, b25⟩
      have Z25 := bx_go Z2 b25 s2
      have s25 := Nat.le_trans s2 b25.size
      replace S2 := S2.belo b25
      clear P2 b25 B2 Z2 x0 x1 x2
      obtain ⟨B25, x0, x1, x2⟩ := bx Z25
      go_wp2_with fail
      refine (HS.out _ _ _ _ _ S2 P25).mono ?_
      rintro e w3 ⟨A3, c3, rfl, -, P3, b3⟩
      have Z3 := bx_go Z25 b3 s25
      have s3 := Nat.le_trans s25 b3.size
      clear S2 P25 b3 Z25 B25 x0 x1 x2 HS
      obtain ⟨B3, x0, x1, x2⟩ := bx Z3
      go_wp2_with fail
      refine (toRegion_any _ _ _ _ _ _ (hr.belo B3) (by omega)).mono ?_
      rintro e w4 ⟨A4, c4, rfl, o4, b4⟩
      have Z4 := bx_go Z3 b4 s3
      have s4 := Nat.le_trans s3 b4.size
      have Y4 := C3.new w4 (.int .i64 W) (.int .i64 T) (.slice A4 bs.length c4) 25
      have Q4 := Wr.of_own (own_base o4 (Nat.le_refl _))
      have l4 := own_lt o4
      have D4 := b4
      clear b4 o4 Z3 B3 x0 x1 x2
      have t4 : w3.heap.size ≤ w4.heap.size := D4.size
      have Z4b := Z4.alloc s4 (.cells #[.int .i64 W, .int .i64 T, .slice A4 bs.length c4] 25)
      obtain ⟨B4, x0, x1, x2⟩ := bx Z4b
      have P4 := hr8.belo B4
      go_wp2_with fail
      refine (toCellSSE_any _ _ _ _ P4 H2.out.1 H2.out.2).mono ?_
      rintro e w45 ⟨A45, xs45, rfl, rx45, P45, E45, a45, b45⟩
      have zs4 : (w4.alloc (.cells #[.int .i64 W, .int .i64 T, .slice A4 bs.length c4] 25)).heap.size = w4.heap.size + 1 := by simp
      rw [zs4] at E45 a45
      have z45 : w4.heap.size + 1 ≤ w45.heap.size := by have := b45.size; omega
      have Z45 := Z4b.trans (b45.mono (by omega))
      have Y45 := Y4.belo b45
      have Q45 := (Q4.below (Below.refl _ _ |>.alloc (Nat.le_refl _) (.cells #[.int .i64 W, .int .i64 T, .slice A4 bs.length c4] 25)) (Nat.le_refl _)).belo b45
      have D45 := bl_go (bl_alloc D4 (.cells #[.int .i64 W, .int .i64 T, .slice A4 bs.length c4] 25)) b45
      have HE45 := Lib.hid (fun (k b n' c' : Nat) (e : xs45[k]? = some (Value.slice (some ⟨b, 0, none⟩) n' c')) => E45.lt e)
      clear b45 Y4 Q4 D4 Z4 Z4b B4 P4 zs4 x0 x1 x2
      obtain ⟨y0, y1, y2⟩ := id Y45
      go_wp2_with fail
      refine (HI.out _ _ _ _ _ Q45.rd P45).mono ?_
      rintro e w5 ⟨A5, c5, xs5, rfl, -, rd5, -, row5, n5, b5⟩
      have z5 := b5.size
      have Z5 := Z45.trans (b5.mono (by omega))
      have Y5 := Y45.belo b5
      have Q5 := Q45.belo b5
      have E5 := E45.belo b5
      have P45' := P45.belo b5
      have rx5 := rx45.belo b5
      have D5 := bl_go D45 b5
      have P5 := P3.belo D5
      clear b5 Y45 Q45 D45 Z45 E45 rx45 P45 y0 y1 y2
      obtain ⟨y0, y1, y2⟩ := id Y5
      go_wp2_with fail
      refine (eqIntSS_t _ _ _ _ V _ (rdLL_of rd5 row5 (fun f hf => by have := HV2.out f hf; omega)) P5 hXm).mono ?_
      rintro e w6 ⟨rfl, b6⟩
      have z6 := b6.size
      have Z6 := bx_go Z5 b6 (by omega)
      have Y6 := Y5.belo b6
      have Q6 := Q5.belo b6
      have E6 := E5.belo b6
      have P46 := P45'.belo b6
      have rx6 := rx5.belo b6
      have D6 := bl_go D5 b6
      have rd6 := rd5.belo b6
      have row6 := row5.belo b6
      clear b6 Y5 Q5 E5 P45' rx5 D5 rd5 row5 Z5 P5 y0 y1 y2
      obtain ⟨y0, y1, y2⟩ := id Y6
      obtain ⟨B6, X6⟩ := bx Z6
      obtain ⟨x0, x1, x2⟩ := id X6
      have R6 := hr.belo B6
      go_wp2_with fail
      go_region_held3 (fun w' => (w'.cell? ⟨w0.heap.size, 0, none⟩ = some (.int .i64 W) ∧ w'.cell? ⟨w0.heap.size, 1, none⟩ = some (.int .i64 T) ∧ w'.cell? ⟨w0.heap.size, 2, none⟩ = some (.slice A bs.length c)) ∧
          (w'.cell? ⟨w4.heap.size, 0, none⟩ = some (.int .i64 W) ∧ w'.cell? ⟨w4.heap.size, 1, none⟩ = some (.int .i64 T) ∧ w'.cell? ⟨w4.heap.size, 2, none⟩ = some (.slice A4 bs.length c4)))
        (first | exact ⟨X8, Y8⟩ | exact ⟨X7, Y7⟩ | exact ⟨X6, Y6⟩ | go_keep)
        (first
          | (go_at_call 21; refine (toRegion_any _ _ _ _ _ _ R6.drew (by omega)).mono ?_; rintro e w7 ⟨A7, c7, rfl, o7, b7⟩; have X7 := X6.drew.belo b7; have Y7 := Y6.drew.belo b7; have S7 := Rd.own o7; have T7 := Q6.rd.drew.belo b7)
          | (go_at_call 24; refine (eqRegion_t _ _ _ _ _ _ _ _ T7 S7 hn).mono ?_; rintro e w8 ⟨rfl, b8⟩; have X8 := X7.belo b8; have Y8 := Y7.belo b8; have b68 : Below w6.heap.size w6 w8 := bl_go (bl_go (Below.refl w6.heap.size w6).drew b7) b8))
      have z8 := b68.size
      have Z8 := bx_go Z6 b68 (by omega)
      have Y8' := Y6.belo b68
      have Q8 := Q6.belo b68
      have E8 := E6.belo b68
      have P48 := P46.belo b68
      have rx8 := rx6.belo b68
      have D8 := bl_go D6 b68
      have rd8 := rd6.belo b68
      have row8 := row6.belo b68
      clear b7 b8 b68 Y6 Q6 E6 P46 rx6 D6 rd6 row6 Z6 X6 B6 R6 x0 x1 x2 y0 y1 y2 X7 Y7 S7 T7 o7 X8 Y8
      obtain ⟨B8, x0, x1, x2⟩ := bx Z8
      have K8 := hr8.belo B8
      go_wp2_with fail
      refine (toCellSS_any _ _ _ _ K8 H2.out.1 H2.out.2).mono ?_
      rintro e w85 ⟨A85, rfl, K85, b85⟩
      have z85 := b85.size
      have P485 := P48.belo b85
      clear K8 B8 x0 x1 x2
      go_wp2_with fail
      refine (eqCellSS_t _ _ _ _ _ _ P485 K85 hn8).mono ?_
      rintro e w9 ⟨rfl, b9'⟩
      have b9 := bl_go b85 b9'
      have z9 := b9.size
      have Z9 := bx_go Z8 b9 (by omega)
      have Y9 := Y8'.belo b9
      have Q9 := Q8.belo b9
      have E9 := E8.belo b9
      have rx9 := rx8.belo b9
      have D9 := bl_go D8 b9
      have rd9 := rd8.belo b9
      have row9 := row8.belo b9
      clear b9 b85 b9' Y8' Q8 E8 P48 P485 K85 rx8 D8 rd8 row8 Z8
      obtain ⟨y0, y1, y2⟩ := id Y9
      go_wp2_with fail
      refine (markRegion_any _ _ _ _ _ _ _ _ _ Q9 (by simp) (by omega) (by omega) (by omega)).mono ?_
      rintro e w10 ⟨rfl, m10⟩
      have z10 := m10.size
      have Z10 := marked_below Z9 m10 Q9 s3 (by omega)
      have D10 := marked_below D9 m10 Q9 (Nat.le_refl _) (by omega)
      have L4 : ∀ q, w4.heap.size ≤ q → some q ≠ A4.map (·.block) := fun q hq e => by
        cases hA : A4 with
        | none => rw [hA] at e; cases e
        | some ad =>
          rw [hA] at e
          have := l4 ad hA
          have e' : q = ad.block := by simpa using e
          omega
      have E10 := E9.elder m10 (fun ad h => by have := l4 ad h; omega)
      have rx10 : Rd w10 A45 xs45 := rx9.blk fun hne ad ha => m10.block _ (Rd.lt rx9 ha hne) (L4 _ (by have := a45 ad ha; omega))
      have row10 := row9.keep m10.size (fun q hq => m10.block q (AtL.lo row9 hq).2 (L4 _ (by have := (AtL.lo row9 hq).1; omega)))
      have rd10 : Rd w10 A5 xs5 := rd9.blk fun hne ad ha => m10.block _ (Rd.lt rd9 ha hne) (L4 _ (by have := (n5 ad ha).1; omega))
      clear Z9 D9 E9 rx9 row9 rd9 Q9 m10 y0 y1 y2 Y9
      go_wp2_with fail
      have hp1' : pss.length ≤ 1048576 := H2.out.1
      refine (markCellSSE_any _ pss.length _ _ _ _ _ _ E10 rx10 (by rw [List.length_map]) (by rw [HRR.out]; omega) (by omega) (by omega) (by omega)).mono ?_
      rintro e w11 ⟨rfl, -, -, ab11, sz11, fr11⟩
      rw [HRR.out]
      have Z11 := ab11 _ _ (by omega) (by omega) Z10
      have D11 := ab11 _ _ (by omega) (by omega) D10
      have row11 := row10.keep sz11 (fun q hq => fr11.2 q (AtL.lo row10 hq).2 (fun k n' c' e => by have := HE45.out k q n' c' e; have := (AtL.lo row10 hq).1; omega))
      have rd11 : Rd w11 A5 xs5 := rd10.blk fun hne ad ha => by
        obtain ⟨f, hf⟩ : ∃ f, ad = (⟨f, 0, none⟩ : Addr) ∨ True := ⟨0, .inr trivial⟩
        exact fr11.2 _ (Rd.lt rd10 ha hne) (fun k n' c' e => by have := HE45.out k _ n' c' e; have := (n5 ad ha).1; omega)
      have P11 := P3.belo D11
      have hk11 : ¬ ((1 : Int) + (bs.length : Int) + (R : Int) < 0) := by omega
      clear ab11 fr11 row10 rd10 rx10 E10 Z10 D10 HE45
      go_wp2_with fail
      refine (eqIntSS_t _ _ _ _ V _ (rdLL_of rd11 row11 (fun f hf => by have := HV2.out f hf; omega)) P11 hXm).mono ?_
      rintro e w12 ⟨rfl, b12⟩
      have z12 := b12.size
      have Z12 := bx_go Z11 b12 (by omega)
      have D12 := bl_go D11 b12
      have row12 := row11.belo b12
      have rd12 := rd11.belo b12
      clear b12 Z11 D11 P11 row11 rd11
      go_wp2_with fail
      refine (markIntSS_any _ V.length _ xs5 V 1 _ _ _ rfl (RowsV.of row12 (fun ad ha => (n5 ad ha).2.2)) rd12 (by rw [List.length_map]) (by rw [HQ.out]; omega) (by omega) (by omega) (by omega)).mono ?_
      rintro e w13 ⟨rfl, G13, rd13, ab13, sz13⟩
      rw [HQ.out]
      have Z13 := ab13 _ _ (by omega) (by omega) Z12
      have D13 := ab13 _ _ (by omega) (by omega) D12
      clear ab13 Z12 D12 row12 rd12
      go_wp2_with fail
      refine (heldIntSS_any _ V.length _ _ _ 1 _ _ G13 rd13 (by rw [List.length_map]) (by rw [HQ.out]; omega) (by omega) (by omega) (by omega)).mono ?_
      rintro e w' ⟨rfl, rfl⟩
      rw [HQ.out]
      obtain ⟨B13, x0, x1, x2⟩ := bx Z13
      have P13 := P3.belo D13
      go_wp2_with fail
      refine (toRegion_any _ _ _ _ _ _ (hr.belo B13) (by omega)).mono ?_
      rintro e w14 ⟨A14, c14, rfl, o14, b14⟩
      have B14 := bl_go B13 b14
      have S14 := Rd.own o14
      clear x0 x1 x2
      go_wp2_with fail
      refine (toCellSS_any _ _ _ _ (hr8.belo B14) H2.out.1 H2.out.2).mono ?_
      rintro e w15 ⟨A15, rfl, K15, b15⟩
      go_wp2_with fail
      refine (HI.out _ _ _ _ _ (S14.belo b15) K15).mono ?_
      rintro e w16 ⟨A16, c16, xs16, rfl, -, rd16, -, row16, -, b16⟩
      have b36 := bl_go (bl_go b14 b15) b16
      go_wp2_with fail
      refine (eqIntSS_t _ _ _ _ V _ (rdLL_of rd16 row16 (fun f hf => by have := HV2.out f hf; omega)) (P13.belo b36) hXm).mono ?_
      rintro e w17 ⟨rfl, b17⟩
      have b37 := bl_go b36 b17
      have B17 := bl_go B13 b37
      have G17 := G13.belo b37
      have rd17 := rd13.belo b37
      clear b14 b15 b16 b36 b17 b37 B14 S14 K15 rd16 row16 P13 G13 rd13
      go_wp2_with fail
      refine (heldIntSS_any _ V.length _ _ _ 1 _ _ G17 rd17 (by rw [List.length_map]) (by rw [HQ.out]; omega) (by omega) (by omega) (by omega)).mono ?_
      rintro e w' ⟨rfl, rfl⟩
      rw [HQ.out]
      go_wp2
      go_ret
      exact ⟨rfl, B17⟩
  · have hs1 : (1048576 : Int) < bs.length := by omega
    go_enter Tryz.func4, Tryz.ntmps4
    go_wp2_with fail
    refine (szRegion_f _ _ _ _ _ _ _ (by omega) hn hs1).mono ?_
    rintro e w1 ⟨rfl, b1⟩
    have B1 := bl_go ((Below.refl w0.heap.size w0).alloc (Nat.le_refl _) _) b1
    go_wp2
    go_ret
    exact ⟨rfl, B1⟩
end Go.Proofs.YtejkbjcmndnfeaaGreat

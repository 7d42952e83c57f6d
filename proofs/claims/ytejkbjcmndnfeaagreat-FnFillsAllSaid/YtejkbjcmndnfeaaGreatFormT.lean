
/- Contracts: the reference's PieceForms. (printed by gen_sforms.py) -/
import Derived.Test.YtejkbjcmndnfeaaGreatFormS
namespace Go.Proofs.YtejkbjcmndnfeaaGreat
open Go.RowKit Go.Sort

/-- the heads read as the lists -/
def HeadsN (w : World) (xs : List Value) (pss : List (List Ce)) : Prop :=
  xs.length = pss.length ∧ ∀ k (h : k < pss.length), ∃ (B : Option Addr) (c' : Nat), xs[k]? = some (.slice B pss[k].length c') ∧ pss[k].length ≤ 7 ∧ RdC w B pss[k]
theorem HeadsN.belo {w w' : World} {xs : List Value} {pss : List (List Ce)} (h : HeadsN w xs pss) (hb : Below w.heap.size w w') : HeadsN w' xs pss :=
  ⟨h.1, fun k hk => by obtain ⟨B, c', h1, h3, h4⟩ := h.2 k hk; exact ⟨B, c', h1, h3, Rd.belo h4 hb⟩⟩
theorem HeadsN.one {w : World} {xs : List Value} {pss : List (List Ce)} (h : HeadsN w xs pss) : ∀ u ∈ xs, u.oneCell' = true := fun u hu => by
  obtain ⟨i, hi, e⟩ := List.getElem_of_mem hu
  obtain ⟨B, c', h1, -⟩ := h.2 i (by have := h.1; omega)
  rw [List.getElem?_eq_getElem hi, e] at h1
  injection h1 with h1
  rw [h1]; rfl
/-- a list of lists that may be read -/
def NewRdSS (F : List (List Ce)) (w : World) (e : Ending) (w' : World) : Prop :=
  ∃ (b c' : Nat) (xs : List Value), e = .returned (.slice (some ⟨b, 0, none⟩) F.length c') ∧ F.length ≤ c' ∧ Rd w' (some ⟨b, 0, none⟩) xs ∧ HeadsN w' xs F ∧ Below w.heap.size w w'
/-- .. that lies in new blocks -/
def NewRdSN (F : List (List Ce)) (w : World) (e : Ending) (w' : World) : Prop :=
  ∃ (b c' : Nat) (xs : List Value), e = .returned (.slice (some ⟨b, 0, none⟩) F.length c') ∧ F.length ≤ c' ∧ Rd w' (some ⟨b, 0, none⟩) xs ∧ HeadsN w' xs F ∧ Below w.heap.size w w' ∧ w.heap.size ≤ b ∧ ∀ ad n c, Value.slice (some ad) n c ∈ xs → w.heap.size ≤ ad.block
theorem NewRdSN.ss {F : List (List Ce)} {w : World} {e : Ending} {w' : World} (h : NewRdSN F w e w') : NewRdSS F w e w' := by
  obtain ⟨b, c', xs, h1, h2, h3, h4, h5, -⟩ := h
  exact ⟨b, c', xs, h1, h2, h3, h4, h5⟩
/-- cells that may be read, in a new block -/
def RdZ (S : Nat) (z : World) (B : Option Addr) (p : List Ce) : Prop := RdC z B p ∧ (∀ ad, B = some ad → S ≤ ad.block) ∧ S ≤ z.heap.size
theorem RdZ.belo {S : Nat} {z z' : World} {B : Option Addr} {p : List Ce} (h : RdZ S z B p) (hb : Below z.heap.size z z') : RdZ S z' B p := ⟨Rd.belo h.1 hb, h.2.1, Nat.le_trans h.2.2 hb.size⟩
/-- a list of cells that may be read -/
def NewRdL (p : List Ce) (L : Nat) (w : World) (e : Ending) (w' : World) : Prop :=
  ∃ (A : Option Addr) (c : Nat), e = .returned (.slice A L c) ∧ RdC w' A p ∧ Below w.heap.size w w'
theorem NewRdK.toL {p : List Ce} {L : Nat} (hl : p.length = L) {w : World} {e : Ending} {w' : World} (h : NewRdK p w e w') : NewRdL p L w e w' := by
  subst hl
  obtain ⟨A, c, h1, h2, h3, -⟩ := h
  exact ⟨A, c, h1, h2, h3⟩
/-- .. in a new block -/
def NewRdM (S : Nat) (p : List Ce) (L : Nat) (w : World) (e : Ending) (w' : World) : Prop :=
  ∃ (A : Option Addr) (c : Nat), e = .returned (.slice A L c) ∧ RdZ S w' A p ∧ Below w.heap.size w w'
theorem NewRdK.toM {S : Nat} {p : List Ce} {L : Nat} (hl : p.length = L) {w : World} (hS : S ≤ w.heap.size) {e : Ending} {w' : World} (h : NewRdK p w e w') : NewRdM S p L w e w' := by
  subst hl
  obtain ⟨A, c, h1, h2, h3, h4, -⟩ := h
  exact ⟨A, c, h1, ⟨h2, fun ad e => Nat.le_trans hS (h4 ad e), Nat.le_trans hS h3.size⟩, h3⟩
theorem piece_okC {ps : List Ce} (h : PieceOk ps) : ∀ q ∈ ps, okC q := fun q hq => by
  have := h.2.1 q hq
  unfold okC okI
  omega
theorem walkF_len (ps : List Ce) (n : Nat) : (walkF ps n).length = ps.length := by
  unfold walkF fmC
  split <;> rw [mvd_len, List.length_map]
theorem mvdV_lenE {ps : List Ce} (f : Ce → Ce) (h : PieceOk ps) : (mvdV f ps).length = ps.length := by
  rw [mvdV_ok f h, mvd_len, List.length_map]
theorem incOf_len_le (F : List (List Ce)) : (incOf F).length ≤ F.length := by
  have hle : ∀ (F L : List (List Ce)), (F.foldl (fun L x => insF x L) L).length ≤ L.length + F.length := by
    intro F
    induction F with
    | nil => intro L; simp
    | cons a F ih =>
      intro L
      have h1 := ih (insF a L)
      have h2 : (insF a L).length ≤ L.length + 1 := by
        clear h1 ih
        induction L with
        | nil => simp [insF]
        | cons y l ih =>
          unfold insF
          split
          · simp; omega
          · split <;> simp
      rw [List.foldl_cons, List.length_cons]; omega
  have := hle F []
  unfold incOf
  simpa using this
/-- the state of the loop -/
structure SpF (w wr : World) (ps : List Ce) (n N : Nat) (F : List (List Ce)) (xs : List Value) (b c' : Nat) (B : Option Addr) : Prop where
  is : F = incOf ((List.range n).map (walkF ps))
  len : F.length = N
  cap : N ≤ c'
  rd : Rd wr (some ⟨b, 0, none⟩) xs
  hd : HeadsN wr xs F
  x : RdZ w.heap.size wr B (walkF ps n)
  nb : w.heap.size ≤ b
  nx : ∀ ad n c, Value.slice (some ad) n c ∈ xs → w.heap.size ≤ ad.block
  ok : Below w.heap.size w wr
theorem SpF.le {w wr : World} {ps : List Ce} {n N : Nat} {F : List (List Ce)} {xs : List Value} {b c' : Nat} {B : Option Addr} (h : SpF w wr ps n N F xs b c' B) : N ≤ n := by
  have := incOf_len_le ((List.range n).map (walkF ps))
  rw [← h.is, h.len] at this
  simpa using this
theorem SpF.keep {w wr w2 w3 : World} {ps : List Ce} {n N : Nat} {F : List (List Ce)} {xs : List Value} {b c' : Nat} {B B' : Option Addr} (h : SpF w wr ps n N F xs b c' B) (hi : insF (walkF ps n) F = F) (b2 : Below wr.heap.size wr w2) (b3 : Below w2.heap.size w2 w3) (hx : RdZ w.heap.size w3 B' (walkF ps (n + 1))) :
    SpF w w3 ps (n + 1) N F xs b c' B' := by
  have bb := bl_go b2 b3
  refine ⟨?_, h.len, h.cap, h.rd.belo bb, h.hd.belo bb, hx, h.nb, h.nx, bl_go h.ok bb⟩
  rw [List.range_succ, List.map_append, List.map_singleton, incOf_snoc, ← h.is, hi]
theorem SpF.put {w wr w2 w3 : World} {ps : List Ce} {n N : Nat} {F : List (List Ce)} {xs : List Value} {b c' : Nat} {B B' : Option Addr} (h : SpF w wr ps n N F xs b c' B) {k : Nat} (hi : insF (walkF ps n) F = F.take k ++ [walkF ps n] ++ F.drop k) {L cB base b5 c5 : Nat}
    (hd2 : HeadsN w2 (xs.take k ++ [.slice B L cB] ++ xs.drop k) (F.take k ++ [walkF ps n] ++ F.drop k)) (rd2 : base ≤ b5 ∧ Rd w2 (some ⟨b5, 0, none⟩) (xs.take k ++ [.slice B L cB] ++ xs.drop k)) (hbase : w.heap.size ≤ base) (hc : N + 1 ≤ c5) (b2 : Below wr.heap.size wr w2) (b3 : Below w2.heap.size w2 w3) (hx : RdZ w.heap.size w3 B' (walkF ps (n + 1))) :
    SpF w w3 ps (n + 1) (N + 1) (F.take k ++ [walkF ps n] ++ F.drop k) (xs.take k ++ [.slice B L cB] ++ xs.drop k) b5 c5 B' := by
  have bb := bl_go b2 b3
  refine ⟨?_, ?_, hc, rd2.2.belo b3, hd2.belo b3, hx, Nat.le_trans hbase rd2.1, fun ad n' c'' hm => ?_, bl_go h.ok bb⟩
  rotate_left
  rotate_left
  · rcases List.mem_append.1 hm with hm | hm
    · rcases List.mem_append.1 hm with hm | hm
      · exact h.nx ad n' c'' (List.mem_of_mem_take hm)
      · rw [List.mem_singleton] at hm
        injection hm with e1 e2 e3
        exact h.x.2.1 ad e1.symm
    · exact h.nx ad n' c'' (List.mem_of_mem_drop hm)
  · rw [List.range_succ, List.map_append, List.map_singleton, incOf_snoc, ← h.is, hi]
  · have := h.len
    simp only [List.length_append, List.length_take, List.length_drop, List.length_cons, List.length_nil]
    omega
theorem HeadsN.takeT {w : World} {xs : List Value} {pss : List (List Ce)} (h : HeadsN w xs pss) (k : Nat) : HeadsN w (xs.take k) (pss.take k) :=
  ⟨by rw [List.length_take, List.length_take, h.1], fun j hj => by
    rw [List.length_take] at hj
    obtain ⟨B, c', h1, h3, h4⟩ := h.2 j (by omega)
    rw [List.getElem_take]
    exact ⟨B, c', by rw [List.getElem?_take, if_pos (by omega)]; exact h1, h3, h4⟩⟩
theorem HeadsN.dropT {w : World} {xs : List Value} {pss : List (List Ce)} (h : HeadsN w xs pss) (k : Nat) : HeadsN w (xs.drop k) (pss.drop k) :=
  ⟨by rw [List.length_drop, List.length_drop, h.1], fun j hj => by
    rw [List.length_drop] at hj
    obtain ⟨B, c', h1, h3, h4⟩ := h.2 (k + j) (by omega)
    rw [List.getElem_drop]
    exact ⟨B, c', by rw [List.getElem?_drop]; exact h1, h3, h4⟩⟩
theorem HeadsN.appT {w : World} {xs ys : List Value} {P R : List (List Ce)} (h : HeadsN w xs P) (k : HeadsN w ys R) : HeadsN w (xs ++ ys) (P ++ R) := by
  have h1 := h.1
  refine ⟨by rw [List.length_append, List.length_append, h1, k.1], fun j hj => ?_⟩
  rcases Nat.lt_or_ge j P.length with h2 | h2
  · rw [List.getElem_append_left h2]
    obtain ⟨B, c', a1, a2⟩ := h.2 j h2
    exact ⟨B, c', by rw [List.getElem?_append_left (by omega)]; exact a1, a2⟩
  · have hj' : j - P.length < R.length := by rw [List.length_append] at hj; omega
    rw [List.getElem_append_right h2]
    obtain ⟨B, c', a1, a2⟩ := k.2 _ hj'
    exact ⟨B, c', by rw [List.getElem?_append_right (by omega), h1]; exact a1, a2⟩
theorem HeadsN.oneT {w : World} {B : Option Addr} {c n : Nat} {p : List Ce} (h : RdC w B p) (hp : p.length = n) (hn : n ≤ 7) : HeadsN w [.slice B n c] [p] := by
  subst hp
  exact ⟨rfl, fun j hj => by
    obtain rfl : j = 0 := by simpa using hj
    exact ⟨B, c, rfl, hn, h⟩⟩
theorem HeadsN.ins {w : World} {xs : List Value} {F : List (List Ce)} (h : HeadsN w xs F) (k : Nat) {B : Option Addr} {c n : Nat} {p : List Ce} (hx : RdC w B p) (hp : p.length = n) (hn : n ≤ 7) :
    HeadsN w (xs.take k ++ [.slice B n c] ++ xs.drop k) (F.take k ++ [p] ++ F.drop k) := ((h.takeT k).appT (HeadsN.oneT hx hp hn)).appT (h.dropT k)
theorem rd_take {w : World} {b : Nat} {xs : List Value} (h : Rd w (some ⟨b, 0, none⟩) xs) (k : Nat) : ∀ j u, (xs.take k)[j]? = some u → w.cell? ((⟨b, 0, none⟩ : Addr).add j) = some u := fun j u hu => by
  rw [List.getElem?_take] at hu
  split at hu
  · obtain ⟨ad, e, hc⟩ := h (by rintro rfl; simp at hu)
    injection e with e
    subst e
    exact hc j u hu
  · cases hu
theorem rd_drop {w : World} {b o : Nat} {xs : List Value} (h : Rd w (some ⟨b, 0, none⟩) xs) (k : Nat) (ho : o = k ∨ xs.length ≤ k) : ∀ j u, (xs.drop k)[j]? = some u → w.cell? ((⟨b, o, none⟩ : Addr).add j) = some u := fun j u hu => by
  rw [List.getElem?_drop] at hu
  obtain ⟨ad, e, hc⟩ := h (by rintro rfl; simp at hu)
  injection e with e
  subst e
  have hlt : k + j < xs.length := by
    rcases Nat.lt_or_ge (k + j) xs.length with h1 | h1
    · exact h1
    · rw [List.getElem?_eq_none h1] at hu; cases hu
  have := hc _ u hu
  rw [add_off, Nat.zero_add] at this
  rw [add_off, show o = k by omega]; exact this
theorem one_take {xs : List Value} (h : ∀ u ∈ xs, u.oneCell' = true) (k : Nat) : ∀ u ∈ xs.take k, u.oneCell' = true := fun u hu => h u (List.mem_of_mem_take hu)
theorem one_drop {xs : List Value} (h : ∀ u ∈ xs, u.oneCell' = true) (k : Nat) : ∀ u ∈ xs.drop k, u.oneCell' = true := fun u hu => h u (List.mem_of_mem_drop hu)
/-- an empty list of the call's own -/
theorem own_none (w : World) (base : Nat) (hb : base ≤ w.heap.size) : OwnH (w.alloc (.cells #[] 32)) base (.slice (some ⟨w.heap.size, 0, none⟩) 0 0) [] :=
  ⟨_, _, rfl, World.ownsRow_lit w #[] 0 hb (by unfold maxLen; omega) (by simp)⟩
theorem OwnH.allocT {w : World} {base : Nat} {v : Value} {xs : List Value} (h : OwnH w base v xs) (o : Obj) : OwnH (w.alloc o) base v xs := by
  obtain ⟨A, c, e, h⟩ := h; exact ⟨A, c, e, h.alloc o⟩
theorem own_gr {w w' w0 : World} {base : Nat} {v : Value} {xs : List Value} (h : OwnH w base v xs) (hb : Below base w0 w) (hz : base ≤ w.heap.size) (hg : w.grownBy w' v.ownBlock) : Below base w0 w' :=
  hb.grown hg hz (fun k hk => by obtain ⟨A, c, e, o⟩ := h; exact (o.lt k hk).1)
theorem own_fm {w : World} {base m : Nat} {v : Value} {xs : List Value} (h : OwnH w base v xs) (hm : xs.length = m) (h0 : 0 < m) : ∃ g cap, v = .slice (some ⟨g, 0, none⟩) m cap ∧ m ≤ cap ∧ base ≤ g ∧ Rd w (some ⟨g, 0, none⟩) xs := by
  subst hm
  obtain ⟨A, c, rfl, o⟩ := h
  obtain ⟨g, cap, e, hbg, -⟩ := o.form h0
  injection e with e1 e2 e3
  subst e1
  refine ⟨g, c, rfl, ?_, hbg, Rd.own o⟩
  rcases o.2 with ⟨e, _⟩ | ⟨g', cap', cur, hv, _, _, h3, _⟩
  · cases e
  · injection hv with _ _ e4; omega
theorem one_new (w : World) (x : Value) (t : TypeId) : ∀ j u, [x][j]? = some u → (w.alloc (.cells #[x] t)).cell? ((⟨w.heap.size, 0, none⟩ : Addr).add j) = some u := fun j u hu => by
  rw [add_off, Nat.zero_add, cell_of_row _ _ _ _ _ _ (heap_alloc_new w _)]; simpa using hu
theorem one_old {w w' : World} {h : Nat} {x : Value} {row : Option Nat} (hc : ∀ j u, [x][j]? = some u → w.cell? ((⟨h, 0, none⟩ : Addr).add j) = some u) (hg : w.grownBy w' row) (hn : row ≠ some h) : ∀ j u, [x][j]? = some u → w'.cell? ((⟨h, 0, none⟩ : Addr).add j) = some u := fun j u hu => by
  have h1 := hc j u hu
  have hlt := World.block_lt_of_cell? w _ h1
  rw [add_off] at h1 hlt ⊢
  simp only at hlt
  rw [← h1]
  exact World.cell?_of_block (hg.block h hlt (fun e => hn e.symm))
theorem one_one (A : Option Addr) (n c : Nat) : ∀ u ∈ [Value.slice A n c], u.oneCell' = true := fun u hu => by simp at hu; subst hu; rfl
set_option maxRecDepth 100000 in
set_option maxHeartbeats 16000000 in
theorem sPieceForms_n (A : Option Addr) (c : Nat) (ps : List Ce) (w : World) (hr : RdC w A ps) (hn : ps.length ≤ maxLen) (hcap : ps.length ≤ c) (hp : pieceB ps = true) :
    Calls Tryz.prog 155 #[.slice A ps.length c] w (NewRdSN (formsV ps) w) := by
  have hok := ok_of_pieceB hp
  rw [formsV_ok hok]
  have HOK := Lib.hid hok
  obtain ⟨h1, h5⟩ := hok.1
  obtain ⟨L, hL⟩ : ∃ L, ps.length = L := ⟨_, rfl⟩
  have HL := Lib.hid hL
  have C0 : Hid (∀ z, RdC z A ps → w.heap.size ≤ z.heap.size → Calls Tryz.prog 132 #[.slice A L c] z (NewRdM w.heap.size (walkF ps 0) L z)) := by
    intro z R hS
    have := sPieceMoved_any A c ps z R hn hcap
    rw [walkF_zero hok, hL] at this
    exact this.mono fun _ _ h => h.toM (by rw [walkF_len, hL]) hS
  have CT : Hid (∀ (B : Option Addr) (cB : Nat) (z : World) (k : Nat), RdZ w.heap.size z B (walkF ps k) → Calls Tryz.prog 193 #[.slice B L cB] z (NewRdM w.heap.size (mvdV turnC (walkF ps k)) L z)) := by
    intro B cB z k ⟨R, _, hS⟩
    have hk := walkF_ok hok k
    have := sPieceTurn_any B cB (walkF ps k) z R (by have := hk.1.2; omega) (piece_okC hk)
    rw [walkF_len, hL] at this
    exact this.mono fun _ _ h => h.toM (by rw [mvdV_lenE _ hk, walkF_len, hL]) hS
  have CF : Hid (∀ (B : Option Addr) (cB : Nat) (z : World), RdZ w.heap.size z B (mvdV turnC (walkF ps 3)) → Calls Tryz.prog 194 #[.slice B L cB] z (NewRdM w.heap.size (walkF ps 4) L z)) := by
    intro B cB z ⟨R, _, hS⟩
    have hk : PieceOk (mvdV turnC (walkF ps 3)) := by
      rw [mvdV_ok turnC (walkF_ok hok 3)]
      exact ok_mvd (ok_turn (walkF_ok hok 3))
    have := sPieceFlip_any B cB _ z R (by have := hk.1.2; omega) (piece_okC hk)
    rw [mvdV_lenE _ (walkF_ok hok 3), walkF_len, hL, walkF_flip hok] at this
    exact this.mono fun _ _ h => h.toM (by rw [walkF_len, hL]) hS
  rw [hL] at h1 h5 ⊢
  have Z1 := bl_alloc (Below.refl w.heap.size w) (.cells #[] 32)
  have R1 : RdC (w.alloc (.cells #[] 32)) A ps := hr.alloc _
  clear hL hr hok hn hcap hp
  go_enter Tryz.func155, Tryz.ntmps155
  go_wp2_with fail
  refine (C0.out _ R1 Z1.size).mono ?_
  rintro e w1 ⟨B0, c0, rfl, r0, b0⟩
  have I0 : SpF w w1 ps 0 0 [] [] w.heap.size 0 B0 := ⟨rfl, rfl, Nat.le_refl _, Rd.nil _ _, ⟨rfl, fun k h => absurd h (Nat.not_lt_zero k)⟩, r0, Nat.le_refl _, fun ad n' c'' h => (by cases h), bl_go Z1 b0⟩
  clear r0 b0 Z1 R1
  have hL0 : (0 : Int) < (L : Int) := by omega
  have hdL : decide (0 < L) = true := by simp; omega
  go_wp2_with fail
  go_loopw [3, 4, 5] (fun v3 v4 i wr => ∃ (n N : Nat) (F : List (List Ce)) (xs : List Value) (b c' : Nat) (B : Option Addr) (cB : Nat), n ≤ 8 ∧ i = .int .i64 n ∧ v4 = .slice B L cB ∧ v3 = .slice (some ⟨b, 0, none⟩) N c' ∧ SpF w wr ps n N F xs b c' B) (fun _ _ i _ => 8 - (intOf i).toNat)
  case atStart => exact ⟨0, 0, [], [], w.heap.size, 0, B0, c0, by omega, rfl, rfl, rfl, I0⟩
  case round =>
    clear I0
    obtain ⟨n, N, F, xs, b, c', B, cB, hn, rfl, rfl, rfl, I1⟩ := hrel
    obtain ⟨wo, hwo⟩ : ∃ wo : World, wo = wr := ⟨_, rfl⟩
    subst hwo
    have hNn := I1.le
    have hNc := I1.cap
    have HI := Lib.hid I1
    have HFL := Lib.hid I1.len
    have KA := Lib.hid (fun (z : World) (hb : Below wo.heap.size wo z) => And.intro (I1.rd.belo hb) (And.intro (I1.hd.belo hb) (show RdZ w.heap.size z B (walkF ps n) from I1.x.belo hb)))
    have HONE := Lib.hid I1.hd.one
    have HXL := Lib.hid (show xs.length = N by rw [I1.hd.1, I1.len])
    have HWL := Lib.hid (show (walkF ps n).length = L by rw [walkF_len, HL.out])
    clear I1
    by_cases hlt : n < 8
    · have hlt8 : (n : Int) < 8 := by omega
      have Z0 := Below.refl wo.heap.size wo
      go_wp2_with fail
      go_loopw [6] (fun i wr => ∃ k : Nat, k ≤ N ∧ i = .int .i64 k ∧ Hid (PlaceF (walkF ps n) F k) ∧ Below wo.heap.size wo wr) (fun i _ => N - (intOf i).toNat)
      case atStart => exact ⟨0, Nat.zero_le _, rfl, fun j h h2 => by omega, Z0⟩
      case round =>
        clear Z0
        obtain ⟨k, hk, rfl, HK, Z1⟩ := hrel
        obtain ⟨rx, hx, rB⟩ := KA.out _ Z1
        have HAT := Lib.hid (insF_at (by rw [HFL.out]; exact hk) HK.out)
        by_cases hkN : k < N
        · have hkF : k < F.length := by rw [HFL.out]; exact hkN
          obtain ⟨B5, c5, e5, m5, r5⟩ := hx.2 k hkF
          have d5 : wr.cell? ⟨b, k, none⟩ = some (.slice B5 F[k].length c5) := by
            obtain ⟨ad, e, hc⟩ := rx (by intro e; rw [e] at e5; simp at e5)
            injection e with e
            subst e
            have := hc k _ e5
            rw [add_off, Nat.zero_add] at this
            exact this
          have hFk : F[k].length = L := by
            have := HI.out.is
            have hm : F[k] ∈ incOf ((List.range n).map (walkF ps)) := by rw [← this]; exact List.getElem_mem hkF
            rw [incOf_mem, List.mem_map] at hm
            obtain ⟨i, -, e⟩ := hm
            rw [← e, walkF_len, HL.out]
          rw [hFk] at d5
          have CB := Lib.hid (l8Before_any B5 B L c5 cB F[k] (walkF ps n) wr r5 rB.1 hFk HWL.out (by omega))
          have CS := Lib.hid (fun (z : World) (hb : Below wr.heap.size wr z) => l8Same_any B5 B L c5 cB F[k] (walkF ps n) z (Rd.belo r5 hb) (Rd.belo rB.1 hb) hFk HWL.out (by omega))
          have hkN' : (k : Int) < (N : Int) := by omega
          have hbl := World.block_lt_of_cell? wr _ d5
          simp only at hbl
          cases hlb : ltL F[k] (walkF ps n) with
          | true =>
            rw [hlb] at CB
            have HP : Hid (PlaceF (walkF ps n) F (k + 1)) := fun j hj h2 => by
              rcases Nat.lt_or_ge j k with h3 | h3
              · exact HK.out j hj h3
              · obtain rfl : j = k := by omega
                exact hlb
            clear hlb hFk e5 m5 r5 hkF CS hx rx rB
            go_wp2_with (go_at_call 207; refine CB.out.mono ?_; rintro e w5 ⟨rfl, b5⟩)
            go_roundw
            case rel => first | exact ⟨k + 1, by omega, by go_num, HP.out, bl_go Z1 b5⟩ | ((repeat apply Exists.intro); exact ⟨⟨k + 1, by omega, by go_num, HP.out, bl_go Z1 b5⟩, rfl⟩)
            case measure => simp [intOf]; omega
          | false =>
            rw [hlb] at CB
            have HLB := Lib.hid hlb
            have hne2 : ((k : Int) == (N : Int)) = false := by rw [beq_eq_false_iff_ne]; omega
            by_cases hE : F[k] = walkF ps n
            · have HINS := Lib.hid (HAT.out.1 hkF hlb hE)
              rw [decide_eq_true hE] at CS
              clear hlb hFk e5 m5 r5 HAT hx rx rB hE
              go_wp2_with (first | (go_at_call 207; refine CB.out.mono ?_; rintro e w5 ⟨rfl, b5⟩; have d6 := ((bcell b5).1 b k hbl).trans d5) | (go_at_call 140; refine (CS.out _ b5).mono ?_; rintro e w6 ⟨rfl, b6⟩))
              have Z6 := bl_go (bl_go Z1 b5) b6
              by_cases h3 : n = 3
              · subst h3
                go_wp2_with (first
                  | (go_at_call 193; (refine (CT.out B cB _ 3 (KA.out _ Z6).2.2).mono ?_); rintro e w7 ⟨B7, c7, rfl, r7, b7⟩)
                  | (go_at_call 194; (refine (CF.out B7 c7 _ r7).mono ?_); rintro e w8 ⟨B8, c8, rfl, r8, b8⟩))
                go_roundw
                case rel => exact ⟨4, N, F, xs, b, c', B8, c8, by omega, rfl, rfl, rfl, HI.out.keep HINS.out Z6 (bl_go b7 b8) r8⟩
                case measure => simp [intOf]
              · have h3b : ((n : Int) == 3) = false := by rw [beq_eq_false_iff_ne]; omega
                have HW := Lib.hid (walkF_step HOK.out h3)
                clear h3
                go_wp2_with (go_at_call 193; (refine (CT.out B cB _ n (KA.out _ Z6).2.2).mono ?_); rintro e w7 ⟨B7, c7, rfl, r7, b7⟩)
                rw [HW.out] at r7
                go_roundw
                case rel => exact ⟨n + 1, N, F, xs, b, c', B7, c7, by omega, by go_num, rfl, rfl, HI.out.keep HINS.out Z6 b7 r7⟩
                case measure => simp [intOf]; omega
            · have HINS := Lib.hid (HAT.out.2.1 hkF hlb hE)
              rw [decide_eq_false hE] at CS
              clear hlb hFk e5 m5 r5 HAT hx rx rB hE
              go_wp2_with (first | (go_at_call 207; refine CB.out.mono ?_; rintro e w5 ⟨rfl, b5⟩; have d6 := ((bcell b5).1 b k hbl).trans d5) | (go_at_call 140; refine (CS.out _ b5).mono ?_; rintro e w6 ⟨rfl, b6⟩))
              have Z6 := bl_go (bl_go Z1 b5) b6
              have hkc : (k : Int) ≤ (c' : Int) := by omega
              have hkc2 : k < c' := by omega
              have hkc3 : (k : Int) < (c' : Int) := by omega
              have hkc5 : ¬ c' = k := by omega
              have hz6 := Z6.size
              have KB := Lib.hid (fun (z : World) (hb : Below w6.heap.size w6 z) => KA.out z (bl_go Z6 hb))
              have OA : OwnH (w6.alloc (.cells #[] 32)).drew w6.heap.size (.slice (some ⟨w6.heap.size, 0, none⟩) 0 0) [] := own_none w6 w6.heap.size (Nat.le_refl _)
              have OB : OwnH ((w6.alloc (.cells #[] 32)).alloc (.cells #[.slice B L cB] 32)).drew w6.heap.size (.slice (some ⟨w6.heap.size, 0, none⟩) 0 0) [] := (own_none w6 w6.heap.size (Nat.le_refl _)).allocT (.cells #[.slice B L cB] 32)
              have OC : OwnH ((w6.alloc (.cells #[.slice B L cB] 32)).alloc (.cells #[] 32)).drew w6.heap.size (.slice (some ⟨w6.heap.size + 1, 0, none⟩) 0 0) [] := by
                have h := own_none (w6.alloc (.cells #[.slice B L cB] 32)) w6.heap.size (by simp)
                rw [show (w6.alloc (.cells #[.slice B L cB] 32)).heap.size = w6.heap.size + 1 by simp] at h
                exact h
              have BA : Below w6.heap.size w6 (w6.alloc (.cells #[] 32)).drew := (bl_alloc (Below.refl _ _) _).drew
              have BB : Below w6.heap.size w6 ((w6.alloc (.cells #[] 32)).alloc (.cells #[.slice B L cB] 32)).drew := (bl_alloc (bl_alloc (Below.refl _ _) _) _).drew
              have BC : Below w6.heap.size w6 ((w6.alloc (.cells #[.slice B L cB] 32)).alloc (.cells #[] 32)).drew := (bl_alloc (bl_alloc (Below.refl _ _) _) _).drew
              have XB : ∀ j u, [Value.slice B L cB][j]? = some u → ((w6.alloc (.cells #[] 32)).alloc (.cells #[.slice B L cB] 32)).drew.cell? ((⟨w6.heap.size + 1, 0, none⟩ : Addr).add j) = some u := by
                have h := one_new (w6.alloc (.cells #[] 32)) (.slice B L cB) 32
                rw [show (w6.alloc (.cells #[] 32)).heap.size = w6.heap.size + 1 by simp] at h
                exact h
              have XC : ∀ j u, [Value.slice B L cB][j]? = some u → ((w6.alloc (.cells #[.slice B L cB] 32)).alloc (.cells #[] 32)).drew.cell? ((⟨w6.heap.size, 0, none⟩ : Addr).add j) = some u := fun j u hu => by
                have h1 := one_new w6 (.slice B L cB) 32 j u hu
                exact (World.cell?_alloc_lt _ _ _ (World.block_lt_of_cell? _ _ h1)).trans h1
              go_wp2_with fail
              go_region_law (first
                | (refine step_headsA _ rfl _ _ rfl w6.heap.size _ [] rfl OA ⟨b, 0, none⟩ _ _ (xs.take k) rfl (by rw [List.length_take, HXL.out]; omega) (rd_take (KB.out _ BA).1 k) (one_take HONE.out k) (by simp; omega) BA.size ?_; intro v5 w5 O5 G5; have B5 := own_gr OA BA BA.size G5; rw [List.nil_append] at O5; have O5a := O5.allocT (.cells #[.slice B L cB] 32); have B5a := bl_alloc B5 (.cells #[.slice B L cB] 32))
                | (refine step_headsA _ rfl _ _ rfl w6.heap.size _ [] rfl OB ⟨b, 0, none⟩ _ _ (xs.take k) rfl (by rw [List.length_take, HXL.out]; omega) (rd_take (KB.out _ BB).1 k) (one_take HONE.out k) (by simp; omega) BB.size ?_; intro v5 w5 O5 G5; have B5 := own_gr OB BB BB.size G5; rw [List.nil_append] at O5; have X5 := one_old (row := some w6.heap.size) XB G5 (by simp))
                | (refine step_headsA _ rfl _ _ rfl w6.heap.size _ [] rfl OC ⟨b, 0, none⟩ _ _ (xs.take k) rfl (by rw [List.length_take, HXL.out]; omega) (rd_take (KB.out _ BC).1 k) (one_take HONE.out k) (by simp; omega) BC.size ?_; intro v5 w5 O5 G5; have B5 := own_gr OC BC BC.size G5; rw [List.nil_append] at O5; have X5 := one_old (row := some (w6.heap.size + 1)) XC G5 (by simp))
                | (refine step_headsA _ rfl _ _ rfl w6.heap.size v5 (xs.take k) rfl O5a ⟨w5.heap.size, 0, none⟩ _ _ [Value.slice B L cB] rfl rfl (one_new w5 _ _) (one_one _ _ _) (by rw [List.length_take, HXL.out]; omega) B5a.size ?_; intro v6 w7 O6 G6; have B6 := own_gr O5a B5a B5a.size G6)
                | (refine step_headsA _ rfl _ _ rfl w6.heap.size v5 (xs.take k) rfl O5 _ _ _ [Value.slice B L cB] rfl rfl X5 (one_one _ _ _) (by rw [List.length_take, HXL.out]; omega) B5.size ?_; intro v6 w7 O6 G6; have B6 := own_gr O5 B5 B5.size G6)
                | (refine step_headsA _ rfl _ _ rfl w6.heap.size v6 (xs.take k ++ [Value.slice B L cB]) rfl O6 ⟨b, k, none⟩ _ _ (xs.drop k) rfl (by rw [List.length_drop, HXL.out] <;> omega) (rd_drop (KB.out _ B6).1 k (.inl rfl)) (one_drop HONE.out k) (by simp only [List.length_append, List.length_take, List.length_cons, List.length_nil, HXL.out]; omega) B6.size ?_; intro v8 w9 O8 G8; have B8 := own_gr O6 B6 B6.size G8; obtain ⟨g9, c9, rfl, hc9, rd9⟩ := own_fm O8 (m := N + 1 ) (by simp only [List.length_append, List.length_take, List.length_drop, List.length_cons, List.length_nil, HXL.out]; omega) (by omega)))
              all_goals (
                have HD9 := (KB.out _ B8).2.1.ins k (c := cB) (KB.out _ B8).2.2.1 HWL.out (by omega)
                have Z9 := bl_go Z6 B8
                clear KB OA OB OC BA BB BC XB XC
                by_cases h3 : n = 3
                · subst h3
                  go_wp2_with (first
                    | (go_at_call 193; (refine (CT.out B cB _ 3 (KA.out _ Z9).2.2).mono ?_); rintro e w7 ⟨B7, c7, rfl, r7, b7⟩)
                    | (go_at_call 194; (refine (CF.out B7 c7 _ r7).mono ?_); rintro e w8 ⟨B8, c8, rfl, r8, b8⟩))
                  go_roundw
                  case rel => exact ⟨4, N + 1, _, _, g9, c9, B8, c8, by omega, rfl, rfl, rfl, HI.out.put HINS.out HD9 rd9 (Nat.le_trans HI.out.ok.size Z6.size) hc9 Z9 (bl_go b7 b8) r8⟩
                  case measure => simp [intOf]
                · have h3b : ((n : Int) == 3) = false := by rw [beq_eq_false_iff_ne]; omega
                  have HW := Lib.hid (walkF_step HOK.out h3)
                  clear h3
                  go_wp2_with (go_at_call 193; (refine (CT.out B cB _ n (KA.out _ Z9).2.2).mono ?_); rintro e w7 ⟨B7, c7, rfl, r7, b7⟩)
                  rw [HW.out] at r7
                  go_roundw
                  case rel => exact ⟨n + 1, N + 1, _, _, g9, c9, B7, c7, by omega, by go_num, rfl, rfl, HI.out.put HINS.out HD9 rd9 (Nat.le_trans HI.out.ok.size Z6.size) hc9 Z9 b7 r7⟩
                  case measure => simp [intOf]; omega)
        · obtain rfl : k = N := by omega
          have HINS := Lib.hid (HAT.out.2.2 HFL.out.symm)
          have hnn : ((k : Int) == (k : Int)) = true := by simp
          clear HAT hx rx rB
          have hkc : (k : Int) ≤ (c' : Int) := by omega
          by_cases hcc : k = c'
          · subst hcc
            have Z6 := Z1
            have hz6 := Z6.size
            have KB := Lib.hid (fun (z : World) (hb : Below wr.heap.size wr z) => KA.out z (bl_go Z6 hb))
            have OA : OwnH (wr.alloc (.cells #[] 32)).drew wr.heap.size (.slice (some ⟨wr.heap.size, 0, none⟩) 0 0) [] := own_none wr wr.heap.size (Nat.le_refl _)
            have OB : OwnH ((wr.alloc (.cells #[] 32)).alloc (.cells #[.slice B L cB] 32)).drew wr.heap.size (.slice (some ⟨wr.heap.size, 0, none⟩) 0 0) [] := (own_none wr wr.heap.size (Nat.le_refl _)).allocT (.cells #[.slice B L cB] 32)
            have OC : OwnH ((wr.alloc (.cells #[.slice B L cB] 32)).alloc (.cells #[] 32)).drew wr.heap.size (.slice (some ⟨wr.heap.size + 1, 0, none⟩) 0 0) [] := by
              have h := own_none (wr.alloc (.cells #[.slice B L cB] 32)) wr.heap.size (by simp)
              rw [show (wr.alloc (.cells #[.slice B L cB] 32)).heap.size = wr.heap.size + 1 by simp] at h
              exact h
            have BA : Below wr.heap.size wr (wr.alloc (.cells #[] 32)).drew := (bl_alloc (Below.refl _ _) _).drew
            have BB : Below wr.heap.size wr ((wr.alloc (.cells #[] 32)).alloc (.cells #[.slice B L cB] 32)).drew := (bl_alloc (bl_alloc (Below.refl _ _) _) _).drew
            have BC : Below wr.heap.size wr ((wr.alloc (.cells #[.slice B L cB] 32)).alloc (.cells #[] 32)).drew := (bl_alloc (bl_alloc (Below.refl _ _) _) _).drew
            have XB : ∀ j u, [Value.slice B L cB][j]? = some u → ((wr.alloc (.cells #[] 32)).alloc (.cells #[.slice B L cB] 32)).drew.cell? ((⟨wr.heap.size + 1, 0, none⟩ : Addr).add j) = some u := by
              have h := one_new (wr.alloc (.cells #[] 32)) (.slice B L cB) 32
              rw [show (wr.alloc (.cells #[] 32)).heap.size = wr.heap.size + 1 by simp] at h
              exact h
            have XC : ∀ j u, [Value.slice B L cB][j]? = some u → ((wr.alloc (.cells #[.slice B L cB] 32)).alloc (.cells #[] 32)).drew.cell? ((⟨wr.heap.size, 0, none⟩ : Addr).add j) = some u := fun j u hu => by
              have h1 := one_new wr (.slice B L cB) 32 j u hu
              exact (World.cell?_alloc_lt _ _ _ (World.block_lt_of_cell? _ _ h1)).trans h1
            go_wp2_with fail
            go_region_law (first
              | (refine step_headsA _ rfl _ _ rfl wr.heap.size _ [] rfl OA ⟨b, 0, none⟩ _ _ (xs.take k) rfl (by rw [List.length_take, HXL.out]; omega) (rd_take (KB.out _ BA).1 k) (one_take HONE.out k) (by simp; omega) BA.size ?_; intro v5 w5 O5 G5; have B5 := own_gr OA BA BA.size G5; rw [List.nil_append] at O5; have O5a := O5.allocT (.cells #[.slice B L cB] 32); have B5a := bl_alloc B5 (.cells #[.slice B L cB] 32))
              | (refine step_headsA _ rfl _ _ rfl wr.heap.size _ [] rfl OB ⟨b, 0, none⟩ _ _ (xs.take k) rfl (by rw [List.length_take, HXL.out]; omega) (rd_take (KB.out _ BB).1 k) (one_take HONE.out k) (by simp; omega) BB.size ?_; intro v5 w5 O5 G5; have B5 := own_gr OB BB BB.size G5; rw [List.nil_append] at O5; have X5 := one_old (row := some wr.heap.size) XB G5 (by simp))
              | (refine step_headsA _ rfl _ _ rfl wr.heap.size _ [] rfl OC ⟨b, 0, none⟩ _ _ (xs.take k) rfl (by rw [List.length_take, HXL.out]; omega) (rd_take (KB.out _ BC).1 k) (one_take HONE.out k) (by simp; omega) BC.size ?_; intro v5 w5 O5 G5; have B5 := own_gr OC BC BC.size G5; rw [List.nil_append] at O5; have X5 := one_old (row := some (wr.heap.size + 1)) XC G5 (by simp))
              | (refine step_headsA _ rfl _ _ rfl wr.heap.size v5 (xs.take k) rfl O5a ⟨w5.heap.size, 0, none⟩ _ _ [Value.slice B L cB] rfl rfl (one_new w5 _ _) (one_one _ _ _) (by rw [List.length_take, HXL.out]; omega) B5a.size ?_; intro v6 w7 O6 G6; have B6 := own_gr O5a B5a B5a.size G6)
              | (refine step_headsA _ rfl _ _ rfl wr.heap.size v5 (xs.take k) rfl O5 _ _ _ [Value.slice B L cB] rfl rfl X5 (one_one _ _ _) (by rw [List.length_take, HXL.out]; omega) B5.size ?_; intro v6 w7 O6 G6; have B6 := own_gr O5 B5 B5.size G6)
              | (refine step_headsA _ rfl _ _ rfl wr.heap.size v6 (xs.take k ++ [Value.slice B L cB]) rfl O6 ⟨b, 0, none⟩ _ _ (xs.drop k) rfl (by rw [List.length_drop, HXL.out] <;> omega) (rd_drop (KB.out _ B6).1 k (.inr (by rw [HXL.out]; exact Nat.le_refl _))) (one_drop HONE.out k) (by simp only [List.length_append, List.length_take, List.length_cons, List.length_nil, HXL.out]; omega) B6.size ?_; intro v8 w9 O8 G8; have B8 := own_gr O6 B6 B6.size G8; obtain ⟨g9, c9, rfl, hc9, rd9⟩ := own_fm O8 (m := k + 1 ) (by simp only [List.length_append, List.length_take, List.length_drop, List.length_cons, List.length_nil, HXL.out]; omega) (by omega)))
            all_goals (
              have HD9 := (KB.out _ B8).2.1.ins k (c := cB) (KB.out _ B8).2.2.1 HWL.out (by omega)
              have Z9 := bl_go Z6 B8
              clear KB OA OB OC BA BB BC XB XC
              by_cases h3 : n = 3
              · subst h3
                go_wp2_with (first
                  | (go_at_call 193; (refine (CT.out B cB _ 3 (KA.out _ Z9).2.2).mono ?_); rintro e w7 ⟨B7, c7, rfl, r7, b7⟩)
                  | (go_at_call 194; (refine (CF.out B7 c7 _ r7).mono ?_); rintro e w8 ⟨B8, c8, rfl, r8, b8⟩))
                go_roundw
                case rel => exact ⟨4, k + 1, _, _, g9, c9, B8, c8, by omega, rfl, rfl, rfl, HI.out.put HINS.out HD9 rd9 (Nat.le_trans HI.out.ok.size Z6.size) hc9 Z9 (bl_go b7 b8) r8⟩
                case measure => simp [intOf]
              · have h3b : ((n : Int) == 3) = false := by rw [beq_eq_false_iff_ne]; omega
                have HW := Lib.hid (walkF_step HOK.out h3)
                clear h3
                go_wp2_with (go_at_call 193; (refine (CT.out B cB _ n (KA.out _ Z9).2.2).mono ?_); rintro e w7 ⟨B7, c7, rfl, r7, b7⟩)
                rw [HW.out] at r7
                go_roundw
                case rel => exact ⟨n + 1, k + 1, _, _, g9, c9, B7, c7, by omega, by go_num, rfl, rfl, HI.out.put HINS.out HD9 rd9 (Nat.le_trans HI.out.ok.size Z6.size) hc9 Z9 b7 r7⟩
                case measure => simp [intOf]; omega)
          · have hkc2 : k < c' := by omega
            have hkc3 : (k : Int) < (c' : Int) := by omega
            have hkc5 : ¬ c' = k := by omega
            have Z6 := Z1
            have hz6 := Z6.size
            have KB := Lib.hid (fun (z : World) (hb : Below wr.heap.size wr z) => KA.out z (bl_go Z6 hb))
            have OA : OwnH (wr.alloc (.cells #[] 32)).drew wr.heap.size (.slice (some ⟨wr.heap.size, 0, none⟩) 0 0) [] := own_none wr wr.heap.size (Nat.le_refl _)
            have OB : OwnH ((wr.alloc (.cells #[] 32)).alloc (.cells #[.slice B L cB] 32)).drew wr.heap.size (.slice (some ⟨wr.heap.size, 0, none⟩) 0 0) [] := (own_none wr wr.heap.size (Nat.le_refl _)).allocT (.cells #[.slice B L cB] 32)
            have OC : OwnH ((wr.alloc (.cells #[.slice B L cB] 32)).alloc (.cells #[] 32)).drew wr.heap.size (.slice (some ⟨wr.heap.size + 1, 0, none⟩) 0 0) [] := by
              have h := own_none (wr.alloc (.cells #[.slice B L cB] 32)) wr.heap.size (by simp)
              rw [show (wr.alloc (.cells #[.slice B L cB] 32)).heap.size = wr.heap.size + 1 by simp] at h
              exact h
            have BA : Below wr.heap.size wr (wr.alloc (.cells #[] 32)).drew := (bl_alloc (Below.refl _ _) _).drew
            have BB : Below wr.heap.size wr ((wr.alloc (.cells #[] 32)).alloc (.cells #[.slice B L cB] 32)).drew := (bl_alloc (bl_alloc (Below.refl _ _) _) _).drew
            have BC : Below wr.heap.size wr ((wr.alloc (.cells #[.slice B L cB] 32)).alloc (.cells #[] 32)).drew := (bl_alloc (bl_alloc (Below.refl _ _) _) _).drew
            have XB : ∀ j u, [Value.slice B L cB][j]? = some u → ((wr.alloc (.cells #[] 32)).alloc (.cells #[.slice B L cB] 32)).drew.cell? ((⟨wr.heap.size + 1, 0, none⟩ : Addr).add j) = some u := by
              have h := one_new (wr.alloc (.cells #[] 32)) (.slice B L cB) 32
              rw [show (wr.alloc (.cells #[] 32)).heap.size = wr.heap.size + 1 by simp] at h
              exact h
            have XC : ∀ j u, [Value.slice B L cB][j]? = some u → ((wr.alloc (.cells #[.slice B L cB] 32)).alloc (.cells #[] 32)).drew.cell? ((⟨wr.heap.size, 0, none⟩ : Addr).add j) = some u := fun j u hu => by
              have h1 := one_new wr (.slice B L cB) 32 j u hu
              exact (World.cell?_alloc_lt _ _ _ (World.block_lt_of_cell? _ _ h1)).trans h1
            go_wp2_with fail
            go_region_law (first
              | (refine step_headsA _ rfl _ _ rfl wr.heap.size _ [] rfl OA ⟨b, 0, none⟩ _ _ (xs.take k) rfl (by rw [List.length_take, HXL.out]; omega) (rd_take (KB.out _ BA).1 k) (one_take HONE.out k) (by simp; omega) BA.size ?_; intro v5 w5 O5 G5; have B5 := own_gr OA BA BA.size G5; rw [List.nil_append] at O5; have O5a := O5.allocT (.cells #[.slice B L cB] 32); have B5a := bl_alloc B5 (.cells #[.slice B L cB] 32))
              | (refine step_headsA _ rfl _ _ rfl wr.heap.size _ [] rfl OB ⟨b, 0, none⟩ _ _ (xs.take k) rfl (by rw [List.length_take, HXL.out]; omega) (rd_take (KB.out _ BB).1 k) (one_take HONE.out k) (by simp; omega) BB.size ?_; intro v5 w5 O5 G5; have B5 := own_gr OB BB BB.size G5; rw [List.nil_append] at O5; have X5 := one_old (row := some wr.heap.size) XB G5 (by simp))
              | (refine step_headsA _ rfl _ _ rfl wr.heap.size _ [] rfl OC ⟨b, 0, none⟩ _ _ (xs.take k) rfl (by rw [List.length_take, HXL.out]; omega) (rd_take (KB.out _ BC).1 k) (one_take HONE.out k) (by simp; omega) BC.size ?_; intro v5 w5 O5 G5; have B5 := own_gr OC BC BC.size G5; rw [List.nil_append] at O5; have X5 := one_old (row := some (wr.heap.size + 1)) XC G5 (by simp))
              | (refine step_headsA _ rfl _ _ rfl wr.heap.size v5 (xs.take k) rfl O5a ⟨w5.heap.size, 0, none⟩ _ _ [Value.slice B L cB] rfl rfl (one_new w5 _ _) (one_one _ _ _) (by rw [List.length_take, HXL.out]; omega) B5a.size ?_; intro v6 w7 O6 G6; have B6 := own_gr O5a B5a B5a.size G6)
              | (refine step_headsA _ rfl _ _ rfl wr.heap.size v5 (xs.take k) rfl O5 _ _ _ [Value.slice B L cB] rfl rfl X5 (one_one _ _ _) (by rw [List.length_take, HXL.out]; omega) B5.size ?_; intro v6 w7 O6 G6; have B6 := own_gr O5 B5 B5.size G6)
              | (refine step_headsA _ rfl _ _ rfl wr.heap.size v6 (xs.take k ++ [Value.slice B L cB]) rfl O6 ⟨b, k, none⟩ _ _ (xs.drop k) rfl (by rw [List.length_drop, HXL.out] <;> omega) (rd_drop (KB.out _ B6).1 k (.inl rfl)) (one_drop HONE.out k) (by simp only [List.length_append, List.length_take, List.length_cons, List.length_nil, HXL.out]; omega) B6.size ?_; intro v8 w9 O8 G8; have B8 := own_gr O6 B6 B6.size G8; obtain ⟨g9, c9, rfl, hc9, rd9⟩ := own_fm O8 (m := k + 1 ) (by simp only [List.length_append, List.length_take, List.length_drop, List.length_cons, List.length_nil, HXL.out]; omega) (by omega)))
            all_goals (
              have HD9 := (KB.out _ B8).2.1.ins k (c := cB) (KB.out _ B8).2.2.1 HWL.out (by omega)
              have Z9 := bl_go Z6 B8
              clear KB OA OB OC BA BB BC XB XC
              by_cases h3 : n = 3
              · subst h3
                go_wp2_with (first
                  | (go_at_call 193; (refine (CT.out B cB _ 3 (KA.out _ Z9).2.2).mono ?_); rintro e w7 ⟨B7, c7, rfl, r7, b7⟩)
                  | (go_at_call 194; (refine (CF.out B7 c7 _ r7).mono ?_); rintro e w8 ⟨B8, c8, rfl, r8, b8⟩))
                go_roundw
                case rel => exact ⟨4, k + 1, _, _, g9, c9, B8, c8, by omega, rfl, rfl, rfl, HI.out.put HINS.out HD9 rd9 (Nat.le_trans HI.out.ok.size Z6.size) hc9 Z9 (bl_go b7 b8) r8⟩
                case measure => simp [intOf]
              · have h3b : ((n : Int) == 3) = false := by rw [beq_eq_false_iff_ne]; omega
                have HW := Lib.hid (walkF_step HOK.out h3)
                clear h3
                go_wp2_with (go_at_call 193; (refine (CT.out B cB _ n (KA.out _ Z9).2.2).mono ?_); rintro e w7 ⟨B7, c7, rfl, r7, b7⟩)
                rw [HW.out] at r7
                go_roundw
                case rel => exact ⟨n + 1, k + 1, _, _, g9, c9, B7, c7, by omega, by go_num, rfl, rfl, HI.out.put HINS.out HD9 rd9 (Nat.le_trans HI.out.ok.size Z6.size) hc9 Z9 b7 r7⟩
                case measure => simp [intOf]; omega)
    · obtain rfl : n = 8 := by omega
      have hge : ¬ ((8 : Int) < 8) := by omega
      have HF : Hid (F = incOf (formsF ps)) := by
        show _ = _
        rw [HI.out.is, walkF_list]
      go_wp2_with fail
      go_ret
      have hfin : NewRdSN F w (.returned (.slice (some ⟨b, 0, none⟩) N c')) wo := ⟨b, c', xs, by rw [HFL.out], by rw [HFL.out]; exact hNc, HI.out.rd, HI.out.hd, HI.out.ok, HI.out.nb, HI.out.nx⟩
      rw [HF.out] at hfin
      exact hfin
theorem sPieceForms_t (A : Option Addr) (c : Nat) (ps : List Ce) (w : World) (hr : RdC w A ps) (hn : ps.length ≤ maxLen) (hcap : ps.length ≤ c) (hp : pieceB ps = true) :
    Calls Tryz.prog 155 #[.slice A ps.length c] w (NewRdSS (formsV ps) w) := (sPieceForms_n A c ps w hr hn hcap hp).mono fun _ _ h => h.ss
end Go.Proofs.YtejkbjcmndnfeaaGreat

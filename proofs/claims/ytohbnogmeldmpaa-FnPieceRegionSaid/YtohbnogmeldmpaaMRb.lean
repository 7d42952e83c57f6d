
/- FnPieceRegion: joined from PieRegN, TurnI, PutI, RTurn, FlpI, PrsN, PartI, LPieceRegion. -/
import Derived.Test.YtohbnogmeldmpaaRegN
import Derived.Test.YtohbnogmeldmpaaShpN
import Derived.Test.YtohbnogmeldmpaaMoveL
import Derived.Test.YtohbnogmeldmpaaColour
import Derived.Test.YtohbnogmeldmpaaMRa
import Derived.Test.YtohbnogmeldmpaaAlive
import Derived.Test.YtohbnogmeldmpaaSet
import Derived.Test.YtohbnogmeldmpaaFldB
import Derived.Test.YtohbnogmeldmpaaCell
import Derived.Lib.MinMax
import Derived.Test.YtohbnogmeldmpaaStep
import Derived.Test.YtohbnogmeldmpaaRegI
import Derived.Test.YtohbnogmeldmpaaRegS
import Derived.Test.YtohbnogmeldmpaaSameC
/- The region of a piece, plainly: which places it holds. -/
namespace Go.Proofs.Ytohbnogmeldmpaa
open Go.RowKit

theorem fillK_get {W : Int} {n : Nat} {ps : List Ce} {j : Nat} (hj : j < n) : ∀ k, k ≤ ps.length → (fillK W n ps k).getD j false = decide (∃ c ∈ ps.take k, (c.2 * W + c.1).toNat = j)
  | 0, _ => by
    rw [fillK_zero, List.getD_eq_getElem?_getD, List.getElem?_replicate_of_lt hj]
    simp
  | k + 1, hk => by
    have hk' : k < ps.length := by omega
    have ih := fillK_get (W := W) (n := n) (ps := ps) hj k (by omega)
    rw [fillK_step W n ps k hk', List.getD_eq_getElem?_getD, List.getElem?_set]
    have hl := fillK_len W n ps (k := k) (by omega)
    rw [hl]
    by_cases h : (ps[k].2 * W + ps[k].1).toNat = j
    · rw [if_pos h, if_pos (by omega)]
      symm
      show decide _ = true
      exact decide_eq_true ⟨ps[k], by rw [List.take_add_one, List.getElem?_eq_getElem hk']; exact List.mem_append_right _ (List.mem_singleton.2 rfl), h⟩
    · rw [if_neg h, ← List.getD_eq_getElem?_getD, ih, Bool.eq_iff_iff, decide_eq_true_eq, decide_eq_true_eq]
      constructor
      · rintro ⟨c, hc, e⟩
        exact ⟨c, by rw [List.take_add_one]; exact List.mem_append_left _ hc, e⟩
      · rintro ⟨c, hc, e⟩
        rw [List.take_add_one, List.getElem?_eq_getElem hk'] at hc
        rcases List.mem_append.1 hc with hc | hc
        · exact ⟨c, hc, e⟩
        · simp at hc
          subst hc
          exact absurd e h
/-- the field of a piece holds the piece's places -/
theorem fieldP_get {X : List Ce} (h0 : ∀ c ∈ X, 0 ≤ c.1 ∧ 0 ≤ c.2) {x y : Int} (x0 : 0 ≤ x) (x1 : x < (hiP X).1) (y0 : 0 ≤ y) (y1 : y < (hiP X).2) :
    (fieldP X).getD (y * (hiP X).1 + x).toNat false = decide ((x, y) ∈ X) := by
  have hlt := hiP_lt X
  obtain ⟨a1, a2⟩ := cell_lt x0 x1 y0 y1
  unfold fieldP
  rw [fillK_get (by omega) _ (Nat.le_refl _), List.take_length, Bool.eq_iff_iff, decide_eq_true_eq, decide_eq_true_eq]
  constructor
  · rintro ⟨c, hc, e⟩
    obtain ⟨b0, b1⟩ := h0 c hc
    obtain ⟨b2, b3⟩ := hlt c hc
    obtain ⟨d1, d2⟩ := cell_lt b0 b2 b1 b3
    have e2 : c.2 * (hiP X).1 + c.1 = y * (hiP X).1 + x := by omega
    have e3 : c.1 = x := by
      have h1 := Int.add_mul_emod_self_right c.1 c.2 (hiP X).1
      have h2 := Int.add_mul_emod_self_right x y (hiP X).1
      rw [Int.emod_eq_of_lt b0 b2] at h1
      rw [Int.emod_eq_of_lt x0 x1] at h2
      rw [← h1, ← h2, Int.add_comm c.1, Int.add_comm x, e2]
    have e4 : c.2 * (hiP X).1 = y * (hiP X).1 := by omega
    have e5 : c.2 = y := Int.eq_of_mul_eq_mul_right (by omega) e4
    rw [← e3, ← e5]
    exact hc
  · intro h
    exact ⟨(x, y), h, rfl⟩
theorem hiK_at {ps : List Ce} (h0 : ∀ c ∈ ps, 0 ≤ c.1 ∧ 0 ≤ c.2) : ∀ k, k < ps.length → (∃ c ∈ ps, c.1 + 1 = (hiK ps (k + 1)).1) ∧ (∃ c ∈ ps, c.2 + 1 = (hiK ps (k + 1)).2)
  | 0, hk => by
    have hm := List.getElem_mem hk
    have := h0 _ hm
    rw [hiK_step ps 0 hk, hiK_zero]
    simp only
    exact ⟨⟨ps[0], hm, by omega⟩, ⟨ps[0], hm, by omega⟩⟩
  | k + 1, hk => by
    have hm := List.getElem_mem hk
    obtain ⟨⟨a, ha, e1⟩, ⟨b, hb, e2⟩⟩ := hiK_at h0 k (by omega)
    rw [hiK_step ps (k + 1) hk]
    simp only
    refine ⟨?_, ?_⟩
    · rcases (show max (hiK ps (k + 1)).1 (ps[k + 1].1 + 1) = (hiK ps (k + 1)).1 ∨ max (hiK ps (k + 1)).1 (ps[k + 1].1 + 1) = ps[k + 1].1 + 1 by omega) with h | h
      · exact ⟨a, ha, by rw [h]; exact e1⟩
      · exact ⟨ps[k + 1], hm, by rw [h]⟩
    · rcases (show max (hiK ps (k + 1)).2 (ps[k + 1].2 + 1) = (hiK ps (k + 1)).2 ∨ max (hiK ps (k + 1)).2 (ps[k + 1].2 + 1) = ps[k + 1].2 + 1 by omega) with h | h
      · exact ⟨b, hb, by rw [h]; exact e2⟩
      · exact ⟨ps[k + 1], hm, by rw [h]⟩
/-- the box of a piece is the least: it is reached -/
theorem hiP_at {X : List Ce} (h0 : ∀ c ∈ X, 0 ≤ c.1 ∧ 0 ≤ c.2) (hne : X ≠ []) : (∃ c ∈ X, c.1 + 1 = (hiP X).1) ∧ (∃ c ∈ X, c.2 + 1 = (hiP X).2) := by
  have hl : 0 < X.length := List.length_pos_iff.2 hne
  have := hiK_at h0 (X.length - 1) (by omega)
  rw [show X.length - 1 + 1 = X.length by omega] at this
  exact this
/-- two boxes are alike where each cell of one lies in the other's, told by a map of the cells -/
theorem hiP_eq {X : List Ce} {W T : Int} (h0 : ∀ c ∈ X, 0 ≤ c.1 ∧ 0 ≤ c.2) (hne : X ≠ []) (hb : ∀ c ∈ X, c.1 < W ∧ c.2 < T) (h1 : ∃ c ∈ X, c.1 + 1 = W) (h2 : ∃ c ∈ X, c.2 + 1 = T) : hiP X = (W, T) := by
  obtain ⟨⟨a, ha, e1⟩, ⟨b, hb', e2⟩⟩ := hiP_at h0 hne
  obtain ⟨a', ha', f1⟩ := h1
  obtain ⟨b', hb2, f2⟩ := h2
  have g1 := hiP_lt X a' ha'
  have g2 := hiP_lt X b' hb2
  have g3 := hb a ha
  have g4 := hb b hb'
  exact Prod.ext (show (hiP X).1 = W by omega) (show (hiP X).2 = T by omega)
theorem len_all : ∀ (n : Nat) (L : List Nat), (∀ v, v < n → v ∈ L) → n ≤ L.length
  | 0, _, _ => Nat.zero_le _
  | n + 1, L, h => by
    have hm := h n (Nat.lt_succ_self _)
    have := len_all n (L.erase n) (fun v hv => (List.mem_erase_of_ne (by omega)).2 (h v (by omega)))
    rw [List.length_erase_of_mem hm] at this
    have := List.length_pos_of_mem hm
    omega
/-- between two cells that hang together lies a cell for each number between -/
theorem reach_all {p : List Ce} {s a : Ce} (f : Ce → Int) (hf : ∀ a b, adjC b a → f b - f a ≤ 1 ∧ f a - f b ≤ 1) (hs : s ∈ p) (h : ReachC p s a) : ∀ v, (f s ≤ v ∧ v ≤ f a) ∨ (f a ≤ v ∧ v ≤ f s) → ∃ c ∈ p, f c = v := by
  induction h with
  | base => intro v hv; exact ⟨s, hs, by omega⟩
  | step a b _ hb hab ih =>
    intro v hv
    have h1 := hf a b hab
    by_cases hvb : v = f b
    · exact ⟨b, hb, hvb.symm⟩
    · exact ih v (by omega)
/-- a piece is at most as wide as it has cells -/
theorem span_le {X : List Ce} (h : PieceOk X) (f : Ce → Int) (hf : ∀ a b, adjC b a → f b - f a ≤ 1 ∧ f a - f b ≤ 1) (hz : ∃ c ∈ X, f c = 0) {W : Int} (hw : ∃ c ∈ X, f c + 1 = W) : W ≤ X.length := by
  obtain ⟨z, hz, ez⟩ := hz
  obtain ⟨m, hm, em⟩ := hw
  have hs : X.headD (0, 0) ∈ X := by
    have := h.1.1
    cases X with
    | nil => simp at this
    | cons a l => simp
  have rz := reach_all f hf hs (h.2.2.2 z hz)
  have rm := reach_all f hf hs (h.2.2.2 m hm)
  have key := len_all W.toNat (X.map fun c => (f c).toNat) (fun v hv => by
    obtain ⟨c, hc, e⟩ : ∃ c ∈ X, f c = (v : Int) := by
      rcases Int.lt_or_le (f (X.headD (0, 0))) (v : Int) with h1 | h1
      · exact rm v (by omega)
      · exact rz v (by omega)
    exact List.mem_map.2 ⟨c, hc, by rw [e]; rfl⟩)
  rw [List.length_map] at key
  omega
/-- the region of a piece that lies at the corner is a region -/
theorem field_box {X : List Ce} (h : PieceOk X) (h0 : ∀ c ∈ X, 0 ≤ c.1 ∧ 0 ≤ c.2) (hx : ∃ c ∈ X, c.1 = 0) (hy : ∃ c ∈ X, c.2 = 0) : (1 ≤ (hiP X).1 ∧ (hiP X).1 ≤ 5) ∧ (1 ≤ (hiP X).2 ∧ (hiP X).2 ≤ 5) ∧ ((fieldP X).length : Int) = (hiP X).1 * (hiP X).2 := by
  have hne : X ≠ [] := by intro e; rw [e] at h; have := h.1.1; simp at this
  obtain ⟨a1, a2⟩ := hiP_at h0 hne
  have b1 := span_le h (fun c => c.1) (fun a b hab => by unfold adjC at hab; omega) hx a1
  have b2 := span_le h (fun c => c.2) (fun a b hab => by unfold adjC at hab; omega) hy a2
  have h5 := h.1.2
  obtain ⟨c1, hc1, e1⟩ := a1
  obtain ⟨c2, hc2, e2⟩ := a2
  have g1 := h0 c1 hc1
  have g2 := h0 c2 hc2
  have hp : 0 ≤ (hiP X).1 * (hiP X).2 := Int.mul_nonneg (by omega) (by omega)
  refine ⟨⟨by omega, by omega⟩, ⟨by omega, by omega⟩, ?_⟩
  unfold fieldP
  rw [fillK_len _ _ _ (Nat.le_refl _)]
  omega
theorem idx_xy {W x y : Int} (x0 : 0 ≤ x) (x1 : x < W) (y0 : 0 ≤ y) : (((y * W + x).toNat : Nat) : Int) = y * W + x ∧ (((y * W + x).toNat : Nat) : Int) % W = x ∧ (((y * W + x).toNat : Nat) : Int) / W = y := by
  have h0 : 0 ≤ y * W := Int.mul_nonneg y0 (by omega)
  have e : (((y * W + x).toNat : Nat) : Int) = y * W + x := Int.toNat_of_nonneg (by omega)
  refine ⟨e, ?_, ?_⟩
  · rw [e, Int.add_comm, Int.add_mul_emod_self_right, Int.emod_eq_of_lt x0 x1]
  · rw [e, Int.add_comm, Int.add_mul_ediv_right _ _ (by omega), Int.ediv_eq_zero_of_lt x0 x1, Int.zero_add]
theorem reach_memP {p : List Ce} {s a : Ce} (hs : s ∈ p) (h : ReachC p s a) : a ∈ p := by
  cases h with
  | base => exact hs
  | step a _ _ hb _ => exact hb
/-- a place of the field that is set is a cell of the piece -/
theorem field_cell {X : List Ce} (h0 : ∀ c ∈ X, 0 ≤ c.1 ∧ 0 ≤ c.2) (hW : 1 ≤ (hiP X).1) (hT : 1 ≤ (hiP X).2) (hl : ((fieldP X).length : Int) = (hiP X).1 * (hiP X).2) {k : Nat} (hk : k < (fieldP X).length) :
    (fieldP X).getD k false = decide (((k : Int) % (hiP X).1, (k : Int) / (hiP X).1) ∈ X) := by
  have hf : FldG (hiP X).1 (hiP X).2 (fieldP X).length := ⟨hW, hT, hl⟩
  obtain ⟨a1, a2, a3, a4, a5⟩ := hf.xy hk
  have := fieldP_get h0 a1 (show (k : Int) % (hiP X).1 < (hiP X).1 by omega) a3 (show (k : Int) / (hiP X).1 < (hiP X).2 by omega)
  rw [← this]
  congr 1
  omega
theorem field_part {X : List Ce} (h : PieceOk X) (h0 : ∀ c ∈ X, 0 ≤ c.1 ∧ 0 ≤ c.2) (hx : ∃ c ∈ X, c.1 = 0) (hy : ∃ c ∈ X, c.2 = 0) : prtN (hiP X).1 (hiP X).2 (fieldP X) = 1 := by
  obtain ⟨⟨w1, w5⟩, ⟨t1, t5⟩, hl⟩ := field_box h h0 hx hy
  have hf : FldG (hiP X).1 (hiP X).2 (fieldP X).length := ⟨w1, t1, hl⟩
  have hs : X.headD (0, 0) ∈ X := by
    have := h.1.1
    cases X with
    | nil => simp at this
    | cons a l => simp
  have hlt := hiP_lt X
  have hin : ∀ c ∈ X, (c.2 * (hiP X).1 + c.1).toNat < (fieldP X).length ∧ cellP (fieldP X) (c.2 * (hiP X).1 + c.1).toNat := fun c hc => by
    obtain ⟨b0, b1⟩ := h0 c hc
    obtain ⟨b2, b3⟩ := hlt c hc
    obtain ⟨d1, d2⟩ := cell_lt b0 b2 b1 b3
    refine ⟨by omega, ?_⟩
    unfold cellP
    rw [fieldP_get h0 b0 b2 b1 b3]
    exact decide_eq_true hc
  have hconn : ∀ a, ReachC X (X.headD (0, 0)) a → ConnR (hiP X).1 (hiP X).2 (fieldP X) (a.2 * (hiP X).1 + a.1).toNat ((X.headD (0, 0)).2 * (hiP X).1 + (X.headD (0, 0)).1).toNat := by
    intro a ha
    induction ha with
    | base => exact .refl _
    | step a b hra hb hab ih =>
      have ham := reach_memP hs hra
      obtain ⟨-, x1, y1⟩ := idx_xy (h0 a ham).1 (hlt a ham).1 (h0 a ham).2
      obtain ⟨-, x2, y2⟩ := idx_xy (h0 b hb).1 (hlt b hb).1 (h0 b hb).2
      obtain ⟨d, hd⟩ : ∃ d, IsDir d (a.1 - b.1) (a.2 - b.2) := by
        unfold adjC at hab
        unfold IsDir
        rcases hab with ⟨e, e1 | e1⟩ | ⟨e, e1 | e1⟩
        · exact ⟨4, by omega⟩
        · exact ⟨2, by omega⟩
        · exact ⟨3, by omega⟩
        · exact ⟨1, by omega⟩
      exact .step (hin a ham).2 (adjW_of hf (hin b hb).1 (hin a ham).1 hd (by rw [x1, x2]; omega) (by rw [y1, y2]; omega)).2 ih
  refine part_one hf (hin _ hs).2 fun k hk => ?_
  have hkl := cellP_lt hk
  have hm : ((k : Int) % (hiP X).1, (k : Int) / (hiP X).1) ∈ X := by
    unfold cellP at hk
    rw [field_cell h0 w1 t1 hl hkl] at hk
    exact of_decide_eq_true hk
  have := hconn _ (h.2.2.2 _ hm)
  obtain ⟨-, -, -, -, a5⟩ := hf.xy hkl
  rw [show ((k : Int) / (hiP X).1 * (hiP X).1 + (k : Int) % (hiP X).1).toNat = k by omega] at this
  exact this
theorem cnt_put : ∀ (L : List Bool) (j : Nat), j < L.length → L.getD j false = false → cnt (L.set j true) = cnt L + 1
  | [], j, h, _ => by simp at h
  | a :: l, 0, _, h => by
    have ha : a = false := by simpa using h
    subst ha
    unfold cnt
    simp
  | a :: l, j + 1, h, h2 => by
    have ih := cnt_put l j (by simpa using h) (by simpa using h2)
    unfold cnt at ih ⊢
    rw [List.set_cons_succ]
    cases a with
    | true => simp only [List.filter_cons, id, if_true, List.length_cons]; omega
    | false => simp only [List.filter_cons, id]; simpa using ih
theorem fillK_cnt {X : List Ce} (hnd : X.Nodup) (h0 : ∀ c ∈ X, 0 ≤ c.1 ∧ 0 ≤ c.2) : ∀ k, k ≤ X.length → cnt (fillK (hiP X).1 ((hiP X).1 * (hiP X).2).toNat X k) = k
  | 0, _ => by
    rw [fillK_zero]
    unfold cnt
    rw [List.filter_replicate]
    simp
  | k + 1, hk => by
    have hk' : k < X.length := by omega
    have ih := fillK_cnt hnd h0 k (by omega)
    have hm := List.getElem_mem hk'
    have hlt := hiP_lt X
    obtain ⟨b0, b1⟩ := h0 _ hm
    obtain ⟨b2, b3⟩ := hlt _ hm
    obtain ⟨d1, d2⟩ := cell_lt b0 b2 b1 b3
    rw [fillK_step _ _ X k hk', cnt_put _ _ (by rw [fillK_len _ _ _ (by omega)]; omega) ?_, ih]
    · omega
    · rw [fillK_get (by omega) k (by omega)]
      refine decide_eq_false ?_
      rintro ⟨c, hc, e⟩
      obtain ⟨i, hi, rfl⟩ := List.mem_iff_getElem.1 hc
      have hi2 : i < k := by rw [List.length_take] at hi; omega
      rw [List.getElem_take] at e
      have hmi := List.getElem_mem (show i < X.length by omega)
      obtain ⟨c0, c1⟩ := h0 _ hmi
      obtain ⟨c2, c3⟩ := hlt _ hmi
      obtain ⟨e0, x1, y1⟩ := idx_xy c0 c2 c1
      obtain ⟨e0', x2, y2⟩ := idx_xy b0 b2 b1
      rw [e] at x1 y1
      have hne := List.pairwise_iff_getElem.1 hnd i k (by omega) hk' hi2
      exact hne (Prod.ext (x1.symm.trans x2) (y1.symm.trans y2))
/-- a region's cells are the piece's -/
theorem field_cnt {X : List Ce} (hnd : X.Nodup) (h0 : ∀ c ∈ X, 0 ≤ c.1 ∧ 0 ≤ c.2) : cnt (fieldP X) = X.length := fillK_cnt hnd h0 X.length (Nat.le_refl _)
/-! ### Turned and flipped -/
/-- the piece that is turned lies as the turned field does -/
theorem turn_mem {ps : List Ce} (h : PieceOk ps) : hiP (mvdV stayC (mvdV turnC ps)) = ((hiP (mvdV stayC ps)).2, (hiP (mvdV stayC ps)).1) ∧
    ∀ x y : Int, ((hiP (mvdV stayC ps)).2 - 1 - y, x) ∈ mvdV stayC (mvdV turnC ps) ↔ (x, y) ∈ mvdV stayC ps := by
  obtain ⟨-, -, hX, hX0, hX1, hX2⟩ := law_moved h
  have hT : PieceOk (ps.map turnC) := ok_turn h
  have e1 : mvdV turnC ps = mvd (ps.map turnC) := mvdV_ok turnC h
  have e2 : mvdV turnC ps = mvdV stayC (ps.map turnC) := by rw [e1, mvdV_ok stayC hT, map_stay]
  obtain ⟨i1, -, hY, hY0, hY1, hY2⟩ := law_moved hT
  have e3 : mvdV stayC (mvdV turnC ps) = mvd ((mvdV stayC ps).map turnC) := by
    rw [e2, i1, mvdV_ok stayC hT, map_stay, mvdV_ok stayC h, map_stay, mvd_map h.ne turnC (fun m c => by unfold subC turnC; exact Prod.ext (by simp only; omega) (by simp only))]
  rw [show mvdV stayC (ps.map turnC) = mvdV stayC (mvdV turnC ps) by rw [e2, i1]] at hY hY0 hY1 hY2
  have hperm := mvd_perm0 ((mvdV stayC ps).map turnC)
  rw [← e3] at hperm
  generalize mvdV stayC (mvdV turnC ps) = Y at *
  generalize mvdV stayC ps = X at *
  generalize loP (X.map turnC) = m at hperm
  have hmem : ∀ q, q ∈ Y ↔ ∃ a ∈ X, subC m (turnC a) = q := fun q => by
    rw [hperm.mem_iff, List.map_map, List.mem_map]
    rfl
  have hXne : X ≠ [] := by intro e; rw [e] at hX; have := hX.1.1; simp at this
  have hYne : Y ≠ [] := by intro e; rw [e] at hY; have := hY.1.1; simp at this
  have hlt := hiP_lt X
  obtain ⟨⟨a, ha, ea⟩, ⟨b, hb, eb⟩⟩ := hiP_at hX0 hXne
  obtain ⟨c, hc, ec⟩ := hX1
  obtain ⟨d, hd, ed⟩ := hX2
  obtain ⟨u, hu, eu⟩ := hY1
  obtain ⟨v, hv, ev⟩ := hY2
  have hin : ∀ a ∈ X, 0 ≤ -a.2 - m.1 ∧ 0 ≤ a.1 - m.2 := fun a ha => hY0 _ ((hmem _).2 ⟨a, ha, rfl⟩)
  obtain ⟨a', ha', ea'⟩ := (hmem u).1 hu
  obtain ⟨b', hb', eb'⟩ := (hmem v).1 hv
  have m1 : m.1 = -((hiP X).2 - 1) := by
    have g1 := (hin b hb).1
    have g2 := (hlt a' ha').2
    have g3 : u.1 = -a'.2 - m.1 := by rw [← ea']; rfl
    omega
  have m2 : m.2 = 0 := by
    have g1 := (hin c hc).2
    have g2 := (hX0 b' hb').1
    have g3 : v.2 = b'.1 - m.2 := by rw [← eb']; rfl
    omega
  have hmem2 : ∀ x y : Int, ((hiP X).2 - 1 - y, x) ∈ Y ↔ (x, y) ∈ X := fun x y => by
    rw [hmem]
    constructor
    · rintro ⟨z, hz, e⟩
      have g1 : -z.2 - m.1 = (hiP X).2 - 1 - y := congrArg Prod.fst e
      have g2 : z.1 - m.2 = x := congrArg Prod.snd e
      have : z = (x, y) := Prod.ext (show z.1 = x by omega) (show z.2 = y by omega)
      rw [← this]; exact hz
    · intro hz
      exact ⟨(x, y), hz, Prod.ext (show -y - m.1 = (hiP X).2 - 1 - y by omega) (show x - m.2 = x by omega)⟩
  refine ⟨hiP_eq hY0 hYne (fun q hq => ?_) ?_ ?_, hmem2⟩
  · obtain ⟨z, hz, e⟩ := (hmem q).1 hq
    have g1 : -z.2 - m.1 = q.1 := congrArg Prod.fst e
    have g2 : z.1 - m.2 = q.2 := congrArg Prod.snd e
    have g3 := hX0 z hz
    have g4 := hlt z hz
    omega
  · exact ⟨((hiP X).2 - 1 - d.2, d.1), (hmem2 d.1 d.2).2 hd, by simp only; omega⟩
  · exact ⟨((hiP X).2 - 1 - a.2, a.1), (hmem2 a.1 a.2).2 ha, by simp only; omega⟩
/-- the piece that is flipped lies as the flipped field does -/
theorem flip_memP {ps : List Ce} (h : PieceOk ps) : hiP (mvdV stayC (mvdV flipC ps)) = hiP (mvdV stayC ps) ∧
    ∀ x y : Int, ((hiP (mvdV stayC ps)).1 - 1 - x, y) ∈ mvdV stayC (mvdV flipC ps) ↔ (x, y) ∈ mvdV stayC ps := by
  obtain ⟨-, -, hX, hX0, hX1, hX2⟩ := law_moved h
  have hT : PieceOk (ps.map flipC) := ok_flip h
  have e1 : mvdV flipC ps = mvd (ps.map flipC) := mvdV_ok flipC h
  have e2 : mvdV flipC ps = mvdV stayC (ps.map flipC) := by rw [e1, mvdV_ok stayC hT, map_stay]
  obtain ⟨i1, -, hY, hY0, hY1, hY2⟩ := law_moved hT
  have e3 : mvdV stayC (mvdV flipC ps) = mvd ((mvdV stayC ps).map flipC) := by
    rw [e2, i1, mvdV_ok stayC hT, map_stay, mvdV_ok stayC h, map_stay, mvd_map h.ne flipC (fun m c => by unfold subC flipC; exact Prod.ext (by simp only; omega) (by simp only))]
  rw [show mvdV stayC (ps.map flipC) = mvdV stayC (mvdV flipC ps) by rw [e2, i1]] at hY hY0 hY1 hY2
  have hperm := mvd_perm0 ((mvdV stayC ps).map flipC)
  rw [← e3] at hperm
  generalize mvdV stayC (mvdV flipC ps) = Y at *
  generalize mvdV stayC ps = X at *
  generalize loP (X.map flipC) = m at hperm
  have hmem : ∀ q, q ∈ Y ↔ ∃ a ∈ X, subC m (flipC a) = q := fun q => by
    rw [hperm.mem_iff, List.map_map, List.mem_map]
    rfl
  have hXne : X ≠ [] := by intro e; rw [e] at hX; have := hX.1.1; simp at this
  have hYne : Y ≠ [] := by intro e; rw [e] at hY; have := hY.1.1; simp at this
  have hlt := hiP_lt X
  obtain ⟨⟨a, ha, ea⟩, ⟨b, hb, eb⟩⟩ := hiP_at hX0 hXne
  obtain ⟨c, hc, ec⟩ := hX1
  obtain ⟨d, hd, ed⟩ := hX2
  obtain ⟨u, hu, eu⟩ := hY1
  obtain ⟨v, hv, ev⟩ := hY2
  have hin : ∀ a ∈ X, 0 ≤ -a.1 - m.1 ∧ 0 ≤ a.2 - m.2 := fun a ha => hY0 _ ((hmem _).2 ⟨a, ha, rfl⟩)
  obtain ⟨a', ha', ea'⟩ := (hmem u).1 hu
  obtain ⟨b', hb', eb'⟩ := (hmem v).1 hv
  have m1 : m.1 = -((hiP X).1 - 1) := by
    have g1 := (hin a ha).1
    have g2 := (hlt a' ha').1
    have g3 : u.1 = -a'.1 - m.1 := by rw [← ea']; rfl
    omega
  have m2 : m.2 = 0 := by
    have g1 := (hin d hd).2
    have g2 := (hX0 b' hb').2
    have g3 : v.2 = b'.2 - m.2 := by rw [← eb']; rfl
    omega
  have hmem2 : ∀ x y : Int, ((hiP X).1 - 1 - x, y) ∈ Y ↔ (x, y) ∈ X := fun x y => by
    rw [hmem]
    constructor
    · rintro ⟨z, hz, e⟩
      have g1 : -z.1 - m.1 = (hiP X).1 - 1 - x := congrArg Prod.fst e
      have g2 : z.2 - m.2 = y := congrArg Prod.snd e
      have : z = (x, y) := Prod.ext (show z.1 = x by omega) (show z.2 = y by omega)
      rw [← this]; exact hz
    · intro hz
      exact ⟨(x, y), hz, Prod.ext (show -x - m.1 = (hiP X).1 - 1 - x by omega) (show y - m.2 = y by omega)⟩
  refine ⟨hiP_eq (W := (hiP X).1) (T := (hiP X).2) hY0 hYne (fun q hq => ?_) ?_ ?_, hmem2⟩
  · obtain ⟨z, hz, e⟩ := (hmem q).1 hq
    have g1 : -z.1 - m.1 = q.1 := congrArg Prod.fst e
    have g2 : z.2 - m.2 = q.2 := congrArg Prod.snd e
    have g3 := hX0 z hz
    have g4 := hlt z hz
    omega
  · exact ⟨((hiP X).1 - 1 - c.1, c.2), (hmem2 c.1 c.2).2 hc, by simp only; omega⟩
  · exact ⟨((hiP X).1 - 1 - b.1, b.2), (hmem2 b.1 b.2).2 hb, by simp only; omega⟩
/-- the field of the turned piece is the turned field -/
theorem turn_field {ps : List Ce} (h : PieceOk ps) : (fieldP (mvdV stayC (mvdV turnC ps))).length = (fieldP (mvdV stayC ps)).length ∧
    ∀ k, k < (fieldP (mvdV stayC ps)).length → (fieldP (mvdV stayC (mvdV turnC ps))).getD ((k : Int) % (hiP (mvdV stayC ps)).1 * (hiP (mvdV stayC ps)).2 + ((hiP (mvdV stayC ps)).2 - 1 - (k : Int) / (hiP (mvdV stayC ps)).1)).toNat false = (fieldP (mvdV stayC ps)).getD k false := by
  obtain ⟨hb, hm⟩ := turn_mem h
  obtain ⟨-, -, hX, hX0, hX1, hX2⟩ := law_moved h
  obtain ⟨-, -, hY, hY0, hY1, hY2⟩ := law_moved (show PieceOk (mvdV turnC ps) by rw [mvdV_ok turnC h]; exact ok_mvd (ok_turn h))
  obtain ⟨⟨w1, -⟩, ⟨t1, -⟩, hl⟩ := field_box hX hX0 hX1 hX2
  obtain ⟨-, -, hl'⟩ := field_box hY hY0 hY1 hY2
  generalize mvdV stayC (mvdV turnC ps) = Y at *
  generalize mvdV stayC ps = X at *
  refine ⟨?_, fun k hk => ?_⟩
  · rw [hb] at hl'
    simp only at hl'
    rw [Int.mul_comm] at hl'
    omega
  · have hf : FldG (hiP X).1 (hiP X).2 (fieldP X).length := ⟨w1, t1, hl⟩
    obtain ⟨a1, a2, a3, a4, a5⟩ := hf.xy hk
    rw [field_cell hX0 w1 t1 hl hk]
    have := fieldP_get hY0 (x := (hiP X).2 - 1 - (k : Int) / (hiP X).1) (y := (k : Int) % (hiP X).1) (by omega) (by rw [hb]; simp only; omega) a1 (by rw [hb]; simp only; omega)
    rw [hb] at this
    rw [this, Bool.eq_iff_iff, decide_eq_true_eq, decide_eq_true_eq]
    exact hm _ _
theorem flip_field {ps : List Ce} (h : PieceOk ps) : (fieldP (mvdV stayC (mvdV flipC ps))).length = (fieldP (mvdV stayC ps)).length ∧
    ∀ k, k < (fieldP (mvdV stayC ps)).length → (fieldP (mvdV stayC (mvdV flipC ps))).getD ((k : Int) / (hiP (mvdV stayC ps)).1 * (hiP (mvdV stayC ps)).1 + ((hiP (mvdV stayC ps)).1 - 1 - (k : Int) % (hiP (mvdV stayC ps)).1)).toNat false = (fieldP (mvdV stayC ps)).getD k false := by
  obtain ⟨hb, hm⟩ := flip_memP h
  obtain ⟨-, -, hX, hX0, hX1, hX2⟩ := law_moved h
  obtain ⟨-, -, hY, hY0, hY1, hY2⟩ := law_moved (show PieceOk (mvdV flipC ps) by rw [mvdV_ok flipC h]; exact ok_mvd (ok_flip h))
  obtain ⟨⟨w1, -⟩, ⟨t1, -⟩, hl⟩ := field_box hX hX0 hX1 hX2
  obtain ⟨-, -, hl'⟩ := field_box hY hY0 hY1 hY2
  generalize mvdV stayC (mvdV flipC ps) = Y at *
  generalize mvdV stayC ps = X at *
  refine ⟨?_, fun k hk => ?_⟩
  · rw [hb] at hl'
    omega
  · have hf : FldG (hiP X).1 (hiP X).2 (fieldP X).length := ⟨w1, t1, hl⟩
    obtain ⟨a1, a2, a3, a4, a5⟩ := hf.xy hk
    rw [field_cell hX0 w1 t1 hl hk]
    have := fieldP_get hY0 (x := (hiP X).1 - 1 - (k : Int) % (hiP X).1) (y := (k : Int) / (hiP X).1) (by omega) (by rw [hb]; omega) a3 (by rw [hb]; omega)
    rw [hb] at this
    rw [this, Bool.eq_iff_iff, decide_eq_true_eq, decide_eq_true_eq]
    exact hm _ _
/-- a list is fixed by what it holds at all places -/
theorem eq_at {n : Nat} {σ : Nat → Nat} {f : Nat → Bool} {M M' : List Bool} (hm : M.length = n) (hm' : M'.length = n) (hs : ∀ j, j < n → ∃ k, k < n ∧ σ k = j) (h : ∀ k, k < n → M.getD (σ k) false = f k) (h' : ∀ k, k < n → M'.getD (σ k) false = f k) : M = M' := by
  refine List.ext_getElem (by omega) fun j h1 h2 => ?_
  obtain ⟨k, hk, e⟩ := hs j (by omega)
  have a := h k hk
  have b := h' k hk
  rw [e, List.getD_eq_getElem?_getD] at a b
  rw [List.getElem?_eq_getElem h1] at a
  rw [List.getElem?_eq_getElem h2] at b
  simp only [Option.getD_some] at a b
  rw [a, b]
theorem tau_onto {W T : Int} {n : Nat} (hf : FldG W T n) : ∀ j, j < n → ∃ k, k < n ∧ ((k : Int) % W * T + (T - 1 - (k : Int) / W)).toNat = j := by
  intro j hj
  have hf' : FldG T W n := ⟨hf.t1, hf.w1, by rw [Int.mul_comm]; exact hf.len⟩
  obtain ⟨a1, a2, a3, a4, a5⟩ := hf'.xy hj
  have hT := hf.t1
  have hW := hf.w1
  obtain ⟨d1, d2⟩ := cell_lt (W := W) (T := T) a3 (by omega) (show 0 ≤ T - 1 - (j : Int) % T by omega) (by omega)
  obtain ⟨e, x, y⟩ := idx_xy (W := W) a3 (show (j : Int) / T < W by omega) (show 0 ≤ T - 1 - (j : Int) % T by omega)
  have hl := hf.len
  refine ⟨((T - 1 - (j : Int) % T) * W + (j : Int) / T).toNat, by omega, ?_⟩
  rw [x, y]
  omega
theorem flip_onto {W T : Int} {n : Nat} (hf : FldG W T n) : ∀ j, j < n → ∃ k, k < n ∧ ((k : Int) / W * W + (W - 1 - (k : Int) % W)).toNat = j := by
  intro j hj
  obtain ⟨a1, a2, a3, a4, a5⟩ := hf.xy hj
  have hW := hf.w1
  obtain ⟨d1, d2⟩ := cell_lt (W := W) (T := T) (show 0 ≤ W - 1 - (j : Int) % W by omega) (by omega) a3 (by omega)
  obtain ⟨e, x, y⟩ := idx_xy (W := W) (show 0 ≤ W - 1 - (j : Int) % W by omega) (by omega) a3
  have hl := hf.len
  refine ⟨((j : Int) / W * W + (W - 1 - (j : Int) % W)).toNat, by omega, ?_⟩
  rw [x, y]
  omega
end Go.Proofs.Ytohbnogmeldmpaa

/- Contract: where a cell goes when the region is turned. -/
namespace Go.Proofs.Ytohbnogmeldmpaa
open Go.RowKit

set_option maxHeartbeats 1000000 in
theorem turned_any (W T : Int) (S : Value) (c : Int) (w : World) (h1 : 1 ≤ W) (h2 : W ≤ 6) (h3 : 1 ≤ T) (h4 : T ≤ 6) (c0 : 0 ≤ c) (c1 : c < W * T) :
    Calls Try.prog 32 #[.agg #[.int .i64 W, .int .i64 T, S], .int .i64 c] w fun e w' => e = .returned (.int .i64 (tauZ W T c)) ∧ Below w.heap.size w w' := by
  obtain ⟨X, Y, eX, eY, x0, x1, y0, y1, -, -, -, hc⟩ := cell_xy h1 h2 h3 h4 c0 c1
  have HE := Lib.hid (show X * T + T - 1 - Y = tauZ W T c by unfold tauZ; rw [eX, eY]; omega)
  have XY := Lib.hid (fun w => by have := xy_any W T S c w h1 h2 c0 (by omega); rw [eX, eY] at this; exact this)
  have X0 := C3.new w (.int .i64 W) (.int .i64 T) S 27
  obtain ⟨m0, m1⟩ : 0 ≤ X * T ∧ X * T ≤ 36 := by
    rcases (show T = 1 ∨ T = 2 ∨ T = 3 ∨ T = 4 ∨ T = 5 ∨ T = 6 from by omega) with rfl | rfl | rfl | rfl | rfl | rfl <;> omega
  obtain ⟨x0', x1', x2'⟩ := id X0
  go_enter Try.func32, Try.ntmps32
  go_wp2_with fail
  refine (XY.out _).mono ?_
  rintro e w1 ⟨rfl, b1⟩
  have B1 := bl_go (bl_alloc (Below.refl w.heap.size w) _) b1
  obtain ⟨y0', y1', y2'⟩ := X0.belo b1
  have i1 : IntKind.i64.wrap (X * T) = X * T := IntWalk.i64_in _ (by omega)
  have i2 : IntKind.i64.wrap (X * T + T) = X * T + T := IntWalk.i64_in _ (by omega)
  have i3 : IntKind.i64.wrap (X * T + T - 1) = X * T + T - 1 := IntWalk.i64_in _ (by omega)
  have i4 : IntKind.i64.wrap (X * T + T - 1 - Y) = X * T + T - 1 - Y := IntWalk.i64_in _ (by omega)
  clear c1 eX eY
  go_wp2
  go_ret
  exact ⟨ret_i HE.out, B1⟩
end Go.Proofs.Ytohbnogmeldmpaa

/- Contracts: a region put at other places; the program's RegionTurn. -/
namespace Go.Proofs.Ytohbnogmeldmpaa
open Go.RowKit

/-- the first k cells are put -/
def PutT (W T : Int) (bs : List Bool) (k : Nat) (xs : List Bool) : Prop := xs.length = bs.length ∧ (∀ i, i < k → xs.getD (tauZ W T i).toNat false = bs.getD i false) ∧ cnt xs ≤ cnt (bs.take k)
theorem putT_zero (W T : Int) (bs : List Bool) : PutT W T bs 0 (List.replicate bs.length false) := ⟨by simp, fun i hi => by omega, by
    have : ∀ n, cnt (List.replicate n false) = 0 := fun n => by
      induction n with
      | zero => rfl
      | succ n ih => rw [List.replicate_succ', cnt_snoc, ih]; rfl
    rw [this]; exact (cnt_le _).1⟩
theorem cnt_set_up (l : List Bool) (k : Nat) : cnt (l.set k true) ≤ cnt l + 1 := by
  rcases Nat.lt_or_ge k l.length with hk | hk
  · have h1 := cnt_set_le (l.set k true) k
    have h2 := cnt_set_lt (l.set k true) k (by rw [List.length_set]; exact hk) (by simp)
    have h3 : ∀ (l : List Bool) (k : Nat), cnt (l.set k true) ≤ cnt (l.set k false) + 1 := by
      intro l
      induction l with
      | nil => intro k; simp [cnt]
      | cons b l ih => intro k; cases k with
        | zero => simp [cnt]
        | succ k => have := ih k; cases b <;> simp [cnt] at this ⊢ <;> omega
    have h4 := h3 l k
    have h5 := cnt_set_le l k
    omega
  · rw [List.set_eq_of_length_le hk]; omega
theorem putT_step {W T : Int} {bs xs : List Bool} {k : Nat} (hf : Fld W T bs) (h : PutT W T bs k xs) (hk : k < bs.length) : PutT W T bs (k + 1) (xs.set (tauZ W T k).toNat (bs.getD k false)) := by
  obtain ⟨h1, h2, h3⟩ := h
  have hn := hf.n
  have tin := fun i (hi : i < bs.length) => tau_in (W := W) (T := T) (c := (i : Int)) hf.w1 hf.w6 hf.t1 hf.t6 (by omega) (by omega)
  refine ⟨by rw [List.length_set]; exact h1, fun i hi => ?_, ?_⟩
  rotate_left
  · rw [cnt_step _ _ hk, List.getD_eq_getElem?_getD, List.getElem?_eq_getElem hk]
    cases e : bs[k] with
    | true => have := cnt_set_up xs (tauZ W T k).toNat; simp only [Option.getD_some, if_true]; omega
    | false => have := cnt_set_le xs (tauZ W T k).toNat; simp; omega
  obtain ⟨a, b, c⟩ := tin k hk
  rcases Nat.lt_or_ge i k with h | h
  · obtain ⟨a', b', c'⟩ := tin i (by omega)
    rw [getD_set_ne (fun e => by
      have e' : tauZ W T i = tauZ W T k := by omega
      rw [e', c] at c'; omega)]
    exact h2 i h
  · obtain rfl : i = k := by omega
    rw [List.getD_eq_getElem?_getD, List.getElem?_set_self (by omega)]; rfl
theorem putT_all {W T : Int} {bs xs : List Bool} (h : PutT W T bs bs.length xs) : IsTurn W T bs xs := ⟨h.1, h.2.1, by have := h.2.2; rwa [List.take_length] at this⟩
theorem keep1 {w : World} {b o g m : Nat} {u v : Value} (h : ¬ (b = g)) (e : w.cell? ⟨b, o, none⟩ = some v) : (w.setCell ⟨g, m, none⟩ u).cell? ⟨b, o, none⟩ = some v := by
  rw [World.cell?_setCell_other _ _ _ _ (by intro x; injection x with x; omega)]; exact e
set_option maxRecDepth 100000 in
set_option maxHeartbeats 2000000 in
theorem put_turn (W T : Int) (A : Option Addr) (c : Nat) (bs : List Bool) (w : World) (hr : Rd w A (bs.map .bool)) (hf : Fld W T bs) (h36 : bs.length ≤ 36) :
    Calls Try.prog 31 #[.agg #[.int .i64 W, .int .i64 T, .slice A bs.length c], .int .i64 T, .int .i64 W, .func (.func 32) #[.agg #[.int .i64 W, .int .i64 T, .slice A bs.length c]] #[]] w
      fun e w' => ∃ xs, IsTurn W T bs xs ∧ NewRW T W xs w e w' := by
  have hw1 := hf.w1
  have hw6 := hf.w6
  have ht1 := hf.t1
  have ht6 := hf.t6
  have hn := hf.n
  have FD := Lib.hid (fun w => field_any T W bs.length w (by omega) ht6 (by omega) hw6 (by rw [Int.mul_comm]; exact hn.symm))
  have HF := Lib.hid hf
  have CT := Lib.hid (fun (k : Nat) (hk : k < bs.length) (z : World) => turned_any W T (.slice A bs.length c) k z hw1 hw6 ht1 ht6 (by omega) (by omega))
  have TI := Lib.hid (fun (k : Nat) (hk : k < bs.length) => tau_in (W := W) (T := T) (c := (k : Int)) hw1 hw6 ht1 ht6 (by omega) (by omega))
  have HN := Lib.hid hn
  have Z := C3.new w (.int .i64 W) (.int .i64 T) (.slice A bs.length c) 27
  have Z0 := Z.alloc (.cells #[.int .i64 0, .int .i64 0, .slice none 0 0] 27)
  have B0 := bl_alloc (bl_alloc (Below.refl w.heap.size w) (.cells #[.int .i64 W, .int .i64 T, .slice A bs.length c] 27)) (.cells #[.int .i64 0, .int .i64 0, .slice none 0 0] 27)
  have P0 : ((w.alloc (.cells #[.int .i64 W, .int .i64 T, .slice A bs.length c] 27)).alloc (.cells #[.int .i64 0, .int .i64 0, .slice none 0 0] 27)).heap[w.heap.size + 1]? = some (.cells #[.int .i64 0, .int .i64 0, .slice none 0 0] 27 (0, 0)) := by
    have := heap_alloc_new (w.alloc (.cells #[.int .i64 W, .int .i64 T, .slice A bs.length c] 27)) (.cells #[.int .i64 0, .int .i64 0, .slice none 0 0] 27)
    simpa using this
  have hs0 : ((w.alloc (.cells #[.int .i64 W, .int .i64 T, .slice A bs.length c] 27)).alloc (.cells #[.int .i64 0, .int .i64 0, .slice none 0 0] 27)).heap.size = w.heap.size + 2 := by simp
  clear hf hn Z
  go_enter Try.func31, Try.ntmps31
  go_wp2_with fail
  generalize (w.alloc (.cells #[.int .i64 W, .int .i64 T, .slice A bs.length c] 27)).alloc (.cells #[.int .i64 0, .int .i64 0, .slice none 0 0] 27) = wa at *
  refine (FD.out _).mono ?_
  rintro e w1 ⟨B, d, rfl, hw, hb⟩
  simp only [List.length_replicate]
  have Z1 := (Z0.belo hb).alloc (.cells #[.int .i64 T, .int .i64 W, .slice B bs.length d] 27)
  have Y1 := C3.new w1 (.int .i64 T) (.int .i64 W) (.slice B bs.length d) 27
  have Q1 := hw.belo (bl_alloc (Below.refl _ _) (.cells #[.int .i64 T, .int .i64 W, .slice B bs.length d] 27))
  have hsz := hb.size
  have B1 := bl_alloc (bl_go B0 hb) (.cells #[.int .i64 T, .int .i64 W, .slice B bs.length d] 27)
  have P1 := ((bl_alloc (Below.refl w1.heap.size w1) (.cells #[.int .i64 T, .int .i64 W, .slice B bs.length d] 27)).block (w.heap.size + 1) (by omega)).trans ((hb.block (w.heap.size + 1) (by omega)).trans P0)
  have hB : ∀ ad, B = some ad → bs ≠ [] → ad.block < w1.heap.size := fun ad ha hne => hw.rd.lt ha (by simpa using hne)
  obtain ⟨z0, z1, z2⟩ := id Z1
  go_wp2_with fail
  obtain ⟨b9, hb9⟩ : ∃ b9, w1.heap.size = b9 := ⟨_, rfl⟩
  generalize hwb : w1.alloc (.cells #[.int .i64 T, .int .i64 W, .slice B bs.length d] 27) = wb at *
  rw [hb9] at Y1 hsz hB
  simp only [hb9] at *
  clear hwb hw hb z0 z1 z2 B0 Z0
  go_loopw [18] (fun i wr => ∃ (k : Nat) (xs : List Bool), k ≤ bs.length ∧ i = .int .i64 k ∧ PutT W T bs k xs ∧ Wr wr wa.heap.size 4 B (xs.map .bool) ∧ Below w.heap.size w wr ∧ C3 wr w.heap.size (.int .i64 W) (.int .i64 T) (.slice A bs.length c) ∧ C3 wr b9 (.int .i64 T) (.int .i64 W) (.slice B bs.length d) ∧ wr.heap[w.heap.size + 1]? = some (.cells #[.int .i64 0, .int .i64 0, .slice none 0 0] 27 (0, 0))) (fun i _ => bs.length - (intOf i).toNat)
  case atStart => exact ⟨0, List.replicate bs.length false, Nat.zero_le _, rfl, putT_zero W T bs, Q1, B1, Z1, Y1, P1⟩
  case round =>
    clear Q1 B1 Z1 Y1 P1
    obtain ⟨k, xs, hk, rfl, HP, Q1, B1, Z1, Y1, P1⟩ := hrel
    obtain ⟨z0, z1, z2⟩ := id Z1
    obtain ⟨y0, y1, y2⟩ := id Y1
    by_cases hlt : k < bs.length
    · obtain ⟨ad, rfl, hc⟩ := (hr.belo B1).atM hlt
      obtain ⟨t0, t1, t2⟩ := TI.out k hlt
      have hxl := HP.1
      have hne : xs.map Value.bool ≠ [] := by intro e; simp at e; rw [e] at hxl; simp at hxl; omega
      obtain ⟨g, rfl, hlo, hgs, hfr⟩ := Q1.form hne
      have hgb : g < b9 := hB _ rfl (by intro e; rw [e] at hlt; simp at hlt)
      obtain ⟨m, hm⟩ := Int.eq_ofNat_of_zero_le t0
      have hml : m < bs.length := by have := HN.out; omega
      have CT' := Lib.hid (fun z => by have := CT.out k hlt z; rw [hm] at this; exact this)
      have HST := putT_step HF.out HP hlt
      rw [hm, List.getD_eq_getElem?_getD, List.getElem?_eq_getElem hlt] at HST
      obtain ⟨v, hv⟩ : ∃ v, bs[k] = v := ⟨_, rfl⟩
      rw [hv] at hc HST
      simp only [Int.toNat_natCast, Option.getD_some] at HST
      have HST := Lib.hid HST
      obtain ⟨ov, hco⟩ : ∃ ov, wr.cell? ⟨g, m, none⟩ = some ov := ⟨_, by simpa using Q1.rd.cellEM (k := m) (by omega)⟩
      clear hne hv t2 hm CT
      go_wp2_with fail
      have hgn : ¬ (b9 = g) := by omega
      have hf := hfr m
      have mI : (m : Int) < (bs.length : Int) := by omega
      go_region_held3 (fun w' => w'.cell? ⟨b9, 2, none⟩ = some (.slice (some ⟨g, 0, none⟩) bs.length d))
        (first | (with_reducible exact y2) | (with_reducible exact dr_cell y2) | (with_reducible exact y5) | (with_reducible exact keep1 hgn y5) | go_keep)
        ((go_at_call 32; refine (CT'.out _).mono ?_; rintro e w5 ⟨rfl, b5⟩; have y5 := kb1 b5 y2; have q5 := (Q1.belo (Below.refl wr.heap.size wr).drew).belo b5; have c5 := kb1 b5 hco; have fr5 : w5.frozen? ⟨g, m, none⟩ = false := by (obtain ⟨g', e', -, -, h'⟩ := q5.form (by intro e; simp at e; rw [e] at hxl; simp at hxl; omega); injection e' with e'; injection e' with e' _ _; rw [e']; exact h' m)))
      have X0' := Lib.hid (And.intro ((Z1.belo (Below.refl wr.heap.size wr).drew).belo b5) ((Y1.belo (Below.refl wr.heap.size wr).drew).belo b5))
      go_wp2_with fail
      refine ⟨⟨k + 1, xs.set m v, by omega, by go_num, HST.out, ?_, ?_, ?_, ?_, ?_⟩, by simp [intOf]; omega⟩
      · rw [List.map_set]; exact q5.store m (.bool v)
      · exact (bl_go B1 (bl_go (Below.refl wr.heap.size wr).drew b5)).setCell (by show w.heap.size ≤ g; omega) _
      · exact X0'.out.1.set (by show ¬ (g = w.heap.size); omega) _
      · exact X0'.out.2.set (by show ¬ (g = b9); omega) _
      · rw [Below.heap_setCell _ _ _ _ (by show ¬ (w.heap.size + 1 = g); omega)]
        exact ((bl_go (Below.refl wr.heap.size wr).drew b5).block _ (by omega)).trans P1
    · obtain rfl : k = bs.length := by omega
      have HT := Lib.hid (putT_all HP)
      have hl := HP.1
      obtain ⟨g0, g1, g2, f0, f1, f2⟩ := blk3 P1
      go_wp2_with fail
      refine bodyPost_ret (v := .agg #[.int .i64 T, .int .i64 W, .slice B bs.length d]) (by simp [results, Try.results31, go_sem, g0, g1, g2]) rfl ?_
      refine ⟨xs, HT.out, B, d, by rw [hl], ?_, ?_⟩
      · refine (Q1.lower (lo' := w.heap.size) (by omega)).keep fun g hg hg2 => ?_
        have hlo := Q1.1 _ hg
        simp only at hlo
        rw [Below.heap_setCell _ _ _ _ (by simp; omega), Below.heap_setCell _ _ _ _ (by simp; omega), Below.heap_setCell _ _ _ _ (by simp; omega)]
      · exact ((B1.setCell (p := ⟨w.heap.size + 1, 0, none⟩) (by show w.heap.size ≤ w.heap.size + 1; omega) _).setCell (p := ⟨w.heap.size + 1, 1, none⟩) (by show w.heap.size ≤ w.heap.size + 1; omega) _).setCell (p := ⟨w.heap.size + 1, 2, none⟩) (by show w.heap.size ≤ w.heap.size + 1; omega) _
end Go.Proofs.Ytohbnogmeldmpaa

/- Contract: the program's RegionTurn, of a valid region. -/
namespace Go.Proofs.Ytohbnogmeldmpaa
open Go.RowKit

set_option maxRecDepth 100000 in
set_option maxHeartbeats 2000000 in
theorem iRegionTurn_ok (W T : Int) (A : Option Addr) (c : Nat) (bs : List Bool) (w : World) (hr : Rd w A (bs.map .bool)) (hv : validB W T bs = true) :
    Calls Try.prog 12 #[.agg #[.int .i64 W, .int .i64 T, .slice A bs.length c]] w fun e w' => ∃ xs, IsTurn W T bs xs ∧ NewRW T W xs w e w' := by
  obtain ⟨h1, h2, h3, h4, h5, h6⟩ := valid_len hv
  have CP := Lib.hid (fun (z : World) (R : Rd z A (bs.map .bool)) => put_turn W T A c bs z R ⟨h1, h2, h3, h4, h6⟩ h5)
  have HV := Lib.hid hv
  have Z := C3.new w (.int .i64 W) (.int .i64 T) (.slice A bs.length c) 27
  have Z0 := Z.alloc (.cells #[.int .i64 0, .int .i64 0, .slice none 0 0] 27)
  have R0 := (hr.alloc (.cells #[.int .i64 W, .int .i64 T, .slice A bs.length c] 27)).alloc (.cells #[.int .i64 0, .int .i64 0, .slice none 0 0] 27)
  have B0 := bl_alloc (bl_alloc (Below.refl w.heap.size w) (.cells #[.int .i64 W, .int .i64 T, .slice A bs.length c] 27)) (.cells #[.int .i64 0, .int .i64 0, .slice none 0 0] 27)
  have P0 : ((w.alloc (.cells #[.int .i64 W, .int .i64 T, .slice A bs.length c] 27)).alloc (.cells #[.int .i64 0, .int .i64 0, .slice none 0 0] 27)).heap[w.heap.size + 1]? = some (.cells #[.int .i64 0, .int .i64 0, .slice none 0 0] 27 (0, 0)) := by
    have := heap_alloc_new (w.alloc (.cells #[.int .i64 W, .int .i64 T, .slice A bs.length c] 27)) (.cells #[.int .i64 0, .int .i64 0, .slice none 0 0] 27)
    simpa using this
  have hs0 : ((w.alloc (.cells #[.int .i64 W, .int .i64 T, .slice A bs.length c] 27)).alloc (.cells #[.int .i64 0, .int .i64 0, .slice none 0 0] 27)).heap.size = w.heap.size + 2 := by simp
  have hm : bs.length ≤ maxLen := by unfold maxLen; omega
  clear hv h6 Z
  go_enter Try.func12, Try.ntmps12
  go_wp2_with fail
  generalize (w.alloc (.cells #[.int .i64 W, .int .i64 T, .slice A bs.length c] 27)).alloc (.cells #[.int .i64 0, .int .i64 0, .slice none 0 0] 27) = wa at *
  refine (iRegionValid_any _ _ _ _ _ _ R0 hm).mono ?_
  rintro e w1 ⟨rfl, b1⟩
  rw [HV.out]
  have R1 := R0.belo b1
  have Z1 := Z0.belo b1
  have B1 := bl_go B0 b1
  have P1 := (b1.block (w.heap.size + 1) (by omega)).trans P0
  have hs1 := b1.size
  obtain ⟨z0, z1, z2⟩ := id Z1
  go_wp2_with fail
  refine (CP.out _ R1).mono ?_
  rintro e w2 ⟨xs, HT, B, d, rfl, q2, b2⟩
  have P2 := (b2.block (w.heap.size + 1) (by omega)).trans P1
  obtain ⟨g0, g1, g2, f0, f1, f2⟩ := blk3 P2
  have B2 := bl_go B1 b2
  go_wp2_with fail
  refine bodyPost_ret (v := .agg #[.int .i64 T, .int .i64 W, .slice B xs.length d]) (by simp [results, Try.results12, go_sem, g0, g1, g2]) rfl ?_
  refine ⟨xs, HT, B, d, rfl, ?_, ?_⟩
  · refine (q2.lower (lo' := w.heap.size) (by omega)).keep fun g hg hg2 => ?_
    have hlo := q2.1 _ hg
    simp only at hlo
    rw [Below.heap_setCell _ _ _ _ (by simp; omega), Below.heap_setCell _ _ _ _ (by simp; omega), Below.heap_setCell _ _ _ _ (by simp; omega)]
  · exact ((B2.setCell (p := ⟨w.heap.size + 1, 0, none⟩) (by show w.heap.size ≤ w.heap.size + 1; omega) _).setCell (p := ⟨w.heap.size + 1, 1, none⟩) (by show w.heap.size ≤ w.heap.size + 1; omega) _).setCell (p := ⟨w.heap.size + 1, 2, none⟩) (by show w.heap.size ≤ w.heap.size + 1; omega) _
end Go.Proofs.Ytohbnogmeldmpaa

/- Contracts: where a cell goes when the region is mirrored; the program's RegionFlip. -/
namespace Go.Proofs.Ytohbnogmeldmpaa
open Go.RowKit

/-- where a cell goes when the region is mirrored -/
def miZ (W c : Int) : Int := c / W * W + (W - 1 - c % W)
theorem mi_in {W T c : Int} (h1 : 1 ≤ W) (h2 : W ≤ 6) (h3 : 1 ≤ T) (h4 : T ≤ 6) (c0 : 0 ≤ c) (c1 : c < W * T) : 0 ≤ miZ W c ∧ miZ W c < W * T ∧ miZ W (miZ W c) = c := by
  obtain ⟨X, Y, eX, eY, x0, x1, y0, y1, ec, -, -, -⟩ := cell_xy h1 h2 h3 h4 c0 c1
  have e : miZ W c = Y * W + (W - 1 - X) := by unfold miZ; rw [eX, eY]
  obtain ⟨a, b⟩ := divmod (T := W) (x := Y) (r := W - 1 - X) (by omega) (by omega)
  have e2 : miZ W (Y * W + (W - 1 - X)) = Y * W + X := by unfold miZ; rw [a, b]; omega
  rw [e, e2]
  have h5 : (Y + 1) * W ≤ T * W := Int.mul_le_mul_of_nonneg_right (by omega) (by omega)
  rw [Int.add_mul, Int.one_mul, Int.mul_comm T W] at h5
  have h6 : 0 ≤ Y * W := Int.mul_nonneg (by omega) (by omega)
  exact ⟨by omega, by omega, by omega⟩
/-- a mirrored region -/
def IsFlip (W : Int) (bs xs : List Bool) : Prop := xs.length = bs.length ∧ ∀ i, i < bs.length → xs.getD (miZ W i).toNat false = bs.getD i false
def PutF (W : Int) (bs : List Bool) (k : Nat) (xs : List Bool) : Prop := xs.length = bs.length ∧ ∀ i, i < k → xs.getD (miZ W i).toNat false = bs.getD i false
theorem putF_zero (W : Int) (bs : List Bool) : PutF W bs 0 (List.replicate bs.length false) := ⟨by simp, fun i hi => by omega⟩
theorem putF_step {W T : Int} {bs xs : List Bool} {k : Nat} (hf : Fld W T bs) (h : PutF W bs k xs) (hk : k < bs.length) : PutF W bs (k + 1) (xs.set (miZ W k).toNat (bs.getD k false)) := by
  obtain ⟨h1, h2⟩ := h
  have hn := hf.n
  have tin := fun i (hi : i < bs.length) => mi_in (W := W) (T := T) (c := (i : Int)) hf.w1 hf.w6 hf.t1 hf.t6 (by omega) (by omega)
  refine ⟨by rw [List.length_set]; exact h1, fun i hi => ?_⟩
  obtain ⟨a, b, c⟩ := tin k hk
  rcases Nat.lt_or_ge i k with h | h
  · obtain ⟨a', b', c'⟩ := tin i (by omega)
    rw [getD_set_ne (fun e => by
      have e' : miZ W i = miZ W k := by omega
      rw [e', c] at c'; omega)]
    exact h2 i h
  · obtain rfl : i = k := by omega
    rw [List.getD_eq_getElem?_getD, List.getElem?_set_self (by omega)]; rfl
theorem putF_all {W : Int} {bs xs : List Bool} (h : PutF W bs bs.length xs) : IsFlip W bs xs := h
set_option maxHeartbeats 1000000 in
theorem mirrored_any (W T : Int) (S : Value) (c : Int) (w : World) (h1 : 1 ≤ W) (h2 : W ≤ 6) (h3 : 1 ≤ T) (h4 : T ≤ 6) (c0 : 0 ≤ c) (c1 : c < W * T) :
    Calls Try.prog 35 #[.agg #[.int .i64 W, .int .i64 T, S], .int .i64 c] w fun e w' => e = .returned (.int .i64 (miZ W c)) ∧ Below w.heap.size w w' := by
  obtain ⟨X, Y, eX, eY, x0, x1, y0, y1, -, -, -, hc⟩ := cell_xy h1 h2 h3 h4 c0 c1
  have HE := Lib.hid (show Y * W + W - 1 - X = miZ W c by unfold miZ; rw [eX, eY]; omega)
  have XY := Lib.hid (fun w => by have := xy_any W T S c w h1 h2 c0 (by omega); rw [eX, eY] at this; exact this)
  have X0 := C3.new w (.int .i64 W) (.int .i64 T) S 27
  obtain ⟨m0, m1⟩ : 0 ≤ Y * W ∧ Y * W ≤ 36 := by
    rcases (show W = 1 ∨ W = 2 ∨ W = 3 ∨ W = 4 ∨ W = 5 ∨ W = 6 from by omega) with rfl | rfl | rfl | rfl | rfl | rfl <;> omega
  obtain ⟨x0', x1', x2'⟩ := id X0
  go_enter Try.func35, Try.ntmps35
  go_wp2_with fail
  refine (XY.out _).mono ?_
  rintro e w1 ⟨rfl, b1⟩
  have B1 := bl_go (bl_alloc (Below.refl w.heap.size w) _) b1
  obtain ⟨y0', y1', y2'⟩ := X0.belo b1
  have i1 : IntKind.i64.wrap (Y * W) = Y * W := IntWalk.i64_in _ (by omega)
  have i2 : IntKind.i64.wrap (Y * W + W) = Y * W + W := IntWalk.i64_in _ (by omega)
  have i3 : IntKind.i64.wrap (Y * W + W - 1) = Y * W + W - 1 := IntWalk.i64_in _ (by omega)
  have i4 : IntKind.i64.wrap (Y * W + W - 1 - X) = Y * W + W - 1 - X := IntWalk.i64_in _ (by omega)
  clear c1 eX eY
  go_wp2
  go_ret
  exact ⟨ret_i HE.out, B1⟩
set_option maxRecDepth 100000 in
set_option maxHeartbeats 2000000 in
theorem put_flip (W T : Int) (A : Option Addr) (c : Nat) (bs : List Bool) (w : World) (hr : Rd w A (bs.map .bool)) (hf : Fld W T bs) (h36 : bs.length ≤ 36) :
    Calls Try.prog 31 #[.agg #[.int .i64 W, .int .i64 T, .slice A bs.length c], .int .i64 W, .int .i64 T, .func (.func 35) #[.agg #[.int .i64 W, .int .i64 T, .slice A bs.length c]] #[]] w
      fun e w' => ∃ xs, IsFlip W bs xs ∧ NewRW W T xs w e w' := by
  have hw1 := hf.w1
  have hw6 := hf.w6
  have ht1 := hf.t1
  have ht6 := hf.t6
  have hn := hf.n
  have FD := Lib.hid (fun w => field_any W T bs.length w (by omega) hw6 (by omega) ht6 hn.symm)
  have HF := Lib.hid hf
  have CT := Lib.hid (fun (k : Nat) (hk : k < bs.length) (z : World) => mirrored_any W T (.slice A bs.length c) k z hw1 hw6 ht1 ht6 (by omega) (by omega))
  have TI := Lib.hid (fun (k : Nat) (hk : k < bs.length) => mi_in (W := W) (T := T) (c := (k : Int)) hw1 hw6 ht1 ht6 (by omega) (by omega))
  have HN := Lib.hid hn
  have Z := C3.new w (.int .i64 W) (.int .i64 T) (.slice A bs.length c) 27
  have Z0 := Z.alloc (.cells #[.int .i64 0, .int .i64 0, .slice none 0 0] 27)
  have B0 := bl_alloc (bl_alloc (Below.refl w.heap.size w) (.cells #[.int .i64 W, .int .i64 T, .slice A bs.length c] 27)) (.cells #[.int .i64 0, .int .i64 0, .slice none 0 0] 27)
  have P0 : ((w.alloc (.cells #[.int .i64 W, .int .i64 T, .slice A bs.length c] 27)).alloc (.cells #[.int .i64 0, .int .i64 0, .slice none 0 0] 27)).heap[w.heap.size + 1]? = some (.cells #[.int .i64 0, .int .i64 0, .slice none 0 0] 27 (0, 0)) := by
    have := heap_alloc_new (w.alloc (.cells #[.int .i64 W, .int .i64 T, .slice A bs.length c] 27)) (.cells #[.int .i64 0, .int .i64 0, .slice none 0 0] 27)
    simpa using this
  have hs0 : ((w.alloc (.cells #[.int .i64 W, .int .i64 T, .slice A bs.length c] 27)).alloc (.cells #[.int .i64 0, .int .i64 0, .slice none 0 0] 27)).heap.size = w.heap.size + 2 := by simp
  clear hf hn Z
  go_enter Try.func31, Try.ntmps31
  go_wp2_with fail
  generalize (w.alloc (.cells #[.int .i64 W, .int .i64 T, .slice A bs.length c] 27)).alloc (.cells #[.int .i64 0, .int .i64 0, .slice none 0 0] 27) = wa at *
  refine (FD.out _).mono ?_
  rintro e w1 ⟨B, d, rfl, hw, hb⟩
  simp only [List.length_replicate]
  have Z1 := (Z0.belo hb).alloc (.cells #[.int .i64 W, .int .i64 T, .slice B bs.length d] 27)
  have Y1 := C3.new w1 (.int .i64 W) (.int .i64 T) (.slice B bs.length d) 27
  have Q1 := hw.belo (bl_alloc (Below.refl _ _) (.cells #[.int .i64 W, .int .i64 T, .slice B bs.length d] 27))
  have hsz := hb.size
  have B1 := bl_alloc (bl_go B0 hb) (.cells #[.int .i64 W, .int .i64 T, .slice B bs.length d] 27)
  have P1 := ((bl_alloc (Below.refl w1.heap.size w1) (.cells #[.int .i64 W, .int .i64 T, .slice B bs.length d] 27)).block (w.heap.size + 1) (by omega)).trans ((hb.block (w.heap.size + 1) (by omega)).trans P0)
  have hB : ∀ ad, B = some ad → bs ≠ [] → ad.block < w1.heap.size := fun ad ha hne => hw.rd.lt ha (by simpa using hne)
  obtain ⟨z0, z1, z2⟩ := id Z1
  go_wp2_with fail
  obtain ⟨b9, hb9⟩ : ∃ b9, w1.heap.size = b9 := ⟨_, rfl⟩
  generalize hwb : w1.alloc (.cells #[.int .i64 W, .int .i64 T, .slice B bs.length d] 27) = wb at *
  rw [hb9] at Y1 hsz hB
  simp only [hb9] at *
  clear hwb hw hb z0 z1 z2 B0 Z0
  go_loopw [18] (fun i wr => ∃ (k : Nat) (xs : List Bool), k ≤ bs.length ∧ i = .int .i64 k ∧ PutF W bs k xs ∧ Wr wr wa.heap.size 4 B (xs.map .bool) ∧ Below w.heap.size w wr ∧ C3 wr w.heap.size (.int .i64 W) (.int .i64 T) (.slice A bs.length c) ∧ C3 wr b9 (.int .i64 W) (.int .i64 T) (.slice B bs.length d) ∧ wr.heap[w.heap.size + 1]? = some (.cells #[.int .i64 0, .int .i64 0, .slice none 0 0] 27 (0, 0))) (fun i _ => bs.length - (intOf i).toNat)
  case atStart => exact ⟨0, List.replicate bs.length false, Nat.zero_le _, rfl, putF_zero W bs, Q1, B1, Z1, Y1, P1⟩
  case round =>
    clear Q1 B1 Z1 Y1 P1
    obtain ⟨k, xs, hk, rfl, HP, Q1, B1, Z1, Y1, P1⟩ := hrel
    obtain ⟨z0, z1, z2⟩ := id Z1
    obtain ⟨y0, y1, y2⟩ := id Y1
    by_cases hlt : k < bs.length
    · obtain ⟨ad, rfl, hc⟩ := (hr.belo B1).atM hlt
      obtain ⟨t0, t1, t2⟩ := TI.out k hlt
      have hxl := HP.1
      have hne : xs.map Value.bool ≠ [] := by intro e; simp at e; rw [e] at hxl; simp at hxl; omega
      obtain ⟨g, rfl, hlo, hgs, hfr⟩ := Q1.form hne
      have hgb : g < b9 := hB _ rfl (by intro e; rw [e] at hlt; simp at hlt)
      obtain ⟨m, hm⟩ := Int.eq_ofNat_of_zero_le t0
      have hml : m < bs.length := by have := HN.out; omega
      have CT' := Lib.hid (fun z => by have := CT.out k hlt z; rw [hm] at this; exact this)
      have HST := putF_step HF.out HP hlt
      rw [hm, List.getD_eq_getElem?_getD, List.getElem?_eq_getElem hlt] at HST
      obtain ⟨v, hv⟩ : ∃ v, bs[k] = v := ⟨_, rfl⟩
      rw [hv] at hc HST
      simp only [Int.toNat_natCast, Option.getD_some] at HST
      have HST := Lib.hid HST
      obtain ⟨ov, hco⟩ : ∃ ov, wr.cell? ⟨g, m, none⟩ = some ov := ⟨_, by simpa using Q1.rd.cellEM (k := m) (by omega)⟩
      clear hne hv t2 hm CT
      go_wp2_with fail
      have hgn : ¬ (b9 = g) := by omega
      have hf := hfr m
      have mI : (m : Int) < (bs.length : Int) := by omega
      go_region_held3 (fun w' => w'.cell? ⟨b9, 2, none⟩ = some (.slice (some ⟨g, 0, none⟩) bs.length d))
        (first | (with_reducible exact y2) | (with_reducible exact dr_cell y2) | (with_reducible exact y5) | (with_reducible exact keep1 hgn y5) | go_keep)
        ((go_at_call 35; refine (CT'.out _).mono ?_; rintro e w5 ⟨rfl, b5⟩; have y5 := kb1 b5 y2; have q5 := (Q1.belo (Below.refl wr.heap.size wr).drew).belo b5; have c5 := kb1 b5 hco; have fr5 : w5.frozen? ⟨g, m, none⟩ = false := by (obtain ⟨g', e', -, -, h'⟩ := q5.form (by intro e; simp at e; rw [e] at hxl; simp at hxl; omega); injection e' with e'; injection e' with e' _ _; rw [e']; exact h' m)))
      have X0' := Lib.hid (And.intro ((Z1.belo (Below.refl wr.heap.size wr).drew).belo b5) ((Y1.belo (Below.refl wr.heap.size wr).drew).belo b5))
      go_wp2_with fail
      refine ⟨⟨k + 1, xs.set m v, by omega, by go_num, HST.out, ?_, ?_, ?_, ?_, ?_⟩, by simp [intOf]; omega⟩
      · rw [List.map_set]; exact q5.store m (.bool v)
      · exact (bl_go B1 (bl_go (Below.refl wr.heap.size wr).drew b5)).setCell (by show w.heap.size ≤ g; omega) _
      · exact X0'.out.1.set (by show ¬ (g = w.heap.size); omega) _
      · exact X0'.out.2.set (by show ¬ (g = b9); omega) _
      · rw [Below.heap_setCell _ _ _ _ (by show ¬ (w.heap.size + 1 = g); omega)]
        exact ((bl_go (Below.refl wr.heap.size wr).drew b5).block _ (by omega)).trans P1
    · obtain rfl : k = bs.length := by omega
      have HT := Lib.hid (putF_all HP)
      have hl := HP.1
      obtain ⟨g0, g1, g2, f0, f1, f2⟩ := blk3 P1
      go_wp2_with fail
      refine bodyPost_ret (v := .agg #[.int .i64 W, .int .i64 T, .slice B bs.length d]) (by simp [results, Try.results31, go_sem, g0, g1, g2]) rfl ?_
      refine ⟨xs, HT.out, B, d, by rw [hl], ?_, ?_⟩
      · refine (Q1.lower (lo' := w.heap.size) (by omega)).keep fun g hg hg2 => ?_
        have hlo := Q1.1 _ hg
        simp only at hlo
        rw [Below.heap_setCell _ _ _ _ (by simp; omega), Below.heap_setCell _ _ _ _ (by simp; omega), Below.heap_setCell _ _ _ _ (by simp; omega)]
      · exact ((B1.setCell (p := ⟨w.heap.size + 1, 0, none⟩) (by show w.heap.size ≤ w.heap.size + 1; omega) _).setCell (p := ⟨w.heap.size + 1, 1, none⟩) (by show w.heap.size ≤ w.heap.size + 1; omega) _).setCell (p := ⟨w.heap.size + 1, 2, none⟩) (by show w.heap.size ≤ w.heap.size + 1; omega) _
set_option maxRecDepth 100000 in
set_option maxHeartbeats 2000000 in
theorem iRegionFlip_ok (W T : Int) (A : Option Addr) (c : Nat) (bs : List Bool) (w : World) (hr : Rd w A (bs.map .bool)) (hv : validB W T bs = true) :
    Calls Try.prog 14 #[.agg #[.int .i64 W, .int .i64 T, .slice A bs.length c]] w fun e w' => ∃ xs, IsFlip W bs xs ∧ NewRW W T xs w e w' := by
  obtain ⟨h1, h2, h3, h4, h5, h6⟩ := valid_len hv
  have CP := Lib.hid (fun (z : World) (R : Rd z A (bs.map .bool)) => put_flip W T A c bs z R ⟨h1, h2, h3, h4, h6⟩ h5)
  have HV := Lib.hid hv
  have Z := C3.new w (.int .i64 W) (.int .i64 T) (.slice A bs.length c) 27
  have Z0 := Z.alloc (.cells #[.int .i64 0, .int .i64 0, .slice none 0 0] 27)
  have R0 := (hr.alloc (.cells #[.int .i64 W, .int .i64 T, .slice A bs.length c] 27)).alloc (.cells #[.int .i64 0, .int .i64 0, .slice none 0 0] 27)
  have B0 := bl_alloc (bl_alloc (Below.refl w.heap.size w) (.cells #[.int .i64 W, .int .i64 T, .slice A bs.length c] 27)) (.cells #[.int .i64 0, .int .i64 0, .slice none 0 0] 27)
  have P0 : ((w.alloc (.cells #[.int .i64 W, .int .i64 T, .slice A bs.length c] 27)).alloc (.cells #[.int .i64 0, .int .i64 0, .slice none 0 0] 27)).heap[w.heap.size + 1]? = some (.cells #[.int .i64 0, .int .i64 0, .slice none 0 0] 27 (0, 0)) := by
    have := heap_alloc_new (w.alloc (.cells #[.int .i64 W, .int .i64 T, .slice A bs.length c] 27)) (.cells #[.int .i64 0, .int .i64 0, .slice none 0 0] 27)
    simpa using this
  have hs0 : ((w.alloc (.cells #[.int .i64 W, .int .i64 T, .slice A bs.length c] 27)).alloc (.cells #[.int .i64 0, .int .i64 0, .slice none 0 0] 27)).heap.size = w.heap.size + 2 := by simp
  have hm : bs.length ≤ maxLen := by unfold maxLen; omega
  clear hv h6 Z
  go_enter Try.func14, Try.ntmps14
  go_wp2_with fail
  generalize (w.alloc (.cells #[.int .i64 W, .int .i64 T, .slice A bs.length c] 27)).alloc (.cells #[.int .i64 0, .int .i64 0, .slice none 0 0] 27) = wa at *
  refine (iRegionValid_any _ _ _ _ _ _ R0 hm).mono ?_
  rintro e w1 ⟨rfl, b1⟩
  rw [HV.out]
  have R1 := R0.belo b1
  have Z1 := Z0.belo b1
  have B1 := bl_go B0 b1
  have P1 := (b1.block (w.heap.size + 1) (by omega)).trans P0
  have hs1 := b1.size
  obtain ⟨z0, z1, z2⟩ := id Z1
  go_wp2_with fail
  refine (CP.out _ R1).mono ?_
  rintro e w2 ⟨xs, HT, B, d, rfl, q2, b2⟩
  have P2 := (b2.block (w.heap.size + 1) (by omega)).trans P1
  obtain ⟨g0, g1, g2, f0, f1, f2⟩ := blk3 P2
  have B2 := bl_go B1 b2
  go_wp2_with fail
  refine bodyPost_ret (v := .agg #[.int .i64 W, .int .i64 T, .slice B xs.length d]) (by simp [results, Try.results14, go_sem, g0, g1, g2]) rfl ?_
  refine ⟨xs, HT, B, d, rfl, ?_, ?_⟩
  · refine (q2.lower (lo' := w.heap.size) (by omega)).keep fun g hg hg2 => ?_
    have hlo := q2.1 _ hg
    simp only at hlo
    rw [Below.heap_setCell _ _ _ _ (by simp; omega), Below.heap_setCell _ _ _ _ (by simp; omega), Below.heap_setCell _ _ _ _ (by simp; omega)]
  · exact ((B2.setCell (p := ⟨w.heap.size + 1, 0, none⟩) (by show w.heap.size ≤ w.heap.size + 1; omega) _).setCell (p := ⟨w.heap.size + 1, 1, none⟩) (by show w.heap.size ≤ w.heap.size + 1; omega) _).setCell (p := ⟨w.heap.size + 1, 2, none⟩) (by show w.heap.size ≤ w.heap.size + 1; omega) _
end Go.Proofs.Ytohbnogmeldmpaa

/- The program's labels of parts, plainly: rounds in place; what they end with. -/
namespace Go.Proofs.Ytohbnogmeldmpaa
open Go.RowKit

def lb1 (W T : Int) (L : List Int) (c : Nat) (d : Int) : List Int :=
  if 0 ≤ stepZ W T c d ∧ 0 ≤ L.getD c (-1) ∧ 0 ≤ L.getD (stepZ W T c d).toNat (-1) then L.set c (min (L.getD c (-1)) (L.getD (stepZ W T c d).toNat (-1))) else L
def lbD (W T : Int) (L : List Int) (c : Nat) : Nat → List Int
  | 0 => L
  | d + 1 => lb1 W T (lbD W T L c d) c ((d : Int) + 1)
def lbR (W T : Int) (L : List Int) : Nat → List Int
  | 0 => L
  | c + 1 => lbD W T (lbR W T L c) c 4
def lb0 (bs : List Bool) : List Int := (List.range bs.length).map fun k => if bs.getD k false then (k : Int) else -1
def lbN (W T : Int) (bs : List Bool) : Nat → List Int
  | 0 => lb0 bs
  | r + 1 => lbR W T (lbN W T bs r) bs.length
/-- the labels at the end -/
def lbE (W T : Int) (bs : List Bool) : List Int := lbN W T bs bs.length
theorem getD_set1 {L : List Int} {c e : Nat} {v : Int} : (L.set c v).getD e (-1) = if c = e ∧ c < L.length then v else L.getD e (-1) := by
  rw [List.getD_eq_getElem?_getD, List.getElem?_set]
  split
  · rename_i h
    subst h
    split
    · rename_i h
      rw [if_pos ⟨rfl, h⟩]; rfl
    · rename_i h
      rw [if_neg (fun e => h e.2), List.getD_eq_getElem?_getD, List.getElem?_eq_none (by omega)]
  · rename_i h
    rw [if_neg (fun e => h e.1), List.getD_eq_getElem?_getD]
/-- a list of labels: those of cells are not negative, the others are -1 -/
structure LbG (bs : List Bool) (L : List Int) : Prop where
  len : L.length = bs.length
  off : ∀ c, ¬ cellP bs c → L.getD c (-1) = -1
  on : ∀ c, cellP bs c → 0 ≤ L.getD c (-1)
/-- a round under way -/
structure LbI (W T : Int) (bs : List Bool) (L M : List Int) : Prop where
  g : LbG bs M
  on : ∀ c, cellP bs c → M.getD c (-1) ≤ L.getD c (-1) ∧ ∃ d, cellP bs d ∧ ConnR W T bs c d ∧ M.getD c (-1) = L.getD d (-1)
theorem LbG.new {W T : Int} {bs : List Bool} {L : List Int} (h : LbG bs L) : LbI W T bs L L := ⟨h, fun c hc => ⟨Int.le_refl _, c, hc, .refl _, rfl⟩⟩
section
variable {W T : Int} {bs : List Bool} {L M : List Int}
theorem lb1_ok (h : LbI W T bs L M) {c : Nat} (hc : c < bs.length) {d : Int} (hd : 1 ≤ d ∧ d ≤ 4) :
    LbI W T bs L (lb1 W T M c d) ∧ (∀ e, (lb1 W T M c d).getD e (-1) ≤ M.getD e (-1)) ∧ (cellP bs c → ∀ b : Nat, stepZ W T c d = b → cellP bs b → (lb1 W T M c d).getD c (-1) ≤ L.getD b (-1)) := by
  unfold lb1
  split
  · rename_i hh
    obtain ⟨h1, h2, h3⟩ := hh
    obtain ⟨s, hs⟩ := Int.eq_ofNat_of_zero_le h1
    rw [hs, Int.toNat_natCast] at h3 ⊢
    have hcc : cellP bs c := Classical.byContradiction fun hn => by have := h.g.off c hn; omega
    have hcs : cellP bs s := Classical.byContradiction fun hn => by have := h.g.off s hn; omega
    have hsl := cellP_lt hcs
    have hadj : adjW W T bs.length c s := ⟨hc, hsl, d, hd, hs⟩
    have hmc : c < M.length := by rw [h.g.len]; exact hc
    have hmin1 : min (M.getD c (-1)) (M.getD s (-1)) ≤ M.getD c (-1) := Int.min_le_left _ _
    have hmin2 : min (M.getD c (-1)) (M.getD s (-1)) ≤ M.getD s (-1) := Int.min_le_right _ _
    refine ⟨⟨⟨by rw [List.length_set]; exact h.g.len, fun e he => ?_, fun e he => ?_⟩, fun e he => ?_⟩, fun e => ?_, fun _ b hb hcb => ?_⟩
    · rw [getD_set1]
      by_cases hce : c = e
      · subst hce; exact absurd hcc he
      · rw [if_neg (fun x => hce x.1)]; exact h.g.off e he
    · rw [getD_set1]
      by_cases hce : c = e
      · rw [if_pos ⟨hce, hmc⟩]; omega
      · rw [if_neg (fun x => hce x.1)]; exact h.g.on e he
    · rw [getD_set1]
      by_cases hce : c = e
      · subst hce
        rw [if_pos ⟨rfl, hmc⟩]
        obtain ⟨a1, d1, a2, a3, a4⟩ := h.on c he
        refine ⟨by omega, ?_⟩
        rcases (show min (M.getD c (-1)) (M.getD s (-1)) = M.getD c (-1) ∨ min (M.getD c (-1)) (M.getD s (-1)) = M.getD s (-1) by omega) with hm | hm
        · rw [hm]; exact ⟨d1, a2, a3, a4⟩
        · obtain ⟨-, d2, b2, b3, b4⟩ := h.on s hcs
          rw [hm]
          exact ⟨d2, b2, .step hcs hadj b3, b4⟩
      · rw [if_neg (fun x => hce x.1)]; exact h.on e he
    · rw [getD_set1]
      split
      · rename_i hx; obtain ⟨rfl, -⟩ := hx; exact hmin1
      · exact Int.le_refl _
    · rw [getD_set1, if_pos ⟨rfl, hmc⟩]
      obtain rfl : s = b := by omega
      have := (h.on s hcb).1
      omega
  · rename_i hh
    refine ⟨h, fun e => Int.le_refl _, fun hcc b hb hcb => ?_⟩
    exact absurd ⟨by omega, h.g.on c hcc, by rw [hb, Int.toNat_natCast]; exact h.g.on b hcb⟩ hh
theorem lbD_ok (h : LbI W T bs L M) {c : Nat} (hc : c < bs.length) : ∀ k, k ≤ 4 →
    LbI W T bs L (lbD W T M c k) ∧ (∀ e, (lbD W T M c k).getD e (-1) ≤ M.getD e (-1)) ∧ (cellP bs c → ∀ (d : Int) (b : Nat), 1 ≤ d → d ≤ k → stepZ W T c d = b → cellP bs b → (lbD W T M c k).getD c (-1) ≤ L.getD b (-1))
  | 0, _ => ⟨h, fun e => Int.le_refl _, fun _ d b h1 h2 => by omega⟩
  | k + 1, hk => by
    obtain ⟨a1, a2, a3⟩ := lbD_ok h hc k (by omega)
    obtain ⟨b1, b2, b3⟩ := lb1_ok a1 hc (d := (k : Int) + 1) (by omega)
    refine ⟨b1, fun e => Int.le_trans (b2 e) (a2 e), fun hcc d b h1 h2 hs hb => ?_⟩
    by_cases hd : d ≤ k
    · exact Int.le_trans (b2 c) (a3 hcc d b h1 hd hs hb)
    · obtain rfl : d = (k : Int) + 1 := by omega
      exact b3 hcc b hs hb
theorem lbR_ok (hL : LbG bs L) : ∀ k, k ≤ bs.length →
    LbI W T bs L (lbR W T L k) ∧ (∀ c, c < k → cellP bs c → ∀ (d : Int) (b : Nat), 1 ≤ d → d ≤ 4 → stepZ W T c d = b → cellP bs b → (lbR W T L k).getD c (-1) ≤ L.getD b (-1))
  | 0, _ => ⟨hL.new, fun c hc => absurd hc (Nat.not_lt_zero c)⟩
  | k + 1, hk => by
    obtain ⟨a1, a2⟩ := lbR_ok hL k (by omega)
    obtain ⟨b1, b2, b3⟩ := lbD_ok a1 (c := k) (by omega) 4 (Nat.le_refl _)
    refine ⟨b1, fun c hc hcc d b h1 h2 hs hb => ?_⟩
    rcases Nat.lt_or_ge c k with hck | hck
    · exact Int.le_trans (b2 c) (a2 c hck hcc d b h1 h2 hs hb)
    · obtain rfl : c = k := by omega
      exact b3 hcc d b h1 h2 hs hb
theorem lb0_get {k : Nat} (hk : k < bs.length) : (lb0 bs).getD k (-1) = if bs.getD k false then (k : Int) else -1 := by
  unfold lb0
  rw [List.getD_eq_getElem?_getD, List.getElem?_map, List.getElem?_range hk]
  rfl
theorem lb0_ok : LbG bs (lb0 bs) := by
  refine ⟨by unfold lb0; simp, fun c hc => ?_, fun c hc => ?_⟩
  · rcases Nat.lt_or_ge c bs.length with h | h
    · rw [lb0_get h, if_neg (by unfold cellP at hc; exact hc)]
    · rw [List.getD_eq_getElem?_getD, List.getElem?_eq_none (by unfold lb0; simpa using h)]; rfl
  · rw [lb0_get (cellP_lt hc), if_pos (by unfold cellP at hc; exact hc)]
    omega
theorem lbN_ok : ∀ r, LbG bs (lbN W T bs r)
  | 0 => lb0_ok
  | r + 1 => (lbR_ok (lbN_ok r) bs.length (Nat.le_refl _)).1.g
theorem lbN_round (r : Nat) : RoundL (cellP bs) (adjW W T bs.length) (fun c => (lbN W T bs r).getD c (-1)) (fun c => (lbN W T bs (r + 1)).getD c (-1)) := by
  intro c hc
  obtain ⟨h1, h2⟩ := lbR_ok (lbN_ok r) bs.length (Nat.le_refl _)
  obtain ⟨a1, a2⟩ := h1.on c hc
  refine ⟨a1, fun b hb hcb => ?_, a2⟩
  obtain ⟨-, -, d, hd, hs⟩ := hcb
  exact h2 c (cellP_lt hc) hc d b hd.1 hd.2 hs hb
/-- in the end: the least cell that hangs together with it -/
theorem lbE_root {c : Nat} (hc : cellP bs c) : (lbE W T bs).getD c (-1) = c ↔ rootP W T bs c := by
  obtain ⟨⟨d, e, hd, hcd⟩, hl⟩ := label_end (L := fun r c => (lbN W T bs r).getD c (-1)) (n := bs.length) (P := cellP bs) (adj := adjW W T bs.length) (fun x hx => cellP_lt hx) (fun c hc => by
    show (lb0 bs).getD c (-1) = c
    rw [lb0_get (cellP_lt hc), if_pos (by unfold cellP at hc; exact hc)]) (fun k _ => lbN_round k) hc
  change (lbE W T bs).getD c (-1) = d at e
  constructor
  · intro h
    refine ⟨hc, fun b hb => ?_⟩
    have := hl b hb
    change (lbE W T bs).getD c (-1) ≤ b at this
    omega
  · intro h
    have h1 := h.2 d hcd
    have h2 := hl c (.refl _)
    change (lbE W T bs).getD c (-1) ≤ c at h2
    omega
/-- the places that bear their own number are as many as the parts -/
theorem lbE_parts : (List.range bs.length).countP (fun c => (lbE W T bs).getD c (-1) == (c : Int)) = prtN W T bs := by
  classical
  unfold prtN
  refine List.countP_congr fun c hc => ?_
  rw [beq_iff_eq, decide_eq_true_eq]
  by_cases hcc : cellP bs c
  · exact lbE_root hcc
  · constructor
    · intro h
      have := (lbN_ok (W := W) (T := T) bs.length).off c hcc
      change (lbE W T bs).getD c (-1) = -1 at this
      omega
    · intro h; exact absurd h.1 hcc
end
end Go.Proofs.Ytohbnogmeldmpaa

/- Contracts: impl's (Region).parts, partsMany, PartsMany. -/
namespace Go.Proofs.Ytohbnogmeldmpaa
open Go.RowKit

def LpLab (w : World) (W T : Int) (A : Option Addr) (c n g : Nat) (M : List Int) (wr : World) : Prop :=
  M.length = n ∧ Wr wr (w.heap.size + 1) 3 (some ⟨g, 0, none⟩) (M.map (.int .i64)) ∧ C3 wr w.heap.size (.int .i64 W) (.int .i64 T) (.slice A n c) ∧ Below w.heap.size w wr
theorem LpLab.cell {w : World} {W T : Int} {A : Option Addr} {c n g : Nat} {M : List Int} {wr : World} (h : LpLab w W T A c n g M wr) {k : Nat} (hk : k < n) :
    wr.cell? ⟨g, k, none⟩ = some (.int .i64 (M.getD k (-1))) ∧ wr.frozen? ⟨g, k, none⟩ = false ∧ w.heap.size < g ∧ g < wr.heap.size := by
  obtain ⟨h1, h2, -, -⟩ := h
  have hm : k < M.length := by omega
  have hne : M.map (Value.int .i64) ≠ [] := by intro e; have := congrArg List.length e; simp at this; rw [this] at hm; simp at hm
  obtain ⟨g2, e2, hlo, hlt, hfr⟩ := h2.form hne
  injection e2 with e2; injection e2 with e2
  subst e2
  obtain ⟨ad, ea, hc⟩ := h2.rd hne
  have cm := hc k (.int .i64 M[k]) (by rw [List.getElem?_map, List.getElem?_eq_getElem hm]; rfl)
  injection ea with ea
  subst ea
  rw [add_off, Nat.zero_add] at cm
  rw [List.getD_eq_getElem?_getD, List.getElem?_eq_getElem hm]
  exact ⟨cm, hfr k, by omega, hlt⟩
theorem LpLab.set {w : World} {W T : Int} {A : Option Addr} {c n g : Nat} {M : List Int} {wr : World} (h : LpLab w W T A c n g M wr) (k : Nat) (v : Int) (hg : w.heap.size < g) :
    LpLab w W T A c n g (M.set k v) (wr.setCell ⟨g, k, none⟩ (.int .i64 v)) := by
  obtain ⟨h1, h2, h3, h4⟩ := h
  exact ⟨by rw [List.length_set]; exact h1, by rw [List.map_set]; exact h2.store k _, h3.set (by simp; omega) _, h4.setCell (by simp; omega) _⟩
theorem LpLab.belo {w : World} {W T : Int} {A : Option Addr} {c n g : Nat} {M : List Int} {wr w' : World} (h : LpLab w W T A c n g M wr) (hb : Below wr.heap.size wr w') : LpLab w W T A c n g M w' :=
  ⟨h.1, h.2.1.belo hb, h.2.2.1.belo hb, bl_go h.2.2.2 hb⟩
set_option maxRecDepth 100000 in
set_option maxHeartbeats 2000000 in
theorem parts_any (W T : Int) (A : Option Addr) (c n : Nat) (bs : List Bool) (w : World) (hr : Rd w A (bs.map .bool)) (hf : FldF W T n) (hn : bs.length = n) :
    Calls Try.prog 44 #[.agg #[.int .i64 W, .int .i64 T, .slice A n c]] w fun e w' => ∃ g : Nat, e = .returned (.slice (some ⟨g, 0, none⟩) n n) ∧ Wr w' w.heap.size 3 (some ⟨g, 0, none⟩) ((lbE W T bs).map (.int .i64)) ∧ Below w.heap.size w w' := by
  have X0 := C3.new w (.int .i64 W) (.int .i64 T) (.slice A n c) 27
  have B0 := bl_alloc (Below.refl w.heap.size w) (.cells #[.int .i64 W, .int .i64 T, .slice A n c] 27)
  have n36 : n ≤ 36 := hf.bd
  obtain ⟨w1, w6, t1, t6, hlen⟩ := id hf
  obtain ⟨i0, hi, hz0, hz1, hz2⟩ := info_parts Try.infoI
  have hb1 : i0.bytes * n ≤ 281474976710656 := by rw [hz2]; omega
  have HZ := Lib.hid (And.intro hz0 (And.intro hz1 hz2))
  have HLEN := Lib.hid hlen
  have HN := Lib.hid hn
  clear hz0 hz1 hz2 hlen hf hn
  obtain ⟨x0, x1, x2⟩ := id X0
  go_enter Try.func44, Try.ntmps44
  go_wp2_with (at_make; refine wpList_make_full _ rfl _ _ 58 rfl (w.heap.size + 1) 3 i0 (.int .i64 0) 1 Try.underlying58 hi HZ.out.1 HZ.out.2.1 .i64 .i64 _ _ n rfl rfl rfl rfl hb1 (by unfold maxLen; omega) (by simp) ?_; intro v1 hown1 hgrow1; have X1 := (C3.new w (.int .i64 W) (.int .i64 T) (.slice A n c) 27).belo ((Below.refl _ _).grown hgrow1 (Nat.le_refl _) (fun k hk => by cases hk)); obtain ⟨k0, k1, k2⟩ := id X1)
  have L1 : LpLab w W T A c n (w.heap.size + 1) (List.replicate n 0) v1 := by
    have h0 := Wr.of_own hown1
    rw [show (Value.int .i64 0).cells = #[.int .i64 0] from rfl, toList_madeCells_one] at h0
    exact ⟨List.length_replicate, by simpa using h0, X1, (B0.grown hgrow1 B0.size (fun k hk => by cases hk))⟩
  obtain ⟨g, hg⟩ : ∃ g, w.heap.size + 1 = g := ⟨_, rfl⟩
  have hg1 : w.heap.size < g := by omega
  rw [hg] at L1
  simp only [hg]
  clear hown1 hgrow1 X1 X0 B0 x0 x1 x2 HZ hb1 hi hg
  go_loopw [16] (fun i wr => ∃ (k : Nat) (M : List Int), k ≤ n ∧ i = .int .i64 k ∧ Hid (∀ j, j < k → M.getD j (-1) = (lb0 bs).getD j (-1)) ∧ LpLab w W T A c n g M wr) (fun i _ => n - (intOf i).toNat)
  case atStart => exact ⟨0, _, Nat.zero_le _, rfl, Lib.hid (fun j h => absurd h (Nat.not_lt_zero j)), L1⟩
  case round =>
    clear L1 k0 k1 k2
    obtain ⟨k, M, hk, rfl, HM, H1⟩ := hrel
    obtain ⟨x0, x1, x2⟩ := id H1.2.2.1
    by_cases hlt : k < n
    · obtain ⟨ad, rfl, hc⟩ := (hr.below H1.2.2.2 (Nat.le_refl _)).atM (k := k) (by rw [HN.out]; exact hlt)
      obtain ⟨y1, y2, y3, y4⟩ := H1.cell hlt
      have HG := Lib.hid (lb0_get (bs := bs) (k := k) (by rw [HN.out]; exact hlt))
      have HB := Lib.hid (show bs.getD k false = bs[k]'(by rw [HN.out]; exact hlt) by rw [List.getD_eq_getElem?_getD, List.getElem?_eq_getElem (by rw [HN.out]; exact hlt)]; rfl)
      generalize bs[k]'(by rw [HN.out]; exact hlt) = bv at hc HB
      have H2 := H1.set k (-1) hg1
      obtain ⟨z1, z2, z3, z4⟩ := H2.cell hlt
      cases bv with
      | false =>
        go_wp2_with fail
        go_roundw
        case rel => exact ⟨k + 1, _, by omega, by go_num, Lib.hid (fun j hj => by
          rw [getD_set1]
          split
          · rename_i h; obtain ⟨rfl, -⟩ := h; rw [HG.out, HB.out]; rfl
          · rename_i h
            exact HM.out j (by have := H1.1; omega)), H2⟩
        case measure => simp [intOf]; omega
      | true =>
        have H3 := H2.set k (k : Int) hg1
        go_wp2_with fail
        go_roundw
        case rel => exact ⟨k + 1, _, by omega, by go_num, Lib.hid (fun j hj => by
          rw [getD_set1, getD_set1]
          split
          · rename_i h; obtain ⟨rfl, -⟩ := h; rw [HG.out, HB.out]; rfl
          · rename_i h
            have h9 := H1.1
            rw [if_neg (by rw [List.length_set] at h; exact h)]
            rw [List.length_set] at h
            exact HM.out j (by omega)), H3⟩
        case measure => simp [intOf]; omega
    · obtain rfl : k = n := by omega
      obtain rfl : M = lb0 bs := List.ext_getElem? fun j => by
        have h1 := HM.out j
        rcases Nat.lt_or_ge j k with h | h
        · have h2 := h1 h
          rw [List.getD_eq_getElem?_getD, List.getD_eq_getElem?_getD] at h2
          have l1 := H1.1
          have l2 : (lb0 bs).length = k := by unfold lb0; simp [HN.out]
          rw [List.getElem?_eq_getElem (by omega), List.getElem?_eq_getElem (by omega)] at h2 ⊢
          simpa using h2
        · rw [List.getElem?_eq_none (by have := H1.1; omega), List.getElem?_eq_none (by unfold lb0; simp [HN.out]; omega)]
      clear HM hlt
      have hfg : FldG W T k := ⟨w1, t1, HLEN.out⟩
      have HFG := Lib.hid hfg
      clear hfg
      go_wp2_with fail
      go_loopw [33] (fun i wr => ∃ r : Nat, r ≤ k ∧ i = .int .i64 r ∧ LpLab w W T A c k g (lbN W T bs r) wr) (fun i _ => k - (intOf i).toNat)
      case atStart => exact ⟨0, Nat.zero_le _, rfl, H1⟩
      case round =>
        clear H1 x0 x1 x2
        obtain ⟨r, hrk, rfl, H2⟩ := hrel
        obtain ⟨x0, x1, x2⟩ := id H2.2.2.1
        by_cases hlt : r < k
        · go_wp2_with fail
          obtain ⟨wo, hwo⟩ : ∃ wo : World, wo = wr := ⟨_, rfl⟩
          subst hwo
          go_loopw [38] (fun i wr => ∃ q : Nat, q ≤ k ∧ i = .int .i64 q ∧ LpLab w W T A c k g (lbR W T (lbN W T bs r) q) wr) (fun i _ => k - (intOf i).toNat)
          case atStart => exact ⟨0, Nat.zero_le _, rfl, H2⟩
          case round =>
            clear H2 x0 x1 x2
            obtain ⟨q, hqk, rfl, H3⟩ := hrel
            by_cases hlq : q < k
            · go_wp2_with fail
              obtain ⟨wo2, hwo⟩ : ∃ wo2 : World, wo2 = wr := ⟨_, rfl⟩
              subst hwo
              go_loopw [7] (fun i wr => ∃ d : Nat, d ≤ 4 ∧ i = .int .i64 ((d : Int) + 1) ∧ LpLab w W T A c k g (lbD W T (lbR W T (lbN W T bs r) q) q d) wr) (fun i _ => 5 - (intOf i).toNat)
              case atStart => exact ⟨0, Nat.zero_le _, rfl, H3⟩
              case round =>
                clear H3
                obtain ⟨d, hd4, rfl, H4⟩ := hrel
                obtain ⟨x0, x1, x2⟩ := id H4.2.2.1
                by_cases hld : d < 4
                · have HS := Lib.hid (show lbD W T (lbR W T (lbN W T bs r) q) q (d + 1) = lb1 W T (lbD W T (lbR W T (lbN W T bs r) q) q d) q ((d : Int) + 1) from rfl)
                  obtain ⟨M2, hM2⟩ : ∃ M2, lbD W T (lbR W T (lbN W T bs r) q) q (d + 1) = M2 := ⟨_, rfl⟩
                  rw [hM2] at HS
                  have HSD := Lib.hid hM2
                  clear hM2
                  generalize lbD W T (lbR W T (lbN W T bs r) q) q d = M at HS H4
                  have hqW : (q : Int) < W * T := by have := HLEN.out; omega
                  have hd5 : (d : Int) + 1 ≤ 4 := by omega
                  go_wp2_with fail
                  refine (step_any W T _ (q : Int) ((d : Int) + 1) _ w1 w6 t1 t6 (by omega) hqW).mono ?_
                  rintro e w5 ⟨rfl, b5⟩
                  have H5 := H4.belo b5
                  obtain ⟨y1, y2, y3, y4⟩ := H5.cell hlq
                  clear H4 x0 x1 x2 b5
                  obtain ⟨dx, dy, hdir⟩ := isDir_of (show 1 ≤ (d : Int) + 1 ∧ (d : Int) + 1 ≤ 4 by omega)
                  rcases HFG.out.step hlq hdir with ⟨s, e', hs, -⟩ | ⟨e', -⟩
                  · obtain ⟨v1, v2, -, -⟩ := H5.cell hs
                    have HS2 := Lib.hid (show M2 = if 0 ≤ M.getD q (-1) ∧ 0 ≤ M.getD s (-1) then M.set q (min (M.getD q (-1)) (M.getD s (-1))) else M by
                      rw [HS.out]
                      unfold lb1
                      rw [e', Int.toNat_natCast]
                      simp)
                    rw [e']
                    have hs36 : s ≤ 36 := by omega
                    clear e' hdir HS
                    have H6 := H5.set q (min (M.getD q (-1)) (M.getD s (-1))) hg1
                    generalize M.getD q (-1) = a at *
                    generalize M.getD s (-1) = b at *
                    by_cases ha : 0 ≤ a
                    · by_cases hb : 0 ≤ b
                      · go_wp2_with fail
                        go_region
                        go_wp2_with fail
                        go_roundw
                        case rel => exact ⟨d + 1, by omega, by go_num, by rw [HSD.out, HS2.out, if_pos ⟨ha, hb⟩]; exact H6.belo (Below.refl _ _).drew⟩
                        case measure => simp [intOf]; omega
                      · have hb' : decide (0 ≤ b) = false := decide_eq_false hb
                        go_wp2_with fail
                        go_roundw
                        case rel => exact ⟨d + 1, by omega, by go_num, by rw [HSD.out, HS2.out, if_neg (fun x => by have := x.2; omega)]; exact H5⟩
                        case measure => simp [intOf]; omega
                    · have ha' : decide (0 ≤ a) = false := decide_eq_false ha
                      go_wp2_with fail
                      go_roundw
                      case rel => exact ⟨d + 1, by omega, by go_num, by rw [HSD.out, HS2.out, if_neg (fun x => by have := x.1; omega)]; exact H5⟩
                      case measure => simp [intOf]; omega
                  · have HS2 := Lib.hid (show M2 = M by
                      rw [HS.out]
                      unfold lb1
                      rw [e', if_neg (fun x => by have := x.1; omega)])
                    rw [e']
                    clear e' hdir HS
                    go_wp2_with fail
                    go_roundw
                    case rel => exact ⟨d + 1, by omega, by go_num, by rw [HSD.out, HS2.out]; exact H5⟩
                    case measure => simp [intOf]; omega
                · obtain rfl : d = 4 := by omega
                  go_wp2_with fail
                  go_roundw
                  case rel => exact ⟨q + 1, by omega, by go_num, H4⟩
                  case measure => simp [intOf]; omega
            · obtain rfl : q = k := by omega
              go_wp2_with fail
              go_roundw
              case rel => exact ⟨r + 1, by omega, by go_num, by have e : lbN W T bs (r + 1) = lbR W T (lbN W T bs r) bs.length := rfl; rw [e, HN.out]; exact H3⟩
              case measure => simp [intOf]; omega
        · obtain rfl : r = k := by omega
          go_wp2_with fail
          go_ret
          exact ⟨g, rfl, by unfold lbE; rw [HN.out]; exact H2.2.1.lower (Nat.le_succ _), H2.2.2.2⟩
set_option maxRecDepth 100000 in
set_option maxHeartbeats 2000000 in
theorem parts_many (W T : Int) (A : Option Addr) (c n : Nat) (bs : List Bool) (w : World) (hr : Rd w A (bs.map .bool)) (hf : FldF W T n) (hn : bs.length = n) :
    Calls Try.prog 30 #[.agg #[.int .i64 W, .int .i64 T, .slice A n c]] w fun e w' => e = .returned (.int .i64 (prtN W T bs : Nat)) ∧ Below w.heap.size w w' := by
  have X0 := C3.new w (.int .i64 W) (.int .i64 T) (.slice A n c) 27
  have B0 := bl_alloc (Below.refl w.heap.size w) (.cells #[.int .i64 W, .int .i64 T, .slice A n c] 27)
  have n36 : n ≤ 36 := hf.bd
  have HE := Lib.hid (show (List.range n).countP (fun c => (lbE W T bs).getD c (-1) == (c : Int)) = prtN W T bs by
    have := lbE_parts (W := W) (T := T) (bs := bs)
    rw [hn] at this
    exact this)
  have HLN := Lib.hid (show (lbE W T bs).length = n by have := (lbN_ok (W := W) (T := T) (bs := bs) bs.length).len; rw [hn] at this; unfold lbE; rw [hn]; exact this)
  have CP := Lib.hid (parts_any W T A c n bs _ (hr.belo B0) hf hn)
  obtain ⟨x0, x1, x2⟩ := id X0
  clear hf hn hr
  generalize lbE W T bs = M at HE HLN CP
  go_enter Try.func30, Try.ntmps30
  go_wp2_with fail
  refine CP.out.mono ?_
  rintro e w1 ⟨g, rfl, W1, b1⟩
  have B1 := bl_go B0 b1
  have R1 := W1.rd
  clear X0 B0 b1 W1 x0 x1 x2 CP
  go_wp2_with fail
  go_loopw [3, 9] (fun s i wr => ∃ k : Nat, k ≤ n ∧ i = .int .i64 k ∧ s = .int .i64 ((List.range k).countP (fun c => M.getD c (-1) == (c : Int)) : Nat) ∧ wr = w1) (fun _ i _ => n - (intOf i).toNat)
  case atStart => exact ⟨0, Nat.zero_le _, rfl, rfl, rfl⟩
  case round =>
    obtain ⟨k, hk, rfl, rfl, rfl⟩ := hrel
    by_cases hlt : k < n
    · have hkM : k < M.length := by rw [HLN.out]; exact hlt
      obtain ⟨ad, e, hc⟩ := R1.atM hkM
      have HK := Lib.hid (show M.getD k (-1) = M[k] by rw [List.getD_eq_getElem?_getD, List.getElem?_eq_getElem hkM]; rfl)
      have HSU := Lib.hid (show (List.range (k + 1)).countP (fun c => M.getD c (-1) == (c : Int)) = (List.range k).countP (fun c => M.getD c (-1) == (c : Int)) + (if M[k] == (k : Int) then 1 else 0) by
        rw [List.range_succ, List.countP_append, List.countP_singleton, HK.out])
      have hcl : (List.range k).countP (fun c => M.getD c (-1) == (c : Int)) ≤ k := by
        have := List.countP_le_length (p := fun c => M.getD c (-1) == (c : Int)) (l := List.range k)
        rw [List.length_range] at this
        exact this
      generalize (List.range k).countP (fun c => M.getD c (-1) == (c : Int)) = cn at HSU hcl ⊢
      generalize M[k] = v at hc HSU
      injection e with e
      subst e
      rw [add_off, Nat.zero_add] at hc
      clear HK hkM
      cases h1 : (v == (k : Int)) with
      | true =>
        have h2 : ((k : Int) == v) = true := by have := eq_of_beq h1; rw [this]; simp
        rw [h1] at HSU
        go_wp2_with fail
        go_roundw
        case rel => exact ⟨k + 1, by omega, by go_num, by rw [HSU.out]; rfl, trivial⟩
        case measure => simp [intOf]; omega
      | false =>
        have h2 : ((k : Int) == v) = false := by have := ne_of_beq_false h1; rw [beq_eq_false_iff_ne]; omega
        rw [h1] at HSU
        go_wp2_with fail
        go_roundw
        case rel => exact ⟨k + 1, by omega, by go_num, by rw [HSU.out]; rfl, trivial⟩
        case measure => simp [intOf]; omega
    · obtain rfl : k = n := by omega
      rw [HE.out]
      go_wp2_with fail
      go_ret
      exact ⟨rfl, B1⟩
set_option maxHeartbeats 1000000 in
theorem iPartsMany_any (W T : Int) (A : Option Addr) (c : Nat) (bs : List Bool) (w : World) (hr : Rd w A (bs.map .bool)) (hn : bs.length ≤ maxLen) :
    Calls Try.prog 11 #[.agg #[.int .i64 W, .int .i64 T, .slice A bs.length c]] w fun e w' => e = .returned (.int .i64 (if validB W T bs = true then ((prtN W T bs : Nat) : Int) else -1)) ∧ Below w.heap.size w w' := by
  have X0 := C3.new w (.int .i64 W) (.int .i64 T) (.slice A bs.length c) 27
  have B0 := bl_alloc (Below.refl w.heap.size w) (.cells #[.int .i64 W, .int .i64 T, .slice A bs.length c] 27)
  have CV := Lib.hid (iRegionValid_any W T A c bs _ (hr.belo B0) hn)
  have CP := Lib.hid (fun (h : validB W T bs = true) (z : World) (R : Rd z A (bs.map .bool)) => by
    obtain ⟨⟨q1, q6⟩, ⟨t1, t6⟩, hlen, -⟩ := validB_iff.1 h
    exact parts_many W T A c bs.length bs z R ⟨q1, q6, t1, t6, hlen⟩ rfl)
  obtain ⟨x0, x1, x2⟩ := id X0
  generalize validB W T bs = v at CV CP
  go_enter Try.func11, Try.ntmps11
  go_wp2_with fail
  refine CV.out.mono ?_
  rintro e w1 ⟨rfl, b1⟩
  have X1 := X0.belo b1
  have R1 := (hr.belo B0).belo b1
  have B1 := bl_go B0 b1
  obtain ⟨y0, y1, y2⟩ := id X1
  clear X0 B0 b1 x0 x1 x2 CV X1
  cases v with
  | false =>
    go_wp2_with fail
    go_ret
    exact ⟨rfl, B1⟩
  | true =>
    go_wp2_with fail
    refine (CP.out trivial _ R1).mono ?_
    rintro e w2 ⟨rfl, b2⟩
    go_wp2_with fail
    go_ret
    exact ⟨rfl, bl_go B1 b2⟩
end Go.Proofs.Ytohbnogmeldmpaa

/- The walk of the law FnPieceRegion. -/
namespace Go.Proofs.Ytohbnogmeldmpaa
open Go.RowKit

set_option maxHeartbeats 400000 in
theorem sameBools_t (A A' : Option Addr) (c c' : Nat) (bs : List Bool) (w : World) (hr : Rd w A (bs.map .bool)) (hr' : Rd w A' (bs.map .bool)) (hn : bs.length ≤ maxLen) :
    Calls Try.prog 22 #[.slice A bs.length c, .slice A' bs.length c'] w fun e w' => e = .returned (.bool true) ∧ Below w.heap.size w w' := by
  unfold maxLen at hn
  go_enter Try.func22, Try.ntmps22
  go_wp2
  go_loopw [5] (fun i wr => ∃ k : Nat, k ≤ bs.length ∧ i = .int .i64 k ∧ Below w.heap.size w wr) (fun i _ => bs.length - (intOf i).toNat)
  case atStart => exact ⟨0, Nat.zero_le _, rfl, Below.refl _ _⟩
  case round =>
    obtain ⟨k, hk, rfl, hbel⟩ := hrel
    by_cases hlt : k < bs.length
    · obtain ⟨ad, rfl, hc⟩ := (hr.belo hbel).atM hlt
      obtain ⟨ad', rfl, hc'⟩ := (hr'.belo hbel).atM hlt
      have hne : (bs[k] != bs[k]) = false := by simp
      go_wp2
      go_quiet (fail)
      go_wp2
      go_roundw
      case rel => exact ⟨k + 1, by omega, by go_num, below_drewN' hbel _⟩
      case measure => simp [intOf]; omega
    · go_wp2
      go_ret
      exact ⟨rfl, hbel⟩
set_option maxHeartbeats 1000000 in
theorem sameRegion_t (W T W' T' : Int) (A A' : Option Addr) (n n' c c' : Nat) (bs bs' : List Bool) (w : World) (hr : Rd w A (bs.map .bool)) (hr' : Rd w A' (bs'.map .bool)) (hn : bs.length = n) (hm : n ≤ maxLen) (eW : W' = W) (eT : T' = T) (eb : bs' = bs) (hn' : bs'.length = n') :
    Calls Try.prog 6 #[.agg #[.int .i64 W, .int .i64 T, .slice A n c], .agg #[.int .i64 W', .int .i64 T', .slice A' n' c']] w fun e w' => e = .returned (.bool true) ∧ Below w.heap.size w w' := by
  subst eW; subst eT; subst eb; subst hn; subst hn'
  have X0 := C3.new w (.int .i64 W') (.int .i64 T') (.slice A bs'.length c) 27
  have Y0 := C3.new (w.alloc (.cells #[.int .i64 W', .int .i64 T', .slice A bs'.length c] 27)) (.int .i64 W') (.int .i64 T') (.slice A' bs'.length c') 27
  have X1 := X0.alloc (.cells #[.int .i64 W', .int .i64 T', .slice A' bs'.length c'] 27)
  have B0 := bl_alloc (bl_alloc (Below.refl w.heap.size w) (.cells #[.int .i64 W', .int .i64 T', .slice A bs'.length c] 27)) (.cells #[.int .i64 W', .int .i64 T', .slice A' bs'.length c'] 27)
  obtain ⟨x0, x1, x2⟩ := id X1
  obtain ⟨y0, y1, y2⟩ := id Y0
  have CS := Lib.hid (sameBools_t A A' c c' bs' _ (hr.belo B0) (hr'.belo B0) hm)
  have h1 : (W' == W') = true := by simp
  have h2 : (T' == T') = true := by simp
  go_enter Try.func6, Try.ntmps6
  go_wp2_with fail
  refine CS.out.mono ?_
  rintro e w1 ⟨rfl, b1⟩
  go_wp2_with fail
  go_ret
  exact ⟨rfl, bl_go B0 b1⟩
theorem field_valid {ps : List Ce} (h : PieceOk ps) : validB (hiP (mvdV stayC ps)).1 (hiP (mvdV stayC ps)).2 (fieldP (mvdV stayC ps)) = true ∧ cnt (fieldP (mvdV stayC ps)) = ps.length ∧ prtN (hiP (mvdV stayC ps)).1 (hiP (mvdV stayC ps)).2 (fieldP (mvdV stayC ps)) = 1 := by
  obtain ⟨-, hl, hX, hX0, hX1, hX2⟩ := law_moved h
  obtain ⟨⟨w1, w5⟩, ⟨t1, t5⟩, hlen⟩ := field_box hX hX0 hX1 hX2
  have hc := field_cnt hX.2.2.1 hX0
  rw [hl] at hc
  have h5 := h.1.2
  exact ⟨validB_iff.2 ⟨⟨w1, by omega⟩, ⟨t1, by omega⟩, hlen, by omega⟩, hc, field_part hX hX0 hX1 hX2⟩
theorem turn_same {ps : List Ce} (h : PieceOk ps) {xs : List Bool} (hx : IsTurn (hiP (mvdV stayC ps)).1 (hiP (mvdV stayC ps)).2 (fieldP (mvdV stayC ps)) xs) :
    (hiP (mvdV stayC (mvdV turnC ps))).1 = (hiP (mvdV stayC ps)).2 ∧ (hiP (mvdV stayC (mvdV turnC ps))).2 = (hiP (mvdV stayC ps)).1 ∧ fieldP (mvdV stayC (mvdV turnC ps)) = xs := by
  obtain ⟨hb, -⟩ := turn_mem h
  obtain ⟨hl, hf⟩ := turn_field h
  have hv := valid_fld (field_valid h).1
  refine ⟨by rw [hb], by rw [hb], ?_⟩
  exact eq_at hl hx.len (tau_onto hv) (f := fun k => (fieldP (mvdV stayC ps)).getD k false) (fun k hk => hf k hk) (fun k hk => hx.at_ k hk)
theorem flip_same {ps : List Ce} (h : PieceOk ps) {xs : List Bool} (hx : IsFlip (hiP (mvdV stayC ps)).1 (fieldP (mvdV stayC ps)) xs) :
    (hiP (mvdV stayC (mvdV flipC ps))).1 = (hiP (mvdV stayC ps)).1 ∧ (hiP (mvdV stayC (mvdV flipC ps))).2 = (hiP (mvdV stayC ps)).2 ∧ fieldP (mvdV stayC (mvdV flipC ps)) = xs := by
  obtain ⟨hb, -⟩ := flip_memP h
  obtain ⟨hl, hf⟩ := flip_field h
  have hv := valid_fld (field_valid h).1
  refine ⟨by rw [hb], by rw [hb], ?_⟩
  exact eq_at hl hx.1 (flip_onto hv) (f := fun k => (fieldP (mvdV stayC ps)).getD k false) (fun k hk => hf k hk) (fun k hk => hx.2 k hk)
set_option maxRecDepth 100000 in
set_option maxHeartbeats 4000000 in
theorem fnPieceRegion_walk {w0 : World} (A : Option Addr) (c : Nat) (bs : List Int) (hcap : bs.length ≤ c) (hm : bs.length ≤ maxLen) (hr : Rd w0 A (bs.map (.int .u8))) (hw : ∀ n ∈ bs, 0 ≤ n ∧ n ≤ 255) :
    Calls Try.prog 3 #[.slice A bs.length c] w0 fun e w' => e = .returned (.bool true) ∧ Below w0.heap.size w0 w' := by
  have HW := Lib.hid hw
  clear hw
  unfold maxLen at hm
  by_cases hn : bs.length ≤ 1048576
  · have hg : decide ((1048576 : Int) < (bs.length : Int)) = false := by simp; omega
    go_enter Try.func3, Try.ntmps3
    go_wp2_with fail
    refine (drawPieceRegion_any A c bs _ hr HW.out hn hcap).mono ?_
    rintro e w1 ⟨B, k, ps, rfl, R1, hk, hl, -, B1⟩
    clear hg hn hm hr HW hcap
    have hmx : ps.length ≤ maxLen := by unfold maxLen; omega
    have CV := Lib.hid (fun (z : World) (R : RdC z B ps) => sPieceValid_any B k ps z R hmx hk)
    have CI := Lib.hid (fun (z : World) (R : RdC z B ps) => iPieceRegion_any B k ps z R hmx hk)
    have CS := Lib.hid (fun (z : World) (R : RdC z B ps) => sPieceRegion_any B k ps z R hmx hk)
    have CT := Lib.hid (fun (z : World) (R : RdC z B ps) => iPieceTurn_any B k ps z R hmx hk)
    have CF := Lib.hid (fun (z : World) (R : RdC z B ps) => iPieceFlip_any B k ps z R hmx hk)
    have CY := Lib.hid (fun (z : World) (D : Option Addr) (ys : List Ce) (hy : ys.length ≤ 5) (R : RdC z D ys) => iPieceRegion_any D ys.length ys z R (by unfold maxLen; omega) (Nat.le_refl _))
    have hlT : (mvdV turnC ps).length ≤ 5 := mvdV_len _ _
    have hlF : (mvdV flipC ps).length ≤ 5 := mvdV_len _ _
    have HOK := Lib.hid (fun (h : pieceB ps = true) => field_valid (ok_of_pieceB h))
    have HTS := Lib.hid (fun (h : pieceB ps = true) (xs : List Bool) (hx : IsTurn (hiP (mvdV stayC ps)).1 (hiP (mvdV stayC ps)).2 (fieldP (mvdV stayC ps)) xs) => turn_same (ok_of_pieceB h) hx)
    have HFS := Lib.hid (fun (h : pieceB ps = true) (xs : List Bool) (hx : IsFlip (hiP (mvdV stayC ps)).1 (fieldP (mvdV stayC ps)) xs) => flip_same (ok_of_pieceB h) hx)
    have HNO := Lib.hid (fun (h : pieceB ps = false) => show (hiP (mvdV stayC ps)).1 = 0 ∧ (fieldP (mvdV stayC ps)) = [] by rw [mvdV_no _ h]; exact ⟨rfl, rfl⟩)
    have hVl := fieldV_len ps
    generalize mvdV turnC ps = YT at *
    generalize mvdV flipC ps = YF at *
    generalize fieldP (mvdV stayC ps) = V at *
    generalize (hiP (mvdV stayC ps)).1 = W at *
    generalize (hiP (mvdV stayC ps)).2 = T at *
    have hVm : V.length ≤ maxLen := by unfold maxLen; omega
    go_wp2_with fail
    refine (CI.out _ R1).mono ?_
    rintro e w2 ⟨A2, c2, rfl, W2, b2⟩
    have R2 : RdC w2 B ps := Rd.belo R1 b2
    have X2 := C3.new w2 (.int .i64 W) (.int .i64 T) (.slice A2 V.length c2) 27
    have b3 := bl_alloc b2 (.cells #[.int .i64 W, .int .i64 T, .slice A2 V.length c2] 27)
    have b3' := bl_alloc (Below.refl w2.heap.size w2) (.cells #[.int .i64 W, .int .i64 T, .slice A2 V.length c2] 27)
    have R3 : RdC (w2.alloc (.cells #[.int .i64 W, .int .i64 T, .slice A2 V.length c2] 27)) B ps := Rd.belo R1 b3
    have V3 := (W2.belo b3').rd
    have B3 := bl_go B1 b3
    clear R1 B1 b2 W2 b3 b3' R2 CI
    go_wp2_with fail
    have hx3 := X2.lt
    generalize w2.alloc (.cells #[.int .i64 W, .int .i64 T, .slice A2 V.length c2] 27) = w3 at *
    generalize w2.heap.size = bx at *
    obtain ⟨x0, x1, x2⟩ := id X2
    have KS := Lib.hid (fun (z : World) (hb : Below w3.heap.size w3 z) => (show z.cell? ⟨bx, 0, none⟩ = some (.int .i64 W) ∧ z.cell? ⟨bx, 1, none⟩ = some (.int .i64 T) ∧ z.cell? ⟨bx, 2, none⟩ = some (.slice A2 V.length c2) from X2.belo hb))
    have Z0 : Below w3.heap.size w3 w3.drew := (Below.refl _ _).drew
    have R3z : RdC w3.drew B ps := Rd.belo R3 Z0
    go_region_held3 (fun w' => w'.cell? ⟨bx, 0, none⟩ = some (.int .i64 W) ∧ w'.cell? ⟨bx, 1, none⟩ = some (.int .i64 T) ∧ w'.cell? ⟨bx, 2, none⟩ = some (.slice A2 V.length c2))
      (first | (with_reducible exact KS.out _ Z5) | (with_reducible exact KS.out _ Z4) | (with_reducible exact KS.out _ Z0) | (with_reducible exact ⟨x0, x1, x2⟩) | go_keep)
      (first
      | (go_at_call 7; (with_reducible refine (CS.out _ R3z).mono ?_); rintro e w4 ⟨A4, c4, rfl, W4, b4⟩; have Z4 := Z0.trans (b4.mono Z0.size); have V4 := V3.belo Z4)
      | (go_at_call 6; (with_reducible refine (sameRegion_t W T W T A2 A4 V.length V.length c2 c4 V V w4 V4 W4.rd rfl hVm rfl rfl rfl rfl).mono ?_); rintro e w5 ⟨rfl, b5⟩; have Z5 := Z4.trans (b5.mono Z4.size)))
    have R5 : RdC w5 B ps := Rd.belo R3 Z5
    have V5 := V3.belo Z5
    have X5 := X2.belo Z5
    have B5 := bl_go B3 Z5
    clear KS Z0 R3z R3 Z4 V4 W4 b4 b5 Z5 V3 X2 x0 x1 x2 B3 CS hx3
    go_wp2_with fail
    refine (CV.out _ R5).mono ?_
    rintro e w6 ⟨rfl, b6⟩
    have R6 : RdC w6 B ps := Rd.belo R5 b6
    have V6 := V5.belo b6
    have X6 := X5.belo b6
    have B6 := bl_go B5 b6
    obtain ⟨x0, x1, x2⟩ := id X6
    clear R5 V5 X5 B5 b6 CV
    cases hv : pieceB ps with
    | false =>
      obtain ⟨hW, hV⟩ := HNO.out hv
      subst hW; subst hV
      clear HOK HTS HFS HNO CT CF CY hv
      go_wp2_with fail
      refine (alive_any _).mono ?_
      rintro e w7 ⟨rfl, b7⟩
      go_wp2_with fail
      go_ret
      exact ⟨rfl, bl_go B6 b7⟩
    | true =>
      obtain ⟨hval, hcnt, hprt⟩ := HOK.out hv
      have HT := Lib.hid (HTS.out hv)
      have HF := Lib.hid (HFS.out hv)
      have CC := Lib.hid (fun (z : World) (R : Rd z A2 (V.map .bool)) => (by
        have := iCellsMany_any W T A2 c2 V z R hVm
        unfold cellsMany at this
        rw [if_pos hval, hcnt] at this
        exact this : Calls Try.prog 10 #[.agg #[.int .i64 W, .int .i64 T, .slice A2 V.length c2]] z fun e w' => e = .returned (.int .i64 (ps.length : Int)) ∧ Below z.heap.size z w'))
      have CP := Lib.hid (fun (z : World) (R : Rd z A2 (V.map .bool)) => (by
        have := iPartsMany_any W T A2 c2 V z R hVm
        rw [if_pos hval, hprt] at this
        exact this : Calls Try.prog 11 #[.agg #[.int .i64 W, .int .i64 T, .slice A2 V.length c2]] z fun e w' => e = .returned (.int .i64 ((1 : Nat) : Int)) ∧ Below z.heap.size z w'))
      have CRT := Lib.hid (fun (z : World) (R : Rd z A2 (V.map .bool)) => iRegionTurn_ok W T A2 c2 V z R hval)
      have CRF := Lib.hid (fun (z : World) (R : Rd z A2 (V.map .bool)) => iRegionFlip_ok W T A2 c2 V z R hval)
      have h1 : (((1 : Nat) : Int) == 1) = true := by decide
      have h2 : ((ps.length : Int) == (ps.length : Int)) = true := by simp
      clear HOK HTS HFS HNO hv hval hcnt hprt
      go_wp2_with fail
      refine (CC.out _ V6).mono ?_
      rintro e w7 ⟨rfl, b7⟩
      have R7 : RdC w7 B ps := Rd.belo R6 b7
      have V7 := V6.belo b7
      have X7 := X6.belo b7
      have B7 := bl_go B6 b7
      obtain ⟨x0, x1, x2⟩ := id X7
      clear R6 V6 X6 B6 b7 CC
      go_wp2_with fail
      refine (CP.out _ V7).mono ?_
      rintro e w8 ⟨rfl, b8⟩
      have R8 : RdC w8 B ps := Rd.belo R7 b8
      have V8 := V7.belo b8
      have X8 := X7.belo b8
      have B8 := bl_go B7 b8
      obtain ⟨x0, x1, x2⟩ := id X8
      clear R7 V7 X7 B7 b8 CP
      go_wp2_with fail
      refine (CRT.out _ V8).mono ?_
      rintro e w9 ⟨xs, hxs, A9, c9, rfl, W9, b9⟩
      have R9 : RdC w9 B ps := Rd.belo R8 b9
      have V9 := V8.belo b9
      have X9 := X8.belo b9
      have B9 := bl_go B8 b9
      have Q9 := W9.rd
      obtain ⟨x0, x1, x2⟩ := id X9
      have HXS := Lib.hid hxs
      clear R8 V8 X8 B8 b9 W9 CRT hxs
      go_wp2_with fail
      refine (CT.out _ R9).mono ?_
      rintro e wa ⟨Aa, rfl, Wa, ba⟩
      have Ra : RdC wa B ps := Rd.belo R9 ba
      have Va := V9.belo ba
      have Xa := X9.belo ba
      have Ba := bl_go B9 ba
      have Qa := Q9.belo ba
      have Ya := OwnC.rd Wa
      obtain ⟨x0, x1, x2⟩ := id Xa
      clear R9 V9 X9 B9 ba Wa CT Q9
      go_wp2_with fail
      refine (CY.out _ _ _ hlT Ya).mono ?_
      rintro e wb ⟨Ab, cb, rfl, Wb, bb⟩
      have Rb : RdC wb B ps := Rd.belo Ra bb
      have Vb := Va.belo bb
      have Xb := Xa.belo bb
      have Bb := bl_go Ba bb
      have Qb := Qa.belo bb
      obtain ⟨e1, e2, e3⟩ := HT.out _ HXS.out
      have CE := Lib.hid (sameRegion_t T W _ _ A9 Ab xs.length _ c9 cb xs _ wb Qb Wb.rd rfl (by rw [HXS.out.len]; exact hVm) e1 e2 e3 rfl)
      obtain ⟨x0, x1, x2⟩ := id Xb
      clear Ra Va Xa Ba bb Wb Qa Qb Ya HT HXS e1 e2 e3
      go_wp2_with fail
      refine CE.out.mono ?_
      rintro e wc ⟨rfl, bc⟩
      have Rc : RdC wc B ps := Rd.belo Rb bc
      have Vc := Vb.belo bc
      have Xc := Xb.belo bc
      have Bc := bl_go Bb bc
      obtain ⟨x0, x1, x2⟩ := id Xc
      clear Rb Vb Xb Bb bc CE
      go_wp2_with fail
      refine (CRF.out _ Vc).mono ?_
      rintro e wd ⟨xf, hxf, Ad, cd, rfl, Wd, bd⟩
      have Rdd : RdC wd B ps := Rd.belo Rc bd
      have Bd := bl_go Bc bd
      have Qd := Wd.rd
      have HXF := Lib.hid hxf
      clear Rc Vc Xc Bc bd Wd CRF hxf x0 x1 x2
      go_wp2_with fail
      refine (CF.out _ Rdd).mono ?_
      rintro e we ⟨Ae, rfl, We, be⟩
      have Be := bl_go Bd be
      have Qe := Qd.belo be
      have Ye := OwnC.rd We
      clear Rdd Bd be We CF Qd
      go_wp2_with fail
      refine (CY.out _ _ _ hlF Ye).mono ?_
      rintro e wf ⟨Af, cf, rfl, Wf, bf⟩
      have Bf := bl_go Be bf
      have Qf := Qe.belo bf
      obtain ⟨e1, e2, e3⟩ := HF.out _ HXF.out
      have CE := Lib.hid (sameRegion_t W T _ _ Ad Af xf.length _ cd cf xf _ wf Qf Wf.rd rfl (by rw [HXF.out.1]; exact hVm) e1 e2 e3 rfl)
      clear Be bf Wf Qe Qf Ye HF HXF e1 e2 e3
      go_wp2_with fail
      refine CE.out.mono ?_
      rintro e wg ⟨rfl, bg⟩
      go_wp2_with fail
      go_ret
      exact ⟨rfl, bl_go Bf bg⟩
  · have hg : decide ((1048576 : Int) < (bs.length : Int)) = true := by simp; omega
    go_enter Try.func3, Try.ntmps3
    go_wp2_with fail
    go_ret
    exact ⟨rfl, Below.refl _ _⟩
end Go.Proofs.Ytohbnogmeldmpaa

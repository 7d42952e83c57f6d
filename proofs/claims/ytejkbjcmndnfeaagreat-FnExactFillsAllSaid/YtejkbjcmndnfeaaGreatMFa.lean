
/- FnExactFillsAll: joined from FillsN, FillsP, ListI, RowI, AtI, FillsQ, FlsN, AtS, PutS, MoveT, FormS, FormT, FormU, PiecesN. -/
import Derived.Test.YtejkbjcmndnfeaaGreatFillN
import Derived.Test.YtejkbjcmndnfeaaGreatFormL
import Derived.Test.YtejkbjcmndnfeaaGreatBarsN
import Derived.Test.YtejkbjcmndnfeaaGreatTilN
import Derived.Test.YtejkbjcmndnfeaaGreatCellss
import Derived.Test.YtejkbjcmndnfeaaGreatApp
import Derived.Test.YtejkbjcmndnfeaaGreatMemE
import Derived.Deep.AppendLies
import Derived.Maps.AppendAt
import Derived.Test.YtejkbjcmndnfeaaGreatColour
import Derived.StillTailTactics
import Derived.Laws.OwnMore
import Derived.IntWalk
import Derived.Test.YtejkbjcmndnfeaaGreatCells
import Derived.RegionTactic
import Derived.ChangeAlike
import Derived.Test.YtejkbjcmndnfeaaGreatMoveS
import Derived.Test.YtejkbjcmndnfeaaGreatDrawPieces
import Derived.Deep.RegionLaw
/- All ways to fill a region with pieces, plainly: the lists that the search tells are just those that fill it, each once. -/
namespace Go.Proofs.YtejkbjcmndnfeaaGreat
open Go.RowKit Go.Sort

/-! ### The search -/
/-- a cell that is to be filled yet -/
def freK (bs : List Bool) (fill : List Int) (k : Nat) : Bool := bs.getD k false && decide (fill.getD k 0 < 0)
def freF (bs : List Bool) (fill : List Int) : List Bool := (List.range bs.length).map (freK bs fill)
/-- the first of them -/
def atF (bs : List Bool) (fill : List Int) : Nat := firstB (freF bs fill)
/-- where a cell of a form comes -/
def fxC (W : Int) (c : Nat) (form : List Ce) (q : Ce) : Int := (c : Int) % W + q.1 - (form.headD (0, 0)).1
def fyC (W : Int) (c : Nat) (form : List Ce) (q : Ce) : Int := (c : Int) / W + q.2 - (form.headD (0, 0)).2
def fitQ (W T : Int) (bs : List Bool) (fill : List Int) (x y : Int) : Bool := decide (0 ≤ x ∧ x ≤ W - 1 ∧ 0 ≤ y ∧ y ≤ T - 1) && freK bs fill (y * W + x).toNat
def fitF (W T : Int) (bs : List Bool) (fill : List Int) (c : Nat) (form : List Ce) : Bool := form.all fun q => fitQ W T bs fill (fxC W c form q) (fyC W c form q)
def plcL (W : Int) (c : Nat) (form : List Ce) : List Nat := form.map fun q => (fyC W c form q * W + fxC W c form q).toNat
def setF (fill : List Int) (L : List Nat) (v : Int) : List Int := L.foldl (fun f k => f.set k v) fill
noncomputable def fillsN (W T : Int) (bs : List Bool) (pss : List (List Ce)) (chk : Bool) : Nat → List Int → List Bool → List (List Int)
  | 0, fill, used => if atF bs fill = bs.length then (if chk && !used.all id then [] else [fill]) else []
  | m + 1, fill, used => if atF bs fill = bs.length then (if chk && !used.all id then [] else [fill]) else
    (List.range pss.length).flatMap fun n => if used.getD n true then [] else (formsV (pss.getD n [])).flatMap fun form =>
      if fitF W T bs fill (atF bs fill) form then fillsN W T bs pss chk m (setF fill (plcL W (atF bs fill) form) n) (used.set n true) else []

/-! ### The first free cell -/
theorem freF_len (bs : List Bool) (fill : List Int) : (freF bs fill).length = bs.length := by unfold freF; simp
theorem atF_le (bs : List Bool) (fill : List Int) : atF bs fill ≤ bs.length := by have := firstB_le (freF bs fill); rw [freF_len] at this; exact this
theorem freF_get {bs : List Bool} {fill : List Int} {k : Nat} (h : k < (freF bs fill).length) : (freF bs fill)[k] = freK bs fill k := by simp only [freF, List.getElem_map, List.getElem_range]
theorem atF_t {bs : List Bool} {fill : List Int} (h : atF bs fill < bs.length) : freK bs fill (atF bs fill) = true := by
  have h' : firstB (freF bs fill) < (freF bs fill).length := by rw [freF_len]; exact h
  have := firstB_t h'
  rw [freF_get] at this
  exact this
theorem atF_f {bs : List Bool} {fill : List Int} {k : Nat} (h : k < atF bs fill) : freK bs fill k = false := by
  have hk : k < (freF bs fill).length := by rw [freF_len]; have := atF_le bs fill; omega
  have := firstB_f (F := freF bs fill) h hk
  rw [freF_get] at this
  exact this
theorem atF_eq {bs : List Bool} {fill : List Int} {c : Nat} (hc : c ≤ bs.length) (h1 : ∀ k, k < c → freK bs fill k = false) (h2 : c < bs.length → freK bs fill c = true) : atF bs fill = c := by
  refine firstB_eq (by rw [freF_len]; exact hc) (fun k hk hkc => by rw [freF_get]; exact h1 k hkc) (fun h => by rw [freF_get]; exact h2 (by rw [freF_len] at h; exact h))
theorem freK_iff {bs : List Bool} {fill : List Int} {k : Nat} : freK bs fill k = true ↔ bs.getD k false = true ∧ fill.getD k 0 < 0 := by unfold freK; rw [Bool.and_eq_true, decide_eq_true_eq]
theorem freK_lt {bs : List Bool} {fill : List Int} {k : Nat} (h : freK bs fill k = true) : k < bs.length := by
  have h1 := (freK_iff.1 h).1
  refine Classical.byContradiction fun hk => ?_
  rw [List.getD_eq_getElem?_getD, List.getElem?_eq_none (by omega)] at h1
  cases h1

/-! ### Cells put -/
theorem setF_len (L : List Nat) (v : Int) (fill : List Int) : (setF fill L v).length = fill.length := by
  unfold setF
  induction L generalizing fill with
  | nil => rfl
  | cons a L ih => rw [List.foldl_cons, ih, List.length_set]
theorem getD_setF {α : Type} {l : List α} {k j : Nat} {v d : α} : (l.set k v).getD j d = if k = j ∧ k < l.length then v else l.getD j d := by
  rw [List.getD_eq_getElem?_getD, List.getD_eq_getElem?_getD, List.getElem?_set]
  by_cases h : k = j
  · subst h
    by_cases hk : k < l.length
    · simp [hk]
    · simp [hk]
  · simp [h]
theorem setF_mem {L : List Nat} {v : Int} {fill : List Int} {k : Nat} (hk : k < fill.length) (h : k ∈ L) : (setF fill L v).getD k 0 = v := by
  unfold setF
  induction L generalizing fill with
  | nil => cases h
  | cons a L ih =>
    rw [List.foldl_cons]
    by_cases hL : k ∈ L
    · exact ih (by rw [List.length_set]; exact hk) hL
    · have : k = a := by simpa [hL] using h
      subst this
      have key : ∀ (M : List Nat) (f : List Int), k ∉ M → (M.foldl (fun f k => f.set k v) f).getD k 0 = f.getD k 0 := fun M => by
        induction M with
        | nil => intro f _; rfl
        | cons b M ih2 =>
          intro f hM
          rw [List.mem_cons, not_or] at hM
          rw [List.foldl_cons, ih2 _ hM.2, getD_setF, if_neg (fun e => hM.1 e.1.symm)]
      rw [key L _ hL, getD_setF, if_pos ⟨rfl, hk⟩]
theorem setF_not {L : List Nat} {v : Int} {fill : List Int} {k : Nat} (h : k ∉ L) : (setF fill L v).getD k 0 = fill.getD k 0 := by
  unfold setF
  induction L generalizing fill with
  | nil => rfl
  | cons b M ih2 =>
    rw [List.mem_cons, not_or] at h
    rw [List.foldl_cons, ih2 h.2, getD_setF, if_neg (fun e => h.1 e.1.symm)]

/-! ### Columns and rows -/
/-- a field -/
structure FldF (W T : Int) (n : Nat) : Prop where
  w1 : 1 ≤ W
  w6 : W ≤ 6
  t1 : 1 ≤ T
  t6 : T ≤ 6
  len : (n : Int) = W * T
theorem FldF.bd {W T : Int} {n : Nat} (h : FldF W T n) : n ≤ 36 := by
  have := mul_bd h.w1 h.w6 h.t1 h.t6
  have := h.len
  omega
theorem FldF.at_ {W T : Int} {n : Nat} (h : FldF W T n) {x y : Int} (hx : 0 ≤ x) (hx' : x ≤ W - 1) (hy : 0 ≤ y) (hy' : y ≤ T - 1) :
    ∃ k : Nat, y * W + x = k ∧ k < n ∧ (k : Int) % W = x ∧ (k : Int) / W = y := by
  have h0 : 0 ≤ y * W := Int.mul_nonneg hy (by have := h.w1; omega)
  obtain ⟨k, hk⟩ := Int.eq_ofNat_of_zero_le (show 0 ≤ y * W + x by omega)
  have hW := h.w1
  refine ⟨k, hk, ?_, ?_, ?_⟩
  · have h1 : (y + 1) * W ≤ T * W := Int.mul_le_mul_of_nonneg_right (by omega) (by omega)
    rw [Int.add_mul, Int.one_mul] at h1
    have h2 := h.len
    rw [Int.mul_comm] at h2
    omega
  · rw [← hk, Int.add_comm, Int.add_mul_emod_self_right, Int.emod_eq_of_lt hx (by omega)]
  · rw [← hk, Int.add_comm, Int.add_mul_ediv_right _ _ (by omega), Int.ediv_eq_zero_of_lt hx (by omega)]; omega
theorem FldF.xy {W T : Int} {n : Nat} (h : FldF W T n) {k : Nat} (hk : k < n) : 0 ≤ (k : Int) % W ∧ (k : Int) % W ≤ W - 1 ∧ 0 ≤ (k : Int) / W ∧ (k : Int) / W ≤ T - 1 ∧ (k : Int) / W * W + (k : Int) % W = k := by
  have hW := h.w1
  have h1 := Int.emod_nonneg (k : Int) (show W ≠ 0 by omega)
  have h2 := Int.emod_lt_of_pos (k : Int) (show 0 < W by omega)
  have h3 := Int.ediv_nonneg (show 0 ≤ (k : Int) by omega) (show 0 ≤ W by omega)
  have h4 : (k : Int) / W * W + (k : Int) % W = k := by rw [Int.mul_comm]; exact Int.mul_ediv_add_emod _ _
  have h5 : (k : Int) / W < T := by
    refine Int.ediv_lt_of_lt_mul (by omega) ?_
    have := h.len
    rw [Int.mul_comm T W]
    omega
  omega
theorem FldF.inj {W T : Int} {n : Nat} (h : FldF W T n) {j k : Nat} (hj : j < n) (hk : k < n) (e1 : (j : Int) % W = (k : Int) % W) (e2 : (j : Int) / W = (k : Int) / W) : j = k := by
  have a := (h.xy hj).2.2.2.2
  have b := (h.xy hk).2.2.2.2
  rw [e1, e2] at a
  omega
/-- cells that come later are in a later row, or in a later column of the same row -/
theorem FldF.lt {W T : Int} {n : Nat} (h : FldF W T n) {j k : Nat} (hj : j < n) (hk : k < n) (hjk : j < k) : (j : Int) / W < (k : Int) / W ∨ ((j : Int) / W = (k : Int) / W ∧ (j : Int) % W < (k : Int) % W) := by
  obtain ⟨a1, a2, a3, a4, a5⟩ := h.xy hj
  obtain ⟨b1, b2, b3, b4, b5⟩ := h.xy hk
  rcases Int.lt_trichotomy ((j : Int) / W) ((k : Int) / W) with h1 | h1 | h1
  · exact .inl h1
  · rw [h1] at a5
    exact .inr ⟨h1, by omega⟩
  · exfalso
    have h2 : ((k : Int) / W + 1) * W ≤ (j : Int) / W * W := Int.mul_le_mul_of_nonneg_right (by omega) (by have := h.w1; omega)
    rw [Int.add_mul, Int.one_mul] at h2
    omega

/-! ### The cells of a piece -/
theorem getQ_iff {F : List Int} {j : Nat} {v : Int} : F[j]? = some v ↔ j < F.length ∧ F.getD j 0 = v := by
  rw [List.getD_eq_getElem?_getD]
  constructor
  · intro h
    exact ⟨(List.getElem?_eq_some_iff.1 h).1, by rw [h]; rfl⟩
  · rintro ⟨h1, h2⟩
    rw [List.getElem?_eq_getElem h1] at h2 ⊢
    exact congrArg some h2
def idxT (F : List Int) (n : Int) : List Nat := (List.range F.length).filter fun j => decide (F[j]? = some n)
def ceW (W : Int) (j : Nat) : Ce := ((j : Int) % W, (j : Int) / W)
theorem cells_idx (W : Int) (F : List Int) (n : Int) : cellsT W F n F.length = (idxT F n).map (ceW W) := rfl
theorem idxT_mem {F : List Int} {n : Int} {j : Nat} : j ∈ idxT F n ↔ j < F.length ∧ F.getD j 0 = n := by
  unfold idxT
  rw [List.mem_filter, List.mem_range, decide_eq_true_eq, getQ_iff]
  exact ⟨fun h => h.2, fun h => ⟨h.1, h⟩⟩
theorem idxT_pw (F : List Int) (n : Int) : (idxT F n).Pairwise (· < ·) := List.Pairwise.filter _ List.pairwise_lt_range
theorem cells_pw {W T : Int} {F : List Int} {n : Int} (hf : FldF W T F.length) : (cellsT W F n F.length).Pairwise fun x y => ltC x y = true := by
  rw [cells_idx, List.pairwise_map]
  refine List.Pairwise.imp_of_mem (fun {a b} ha hb hab => ?_) (idxT_pw F n)
  have := hf.lt (idxT_mem.1 ha).1 (idxT_mem.1 hb).1 hab
  unfold ltC ceW
  simp only [decide_eq_true_eq]
  exact this
theorem cells_nodup {W T : Int} {F : List Int} {n : Int} (hf : FldF W T F.length) : (cellsT W F n F.length).Nodup :=
  (cells_pw hf).imp fun {a b} h e => by subst e; unfold ltC at h; simp only [decide_eq_true_eq] at h; omega
theorem cells_sorted {W T : Int} {F : List Int} {n : Int} (hf : FldF W T F.length) (m : Ce) : ((cellsT W F n F.length).map (subC m)).Pairwise fun x y => ltC y x = false := by
  rw [List.pairwise_map]
  refine (cells_pw hf).imp fun {a b} h => ?_
  rw [subC_lt]
  unfold ltC at h ⊢
  simp only [decide_eq_true_eq, decide_eq_false_iff_not] at h ⊢
  omega
theorem cells_in {W T : Int} {F : List Int} {n : Int} (hf : FldF W T F.length) {q : Ce} (h : q ∈ cellsT W F n F.length) : 0 ≤ q.1 ∧ q.1 ≤ 5 ∧ 0 ≤ q.2 ∧ q.2 ≤ 5 := by
  rw [cells_idx, List.mem_map] at h
  obtain ⟨j, hj, rfl⟩ := h
  have := hf.xy (idxT_mem.1 hj).1
  have := hf.w6
  have := hf.t6
  unfold ceW
  simp only
  omega
/-- a piece moved elsewhere is a piece -/
theorem ok_sub {p q : List Ce} {m : Ce} (h : PieceOk p) (hq : q.Perm (p.map (subC m))) (hb : ∀ c ∈ q, -9 ≤ c.1 ∧ c.1 ≤ 9 ∧ -9 ≤ c.2 ∧ c.2 ≤ 9) : PieceOk q := by
  have hne := h.ne
  obtain ⟨⟨l1, l2⟩, -, hn, hr⟩ := h
  obtain ⟨s, hs⟩ : ∃ s, p.headD (0, 0) = s := ⟨_, rfl⟩
  have hsp : s ∈ p := by
    cases p with
    | nil => exact absurd rfl hne
    | cons a l => rw [← hs]; simp
  rw [hs] at hr
  have hmem : ∀ x, x ∈ q ↔ ∃ c ∈ p, subC m c = x := fun x => by rw [hq.mem_iff, List.mem_map]
  have hl : q.length = p.length := by rw [hq.length_eq, List.length_map]
  refine ⟨by omega, hb, ?_, fun a ha => ?_⟩
  · rw [List.Perm.nodup_iff hq]
    unfold List.Nodup at *
    rw [List.pairwise_map]
    exact hn.imp (fun {a b} hab e => hab (subC_inj e))
  · obtain ⟨c, hc, rfl⟩ := (hmem a).1 ha
    obtain ⟨t, ht⟩ : ∃ t, q.headD (0, 0) = t := ⟨_, rfl⟩
    have htm : t ∈ q := by
      cases hq : q with
      | nil => rw [hq] at ha; cases ha
      | cons a l => rw [hq] at ht; rw [← ht]; simp
    rw [ht]
    obtain ⟨d, hd, rfl⟩ := (hmem t).1 htm
    have e1 := reach_trans (reach_symm (hr d hd) hsp) (hr c hc)
    have e2 := reach_map (f := subC m) (fun a b hab => by unfold adjC subC at *; simp only; omega) e1
    exact reach_mono e2 (fun x hx => hq.mem_iff.2 hx)
theorem mvd_mvd {p : List Ce} (hne : p ≠ []) : mvd (mvd p) = mvd p := by
  have := mvd_map hne stayC lin_stay
  rw [map_stay, map_stay] at this
  exact this
theorem form_mvd {p x : List Ce} (h : PieceOk p) (hx : x ∈ formsV p) : mvd x = x := by
  rw [formsV_ok h, incOf_mem, ← walkF_list, List.mem_map] at hx
  obtain ⟨i, -, rfl⟩ := hx
  unfold walkF
  split
  · exact mvd_mvd (ok_turnN h i).ne
  · exact mvd_mvd (ok_turnFlip h _).ne
/-- cells that are a form moved are the piece -/
theorem same_of_form {p form q : List Ce} {m : Ce} (h : PieceOk p) (hx : form ∈ formsV p) (hq : q.Perm (form.map (subC m))) (hb : ∀ c ∈ q, -9 ≤ c.1 ∧ c.1 ≤ 9 ∧ -9 ≤ c.2 ∧ c.2 ≤ 9) : sameV p q = true ∧ mvd q = form := by
  obtain ⟨e1, hf⟩ := forms_of_form hx
  have hqo := ok_sub hf hq hb
  have hm : mvd q = form := by rw [mvd_perm (by simpa using hf.ne) hq, mvd_sub hf.ne, form_mvd h hx]
  refine ⟨?_, hm⟩
  have hin := moved_mem hqo
  rw [mvdV_ok stayC hqo, map_stay, hm] at hin
  have e2 := (forms_of_form hin).1
  unfold sameV
  rw [pieceB_t h, pieceB_t hqo]
  simp only [Bool.true_and, decide_eq_true_eq]
  unfold firstV
  rw [← e1, e2]
/-- the cells of a piece, moved, are a form of it -/
theorem form_of_same {W T : Int} {F : List Int} {n : Int} {p : List Ce} (hf : FldF W T F.length) (h : sameV p (cellsT W F n F.length) = true) :
    PieceOk p ∧ PieceOk (cellsT W F n F.length) ∧ (cellsT W F n F.length).map (subC (loP (cellsT W F n F.length))) ∈ formsV p := by
  unfold sameV at h
  simp only [Bool.and_eq_true, decide_eq_true_eq] at h
  obtain ⟨⟨h1, h2⟩, h3⟩ := h
  have hp := ok_of_pieceB h1
  have hq := ok_of_pieceB h2
  refine ⟨hp, hq, ?_⟩
  have hin := moved_mem hq
  rw [mvdV_ok stayC hq, map_stay] at hin
  rw [(same_forms hp hq h3).1]
  have e : (cellsT W F n F.length).map (subC (loP (cellsT W F n F.length))) = mvd (cellsT W F n F.length) := sortC_unique (List.Perm.refl _) (cells_sorted hf _)
  rw [e]
  exact hin

/-! ### What the search keeps, and what it is to find -/
structure StF (bs : List Bool) (P : Nat) (fill : List Int) (used : List Bool) : Prop where
  len : fill.length = bs.length
  ulen : used.length = P
  each : ∀ k, k < bs.length → fill.getD k 0 = -1 ∨ (bs.getD k false = true ∧ ∃ n : Nat, n < P ∧ used.getD n true = true ∧ fill.getD k 0 = n)
structure ExF (W : Int) (bs : List Bool) (pss : List (List Ce)) (fill : List Int) (used : List Bool) (F : List Int) : Prop where
  len : F.length = bs.length
  old : ∀ k, k < bs.length → 0 ≤ fill.getD k 0 → F.getD k 0 = fill.getD k 0
  new : ∀ k, k < bs.length → bs.getD k false = true → fill.getD k 0 < 0 → ∃ n : Nat, n < pss.length ∧ used.getD n true = false ∧ F.getD k 0 = n
  out : ∀ k, k < bs.length → bs.getD k false = false → F.getD k 0 = -1
  all : ∀ n, n < pss.length → used.getD n true = false → sameV (pss.getD n []) (cellsT W F n F.length) = true
def unN (used : List Bool) : Nat := (used.filter fun b => !b).length
theorem unN_set {used : List Bool} {n : Nat} (h : used.getD n true = false) : unN (used.set n true) + 1 = unN used := by
  unfold unN
  induction used generalizing n with
  | nil => simp at h
  | cons a l ih =>
    cases n with
    | zero =>
      rw [List.getD_cons_zero] at h
      subst h
      simp
    | succ n =>
      rw [List.getD_cons_succ] at h
      have := ih h
      cases a <;> simp at this ⊢ <;> omega
theorem unN_pos {used : List Bool} {n : Nat} (h : used.getD n true = false) : 0 < unN used := by have := unN_set h; omega
theorem all_used {used : List Bool} : used.all id = true ↔ ∀ n, used.getD n true = true := by
  rw [List.all_eq_true]
  constructor
  · intro h n
    rw [List.getD_eq_getElem?_getD]
    by_cases hn : n < used.length
    · rw [List.getElem?_eq_getElem hn]; exact h _ (List.getElem_mem hn)
    · rw [List.getElem?_eq_none (by omega)]; rfl
  · intro h b hb
    obtain ⟨n, hn, rfl⟩ := List.getElem_of_mem hb
    have := h n
    rw [List.getD_eq_getElem?_getD, List.getElem?_eq_getElem hn] at this
    exact this
theorem fit_get {W T : Int} {bs : List Bool} {fill : List Int} {c : Nat} {form : List Ce} (h : fitF W T bs fill c form = true) {q : Ce} (hq : q ∈ form) :
    (0 ≤ fxC W c form q ∧ fxC W c form q ≤ W - 1 ∧ 0 ≤ fyC W c form q ∧ fyC W c form q ≤ T - 1) ∧ freK bs fill (fyC W c form q * W + fxC W c form q).toNat = true := by
  unfold fitF at h
  rw [List.all_eq_true] at h
  have := h q hq
  unfold fitQ at this
  rw [Bool.and_eq_true, decide_eq_true_eq] at this
  exact this
theorem plc_free {W T : Int} {bs : List Bool} {fill : List Int} {c : Nat} {form : List Ce} (h : fitF W T bs fill c form = true) {k : Nat} (hk : k ∈ plcL W c form) : freK bs fill k = true := by
  unfold plcL at hk
  rw [List.mem_map] at hk
  obtain ⟨q, hq, rfl⟩ := hk
  exact (fit_get h hq).2
def byM (W : Int) (c : Nat) (form : List Ce) : Ce := ((form.headD (0, 0)).1 - (c : Int) % W, (form.headD (0, 0)).2 - (c : Int) / W)
theorem plc_cells {W T : Int} {bs : List Bool} {fill : List Int} {c : Nat} {form : List Ce} (hf : FldF W T bs.length) (h : fitF W T bs fill c form = true) : (plcL W c form).map (ceW W) = form.map (subC (byM W c form)) := by
  unfold plcL
  rw [List.map_map]
  refine List.map_congr_left fun q hq => ?_
  obtain ⟨⟨h1, h2, h3, h4⟩, -⟩ := fit_get h hq
  obtain ⟨k, e, -, e1, e2⟩ := hf.at_ h1 h2 h3 h4
  show ceW W (fyC W c form q * W + fxC W c form q).toNat = _
  rw [e, Int.toNat_natCast]
  unfold ceW
  rw [e1, e2]
  unfold fxC fyC subC byM
  exact Prod.ext (by simp only; omega) (by simp only; omega)
theorem plc_nodup {W T : Int} {bs : List Bool} {fill : List Int} {c : Nat} {form : List Ce} (hf : FldF W T bs.length) (h : fitF W T bs fill c form = true) (hn : form.Nodup) : (plcL W c form).Nodup := by
  have h1 : ((plcL W c form).map (ceW W)).Nodup := by
    rw [plc_cells hf h]
    unfold List.Nodup at *
    rw [List.pairwise_map]
    exact hn.imp (fun {a b} hab e => hab (subC_inj e))
  unfold List.Nodup at *
  rw [List.pairwise_map] at h1
  exact h1.imp (fun {a b} hab e => hab (by rw [e]))
theorem StF.next {W T : Int} {bs : List Bool} {P c n : Nat} {fill : List Int} {used : List Bool} {form : List Ce} (h : StF bs P fill used) (hfit : fitF W T bs fill c form = true) (hn : n < P) :
    StF bs P (setF fill (plcL W c form) n) (used.set n true) := by
  refine ⟨by rw [setF_len]; exact h.len, by rw [List.length_set]; exact h.ulen, fun k hk => ?_⟩
  by_cases hL : k ∈ plcL W c form
  · rw [setF_mem (by rw [h.len]; exact hk) hL]
    exact .inr ⟨(freK_iff.1 (plc_free hfit hL)).1, n, hn, by rw [getD_setF, if_pos ⟨rfl, by rw [h.ulen]; exact hn⟩], rfl⟩
  · rw [setF_not hL]
    rcases h.each k hk with h1 | ⟨h1, n', h2, h3, h4⟩
    · exact .inl h1
    · refine .inr ⟨h1, n', h2, ?_, h4⟩
      rw [getD_setF]
      split
      · rfl
      · exact h3
/-- behind a form that is put, its places and no others are told its number -/
theorem branch_idx {W T : Int} {bs : List Bool} {pss : List (List Ce)} {c n : Nat} {fill : List Int} {used : List Bool} {form : List Ce} {F : List Int} (h : StF bs pss.length fill used) (hfit : fitF W T bs fill c form = true) (hn : n < pss.length) (hu : used.getD n true = false)
    (hE : ExF W bs pss (setF fill (plcL W c form) n) (used.set n true) F) (k : Nat) : k ∈ idxT F n ↔ k ∈ plcL W c form := by
  rw [idxT_mem]
  constructor
  · rintro ⟨h1, h2⟩
    have hk : k < bs.length := by rw [← hE.len]; exact h1
    refine Classical.byContradiction fun hL => ?_
    have e := setF_not (v := (n : Int)) (fill := fill) hL
    rcases h.each k hk with h3 | ⟨h3, n', h4, h5, h6⟩
    · cases hb : bs.getD k false with
      | false => have := hE.out k hk hb; omega
      | true =>
        obtain ⟨n', h4, h5, h6⟩ := hE.new k hk hb (by rw [e]; omega)
        obtain rfl : n' = n := by omega
        rw [getD_setF, if_pos ⟨rfl, by rw [h.ulen]; exact hn⟩] at h5
        cases h5
    · have := hE.old k hk (by rw [e]; omega)
      rw [e] at this
      obtain rfl : n' = n := by omega
      rw [hu] at h5
      cases h5
  · intro hL
    have hk := freK_lt (plc_free hfit hL)
    have e := setF_mem (v := (n : Int)) (fill := fill) (by rw [h.len]; exact hk) hL
    refine ⟨by rw [hE.len]; exact hk, ?_⟩
    rw [hE.old k hk (by rw [e]; omega), e]
theorem branch_cells {W T : Int} {bs : List Bool} {pss : List (List Ce)} {c n : Nat} {fill : List Int} {used : List Bool} {form : List Ce} {F : List Int} (hf : FldF W T bs.length) (h : StF bs pss.length fill used) (hfit : fitF W T bs fill c form = true) (hn : n < pss.length) (hu : used.getD n true = false) (hnd : form.Nodup)
    (hE : ExF W bs pss (setF fill (plcL W c form) n) (used.set n true) F) : (cellsT W F n F.length).Perm (form.map (subC (byM W c form))) := by
  rw [cells_idx, ← plc_cells hf hfit]
  refine List.Perm.map _ ?_
  have h1 : (idxT F n).Nodup := (idxT_pw F n).imp fun {a b} h e => by omega
  exact (List.perm_ext_iff_of_nodup h1 (plc_nodup hf hfit hnd)).2 (branch_idx h hfit hn hu hE)
/-- behind a form that is put -/
theorem branch_ex {W T : Int} {bs : List Bool} {pss : List (List Ce)} {c n : Nat} {fill : List Int} {used : List Bool} {form : List Ce} {F : List Int} (hf : FldF W T bs.length) (hp : PieceOk (pss.getD n [])) (h : StF bs pss.length fill used) (hfit : fitF W T bs fill c form = true) (hn : n < pss.length) (hu : used.getD n true = false) (hx : form ∈ formsV (pss.getD n []))
    (hE : ExF W bs pss (setF fill (plcL W c form) n) (used.set n true) F) : ExF W bs pss fill used F ∧ mvd (cellsT W F n F.length) = form := by
  have hnd := (forms_of_form hx).2.2.2.1
  have hfF : FldF W T F.length := by rw [hE.len]; exact hf
  obtain ⟨hsame, hm⟩ := same_of_form hp hx (branch_cells hf h hfit hn hu hnd hE) (fun q hq => by have := cells_in hfF hq; omega)
  refine ⟨⟨hE.len, fun k hk h0 => ?_, fun k hk hb h0 => ?_, hE.out, fun n' hn' hu' => ?_⟩, hm⟩
  · have hL : k ∉ plcL W c form := fun hL => by have := (freK_iff.1 (plc_free hfit hL)).2; omega
    have e := setF_not (v := (n : Int)) (fill := fill) hL
    rw [hE.old k hk (by rw [e]; exact h0), e]
  · by_cases hL : k ∈ plcL W c form
    · have := (idxT_mem.1 ((branch_idx h hfit hn hu hE k).2 hL)).2
      exact ⟨n, hn, hu, this⟩
    · have e := setF_not (v := (n : Int)) (fill := fill) hL
      obtain ⟨n', h1, h2, h3⟩ := hE.new k hk hb (by rw [e]; exact h0)
      refine ⟨n', h1, ?_, h3⟩
      rw [getD_setF] at h2
      split at h2
      · cases h2
      · exact h2
  · by_cases hnn : n' = n
    · subst hnn; exact hsame
    · exact hE.all n' hn' (by rw [getD_setF, if_neg (fun e => hnn e.1.symm)]; exact hu')
/-- a list that is looked for lies behind a form of the piece of the first free cell -/
theorem ex_branch {W T : Int} {bs : List Bool} {pss : List (List Ce)} {fill : List Int} {used : List Bool} {F : List Int} (hf : FldF W T bs.length) (h : StF bs pss.length fill used) (hc : atF bs fill < bs.length) (hE : ExF W bs pss fill used F) :
    ∃ n form, n < pss.length ∧ used.getD n true = false ∧ form ∈ formsV (pss.getD n []) ∧ fitF W T bs fill (atF bs fill) form = true ∧ ExF W bs pss (setF fill (plcL W (atF bs fill) form) n) (used.set n true) F := by
  have hfF : FldF W T F.length := by rw [hE.len]; exact hf
  obtain ⟨hb, h0⟩ := freK_iff.1 (atF_t hc)
  obtain ⟨n, hn, hu, hFc⟩ := hE.new _ hc hb h0
  obtain ⟨hp, hq, hform⟩ := form_of_same hfF (hE.all n hn hu)
  have hcm : atF bs fill ∈ idxT F n := idxT_mem.2 ⟨by rw [hE.len]; exact hc, hFc⟩
  have hfree : ∀ k ∈ idxT F n, freK bs fill k = true := fun k hk => by
    obtain ⟨h1, h2⟩ := idxT_mem.1 hk
    have hkb : k < bs.length := by rw [← hE.len]; exact h1
    rw [freK_iff]
    cases hbk : bs.getD k false with
    | false => have := hE.out k hkb hbk; omega
    | true =>
      refine ⟨rfl, ?_⟩
      refine Classical.byContradiction fun h3 => ?_
      have h4 := hE.old k hkb (by omega)
      rcases h.each k hkb with h5 | ⟨-, n', h6, h7, h8⟩
      · omega
      · obtain rfl : n' = n := by omega
        rw [hu] at h7; cases h7
  obtain ⟨lo, hlo⟩ : ∃ lo, loP (cellsT W F n F.length) = lo := ⟨_, rfl⟩
  rw [hlo] at hform
  obtain ⟨l, hl⟩ : ∃ l, idxT F n = atF bs fill :: l := by
    cases hi : idxT F n with
    | nil => rw [hi] at hcm; cases hcm
    | cons a l =>
      refine ⟨l, ?_⟩
      have hpw := idxT_pw F n
      rw [hi] at hcm hpw
      have ha := hfree a (by rw [hi]; simp)
      rcases List.mem_cons.1 hcm with e | e
      · rw [e]
      · have h1 := (List.pairwise_cons.1 hpw).1 _ e
        rw [atF_f h1] at ha
        cases ha
  obtain ⟨form, hfm⟩ : ∃ form, (cellsT W F n F.length).map (subC lo) = form := ⟨_, rfl⟩
  rw [hfm] at hform
  have hhead : form.headD (0, 0) = subC lo (ceW W (atF bs fill)) := by rw [← hfm, cells_idx, hl]; rfl
  have hxy : ∀ k, fxC W (atF bs fill) form (subC lo (ceW W k)) = (k : Int) % W ∧ fyC W (atF bs fill) form (subC lo (ceW W k)) = (k : Int) / W := fun k => by
    unfold fxC fyC
    rw [hhead]
    unfold subC ceW
    simp only
    omega
  have hfe : form = (idxT F n).map fun k => subC lo (ceW W k) := by rw [← hfm, cells_idx, List.map_map]; rfl
  have hplc : plcL W (atF bs fill) form = idxT F n := by
    unfold plcL
    conv => lhs; arg 2; rw [hfe]
    rw [List.map_map]
    have : ∀ k ∈ idxT F n, ((fun q => (fyC W (atF bs fill) form q * W + fxC W (atF bs fill) form q).toNat) ∘ fun k => subC lo (ceW W k)) k = id k := fun k hk => by
      show (fyC W (atF bs fill) form (subC lo (ceW W k)) * W + fxC W (atF bs fill) form (subC lo (ceW W k))).toNat = k
      rw [(hxy k).1, (hxy k).2, (hfF.xy (idxT_mem.1 hk).1).2.2.2.2, Int.toNat_natCast]
    rw [List.map_congr_left this, List.map_id]
  have hfit : fitF W T bs fill (atF bs fill) form = true := by
    unfold fitF
    rw [List.all_eq_true]
    intro q hq
    have hq' := hq
    rw [hfe, List.mem_map] at hq'
    obtain ⟨k, hk, rfl⟩ := hq'
    obtain ⟨a1, a2, a3, a4, a5⟩ := hfF.xy (idxT_mem.1 hk).1
    unfold fitQ
    rw [(hxy k).1, (hxy k).2, a5, Int.toNat_natCast, hfree k hk, decide_eq_true ⟨a1, a2, a3, a4⟩]
    rfl
  refine ⟨n, form, hn, hu, hform, hfit, hE.len, fun k hk h1 => ?_, fun k hk hbk h1 => ?_, hE.out, fun n' hn' hu' => ?_⟩
  · rw [hplc] at h1 ⊢
    by_cases hL : k ∈ idxT F n
    · rw [setF_mem (by rw [h.len]; exact hk) hL, (idxT_mem.1 hL).2]
    · rw [setF_not hL] at h1 ⊢
      exact hE.old k hk h1
  · rw [hplc] at h1
    have hL : k ∉ idxT F n := fun hL => by rw [setF_mem (by rw [h.len]; exact hk) hL] at h1; omega
    rw [setF_not hL] at h1
    obtain ⟨n', h2, h3, h4⟩ := hE.new k hk hbk h1
    refine ⟨n', h2, ?_, h4⟩
    rw [getD_setF, if_neg]
    · exact h3
    · rintro ⟨e, -⟩
      subst e
      exact hL (idxT_mem.2 ⟨by rw [hE.len]; exact hk, h4⟩)
  · refine hE.all n' hn' ?_
    rw [getD_setF] at hu'
    split at hu'
    · cases hu'
    · exact hu'
theorem leaf_iff {W T : Int} {bs : List Bool} {pss : List (List Ce)} {fill : List Int} {used : List Bool} (hf : FldF W T bs.length) (h : StF bs pss.length fill used) (hc : atF bs fill = bs.length) (F : List Int) :
    F ∈ (if true && !used.all id then [] else [fill]) ↔ ExF W bs pss fill used F := by
  have hno : ∀ k, k < bs.length → bs.getD k false = true → 0 ≤ fill.getD k 0 := fun k hk hb => by
    have := atF_f (bs := bs) (fill := fill) (k := k) (by omega)
    refine Classical.byContradiction fun h0 => ?_
    rw [freK_iff.2 ⟨hb, by omega⟩] at this
    cases this
  constructor
  · intro hF
    by_cases hu : used.all id = true
    · rw [hu] at hF
      simp only [Bool.not_true, Bool.and_false, Bool.false_eq_true, if_false, List.mem_singleton] at hF
      subst hF
      refine ⟨h.len, fun _ _ _ => rfl, fun k hk hb h0 => absurd (hno k hk hb) (by omega), fun k hk hb => ?_, fun n _ h1 => ?_⟩
      · rcases h.each k hk with h1 | ⟨h1, -⟩
        · exact h1
        · rw [hb] at h1; cases h1
      · rw [all_used.1 hu n] at h1; cases h1
    · rw [Bool.not_eq_true] at hu
      rw [hu] at hF
      simp at hF
  · intro hE
    have hFf : F = fill := by
      refine List.ext_getElem (by rw [hE.len, h.len]) fun k h1 h2 => ?_
      have hk : k < bs.length := by rw [← h.len]; exact h2
      have key : F.getD k 0 = fill.getD k 0 := by
        cases hb : bs.getD k false with
        | true => exact hE.old k hk (hno k hk hb)
        | false =>
          rw [hE.out k hk hb]
          rcases h.each k hk with h3 | ⟨h3, -⟩
          · exact h3.symm
          · rw [hb] at h3; cases h3
      rw [List.getD_eq_getElem?_getD, List.getD_eq_getElem?_getD, List.getElem?_eq_getElem h1, List.getElem?_eq_getElem h2] at key
      exact key
    have hall : used.all id = true := all_used.2 fun n => by
      cases hu : used.getD n true with
      | true => rfl
      | false =>
        exfalso
        have hn : n < pss.length := by
          rw [← h.ulen]
          refine Classical.byContradiction fun hn => ?_
          rw [List.getD_eq_getElem?_getD, List.getElem?_eq_none (by omega)] at hu
          cases hu
        have hfF : FldF W T F.length := by rw [hE.len]; exact hf
        obtain ⟨-, hq, -⟩ := form_of_same hfF (hE.all n hn hu)
        have hne := hq.ne
        rw [cells_idx] at hne
        cases hi : idxT F n with
        | nil => rw [hi] at hne; exact hne rfl
        | cons a l =>
          have ha : a ∈ idxT F n := by rw [hi]; simp
          obtain ⟨h1, h2⟩ := idxT_mem.1 ha
          rw [hFf] at h1 h2
          rcases h.each a (by rw [← h.len]; exact h1) with h3 | ⟨-, n', h3, h4, h5⟩
          · omega
          · obtain rfl : n' = n := by omega
            rw [hu] at h4; cases h4
    rw [hall, hFf]
    simp
/-- the search finds just what it is to find -/
theorem fills_iff {W T : Int} {bs : List Bool} {pss : List (List Ce)} (hf : FldF W T bs.length) (hp : ∀ n, n < pss.length → PieceOk (pss.getD n [])) :
    ∀ (m : Nat) (fill : List Int) (used : List Bool), StF bs pss.length fill used → unN used ≤ m → ∀ F, F ∈ fillsN W T bs pss true m fill used ↔ ExF W bs pss fill used F := by
  intro m
  induction m with
  | zero =>
    intro fill used h hu F
    unfold fillsN
    by_cases hc : atF bs fill = bs.length
    · rw [if_pos hc]; exact leaf_iff hf h hc F
    · rw [if_neg hc]
      refine ⟨fun h => (by cases h), fun hE => ?_⟩
      have hc' : atF bs fill < bs.length := by have := atF_le bs fill; omega
      obtain ⟨n, -, -, hun, -⟩ := ex_branch hf h hc' hE
      have := unN_pos hun
      omega
  | succ m ih =>
    intro fill used h hu F
    unfold fillsN
    by_cases hc : atF bs fill = bs.length
    · rw [if_pos hc]; exact leaf_iff hf h hc F
    · rw [if_neg hc]
      have hc' : atF bs fill < bs.length := by have := atF_le bs fill; omega
      constructor
      · intro hF
        rw [List.mem_flatMap] at hF
        obtain ⟨n, hn, hF⟩ := hF
        rw [List.mem_range] at hn
        cases hun : used.getD n true with
        | true => rw [hun] at hF; simp at hF
        | false =>
          rw [hun, if_neg (by simp), List.mem_flatMap] at hF
          obtain ⟨form, hform, hF⟩ := hF
          cases hfit : fitF W T bs fill (atF bs fill) form with
          | false => rw [hfit] at hF; simp at hF
          | true =>
            rw [hfit, if_pos rfl] at hF
            have hE := (ih _ _ (h.next hfit hn) (by have := unN_set hun; omega) F).1 hF
            exact (branch_ex hf (hp n hn) h hfit hn hun hform hE).1
      · intro hE
        obtain ⟨n, form, hn, hun, hform, hfit, hE'⟩ := ex_branch hf h hc' hE
        rw [List.mem_flatMap]
        refine ⟨n, List.mem_range.2 hn, ?_⟩
        rw [hun, if_neg (by simp), List.mem_flatMap]
        refine ⟨form, hform, ?_⟩
        rw [hfit, if_pos rfl]
        exact (ih _ _ (h.next hfit hn) (by have := unN_set hun; omega) F).2 hE'
/-- each once -/
theorem fills_nodup {W T : Int} {bs : List Bool} {pss : List (List Ce)} (hf : FldF W T bs.length) (hp : ∀ n, n < pss.length → PieceOk (pss.getD n [])) :
    ∀ (m : Nat) (fill : List Int) (used : List Bool), StF bs pss.length fill used → unN used ≤ m → (fillsN W T bs pss true m fill used).Nodup := by
  intro m
  induction m with
  | zero =>
    intro fill used h hu
    unfold fillsN
    split
    · split <;> simp
    · simp
  | succ m ih =>
    intro fill used h hu
    unfold fillsN
    split
    · split <;> simp
    · rename_i hc
      have hc' : atF bs fill < bs.length := by have := atF_le bs fill; omega
      obtain ⟨hb, h0⟩ := freK_iff.1 (atF_t hc')
      have inner : ∀ n form F, n < pss.length → used.getD n true = false → form ∈ formsV (pss.getD n []) → F ∈ (if fitF W T bs fill (atF bs fill) form then fillsN W T bs pss true m (setF fill (plcL W (atF bs fill) form) n) (used.set n true) else []) →
          mvd (cellsT W F n F.length) = form ∧ ∃ k, k < F.length ∧ k = atF bs fill ∧ F.getD k 0 = n := fun n form F hn hun hform hF => by
        cases hfit : fitF W T bs fill (atF bs fill) form with
        | false => rw [hfit] at hF; simp at hF
        | true =>
          rw [hfit, if_pos rfl] at hF
          have hE := (fills_iff hf hp _ _ _ (h.next hfit hn) (by have := unN_set hun; omega) F).1 hF
          obtain ⟨-, hm⟩ := branch_ex hf (hp n hn) h hfit hn hun hform hE
          refine ⟨hm, _, ?_, rfl, ?_⟩
          · rw [hE.len]; exact hc'
          · have hL : atF bs fill ∈ plcL W (atF bs fill) form := by
              have hne := (forms_of_form hform).2.ne
              cases form with
              | nil => exact absurd rfl hne
              | cons a l =>
                unfold plcL
                rw [List.map_cons]
                refine List.mem_cons.2 (.inl ?_)
                unfold fxC fyC
                simp only [List.headD_cons]
                have h5 := (hf.xy hc').2.2.2.2
                rw [show ((atF bs fill : Nat) : Int) / W + a.2 - a.2 = ((atF bs fill : Nat) : Int) / W by omega, show ((atF bs fill : Nat) : Int) % W + a.1 - a.1 = ((atF bs fill : Nat) : Int) % W by omega, h5, Int.toNat_natCast]
            exact (idxT_mem.1 ((branch_idx h hfit hn hun hE _).2 hL)).2
      unfold List.Nodup
      rw [List.pairwise_flatMap]
      refine ⟨fun n hn => ?_, ?_⟩
      · rw [List.mem_range] at hn
        cases hun : used.getD n true with
        | true => simp
        | false =>
          rw [if_neg (by simp), List.pairwise_flatMap]
          refine ⟨fun form hform => ?_, ?_⟩
          · cases hfit : fitF W T bs fill (atF bs fill) form with
            | false => simp
            | true =>
              rw [if_pos rfl]
              exact ih _ _ (h.next hfit hn) (by have := unN_set hun; omega)
          · have hnd : (formsV (pss.getD n [])).Nodup := by rw [formsV_ok (hp n hn)]; exact (incOf_inc _).nodup
            unfold List.Nodup at hnd
            refine List.Pairwise.imp_of_mem (fun {a b} ha hb hab x hx y hy e => ?_) hnd
            subst e
            exact hab ((inner n a x hn hun ha hx).1.symm.trans (inner n b x hn hun hb hy).1)
      · have hr : (List.range pss.length).Pairwise (· ≠ ·) := List.nodup_range
        refine List.Pairwise.imp_of_mem (fun {a b} ha hb hab x hx y hy e => ?_) hr
        subst e
        rw [List.mem_range] at ha hb
        have get : ∀ n, n < pss.length → x ∈ (if used.getD n true then [] else (formsV (pss.getD n [])).flatMap fun form =>
            if fitF W T bs fill (atF bs fill) form then fillsN W T bs pss true m (setF fill (plcL W (atF bs fill) form) n) (used.set n true) else []) → x.getD (atF bs fill) 0 = (n : Int) := fun n hn hx => by
          cases hun : used.getD n true with
          | true => rw [hun] at hx; simp at hx
          | false =>
            rw [hun, if_neg (by simp), List.mem_flatMap] at hx
            obtain ⟨form, hform, hx⟩ := hx
            obtain ⟨-, k, -, rfl, e⟩ := inner n form x hn hun hform hx
            exact e
        have e1 := get a ha hx
        have e2 := get b hb hy
        omega
end Go.Proofs.YtejkbjcmndnfeaaGreat

/- All ways to fill a region with pieces, plainly: how many there are; the search that does not look whether all pieces are used. -/
namespace Go.Proofs.YtejkbjcmndnfeaaGreat
open Go.RowKit Go.Sort

/-! ### Bounds -/
theorem flat_len {α β : Type} {l : List α} {f : α → List β} {b : Nat} (h : ∀ a ∈ l, (f a).length ≤ b) : (l.flatMap f).length ≤ l.length * b := by
  induction l with
  | nil => simp
  | cons a l ih =>
    have h1 := h a (by simp)
    have h2 := ih fun x hx => h x (by simp [hx])
    rw [List.flatMap_cons, List.length_append, List.length_cons, Nat.add_mul, Nat.one_mul]
    omega
theorem fills_len (W T : Int) (bs : List Bool) (pss : List (List Ce)) (chk : Bool) (h6 : pss.length ≤ 6) : ∀ (m : Nat) (fill : List Int) (used : List Bool), (fillsN W T bs pss chk m fill used).length ≤ 48 ^ m := by
  intro m
  induction m with
  | zero =>
    intro fill used
    unfold fillsN
    split
    · split <;> simp
    · simp
  | succ m ih =>
    intro fill used
    have hp : 1 ≤ 48 ^ m := Nat.one_le_pow _ _ (by omega)
    unfold fillsN
    split
    · split
      · simp
      · rw [List.length_singleton, Nat.pow_succ]; omega
    · refine Nat.le_trans (flat_len (b := 8 * 48 ^ m) fun n _ => ?_) ?_
      · split
        · simp
        · refine Nat.le_trans (flat_len (b := 48 ^ m) fun form _ => ?_) (Nat.mul_le_mul_right _ (formsV_len_le _))
          split
          · exact ih _ _
          · simp
      · rw [List.length_range, Nat.pow_succ]
        have := Nat.mul_le_mul_right (8 * 48 ^ m) h6
        omega
theorem fills_max (W T : Int) (bs : List Bool) (pss : List (List Ce)) (chk : Bool) (h6 : pss.length ≤ 6) {m : Nat} (hm : m ≤ 6) (fill : List Int) (used : List Bool) : (fillsN W T bs pss chk m fill used).length ≤ 12230590464 := by
  have h1 := fills_len W T bs pss chk h6 m fill used
  have h2 : 48 ^ m ≤ 48 ^ 6 := Nat.pow_le_pow_right (by omega) hm
  have h3 : (48 : Nat) ^ 6 = 12230590464 := by decide
  omega

/-! ### What is needed yet, and what is free -/
theorem cnt_set_eq (l : List Bool) (k : Nat) (hk : k < l.length) (h : l[k] = true) : cnt (l.set k false) + 1 = cnt l := by
  unfold cnt
  induction l generalizing k with
  | nil => simp at hk
  | cons a l ih =>
    cases k with
    | zero => simp at h; subst h; simp
    | succ k =>
      have := ih k (by simpa using hk) (by simpa using h)
      cases a <;> simp at this ⊢ <;> omega
theorem freF_set {bs : List Bool} {fill : List Int} {k : Nat} {v : Int} (hk : k < fill.length) (hv : 0 ≤ v) : freF bs (fill.set k v) = (freF bs fill).set k false := by
  refine List.ext_getElem (by rw [List.length_set, freF_len, freF_len]) fun j h1 h2 => ?_
  rw [List.getElem_set, freF_get h1]
  unfold freK
  rw [getD_setF]
  by_cases h : k = j
  · rw [if_pos ⟨h, hk⟩, if_pos h, decide_eq_false (by omega)]; simp
  · rw [if_neg (fun e => h e.1), if_neg h, freF_get]; rfl
theorem free_one {bs : List Bool} {fill : List Int} {k : Nat} {v : Int} (hk : k < fill.length) (hv : 0 ≤ v) (hf : freK bs fill k = true) : cnt (freF bs (fill.set k v)) + 1 = cnt (freF bs fill) := by
  rw [freF_set hk hv]
  have hkb := freK_lt hf
  exact cnt_set_eq _ _ (by rw [freF_len]; exact hkb) (by rw [freF_get]; exact hf)
theorem free_setF {bs : List Bool} {v : Int} (hv : 0 ≤ v) : ∀ (L : List Nat) (fill : List Int), fill.length = bs.length → L.Nodup → (∀ k ∈ L, freK bs fill k = true) → cnt (freF bs (setF fill L v)) + L.length = cnt (freF bs fill) := by
  intro L
  induction L with
  | nil => intro fill _ _ _; show cnt (freF bs fill) + ((0 : Nat) : Int) = _; omega
  | cons a L ih =>
    intro fill hl hn hf
    have hn' := List.nodup_cons.1 hn
    have hfa := hf a (by simp)
    have ha := freK_lt hfa
    have h1 := ih (fill.set a v) (by rw [List.length_set]; exact hl) hn'.2 (fun k hk => by
      have h2 := hf k (by simp [hk])
      have hne : ¬ a = k := fun e => hn'.1 (e ▸ hk)
      unfold freK at *
      rw [getD_setF, if_neg (fun e => hne e.1)]
      exact h2)
    have h2 := free_one (bs := bs) (fill := fill) (k := a) (v := v) (by omega) hv hfa
    have e : setF fill (a :: L) v = setF (fill.set a v) L v := rfl
    rw [e, List.length_cons]
    omega
theorem free_full {bs : List Bool} {fill : List Int} (hc : atF bs fill = bs.length) : cnt (freF bs fill) = 0 := by
  have h : ∀ b ∈ freF bs fill, b = false := fun b hb => by
    obtain ⟨k, hk, rfl⟩ := List.getElem_of_mem hb
    rw [freF_get]
    exact atF_f (by rw [freF_len] at hk; omega)
  unfold cnt
  have : (freF bs fill).filter id = [] := List.filter_eq_nil_iff.2 fun b hb => by rw [h b hb]; simp
  first
    | (rw [this]; rfl)
    | (simp only [List.countP_eq_length_filter]; rw [this]; rfl)
/-- cells of the pieces that are not used yet -/
def needU : List (List Ce) → List Bool → Nat
  | p :: ps, u :: us => (if u = true then 0 else p.length) + needU ps us
  | _, _ => 0
theorem need_set {pss : List (List Ce)} {used : List Bool} {n : Nat} (hn : n < pss.length) (hu : used.getD n true = false) : needU pss used = (pss.getD n []).length + needU pss (used.set n true) := by
  induction pss generalizing used n with
  | nil => simp at hn
  | cons p ps ih =>
    cases used with
    | nil => simp at hu
    | cons u us =>
      cases n with
      | zero =>
        rw [List.getD_cons_zero] at hu
        subst hu
        simp [needU]
      | succ n =>
        rw [List.getD_cons_succ] at hu
        have := ih (by simpa using hn) hu
        rw [List.set_cons_succ, List.getD_cons_succ]
        unfold needU
        omega
theorem need_used {pss : List (List Ce)} {used : List Bool} (hl : used.length = pss.length) (hp : ∀ n, n < pss.length → 0 < (pss.getD n []).length) (h : needU pss used = 0) : used.all id = true := by
  refine all_used.2 fun n => ?_
  cases hu : used.getD n true with
  | true => rfl
  | false =>
    have hn : n < pss.length := by
      rw [← hl]
      refine Classical.byContradiction fun hn => ?_
      rw [List.getD_eq_getElem?_getD, List.getElem?_eq_none (by omega)] at hu
      cases hu
    have := need_set hn hu
    have := hp n hn
    omega
theorem used_need {pss : List (List Ce)} {used : List Bool} (h : used.all id = true) : needU pss used = 0 := by
  induction pss generalizing used with
  | nil => cases used <;> rfl
  | cons p ps ih =>
    cases used with
    | nil => rfl
    | cons u us =>
      rw [List.all_cons, Bool.and_eq_true] at h
      have h1 : u = true := h.1
      subst h1
      unfold needU
      rw [ih h.2]; simp
theorem form_len {p x : List Ce} (h : x ∈ formsV p) : x.length = p.length := (formsV_each h).1
/-- where as many cells are free as are needed, a full list has used all pieces -/
theorem fills_chk {W T : Int} {bs : List Bool} {pss : List (List Ce)} (hf : FldF W T bs.length) (hp : ∀ n, n < pss.length → PieceOk (pss.getD n [])) :
    ∀ (m : Nat) (fill : List Int) (used : List Bool), StF bs pss.length fill used → (needU pss used : Int) = cnt (freF bs fill) → fillsN W T bs pss false m fill used = fillsN W T bs pss true m fill used := by
  have leaf : ∀ (fill : List Int) (used : List Bool), StF bs pss.length fill used → (needU pss used : Int) = cnt (freF bs fill) → atF bs fill = bs.length →
      (if false && !used.all id then ([] : List (List Int)) else [fill]) = (if true && !used.all id then [] else [fill]) := fun fill used h he hc => by
    have h0 := free_full hc
    rw [need_used h.ulen (fun n hn => by have := (hp n hn).1.1; omega) (show needU pss used = 0 by omega)]
    rfl
  intro m
  induction m with
  | zero =>
    intro fill used h he
    unfold fillsN
    by_cases hc : atF bs fill = bs.length
    · rw [if_pos hc, if_pos hc]; exact leaf fill used h he hc
    · rw [if_neg hc, if_neg hc]
  | succ m ih =>
    intro fill used h he
    unfold fillsN
    by_cases hc : atF bs fill = bs.length
    · rw [if_pos hc, if_pos hc]; exact leaf fill used h he hc
    · rw [if_neg hc, if_neg hc]
      have key : ∀ n ∈ List.range pss.length, (if used.getD n true then [] else (formsV (pss.getD n [])).flatMap fun form => if fitF W T bs fill (atF bs fill) form then fillsN W T bs pss false m (setF fill (plcL W (atF bs fill) form) n) (used.set n true) else []) =
          (if used.getD n true then [] else (formsV (pss.getD n [])).flatMap fun form => if fitF W T bs fill (atF bs fill) form then fillsN W T bs pss true m (setF fill (plcL W (atF bs fill) form) n) (used.set n true) else []) := fun n hn => by
        rw [List.mem_range] at hn
        cases hu : used.getD n true with
        | true => rfl
        | false =>
          rw [if_neg (by simp), if_neg (by simp)]
          have key2 : ∀ form ∈ formsV (pss.getD n []), (if fitF W T bs fill (atF bs fill) form then fillsN W T bs pss false m (setF fill (plcL W (atF bs fill) form) n) (used.set n true) else []) = (if fitF W T bs fill (atF bs fill) form then fillsN W T bs pss true m (setF fill (plcL W (atF bs fill) form) n) (used.set n true) else []) := fun form hx => by
            cases hfit : fitF W T bs fill (atF bs fill) form with
            | false => rfl
            | true =>
              rw [if_pos rfl, if_pos rfl]
              refine ih _ _ (h.next hfit hn) ?_
              have h1 := need_set hn hu
              have h2 := free_setF (bs := bs) (v := (n : Int)) (by omega) (plcL W (atF bs fill) form) fill h.len (plc_nodup hf hfit (forms_of_form hx).2.2.2.1) (fun k hk => plc_free hfit hk)
              have h3 : (plcL W (atF bs fill) form).length = (pss.getD n []).length := by unfold plcL; rw [List.length_map, form_len hx]
              omega
          rw [List.flatMap_def, List.flatMap_def, List.map_congr_left key2]
      rw [List.flatMap_def, List.flatMap_def, List.map_congr_left key]
/-- a list that is found: as many cells are free as are needed -/
theorem fills_need {W T : Int} {bs : List Bool} {pss : List (List Ce)} (hf : FldF W T bs.length) :
    ∀ (m : Nat) (fill : List Int) (used : List Bool), StF bs pss.length fill used → ∀ F, F ∈ fillsN W T bs pss true m fill used → (needU pss used : Int) = cnt (freF bs fill) := by
  have leaf : ∀ (fill : List Int) (used : List Bool) (F : List Int), atF bs fill = bs.length → F ∈ (if true && !used.all id then [] else [fill]) → (needU pss used : Int) = cnt (freF bs fill) := fun fill used F hc hF => by
    have h0 := free_full hc
    cases hu : used.all id with
    | false => rw [hu] at hF; simp at hF
    | true => rw [h0, used_need hu]; rfl
  intro m
  induction m with
  | zero =>
    intro fill used h F hF
    unfold fillsN at hF
    by_cases hc : atF bs fill = bs.length
    · rw [if_pos hc] at hF; exact leaf fill used F hc hF
    · rw [if_neg hc] at hF; cases hF
  | succ m ih =>
    intro fill used h F hF
    unfold fillsN at hF
    by_cases hc : atF bs fill = bs.length
    · rw [if_pos hc] at hF; exact leaf fill used F hc hF
    · rw [if_neg hc, List.mem_flatMap] at hF
      obtain ⟨n, hn, hF⟩ := hF
      rw [List.mem_range] at hn
      cases hu : used.getD n true with
      | true => rw [hu] at hF; simp at hF
      | false =>
        rw [hu, if_neg (by simp), List.mem_flatMap] at hF
        obtain ⟨form, hx, hF⟩ := hF
        cases hfit : fitF W T bs fill (atF bs fill) form with
        | false => rw [hfit] at hF; simp at hF
        | true =>
          rw [hfit, if_pos rfl] at hF
          have h0 := ih _ _ (h.next hfit hn) F hF
          have h1 := need_set hn hu
          have h2 := free_setF (bs := bs) (v := (n : Int)) (by omega) (plcL W (atF bs fill) form) fill h.len (plc_nodup hf hfit (forms_of_form hx).2.2.2.1) (fun k hk => plc_free hfit hk)
          have h3 : (plcL W (atF bs fill) form).length = (pss.getD n []).length := by unfold plcL; rw [List.length_map, form_len hx]
          omega

/-! ### From the start -/
def fill0 (n : Nat) : List Int := List.replicate n (-1)
def used0 (P : Nat) : List Bool := List.replicate P false
noncomputable def fillsV (W T : Int) (bs : List Bool) (pss : List (List Ce)) : List (List Int) := fillsN W T bs pss true pss.length (fill0 bs.length) (used0 pss.length)
theorem getD_rep {α : Type} {n k : Nat} {v d : α} : (List.replicate n v).getD k d = if k < n then v else d := by
  rw [List.getD_eq_getElem?_getD, List.getElem?_replicate]
  split <;> rfl
theorem st_0 (bs : List Bool) (P : Nat) : StF bs P (fill0 bs.length) (used0 P) := ⟨by unfold fill0; simp, by unfold used0; simp, fun k hk => .inl (by unfold fill0; rw [getD_rep, if_pos hk])⟩
theorem unN_0 (P : Nat) : unN (used0 P) = P := by
  unfold unN used0
  rw [List.filter_eq_self.2 (fun b hb => by rw [List.eq_of_mem_replicate hb]; rfl), List.length_replicate]
theorem fre_0 (bs : List Bool) : freF bs (fill0 bs.length) = bs := by
  refine List.ext_getElem (freF_len _ _) fun k h1 h2 => ?_
  rw [freF_get]
  unfold freK fill0
  rw [getD_rep, if_pos h2, List.getD_eq_getElem?_getD, List.getElem?_eq_getElem h2]
  simp
theorem need_0 (pss : List (List Ce)) : needU pss (used0 pss.length) = (pss.map List.length).sum := by
  induction pss with
  | nil => rfl
  | cons p ps ih =>
    have e : used0 (p :: ps).length = false :: used0 ps.length := by unfold used0; rw [List.length_cons, List.replicate_succ]
    rw [e]
    unfold needU
    rw [ih]; simp
/-- a list fills a region exactly if the search finds it -/
theorem fillsV_mem {W T : Int} {bs : List Bool} {pss : List (List Ce)} (hf : FldF W T bs.length) (hp : ∀ n, n < pss.length → PieceOk (pss.getD n [])) (F : List Int) : F ∈ fillsV W T bs pss ↔ F.length = bs.length ∧ fillB W bs pss F = true := by
  unfold fillsV
  rw [fills_iff hf hp _ _ _ (st_0 bs _) (by rw [unN_0]; exact Nat.le_refl _)]
  have hbd : ∀ k, k < bs.length → (fill0 bs.length).getD k 0 = -1 := fun k hk => by unfold fill0; rw [getD_rep, if_pos hk]
  have hud : ∀ n, n < pss.length → (used0 pss.length).getD n true = false := fun n hn => by unfold used0; rw [getD_rep, if_pos hn]
  have hg : ∀ k (h : k < bs.length), bs.getD k false = bs[k] := fun k h => by rw [List.getD_eq_getElem?_getD, List.getElem?_eq_getElem h]; rfl
  have hG : ∀ k (h : k < F.length), F.getD k 0 = F[k] := fun k h => by rw [List.getD_eq_getElem?_getD, List.getElem?_eq_getElem h]; rfl
  have hP : ∀ n (h : n < pss.length), pss.getD n [] = pss[n] := fun n h => by rw [List.getD_eq_getElem?_getD, List.getElem?_eq_getElem h]; rfl
  constructor
  · intro hE
    refine ⟨hE.len, fillB_t (fun k hk hk2 => ⟨fun hb => ?_, fun hb => ?_⟩) (fun n hn => ?_)⟩
    · obtain ⟨n, h1, h2, h3⟩ := hE.new k hk (by rw [hg k hk]; exact hb) (by rw [hbd k hk]; omega)
      rw [hG k hk2] at h3
      omega
    · have := hE.out k hk (by rw [hg k hk]; exact hb)
      rw [hG k hk2] at this
      exact this
    · have := hE.all n hn (hud n hn)
      rw [hP n hn] at this
      exact this
  · rintro ⟨hl, hB⟩
    unfold fillB at hB
    obtain ⟨h1, h2⟩ := @of_decide_eq_true _ (Classical.propDecidable _) hB
    refine ⟨hl, fun k hk h0 => ?_, fun k hk hb _ => ?_, fun k hk hb => ?_, fun n hn _ => ?_⟩
    · rw [hbd k hk] at h0; omega
    · have hk2 : k < F.length := by omega
      rw [hg k hk] at hb
      obtain ⟨a, b⟩ := (h1 k hk hk2).1 hb
      obtain ⟨n, e⟩ := Int.eq_ofNat_of_zero_le a
      exact ⟨n, by omega, hud n (by omega), by rw [hG k hk2]; exact e⟩
    · have hk2 : k < F.length := by omega
      rw [hg k hk] at hb
      rw [hG k hk2]
      exact (h1 k hk hk2).2 hb
    · rw [hP n hn]; exact h2 n hn
theorem fillsV_nodup {W T : Int} {bs : List Bool} {pss : List (List Ce)} (hf : FldF W T bs.length) (hp : ∀ n, n < pss.length → PieceOk (pss.getD n [])) : (fillsV W T bs pss).Nodup :=
  fills_nodup hf hp _ _ _ (st_0 bs _) (by rw [unN_0]; exact Nat.le_refl _)
theorem fillsV_sum {W T : Int} {bs : List Bool} {pss : List (List Ce)} (hf : FldF W T bs.length) {F : List Int} (h : F ∈ fillsV W T bs pss) : ((pss.map List.length).sum : Int) = cnt bs := by
  have := fills_need hf _ _ _ (st_0 bs _) F h
  rw [fre_0, need_0] at this
  exact this
theorem fillsV_none {W T : Int} {bs : List Bool} {pss : List (List Ce)} (hf : FldF W T bs.length) (h : ((pss.map List.length).sum : Int) ≠ cnt bs) : fillsV W T bs pss = [] := by
  cases e : fillsV W T bs pss with
  | nil => rfl
  | cons F l => exact absurd (fillsV_sum hf (F := F) (by rw [e]; simp)) h
theorem fillsV_chk {W T : Int} {bs : List Bool} {pss : List (List Ce)} (hf : FldF W T bs.length) (hp : ∀ n, n < pss.length → PieceOk (pss.getD n [])) (h : ((pss.map List.length).sum : Int) = cnt bs) : fillsN W T bs pss false pss.length (fill0 bs.length) (used0 pss.length) = fillsV W T bs pss :=
  fills_chk hf hp _ _ _ (st_0 bs _) (by rw [need_0, fre_0]; exact h)
end Go.Proofs.YtejkbjcmndnfeaaGreat

/- Lists of lists of numbers that grow: what is appended, and what stays. -/
namespace Go.Proofs.YtejkbjcmndnfeaaGreat
open Go.RowKit

theorem Tryz.infoSI : (Tryz.prog.info? 27).map (fun i => (i.zero, i.size, i.bytes)) = some (some (.slice none 0 0), 1, 24) := by kernel_rfl
theorem offI (b off n : Nat) : (⟨b, off, none⟩ : Addr).add n = ⟨b, off + n, none⟩ := by unfold Addr.add; split <;> simp_all
/-- a list of heads of the call's own -/
def OwnL (w : World) (base : Nat) (v : Value) (xs : List Value) : Prop :=
  ∃ (A : Option Addr) (c : Nat), v = .slice A xs.length c ∧ w.ownsRow base 27 1 v xs.length xs
/-- a head reads as numbers -/
def HeadI (w : World) (x : Value) (ns : List Int) : Prop := ∃ (B : Option Addr) (c : Nat), x = .slice B ns.length c ∧ ns.length ≤ c ∧ ns.length ≤ 1000000 ∧ Rd w B (ns.map (.int .i64))
def HeadsI (w : World) (xs : List Value) (fs : List (List Int)) : Prop := xs.length = fs.length ∧ ∀ k (h : k < fs.length) (hx : k < xs.length), HeadI w xs[k] fs[k]
theorem HeadsI.nil (w : World) : HeadsI w [] [] := ⟨rfl, fun k h => by simp at h⟩
theorem HeadsI.app {w : World} {xs ys : List Value} {P R : List (List Int)} (h : HeadsI w xs P) (k : HeadsI w ys R) : HeadsI w (xs ++ ys) (P ++ R) := by
  have h1 := h.1
  have k1 := k.1
  refine ⟨by rw [List.length_append, List.length_append, h1, k1], fun j hj hx => ?_⟩
  rcases Nat.lt_or_ge j P.length with h2 | h2
  · rw [List.getElem_append_left h2, List.getElem_append_left (by omega)]
    exact h.2 _ _ _
  · rw [List.getElem_append_right h2, List.getElem_append_right (by omega)]
    have := k.2 (j - P.length) (by rw [List.length_append] at hj; omega) (by rw [List.length_append] at hx; omega)
    simp only [h1]
    exact this
theorem HeadsI.one {w : World} {x : Value} {ns : List Int} (h : HeadI w x ns) : HeadsI w [x] [ns] := ⟨rfl, fun k h1 h2 => by
  match k, h1 with
  | 0, _ => exact h⟩
theorem HeadsI.cell {w : World} {xs : List Value} {fs : List (List Int)} (h : HeadsI w xs fs) : ∀ u ∈ xs, u.oneCell' = true := fun u hu => by
  obtain ⟨k, hk, rfl⟩ := List.getElem_of_mem hu
  obtain ⟨B, c, e, -⟩ := h.2 k (by rw [← h.1]; exact hk) hk
  rw [e]; rfl
/-- where the heads' lists lie -/
def AtL (xs : List Value) (b : Nat) : Prop := ∃ (k : Nat) (ad : Addr) (n c : Nat), xs[k]? = some (Value.slice (some ad) n c) ∧ ad.block = b
theorem HeadsI.keep {w w' : World} {xs : List Value} {fs : List (List Int)} (h : HeadsI w xs fs) (hk : ∀ b, AtL xs b → w'.heap[b]? = w.heap[b]?) : HeadsI w' xs fs :=
  ⟨h.1, fun k h1 h2 => by
    obtain ⟨B, c, e, a1, a2, a3⟩ := h.2 k h1 h2
    refine ⟨B, c, e, a1, a2, fun hne => ?_⟩
    obtain ⟨ad, e2, hc⟩ := a3 hne
    refine ⟨ad, e2, fun j u hu => ?_⟩
    have hb := hk ad.block ⟨k, ad, fs[k].length, c, by rw [List.getElem?_eq_getElem h2, e, e2], rfl⟩
    have hcj := hc j u hu
    have hz : (ad.add j).block = ad.block := by unfold Addr.add; split <;> rfl
    generalize ad.add j = aj at hcj hz ⊢
    obtain ⟨b9, o9, s9⟩ := aj
    have hs := World.cell?_spot hcj
    simp only at hs hz
    subst hs
    rw [← hz] at hb
    rw [World.cell?_of_block hb]; exact hcj⟩
theorem HeadsI.belo {w w' : World} {xs : List Value} {fs : List (List Int)} (h : HeadsI w xs fs) (hb : Below w.heap.size w w') : HeadsI w' xs fs :=
  ⟨h.1, fun k h1 h2 => by obtain ⟨B, c, e, a1, a2, a3⟩ := h.2 k h1 h2; exact ⟨B, c, e, a1, a2, Rd.belo a3 hb⟩⟩
/-- a slice of heads that reads as lists of numbers -/
def RdLL (w : World) (A : Option Addr) (fs : List (List Int)) : Prop := ∃ xs, Rd w A xs ∧ HeadsI w xs fs
theorem RdLL.belo {w w' : World} {A : Option Addr} {fs : List (List Int)} (h : RdLL w A fs) (hb : Below w.heap.size w w') : RdLL w' A fs := by
  obtain ⟨xs, h1, h2⟩ := h; exact ⟨xs, h1.belo hb, h2.belo hb⟩
theorem RdLL.at_ {w : World} {A : Option Addr} {fs : List (List Int)} (h : RdLL w A fs) {k : Nat} (hk : k < fs.length) :
    ∃ (b off : Nat) (B : Option Addr) (c : Nat), A = some ⟨b, off, none⟩ ∧ w.cell? ⟨b, off + k, none⟩ = some (.slice B fs[k].length c) ∧ fs[k].length ≤ c ∧ fs[k].length ≤ 1000000 ∧ Rd w B (fs[k].map (.int .i64)) := by
  obtain ⟨xs, h1, h2⟩ := h
  have hx : k < xs.length := by rw [h2.1]; exact hk
  obtain ⟨B, c, e, a1, a2, a3⟩ := h2.2 k hk hx
  obtain ⟨b, off, e2, hc⟩ := h1.atE hx
  exact ⟨b, off, B, c, e2, by rw [hc, e], a1, a2, a3⟩
section
variable {ops : Array Oper} {rest : List Oper} {o : Oper} {a : Act} {Q : Exit → Act → World → Prop}
/-- heads appended to a list of heads of its own -/
theorem opw_headsL {K : Act → World → Prop} (W : World) (s x : Operand) (ho : o.op = .call { callee := .builtin .append, args := #[s, x], argTypes := #[33, 33] })
    (base : Nat) (v : Value) (xs : List Value) (hs : a.eval s = v) (hown : OwnL W base v xs) (ad : Addr) (n c : Nat) (ys : List Value) (hx : a.eval x = .slice (some ad) n c) (hl : ys.length = n) (hq : ∀ j u, ys[j]? = some u → W.cell? (ad.add j) = some u) (h1 : ∀ u ∈ ys, u.oneCell' = true) (hm : xs.length + n ≤ 1000000000000) (hbase : base ≤ W.heap.size)
    (h : ∀ v' w', OwnL w' base v' (xs ++ ys) → W.grownBy w' v.ownBlock → (v'.ownBlock = v.ownBlock ∨ v'.ownBlock = some W.heap.size) → K (a.put o.dst v') w') : Oper.wp Tryz.prog o a W K Q := by
  obtain ⟨i0, hi, hz0, hz1, hz2⟩ := info_parts Tryz.infoSI
  obtain ⟨A, c', e, hown⟩ := hown
  obtain ⟨v', w', hr, h2, h3, _, h5⟩ := run_append_own_at (P := Tryz.prog) W base 33 o.type 27 i0 _ 1 24 Tryz.underlying33 hi hz0 hz1 hz2 rfl (by decide) v xs.length xs hown ad n c ys (by omega) hq h1 (by unfold maxLen; omega) (by omega) hbase
  unfold Oper.wp execOp
  simp only [ho, resolve, invoke, builtin, Sem.run_bind, Sem.run_pure, Result.andThen_ok, List.map_toArray, List.map_cons, List.map_nil, hs, hx, hr]
  refine h v' w' ?_ h3 h5
  have hlen : (xs ++ ys).length = xs.length + n := by rw [List.length_append, hl]
  rcases h2.2 with ⟨e1, e2⟩ | ⟨g, cap, cur, e1, _⟩
  · subst e1
    have hnil : xs ++ ys = [] := List.eq_nil_of_length_eq_zero (by omega)
    rw [hnil]
    exact ⟨none, 0, rfl, World.ownsRow_nil _ _ _ _⟩
  · subst e1
    exact ⟨_, cap, by rw [hlen], by rw [hlen]; exact h2⟩
theorem wpList_headsL (W : World) (hgd : o.guard = none) (s x : Operand) (ho : o.op = .call { callee := .builtin .append, args := #[s, x], argTypes := #[33, 33] })
    (base : Nat) (v : Value) (xs : List Value) (hs : a.eval s = v) (hown : OwnL W base v xs) (ad : Addr) (n c : Nat) (ys : List Value) (hx : a.eval x = .slice (some ad) n c) (hl : ys.length = n) (hq : ∀ j u, ys[j]? = some u → W.cell? (ad.add j) = some u) (h1 : ∀ u ∈ ys, u.oneCell' = true) (hm : xs.length + n ≤ 1000000000000) (hbase : base ≤ W.heap.size)
    (h : ∀ v' w', OwnL w' base v' (xs ++ ys) → W.grownBy w' v.ownBlock → (v'.ownBlock = v.ownBlock ∨ v'.ownBlock = some W.heap.size) → wpList Tryz.prog ops Q rest (a.put o.dst v') w') : wpList Tryz.prog ops Q (o :: rest) a W :=
  wpList_plain hgd fun _ hK => opw_headsL W s x ho base v xs hs hown ad n c ys hx hl hq h1 hm hbase fun v' w' k1 k2 k3 => hK _ _ (h v' w' k1 k2 k3)
theorem step_headsL {K : Act → World → Prop} {E : Prop} (W : World) (hgd : o.guard = none) (s x : Operand) (ho : o.op = .call { callee := .builtin .append, args := #[s, x], argTypes := #[33, 33] })
    (base : Nat) (v : Value) (xs : List Value) (hs : a.eval s = v) (hown : OwnL W base v xs) (ad : Addr) (n c : Nat) (ys : List Value) (hx : a.eval x = .slice (some ad) n c) (hl : ys.length = n) (hq : ∀ j u, ys[j]? = some u → W.cell? (ad.add j) = some u) (h1 : ∀ u ∈ ys, u.oneCell' = true) (hm : xs.length + n ≤ 1000000000000) (hbase : base ≤ W.heap.size)
    (h : ∀ v' w', OwnL w' base v' (xs ++ ys) → W.grownBy w' v.ownBlock → (v'.ownBlock = v.ownBlock ∨ v'.ownBlock = some W.heap.size) → K (a.put o.dst v') w') :
    if Region.wanted o (yielded ops a.tmps) = true then Oper.wp Tryz.prog o a W K Q else E := by
  have hw : Region.wanted o (yielded ops a.tmps) = true := by simp [Region.wanted, hgd]
  rw [if_pos hw]
  exact opw_headsL W s x ho base v xs hs hown ad n c ys hx hl hq h1 hm hbase h
end
/-! ### A list that grows -/
structure GrL (w : World) (base : Nat) (v : Value) (xs : List Value) (fs : List (List Int)) : Prop where
  own : OwnL w base v xs
  hd : HeadsI w xs fs
  pt : ∀ b, AtL xs b → b < w.heap.size ∧ v.ownBlock ≠ some b
theorem OwnL.lt {w : World} {base : Nat} {v : Value} {xs : List Value} (h : OwnL w base v xs) : ∀ k, v.ownBlock = some k → base ≤ k ∧ k < w.heap.size := by
  obtain ⟨A, c, e, o⟩ := h
  exact o.lt
theorem OwnL.keep {w w' : World} {base : Nat} {v : Value} {xs : List Value} (h : OwnL w base v xs) (hk : ∀ b, v.ownBlock = some b → w'.heap[b]? = w.heap[b]?) : OwnL w' base v xs := by
  obtain ⟨A, c, e, o⟩ := h
  refine ⟨A, c, e, o.1, ?_⟩
  rcases o.2 with h1 | ⟨g, cap, cur, hv, h1⟩
  · exact .inl h1
  · refine .inr ⟨g, cap, cur, hv, ?_⟩
    have := hk g (by rw [hv]; rfl)
    obtain ⟨a1, a2, a3⟩ := h1
    exact ⟨a1, by rw [this]; exact a2, a3⟩
theorem AtL.nil {b : Nat} : ¬ AtL [] b := fun ⟨k, ad, n, c, e, _⟩ => by simp at e
theorem AtL.app {xs ys : List Value} {b : Nat} (h : AtL (xs ++ ys) b) : AtL xs b ∨ AtL ys b := by
  obtain ⟨k, ad, n, c, e, hb⟩ := h
  rcases Nat.lt_or_ge k xs.length with h1 | h1
  · rw [List.getElem?_append_left h1] at e; exact .inl ⟨k, ad, n, c, e, hb⟩
  · rw [List.getElem?_append_right h1] at e; exact .inr ⟨_, ad, n, c, e, hb⟩
theorem AtL.one {B : Option Addr} {n c b : Nat} (h : AtL [.slice B n c] b) : ∃ ad, B = some ad ∧ ad.block = b := by
  obtain ⟨k, ad, n', c', e, hb⟩ := h
  match k, e with
  | 0, e => injection e with e; injection e with e1 _ _; exact ⟨ad, e1, hb⟩
theorem GrL.keep {w w' : World} {base : Nat} {v : Value} {xs : List Value} {fs : List (List Int)} (h : GrL w base v xs fs) (hs : w.heap.size ≤ w'.heap.size) (h1 : ∀ b, v.ownBlock = some b → w'.heap[b]? = w.heap[b]?) (h2 : ∀ b, AtL xs b → w'.heap[b]? = w.heap[b]?) : GrL w' base v xs fs :=
  ⟨h.own.keep h1, h.hd.keep h2, fun b hb => by have := h.pt b hb; exact ⟨by omega, this.2⟩⟩
theorem GrL.belo {w w' : World} {base : Nat} {v : Value} {xs : List Value} {fs : List (List Int)} (h : GrL w base v xs fs) (hb : Below w.heap.size w w') : GrL w' base v xs fs :=
  h.keep hb.size (fun b e => hb.block b (h.own.lt b e).2) (fun b e => hb.block b (h.pt b e).1)
/-- behind an append -/
theorem GrL.app {w w' : World} {base : Nat} {v v' : Value} {xs ys : List Value} {fs gs : List (List Int)} (h : GrL w base v xs fs) (hy : HeadsI w ys gs) (hp : ∀ b, AtL ys b → b < w.heap.size ∧ v.ownBlock ≠ some b)
    (ho : OwnL w' base v' (xs ++ ys)) (hg : w.grownBy w' v.ownBlock) (hv : v'.ownBlock = v.ownBlock ∨ v'.ownBlock = some w.heap.size) : GrL w' base v' (xs ++ ys) (fs ++ gs) := by
  have hpt : ∀ b, AtL (xs ++ ys) b → b < w.heap.size ∧ v.ownBlock ≠ some b := fun b hb => by
    rcases hb.app with e | e
    · exact h.pt b e
    · exact hp b e
  refine ⟨ho, (h.hd.app hy).keep fun b hb => ?_, fun b hb => ?_⟩
  · obtain ⟨a1, a2⟩ := hpt b hb
    exact hg.block b a1 (fun e => a2 e.symm)
  · obtain ⟨a1, a2⟩ := hpt b hb
    have := hg.size
    refine ⟨by omega, fun e => ?_⟩
    rcases hv with e1 | e1
    · rw [e1] at e; exact a2 e
    · rw [e1] at e; injection e with e; omega
theorem GrL.nil (w : World) (base : Nat) : GrL w base (.slice none 0 0) [] [] := ⟨⟨none, 0, rfl, World.ownsRow_nil _ _ _ _⟩, HeadsI.nil w, fun _ hb => absurd hb AtL.nil⟩
theorem GrL.form {w : World} {base : Nat} {v : Value} {xs : List Value} {fs : List (List Int)} (h : GrL w base v xs fs) : ∃ (A : Option Addr) (c : Nat), v = .slice A fs.length c ∧ fs.length ≤ c ∧ RdLL w A fs ∧ (∀ ad, A = some ad → base ≤ ad.block) := by
  have hl := h.hd.1
  obtain ⟨A, c, e, o⟩ := id h.own
  refine ⟨A, c, by rw [e, hl], ?_, ⟨xs, ?_, h.hd⟩, fun ad ha => ?_⟩
  · rcases o.2 with ⟨e1, e2⟩ | ⟨g, cap, cur, hv, _, _, h3, _⟩
    · omega
    · rw [e] at hv; injection hv with _ _ e3; omega
  · rw [e] at o; exact Rd.own o
  · have := (h.own.lt ad.block (by rw [e, ha]; rfl)).1
    exact this
/-- a new list of lists of numbers -/
def NewLL (fs : List (List Int)) (w : World) (e : Ending) (w' : World) : Prop :=
  ∃ (A : Option Addr) (c : Nat), e = .returned (.slice A fs.length c) ∧ fs.length ≤ c ∧ RdLL w' A fs ∧ Below w.heap.size w w'
end Go.Proofs.YtejkbjcmndnfeaaGreat

/- Lists of numbers, each in a block of its own. -/
namespace Go.Proofs.YtejkbjcmndnfeaaGreat
open Go.RowKit

def RowsI (w : World) (lo : Nat) (xs : List Value) (L : List (List Int)) : Prop :=
  xs.length = L.length ∧ ∀ k (h : k < L.length), ∃ gk nk, xs[k]? = some (.slice (some ⟨gk, 0, none⟩) nk nk) ∧ L[k].length = nk ∧ Wr w lo 3 (some ⟨gk, 0, none⟩) (L[k].map (.int .i64)) ∧ gk < w.heap.size ∧ ∀ j, j < k → ∀ gj n c, xs[j]? = some (.slice (some ⟨gj, 0, none⟩) n c) → gj < gk
theorem RowsI.nil (w : World) (lo : Nat) : RowsI w lo [] [] := ⟨rfl, fun k h => by simp at h⟩
theorem RowsI.keep {w w' : World} {lo : Nat} {xs : List Value} {L : List (List Int)} (h : RowsI w lo xs L) (hs : w.heap.size ≤ w'.heap.size) (hk : ∀ b, AtL xs b → w'.heap[b]? = w.heap[b]?) : RowsI w' lo xs L :=
  ⟨h.1, fun k hkl => by
    obtain ⟨gk, nk, a1, a2, a3, a4, a5⟩ := h.2 k hkl
    exact ⟨gk, nk, a1, a2, a3.keep (fun q hq _ => by injection hq with hq; injection hq with hq; subst hq; exact hk gk ⟨k, _, _, _, a1, rfl⟩), Nat.lt_of_lt_of_le a4 hs, a5⟩⟩
theorem RowsI.belo {w w' : World} {lo : Nat} {xs : List Value} {L : List (List Int)} (h : RowsI w lo xs L) (hb : Below w.heap.size w w') : RowsI w' lo xs L :=
  ⟨h.1, fun k hkl => by
    obtain ⟨gk, nk, a1, a2, a3, a4, a5⟩ := h.2 k hkl
    exact ⟨gk, nk, a1, a2, a3.belo hb, Nat.lt_of_lt_of_le a4 hb.size, a5⟩⟩
theorem RowsI.lower {w : World} {lo lo' : Nat} {xs : List Value} {L : List (List Int)} (h : RowsI w lo xs L) (hl : lo' ≤ lo) : RowsI w lo' xs L :=
  ⟨h.1, fun k hkl => by
    obtain ⟨gk, nk, a1, a2, a3, a4, a5⟩ := h.2 k hkl
    exact ⟨gk, nk, a1, a2, a3.lower hl, a4, a5⟩⟩
/-- a further row, in a newer block -/
theorem RowsI.snoc {w : World} {lo : Nat} {xs : List Value} {L : List (List Int)} (h : RowsI w lo xs L) {g n : Nat} {r : List Int} (hr : r.length = n) (hw : Wr w lo 3 (some ⟨g, 0, none⟩) (r.map (.int .i64))) (hg : g < w.heap.size) (hn : ∀ b, AtL xs b → b < g) : RowsI w lo (xs ++ [.slice (some ⟨g, 0, none⟩) n n]) (L ++ [r]) := by
  have hl := h.1
  refine ⟨by simp [hl], fun k hkl => ?_⟩
  rw [List.length_append, List.length_singleton] at hkl
  rcases Nat.lt_or_ge k L.length with h1 | h1
  · obtain ⟨gk, nk, a1, a2, a3, a4, a5⟩ := h.2 k h1
    refine ⟨gk, nk, by rw [List.getElem?_append_left (by omega)]; exact a1, by rw [List.getElem_append_left h1]; exact a2, by rw [List.getElem_append_left h1]; exact a3, a4, fun j hj gj n' c' e => ?_⟩
    rw [List.getElem?_append_left (by omega)] at e
    exact a5 j hj gj n' c' e
  · obtain rfl : k = L.length := by omega
    refine ⟨g, n, by rw [List.getElem?_append_right (by omega), hl, Nat.sub_self]; rfl, by rw [List.getElem_append_right (by omega)]; simpa using hr, by rw [List.getElem_append_right (by omega)]; simpa using hw, hg, fun j hj gj n' c' e => ?_⟩
    rw [List.getElem?_append_left (by omega)] at e
    exact hn gj ⟨j, _, _, _, e, rfl⟩
/-- a new list of lists, each in a block of its own -/
def NewRI (fs : List (List Int)) (w : World) (e : Ending) (w' : World) : Prop :=
  ∃ (A : Option Addr) (c : Nat) (xs : List Value), e = .returned (.slice A fs.length c) ∧ fs.length ≤ c ∧ Rd w' A xs ∧ HeadsI w' xs fs ∧ RowsI w' w.heap.size xs fs ∧ (∀ ad, A = some ad → w.heap.size ≤ ad.block ∧ ad.block < w'.heap.size ∧ ¬ AtL xs ad.block) ∧ Below w.heap.size w w'
theorem NewRI.rd {fs : List (List Int)} {w w' : World} {e : Ending} (h : NewRI fs w e w') : NewLL fs w e w' := by
  obtain ⟨A, c, xs, h1, h2, h3, h4, -, -, h7⟩ := h
  exact ⟨A, c, h1, h2, ⟨xs, h3, h4⟩, h7⟩
end Go.Proofs.YtejkbjcmndnfeaaGreat

/- Contracts: whether a place belongs to a region; copies of lists of numbers. -/
namespace Go.Proofs.YtejkbjcmndnfeaaGreat
open Go.RowKit

def atQ (W T : Int) (bs : List Bool) (x y : Int) : Bool := decide (0 ≤ x ∧ x ≤ W - 1 ∧ 0 ≤ y ∧ y ≤ T - 1) && bs.getD (y * W + x).toNat false
theorem atQ_f {W T : Int} {bs : List Bool} {x y : Int} (h : ¬ (0 ≤ x ∧ x ≤ W - 1 ∧ 0 ≤ y ∧ y ≤ T - 1)) : atQ W T bs x y = false := by unfold atQ; rw [decide_eq_false h]; rfl
theorem atQ_t {W T : Int} {bs : List Bool} {x y : Int} {k : Nat} (h : 0 ≤ x ∧ x ≤ W - 1 ∧ 0 ≤ y ∧ y ≤ T - 1) (hk : y * W + x = k) (hkn : k < bs.length) : atQ W T bs x y = bs[k] := by
  unfold atQ; rw [decide_eq_true h, hk, Int.toNat_natCast, List.getD_eq_getElem?_getD, List.getElem?_eq_getElem hkn]; rfl
theorem at_idx {W T x y : Int} {n : Nat} (hw : 1 ≤ W) (hn : (n : Int) = W * T) (h : 0 ≤ x ∧ x ≤ W - 1 ∧ 0 ≤ y ∧ y ≤ T - 1) : ∃ k : Nat, y * W + x = k ∧ k < n := by
  obtain ⟨hx, hx', hy, hy'⟩ := h
  have h0 : 0 ≤ y * W := Int.mul_nonneg hy (by omega)
  obtain ⟨k, hk⟩ := Int.eq_ofNat_of_zero_le (show 0 ≤ y * W + x by omega)
  refine ⟨k, hk, ?_⟩
  have h1 : (y + 1) * W ≤ T * W := Int.mul_le_mul_of_nonneg_right (by omega) (by omega)
  rw [Int.add_mul, Int.one_mul] at h1
  rw [Int.mul_comm] at hn
  omega
set_option maxRecDepth 100000 in
set_option maxHeartbeats 1000000 in
theorem iAt_any (W T : Int) (A : Option Addr) (c : Nat) (bs : List Bool) (x y : Int) (w : World) (hr : Rd w A (bs.map .bool)) (h1 : 1 ≤ W) (h2 : W ≤ 6) (h3 : 1 ≤ T) (h4 : T ≤ 6) (hn : (bs.length : Int) = W * T) (hx : -1000 ≤ x ∧ x ≤ 1000) (hy : -1000 ≤ y ∧ y ≤ 1000) :
    Calls Tryz.prog 78 #[.agg #[.int .i64 W, .int .i64 T, .slice A bs.length c], .int .i64 x, .int .i64 y] w fun e w' => e = .returned (.bool (atQ W T bs x y)) ∧ Below w.heap.size w w' := by
  have X0 := C3.new w (.int .i64 W) (.int .i64 T) (.slice A bs.length c) 25
  have B0 := bl_alloc (Below.refl w.heap.size w) (.cells #[.int .i64 W, .int .i64 T, .slice A bs.length c] 25)
  obtain ⟨x0, x1, x2⟩ := id X0
  obtain ⟨hx1, hx2⟩ := hx
  obtain ⟨hy1, hy2⟩ := hy
  have HN := Lib.hid hn
  have h36 : bs.length ≤ 36 := by have := mul_bd h1 h2 h3 h4; omega
  clear hn
  by_cases hxin : 0 ≤ x ∧ x ≤ W - 1
  · by_cases hyin : 0 ≤ y ∧ y ≤ T - 1
    · obtain ⟨k, hk, hkn⟩ := at_idx h1 HN.out ⟨hxin.1, hxin.2, hyin.1, hyin.2⟩
      have HV := Lib.hid (atQ_t ⟨hxin.1, hxin.2, hyin.1, hyin.2⟩ hk hkn)
      obtain ⟨b, off, rfl, cb⟩ := (hr.alloc (.cells #[.int .i64 W, .int .i64 T, .slice A bs.length c] 25)).atEM hkn
      obtain ⟨v, hv⟩ : ∃ v, bs[k] = v := ⟨_, rfl⟩
      rw [hv] at cb HV
      clear hv
      have m0 : 0 ≤ y * W := Int.mul_nonneg hyin.1 (by omega)
      have wm : IntKind.i64.wrap (y * W) = y * W := IntWalk.i64_in _ (by omega)
      have wa : IntKind.i64.wrap (y * W + x) = (k : Int) := by rw [hk]; exact IntWalk.i64_in _ (by omega)
      have kI : (k : Int) < (bs.length : Int) := by omega
      obtain ⟨p1, p2⟩ := hxin
      obtain ⟨p3, p4⟩ := hyin
      clear hk
      go_enter Tryz.func78, Tryz.ntmps78
      go_wp2_with (go_at_call 67; first | ((with_reducible refine (in_t x _ _ _ p1 p2).mono ?_); rintro e w' ⟨rfl, rfl⟩) | ((with_reducible refine (in_t y _ _ _ p3 p4).mono ?_); rintro e w' ⟨rfl, rfl⟩))
      go_ret
      exact ⟨ret_b HV.out.symm, B0⟩
    · have HV := Lib.hid (atQ_f (W := W) (T := T) (bs := bs) (x := x) (y := y) (fun h => hyin ⟨h.2.2.1, h.2.2.2⟩))
      have hyo : y < 0 ∨ T - 1 < y := by omega
      obtain ⟨p1, p2⟩ := hxin
      go_enter Tryz.func78, Tryz.ntmps78
      go_wp2_with (go_at_call 67; first | ((with_reducible refine (in_t x _ _ _ p1 p2).mono ?_); rintro e w' ⟨rfl, rfl⟩) | ((with_reducible refine (in_f y _ _ _ hyo).mono ?_); rintro e w' ⟨rfl, rfl⟩))
      go_ret
      exact ⟨ret_b HV.out.symm, B0⟩
  · have HV := Lib.hid (atQ_f (W := W) (T := T) (bs := bs) (x := x) (y := y) (fun h => hxin ⟨h.1, h.2.1⟩))
    have hxo : x < 0 ∨ W - 1 < x := by omega
    go_enter Tryz.func78, Tryz.ntmps78
    go_wp2_with (go_at_call 67; refine (in_f x _ _ _ hxo).mono ?_; rintro e w' ⟨rfl, rfl⟩)
    go_ret
    exact ⟨ret_b HV.out.symm, B0⟩
set_option maxRecDepth 100000 in
set_option maxHeartbeats 1000000 in
theorem cloneI0_any (ad : Addr) (n c : Nat) (ns : List Int) (w : World) (hr : Rd w (some ad) (ns.map (.int .i64))) (hl : ns.length = n) (h0 : 0 < n) (hn : n ≤ 1000000) :
    Calls Tryz.prog 154 #[.slice (some ad) n c] w fun e w' => ∃ (A' : Option Addr) (c' : Nat), e = .returned (.slice A' n c') ∧ OwnI w' w.heap.size (.slice A' n c') ns ∧ n ≤ c' ∧ Below w.heap.size w w' := by
  obtain ⟨i0, hi, hz0, hz1, hz2⟩ := info_parts Tryz.infoI
  have HZ := Lib.hid (And.intro hz0 (And.intro hz1 hz2))
  have HL := Lib.hid hl
  have hnil : ∀ w, (binOp .eql 27 (.slice (some ad) n c) (.slice none 0 0)).run Tryz.prog w = .ok (.bool false) w := fun w => Lib.run_eql_slice_nil w 27 3 _ _ _ _ _ Tryz.underlying27
  have hown0 : (w.alloc (.cells #[] 3)).ownsRow w.heap.size 3 1 (.slice (some ⟨w.heap.size, 0, none⟩) 0 0) 0 [] := World.ownsRow_lit w #[] 0 (Nat.le_refl _) (by simp) (by simp)
  obtain ⟨ad', e', hcell⟩ := (hr.alloc (.cells #[] 3)) (by intro e; have := congrArg List.length e; simp at this; rw [this] at hl; simp at hl; omega)
  have HC := Lib.hid (show ∀ j y, (ns.map (Value.int .i64))[j]? = some y → (w.alloc (.cells #[] 3)).cell? (ad.add j) = some y from fun j y hy => by injection e' with e'; rw [e']; exact hcell j y hy)
  clear hcell e' hr hz0 hz1 hz2 hl
  go_enter Tryz.func154, Tryz.ntmps154
  go_wp2_with (at_builtin; refine wpList_append_own _ rfl _ _ 27 rfl w.heap.size 3 i0 (.int .i64 0) 1 8 Tryz.underlying27 hi HZ.out.1 HZ.out.2.1 HZ.out.2.2 rfl (by decide) _ _ _ rfl hown0 ad n c (ns.map (.int .i64)) rfl (by simp; exact HL.out) HC.out (by intro y hy; obtain ⟨b, _, rfl⟩ := List.mem_map.1 hy; rfl) (by unfold maxLen; omega) (by omega) (by simp) ?_; intro v3 w3 hown3 hg3 _)
  simp only [Nat.zero_add, List.nil_append] at hown3
  obtain ⟨g, cap, rfl, hg, hlt⟩ := hown3.form h0
  go_ret
  refine ⟨_, _, rfl, ⟨_, _, by rw [HL.out], by rw [HL.out]; exact hown3⟩, ?_, ?_⟩
  · rcases hown3.2 with ⟨e, e2⟩ | ⟨g, cap, cur, e, _, _, h3, _⟩
    · omega
    · injection e with _ _ e3; omega
  · exact ((Below.refl w.heap.size w).alloc (Nat.le_refl _) _).grown hg3 (by simp) (fun k hk => by have h2 : some w.heap.size = some k := hk; injection h2 with h2; omega)
set_option maxHeartbeats 1000000 in
theorem clipI_any (A : Option Addr) (n c : Nat) (w : World) (h : n ≤ c) :
    Calls Tryz.prog 153 #[.slice A n c] w fun e w' => e = .returned (.slice A n n) ∧ w = w' := by
  go_enter Tryz.func153, Tryz.ntmps153
  go_wp2
  go_ret
  exact ⟨rfl, rfl⟩
/-- a copy of a list of numbers, that may be written -/
def NewWI (ns : List Int) (n : Nat) (w : World) (e : Ending) (w' : World) : Prop := ∃ g : Nat, e = .returned (.slice (some ⟨g, 0, none⟩) n n) ∧ Wr w' w.heap.size 3 (some ⟨g, 0, none⟩) (ns.map (.int .i64)) ∧ w.heap.size ≤ g ∧ g < w'.heap.size ∧ Below w.heap.size w w'
set_option maxHeartbeats 1000000 in
theorem cloneI_any (ad : Addr) (n c : Nat) (ns : List Int) (w : World) (hr : Rd w (some ad) (ns.map (.int .i64))) (hl : ns.length = n) (h0 : 0 < n) (hn : n ≤ 1000000) :
    Calls Tryz.prog 77 #[.slice (some ad) n c] w (NewWI ns n w) := by
  have HC := Lib.hid (cloneI0_any ad n c ns w hr hl h0 hn)
  have HL := Lib.hid hl
  clear hl
  go_enter Tryz.func77, Tryz.ntmps77
  go_wp2_with fail
  refine HC.out.mono ?_
  rintro e w1 ⟨A', c', rfl, hown, hc, hb⟩
  go_wp2_with (go_at_call 153; refine (clipI_any _ _ _ _ hc).mono ?_; rintro e w' ⟨rfl, rfl⟩)
  go_ret
  obtain ⟨A2, c2, e2, hw⟩ := hown
  injection e2 with e3 e4 e5
  subst e3
  rw [← e4] at hw
  have hw' := Wr.of_own hw
  obtain ⟨g, rfl, h5, h6, -⟩ := hw'.form (by intro e; have := congrArg List.length e; simp at this; rw [this] at e4; simp at e4; omega)
  exact ⟨g, rfl, hw', h5, h6, hb⟩
end Go.Proofs.YtejkbjcmndnfeaaGreat

/- The search for fills, step by step, plainly; what the closure that searches finds in memory. -/
namespace Go.Proofs.YtejkbjcmndnfeaaGreat
open Go.RowKit

/-! ### Plainly -/
/-- what one form brings -/
noncomputable def brF (W T : Int) (bs : List Bool) (pss : List (List Ce)) (chk : Bool) (m : Nat) (fill : List Int) (used : List Bool) (n : Nat) (form : List Ce) : List (List Int) :=
  match m with
  | 0 => []
  | m + 1 => if fitF W T bs fill (atF bs fill) form then fillsN W T bs pss chk m (setF fill (plcL W (atF bs fill) form) n) (used.set n true) else []
/-- what one piece brings -/
noncomputable def pcF (W T : Int) (bs : List Bool) (pss : List (List Ce)) (chk : Bool) (m : Nat) (fill : List Int) (used : List Bool) (n : Nat) : List (List Int) :=
  if used.getD n true then [] else (formsV (pss.getD n [])).flatMap (brF W T bs pss chk m fill used n)
theorem fills_leaf {W T : Int} {bs : List Bool} {pss : List (List Ce)} {m : Nat} {fill : List Int} {used : List Bool} (hc : atF bs fill = bs.length) : fillsN W T bs pss false m fill used = [fill] := by
  cases m <;> (unfold fillsN; rw [if_pos hc]; rfl)
theorem fills_leafT {W T : Int} {bs : List Bool} {pss : List (List Ce)} {m : Nat} {fill : List Int} {used : List Bool} (hc : atF bs fill = bs.length) : fillsN W T bs pss true m fill used = if used.all id then [fill] else [] := by
  cases m <;> (unfold fillsN; rw [if_pos hc]; cases used.all id <;> rfl)
theorem fills_branch {W T : Int} {bs : List Bool} {pss : List (List Ce)} {chk : Bool} {m : Nat} {fill : List Int} {used : List Bool} (hc : atF bs fill < bs.length) (hu : unN used ≤ m) : fillsN W T bs pss chk m fill used = (List.range pss.length).flatMap (pcF W T bs pss chk m fill used) := by
  cases m with
  | zero =>
    have h0 : ∀ n, used.getD n true = true := all_used.1 (all_used.2 fun n => by
      cases e : used.getD n true with
      | true => rfl
      | false => have := unN_pos e; omega)
    unfold fillsN
    rw [if_neg (by omega), eq_comm, List.flatMap_eq_nil_iff]
    intro n _
    unfold pcF
    rw [h0 n]; rfl
  | succ m =>
    unfold fillsN
    rw [if_neg (by omega)]
    rfl
theorem flat_take {α β : Type} (l : List α) (f : α → List β) {k : Nat} (hk : k < l.length) : (l.take (k + 1)).flatMap f = (l.take k).flatMap f ++ f l[k] := by
  rw [take_one_more l k hk, List.flatMap_append]; simp
theorem flat_take_le {α β : Type} (l : List α) (f : α → List β) (k : Nat) : ((l.take k).flatMap f).length ≤ (l.flatMap f).length := by
  conv => rhs; rw [← List.take_append_drop k l]
  rw [List.flatMap_append, List.length_append]; omega
theorem flat_range {β : Type} (f : Nat → List β) (k : Nat) : (List.range (k + 1)).flatMap f = (List.range k).flatMap f ++ f k := by
  rw [List.range_succ, List.flatMap_append]; simp
theorem flat_range_le {β : Type} (f : Nat → List β) {k n : Nat} (h : k ≤ n) : ((List.range k).flatMap f).length ≤ ((List.range n).flatMap f).length := by
  induction n with
  | zero => obtain rfl : k = 0 := by omega
            exact Nat.le_refl _
  | succ n ih =>
    rcases Nat.lt_or_ge k (n + 1) with h1 | h1
    · rw [flat_range, List.length_append]
      have := ih (by omega)
      omega
    · obtain rfl : k = n + 1 := by omega
      exact Nat.le_refl _
/-- how many there are behind one more form -/
theorem pre_le {W T : Int} {bs : List Bool} {pss : List (List Ce)} {chk : Bool} {m : Nat} {fill : List Int} {used : List Bool} {k j : Nat} (hk : k < pss.length) (hu : used.getD k true = false) (hj : j < (formsV (pss.getD k [])).length) :
    ((List.range k).flatMap (pcF W T bs pss chk m fill used)).length + (((formsV (pss.getD k [])).take j).flatMap (brF W T bs pss chk m fill used k)).length + (brF W T bs pss chk m fill used k (formsV (pss.getD k []))[j]).length ≤ ((List.range pss.length).flatMap (pcF W T bs pss chk m fill used)).length := by
  have h1 := flat_range_le (pcF W T bs pss chk m fill used) (show k + 1 ≤ pss.length by omega)
  rw [flat_range, List.length_append] at h1
  have h2 : pcF W T bs pss chk m fill used k = (formsV (pss.getD k [])).flatMap (brF W T bs pss chk m fill used k) := by unfold pcF; rw [hu]; rfl
  have h3 := flat_take_le (formsV (pss.getD k [])) (brF W T bs pss chk m fill used k) (j + 1)
  rw [flat_take _ _ hj, List.length_append] at h3
  rw [h2] at h1
  omega
theorem setF_take (fill : List Int) (L : List Nat) (v : Int) {q : Nat} (hq : q < L.length) : setF fill (L.take (q + 1)) v = (setF fill (L.take q) v).set L[q] v := by
  unfold setF; rw [take_one_more L q hq, List.foldl_append]; rfl
theorem set_back {bs : List Bool} {fill : List Int} {L : List Nat} {v : Int} (hl : fill.length = bs.length) (h : ∀ k ∈ L, fill.getD k 0 = -1) (hk : ∀ k ∈ L, k < bs.length) : setF (setF fill L v) L (-1) = fill := by
  refine List.ext_getElem (by rw [setF_len, setF_len]) fun k h1 h2 => ?_
  have e : (setF (setF fill L v) L (-1)).getD k 0 = fill.getD k 0 := by
    by_cases hL : k ∈ L
    · rw [setF_mem (by rw [setF_len, hl]; exact hk k hL) hL, h k hL]
    · rw [setF_not hL, setF_not hL]
  rw [List.getD_eq_getElem?_getD, List.getD_eq_getElem?_getD, List.getElem?_eq_getElem h1, List.getElem?_eq_getElem h2] at e
  exact e
theorem set_backB {used : List Bool} {n : Nat} (h : used.getD n true = false) : (used.set n true).set n false = used := by
  rw [List.set_set]
  refine List.ext_getElem (by rw [List.length_set]) fun k h1 h2 => ?_
  rw [List.getElem_set]
  split
  · rename_i e
    subst e
    rw [List.getD_eq_getElem?_getD, List.getElem?_eq_getElem h2] at h
    exact h.symm
  · rfl
theorem fit_no {W T : Int} {bs : List Bool} {fill : List Int} {c : Nat} {form : List Ce} {q : Ce} (hq : q ∈ form) (h : fitQ W T bs fill (fxC W c form q) (fyC W c form q) = false) : fitF W T bs fill c form = false := by
  unfold fitF
  rw [List.all_eq_false]
  exact ⟨q, hq, by rw [h]; simp⟩
theorem fit_all {W T : Int} {bs : List Bool} {fill : List Int} {c : Nat} {form : List Ce} (h : ∀ q (hq : q < form.length), fitQ W T bs fill (fxC W c form form[q]) (fyC W c form form[q]) = true) : fitF W T bs fill c form = true := by
  unfold fitF
  rw [List.all_eq_true]
  intro x hx
  obtain ⟨q, hq, rfl⟩ := List.getElem_of_mem hx
  exact h q hq
theorem plc_len (W : Int) (c : Nat) (form : List Ce) : (plcL W c form).length = form.length := by unfold plcL; rw [List.length_map]
theorem plc_get {W : Int} {c : Nat} {form : List Ce} {q : Nat} (hq : q < form.length) (h : q < (plcL W c form).length) : (plcL W c form)[q] = (fyC W c form form[q] * W + fxC W c form form[q]).toNat := by
  simp only [plcL, List.getElem_map]
theorem fitQ_eq {W T : Int} {bs : List Bool} {fill : List Int} {x y : Int} : fitQ W T bs fill x y = (atQ W T bs x y && decide (fill.getD (y * W + x).toNat 0 < 0)) := by
  unfold fitQ atQ freK
  rw [Bool.and_assoc]

/-! ### In memory -/
def LpF (R : Nat → Prop) (i : Value) : Prop := ∃ k : Nat, i = .int .i64 k ∧ R k
theorem heap_ltF {w : World} {b : Nat} {o : Obj} (h : w.heap[b]? = some o) : b < w.heap.size := by
  rcases Nat.lt_or_ge b w.heap.size with h1 | h1
  · exact h1
  · rw [Array.getElem?_eq_none h1] at h; cases h
theorem cellB {w w' : World} {b o : Nat} {v : Value} (hb : Below w.heap.size w w') (h : w.cell? ⟨b, o, none⟩ = some v) : w'.cell? ⟨b, o, none⟩ = some v := (hb.cell (p := ⟨b, o, none⟩) (World.block_lt_of_cell? w _ h)).trans h
theorem cellH {w w' : World} {b o : Nat} {v : Value} (hb : w'.heap[b]? = w.heap[b]?) (h : w.cell? ⟨b, o, none⟩ = some v) : w'.cell? ⟨b, o, none⟩ = some v := by rw [World.cell?_of_block hb]; exact h
theorem cellS {w : World} {b o g m : Nat} {u v : Value} (hg : b ≠ g) (h : w.cell? ⟨b, o, none⟩ = some v) : (w.setCell ⟨g, m, none⟩ u).cell? ⟨b, o, none⟩ = some v :=
  cellH (Below.heap_setCell _ _ _ _ hg) h
/-- what stays as it is: the region, the pieces, their forms -/
structure FlC (W T : Int) (n c0 : Nat) (bs : List Bool) (A : Option Addr) (pss : List (List Ce)) (A' : Option Addr) (c' : Nat) (AA : Option Addr) (cA bR bP bA : Nat) (w : World) : Prop where
  box : C3 w bR (.int .i64 W) (.int .i64 T) (.slice A n c0)
  rd : Rd w A (bs.map .bool)
  pc : w.cell? ⟨bP, 0, none⟩ = some (.slice A' pss.length c')
  al : w.cell? ⟨bA, 0, none⟩ = some (.slice AA pss.length cA)
  fm : ∀ k, k < pss.length → ∃ (b off : Nat) (Bk : Option Addr) (ck : Nat), AA = some ⟨b, off, none⟩ ∧ w.cell? ⟨b, off + k, none⟩ = some (.slice Bk (formsV (pss.getD k [])).length ck) ∧ RdSS w Bk (formsV (pss.getD k []))
theorem FlC.belo {W T : Int} {n c0 : Nat} {bs : List Bool} {A : Option Addr} {pss : List (List Ce)} {A' : Option Addr} {c' : Nat} {AA : Option Addr} {cA bR bP bA : Nat} {w w' : World} (h : FlC W T n c0 bs A pss A' c' AA cA bR bP bA w) (hb : Below w.heap.size w w') : FlC W T n c0 bs A pss A' c' AA cA bR bP bA w' :=
  ⟨h.box.belo hb, h.rd.belo hb, cellB hb h.pc, cellB hb h.al, fun k hk => by
    obtain ⟨b, off, Bk, ck, e, h1, h2⟩ := h.fm k hk
    exact ⟨b, off, Bk, ck, e, cellB hb h1, h2.belo hb⟩⟩
/-- where the search keeps its lists -/
def FlD (S B F U bF bO bU bK : Nat) : Prop := (S ≤ F ∧ F < B) ∧ (S ≤ U ∧ U < B) ∧ (S ≤ bO ∧ bO < B) ∧ (bF < B ∧ bU < B ∧ bK < B) ∧ (F ≠ U ∧ F ≠ bO ∧ U ≠ bO) ∧ (bF ≠ F ∧ bF ≠ U ∧ bF ≠ bO) ∧ (bU ≠ F ∧ bU ≠ U ∧ bU ≠ bO) ∧ (bK ≠ F ∧ bK ≠ U ∧ bK ≠ bO)
structure FlSt (w0 : World) (B F U bF bO bU bK n P cF cU : Nat) (Kv : Value) (fill : List Int) (used : List Bool) (v : Value) (xs : List Value) (L : List (List Int)) (w : World) : Prop where
  ok : Below w0.heap.size w0 w
  fl : w.cell? ⟨bF, 0, none⟩ = some (.slice (some ⟨F, 0, none⟩) n cF)
  us : w.cell? ⟨bU, 0, none⟩ = some (.slice (some ⟨U, 0, none⟩) P cU)
  wk : w.cell? ⟨bK, 0, none⟩ = some Kv
  fil : Wr w w0.heap.size 3 (some ⟨F, 0, none⟩) (fill.map (.int .i64))
  use : Wr w w0.heap.size 4 (some ⟨U, 0, none⟩) (used.map .bool)
  out : w.heap[bO]? = some (.cells #[v] 33 (0, 0))
  gr : GrL w B v xs L
  at1 : ∀ b, AtL xs b → B ≤ b
  row : RowsI w B xs L
  big : B ≤ w.heap.size
  d : FlD w0.heap.size B F U bF bO bU bK
section
variable {w0 : World} {B F U bF bO bU bK n P cF cU : Nat} {Kv : Value} {fill : List Int} {used : List Bool} {v : Value} {xs : List Value} {L : List (List Int)} {w w' : World}
theorem FlSt.belo (h : FlSt w0 B F U bF bO bU bK n P cF cU Kv fill used v xs L w) (hb : Below w.heap.size w w') : FlSt w0 B F U bF bO bU bK n P cF cU Kv fill used v xs L w' :=
  ⟨bl_go h.ok hb, cellB hb h.fl, cellB hb h.us, cellB hb h.wk, h.fil.belo hb, h.use.belo hb, (hb.block _ (heap_ltF h.out)).trans h.out, h.gr.belo hb, h.at1, h.row.belo hb, Nat.le_trans h.big hb.size, h.d⟩
theorem FlSt.setF_ (h : FlSt w0 B F U bF bO bU bK n P cF cU Kv fill used v xs L w) (j : Nat) (u : Int) : FlSt w0 B F U bF bO bU bK n P cF cU Kv (fill.set j u) used v xs L (w.setCell ⟨F, j, none⟩ (.int .i64 u)) := by
  obtain ⟨⟨d1, d2⟩, ⟨d3, d4⟩, ⟨d5, d6⟩, -, ⟨d7, d8, d9⟩, ⟨e1, e2, e3⟩, ⟨e4, e5, e6⟩, ⟨e7, e8, e9⟩⟩ := h.d
  refine ⟨h.ok.setCell (by exact d1) _, cellS e1 h.fl, cellS e4 h.us, cellS e7 h.wk, by rw [List.map_set]; exact h.fil.store j _, h.use.keep fun q hq _ => ?_, (Below.heap_setCell _ _ _ _ (by show bO ≠ F; omega)).trans h.out, ?_, h.at1, h.row.keep (by simp) (fun b e => Below.heap_setCell _ _ _ _ (by have := h.at1 b e; show b ≠ F; omega)), by simpa using h.big, h.d⟩
  · injection hq with hq; injection hq with hq
    exact Below.heap_setCell _ _ _ _ (by show q ≠ F; omega)
  · exact h.gr.keep (by simp) (fun b e => Below.heap_setCell _ _ _ _ (by have := (h.gr.own.lt b e).1; show b ≠ F; omega)) (fun b e => Below.heap_setCell _ _ _ _ (by have := h.at1 b e; show b ≠ F; omega))
theorem FlSt.setU_ (h : FlSt w0 B F U bF bO bU bK n P cF cU Kv fill used v xs L w) (j : Nat) (u : Bool) : FlSt w0 B F U bF bO bU bK n P cF cU Kv fill (used.set j u) v xs L (w.setCell ⟨U, j, none⟩ (.bool u)) := by
  obtain ⟨⟨d1, d2⟩, ⟨d3, d4⟩, ⟨d5, d6⟩, -, ⟨d7, d8, d9⟩, ⟨e1, e2, e3⟩, ⟨e4, e5, e6⟩, ⟨e7, e8, e9⟩⟩ := h.d
  refine ⟨h.ok.setCell (by exact d3) _, cellS e2 h.fl, cellS e5 h.us, cellS e8 h.wk, h.fil.keep fun q hq _ => ?_, by rw [List.map_set]; exact h.use.store j _, (Below.heap_setCell _ _ _ _ (by show bO ≠ U; omega)).trans h.out, ?_, h.at1, h.row.keep (by simp) (fun b e => Below.heap_setCell _ _ _ _ (by have := h.at1 b e; show b ≠ U; omega)), by simpa using h.big, h.d⟩
  · injection hq with hq; injection hq with hq
    exact Below.heap_setCell _ _ _ _ (by show q ≠ U; omega)
  · exact h.gr.keep (by simp) (fun b e => Below.heap_setCell _ _ _ _ (by have := (h.gr.own.lt b e).1; show b ≠ U; omega)) (fun b e => Below.heap_setCell _ _ _ _ (by have := h.at1 b e; show b ≠ U; omega))
/-- behind an append to the list that is told -/
theorem FlSt.push (h : FlSt w0 B F U bF bO bU bK n P cF cU Kv fill used v xs L w) {v' : Value} {xs' : List Value} {L' : List (List Int)} (hg : w.grownBy w' v.ownBlock) (g2 : GrL w' B v' xs' L') (hat : ∀ b, AtL xs' b → B ≤ b) (r2 : RowsI w' B xs' L') :
    FlSt w0 B F U bF bO bU bK n P cF cU Kv fill used v' xs' L' (w'.setCell ⟨bO, 0, none⟩ v') := by
  obtain ⟨⟨d1, d2⟩, ⟨d3, d4⟩, ⟨d5, d6⟩, ⟨f1, f2, f3⟩, ⟨d7, d8, d9⟩, ⟨e1, e2, e3⟩, ⟨e4, e5, e6⟩, ⟨e7, e8, e9⟩⟩ := h.d
  have hbig := h.big
  have hsz := hg.size
  have hS : w0.heap.size ≤ B := by omega
  have key : ∀ b, b < B → w'.heap[b]? = w.heap[b]? := fun b hb => hg.block b (by omega) (fun e => by have := (h.gr.own.lt b e.symm).1; omega)
  have key2 : ∀ b, b < B → b ≠ bO → (w'.setCell ⟨bO, 0, none⟩ v').heap[b]? = w.heap[b]? := fun b hb hne => (Below.heap_setCell _ _ _ _ (by exact hne)).trans (key b hb)
  refine ⟨(h.ok.grown hg (by omega) (fun k hk => by have := (h.gr.own.lt k hk).1; omega)).setCell (by exact d5) _, cellH (key2 _ f1 e3) h.fl, cellH (key2 _ f2 e6) h.us, cellH (key2 _ f3 e9) h.wk,
    h.fil.keep fun q hq _ => ?_, h.use.keep fun q hq _ => ?_, ?_, ?_, hat, r2.keep (by simp) (fun b e => Below.heap_setCell _ _ _ _ (by have := hat b e; show b ≠ bO; omega)), by simp; omega, h.d⟩
  · injection hq with hq; injection hq with hq
    exact key2 q (by omega) (by omega)
  · injection hq with hq; injection hq with hq
    exact key2 q (by omega) (by omega)
  · have := heap_setCell_same w' bO 0 #[v] 33 v' ((key bO d6).trans h.out)
    simpa using this
  · exact g2.keep (by simp) (fun b e => Below.heap_setCell _ _ _ _ (by have := (g2.own.lt b e).1; show b ≠ bO; omega)) (fun b e => Below.heap_setCell _ _ _ _ (by have := hat b e; show b ≠ bO; omega))
/-- what the search leaves as it was -/
structure FrmF (F U bO : Nat) (v : Value) (w : World) (v' : Value) (w' : World) : Prop where
  size : w.heap.size ≤ w'.heap.size
  block : ∀ i, i < w.heap.size → i ≠ F → i ≠ U → i ≠ bO → v.ownBlock ≠ some i → w'.heap[i]? = w.heap[i]?
  own : v'.ownBlock = v.ownBlock ∨ ∃ b, v'.ownBlock = some b ∧ w.heap.size ≤ b
theorem FrmF.refl (F U bO : Nat) (v : Value) (w : World) : FrmF F U bO v w v w := ⟨Nat.le_refl _, fun _ _ _ _ _ _ => rfl, .inl rfl⟩
theorem FrmF.trans {F U bO : Nat} {v v1 v2 : Value} {w w1 w2 : World} (h : FrmF F U bO v w v1 w1) (k : FrmF F U bO v1 w1 v2 w2) : FrmF F U bO v w v2 w2 := by
  have hs := h.size
  refine ⟨Nat.le_trans h.size k.size, fun i hi a b c d => (k.block i (by omega) a b c fun e => ?_).trans (h.block i hi a b c d), ?_⟩
  · rcases h.own with e1 | ⟨b1, e1, e2⟩
    · exact d (e1 ▸ e)
    · rw [e1] at e; injection e with e; omega
  · rcases k.own with e1 | ⟨b1, e1, e2⟩
    · rw [e1]; exact h.own
    · exact .inr ⟨b1, e1, by omega⟩
theorem FrmF.below {F U bO : Nat} {v v1 : Value} {w w1 w2 : World} (h : FrmF F U bO v w v1 w1) (hb : Below w1.heap.size w1 w2) : FrmF F U bO v w v1 w2 :=
  h.trans ⟨hb.size, fun i hi _ _ _ _ => hb.block i hi, .inl rfl⟩
theorem FrmF.set {F U bO : Nat} {v v1 : Value} {w w1 : World} (h : FrmF F U bO v w v1 w1) {g : Nat} (j : Nat) (u : Value) (hg : g = F ∨ g = U ∨ g = bO) : FrmF F U bO v w v1 (w1.setCell ⟨g, j, none⟩ u) :=
  h.trans ⟨by simp, fun i _ a b c _ => Below.heap_setCell _ _ _ _ (by show i ≠ g; omega), .inl rfl⟩
theorem FrmF.push {F U bO : Nat} {v v1 v2 : Value} {w w1 w2 : World} (h : FrmF F U bO v w v1 w1) (hg : w1.grownBy w2 v1.ownBlock) (hv : v2.ownBlock = v1.ownBlock ∨ v2.ownBlock = some w1.heap.size) : FrmF F U bO v w v2 (w2.setCell ⟨bO, 0, none⟩ v2) :=
  h.trans ⟨by simp; exact hg.size, fun i hi _ _ c d => (Below.heap_setCell _ _ _ _ (by exact c)).trans (hg.block i hi (fun e => d e.symm)), by
    rcases hv with e | e
    · exact .inl e
    · exact .inr ⟨_, e, Nat.le_refl _⟩⟩
theorem one_atL (w : World) (x : Value) (t : TypeId) : ∀ j u, [x][j]? = some u → (w.alloc (.cells #[x] t)).cell? ((⟨w.heap.size, 0, none⟩ : Addr).add j) = some u := fun j u hu => by
  rw [offI, Nat.zero_add, cell_of_row _ _ _ _ _ _ (heap_alloc_new w _)]; simpa using hu
theorem one_oneL (B : Option Addr) (n c : Nat) : ∀ u ∈ [Value.slice B n c], u.oneCell' = true := fun u hu => by
  simp at hu; subst hu; rfl
/-- the cell of a box -/
theorem boxF {w : World} {b : Nat} {v : Value} {t : TypeId} (h : w.heap[b]? = some (.cells #[v] t (0, 0))) : w.cell? ⟨b, 0, none⟩ = some v ∧ w.frozen? ⟨b, 0, none⟩ = false :=
  ⟨by rw [cell_of_row _ _ _ _ _ _ h]; rfl, frozen_of_row _ _ _ _ _ h⟩
/-- a list of numbers told -/
theorem FlSt.tell (h : FlSt w0 B F U bF bO bU bK n P cF cU Kv fill used v xs L w) {g1 : Nat} {w1 w3 : World} {v3 : Value} {t : TypeId} (hfl : fill.length = n) (hn : n ≤ 36) (W1 : Wr w1 w.heap.size 3 (some ⟨g1, 0, none⟩) (fill.map (.int .i64))) (hg1 : w.heap.size ≤ g1) (hg2 : g1 < w1.heap.size) (b1 : Below w.heap.size w w1)
    (o3 : OwnL w3 B v3 (xs ++ [.slice (some ⟨g1, 0, none⟩) n n])) (g3 : (w1.alloc (.cells #[.slice (some ⟨g1, 0, none⟩) n n] t)).grownBy w3 v.ownBlock) (e3 : v3.ownBlock = v.ownBlock ∨ v3.ownBlock = some (w1.alloc (.cells #[.slice (some ⟨g1, 0, none⟩) n n] t)).heap.size) :
    FlSt w0 B F U bF bO bU bK n P cF cU Kv fill used v3 (xs ++ [.slice (some ⟨g1, 0, none⟩) n n]) (L ++ [fill]) (w3.setCell ⟨bO, 0, none⟩ v3) ∧ FrmF F U bO v w v3 (w3.setCell ⟨bO, 0, none⟩ v3) := by
  have b2 := bl_alloc b1 (.cells #[.slice (some ⟨g1, 0, none⟩) n n] t)
  have S2 := h.belo b2
  have hbig := h.big
  have hat : ∀ b, AtL [.slice (some ⟨g1, 0, none⟩) n n] b → b = g1 := fun b hb => by
    obtain ⟨ad, e1, e2⟩ := hb.one
    injection e1 with e1
    rw [← e1] at e2
    exact e2.symm
  refine ⟨S2.push g3 (S2.gr.app (HeadsI.one ⟨_, _, by rw [hfl], by omega, by omega, (W1.rd.alloc _)⟩) (fun b hb => ?_) o3 g3 e3) (fun b hb => ?_) ?_, FrmF.push ((FrmF.refl F U bO v w).below b2) g3 e3⟩
  · have := hat b hb
    subst this
    exact ⟨by simp; omega, fun e => by have := (h.gr.own.lt _ e).2; omega⟩
  · rcases hb.app with e | e
    · exact h.at1 b e
    · have := hat b e
      omega
  · have k1 : ∀ b, AtL xs b → b < w.heap.size ∧ v.ownBlock ≠ some b := fun b e => h.gr.pt b e
    have W3 : Wr w3 B 3 (some ⟨g1, 0, none⟩) (fill.map (.int .i64)) := (((W1.belo (bl_alloc (Below.refl w1.heap.size w1) (.cells #[.slice (some ⟨g1, 0, none⟩) n n] t))).lower (by omega : B ≤ w.heap.size)).keep fun q hq _ => by
      injection hq with hq; injection hq with hq
      exact g3.block q (by simp; omega) (fun e => by have := (h.gr.own.lt _ e.symm).2; omega))
    refine RowsI.snoc ((h.row.belo b2).keep g3.size fun b e => g3.block b (by have := (k1 b e).1; simp; omega) (fun e2 => (k1 b e).2 e2.symm)) hfl W3 (by have := g3.size; simp at this; omega) (fun b e => by have := (k1 b e).1; omega)
/-- a list of the caller's that lies elsewhere -/
theorem Rd.frm {F U bO : Nat} {v v1 : Value} {w w1 : World} {A : Option Addr} {ys : List Value} (hr : Rd w A ys) (h : FrmF F U bO v w v1 w1) (hA : ∀ ad, A = some ad → ad.block < w.heap.size ∧ ad.block ≠ F ∧ ad.block ≠ U ∧ ad.block ≠ bO ∧ v.ownBlock ≠ some ad.block) : Rd w1 A ys := fun hne => by
  obtain ⟨ad, e, hc⟩ := hr hne
  obtain ⟨a1, a2, a3, a4, a5⟩ := hA ad e
  refine ⟨ad, e, fun j u hu => ?_⟩
  have hb := h.block ad.block a1 a2 a3 a4 a5
  have hcj := hc j u hu
  have hz : (ad.add j).block = ad.block := by unfold Addr.add; split <;> rfl
  generalize ad.add j = aj at hcj hz ⊢
  obtain ⟨b9, o9, s9⟩ := aj
  have hs := World.cell?_spot hcj
  simp only at hs hz
  subst hs
  rw [← hz] at hb
  exact cellH hb hcj
end
end Go.Proofs.YtejkbjcmndnfeaaGreat

/- Sets of pieces as numbers, plainly; lists of lists that grow in the reference's search; an append of any list of lists. -/
namespace Go.Proofs.YtejkbjcmndnfeaaGreat
open Go.RowKit

/-- a set as a number -/
def mskN : List Bool → Nat
  | [] => 0
  | b :: l => (if b = true then 1 else 0) + 2 * mskN l
theorem mskN_cons (b : Bool) (l : List Bool) : mskN (b :: l) = (if b = true then 1 else 0) + 2 * mskN l := rfl
theorem mskN_bit : ∀ (l : List Bool) (n : Nat), mskN l / 2 ^ n % 2 = if l.getD n false = true then 1 else 0
  | [], n => by simp [mskN]
  | b :: l, 0 => by
    simp only [mskN, Nat.pow_zero, Nat.div_one, List.getD_cons_zero]
    split <;> omega
  | b :: l, n + 1 => by
    have := mskN_bit l n
    rw [List.getD_cons_succ, ← this, Nat.pow_succ, Nat.mul_comm (2 ^ n) 2, ← Nat.div_div_eq_div_mul]
    have e : mskN (b :: l) / 2 = mskN l := by rw [mskN_cons]; split <;> omega
    rw [e]
theorem mskN_set : ∀ (l : List Bool) (n : Nat), n < l.length → l.getD n true = false → mskN (l.set n true) = mskN l + 2 ^ n
  | [], n, h, _ => by simp at h
  | b :: l, 0, _, h => by
    rw [List.getD_cons_zero] at h
    subst h
    simp only [List.set_cons_zero, mskN, if_true, Nat.pow_zero]
    simp; omega
  | b :: l, n + 1, h, h2 => by
    have := mskN_set l n (by simpa using h) (by simpa using h2)
    simp only [List.set_cons_succ, mskN]
    rw [this, Nat.pow_succ]; omega
theorem mskN_lt : ∀ l : List Bool, mskN l + 1 ≤ 2 ^ l.length
  | [] => by simp [mskN]
  | b :: l => by
    have := mskN_lt l
    rw [List.length_cons, Nat.pow_succ, mskN_cons]
    split <;> omega
theorem mskN_all : ∀ l : List Bool, mskN l + 1 = 2 ^ l.length ↔ l.all id = true
  | [] => by simp [mskN]
  | b :: l => by
    have h1 := mskN_all l
    have h2 := mskN_lt l
    rw [List.length_cons, Nat.pow_succ, List.all_cons, Bool.and_eq_true, ← h1, mskN_cons]
    cases b
    · simp; omega
    · simp; omega
theorem mskN_0 (P : Nat) : mskN (used0 P) = 0 := by
  unfold used0
  induction P with
  | zero => rfl
  | succ P ih => rw [List.replicate_succ, mskN, ih]; simp
section
variable {ops : Array Oper} {rest : List Oper} {o : Oper} {a : Act} {Q : Exit → Act → World → Prop}
/-- heads appended to a list of heads of its own; the source may be nil -/
theorem opw_headsR {K : Act → World → Prop} (W : World) (s x : Operand) (ho : o.op = .call { callee := .builtin .append, args := #[s, x], argTypes := #[33, 33] })
    (base : Nat) (v : Value) (xs : List Value) (hs : a.eval s = v) (hown : OwnL W base v xs) (A : Option Addr) (n c : Nat) (ys : List Value) (hx : a.eval x = .slice A n c) (hl : ys.length = n) (hA : A = none → c = 0) (hq : Rd W A ys) (h1 : ∀ u ∈ ys, u.oneCell' = true) (hm : xs.length + n ≤ 1000000000000) (hbase : base ≤ W.heap.size)
    (h : ∀ v' w', OwnL w' base v' (xs ++ ys) → W.grownBy w' v.ownBlock → (v'.ownBlock = v.ownBlock ∨ v'.ownBlock = some W.heap.size) → K (a.put o.dst v') w') : Oper.wp Tryz.prog o a W K Q := by
  cases A with
  | some ad =>
    refine opw_headsL W s x ho base v xs hs hown ad n c ys hx hl (fun j u hu => ?_) h1 hm hbase h
    obtain ⟨ad', e, hc⟩ := hq (by rintro rfl; simp at hu)
    injection e with e
    rw [e]; exact hc j u hu
  | none =>
    have hys : ys = [] := by
      cases ys with
      | nil => rfl
      | cons y l => obtain ⟨ad', e, -⟩ := hq (by simp); cases e
    subst hys
    have hn : n = 0 := by rw [← hl]; rfl
    subst hn
    have hc := hA rfl
    subst hc
    obtain ⟨i0, hi, hz0, hz1, hz2⟩ := info_parts Tryz.infoSI
    obtain ⟨A, c', e, hown2⟩ := id hown
    have hrun := run_append_owned_none (P := Tryz.prog) (w := W) base 33 o.type 27 i0 1 Tryz.underlying33 hi v xs.length xs hown2
    unfold Oper.wp execOp
    simp only [ho, resolve, invoke, builtin, Sem.run_bind, Sem.run_pure, Result.andThen_ok, List.map_toArray, List.map_cons, List.map_nil, hs, hx, hrun]
    exact h v W (by rw [List.append_nil]; exact hown) (World.grownBy.refl _ _) (.inl rfl)
theorem step_headsR {K : Act → World → Prop} {E : Prop} (W : World) (hgd : o.guard = none) (s x : Operand) (ho : o.op = .call { callee := .builtin .append, args := #[s, x], argTypes := #[33, 33] })
    (base : Nat) (v : Value) (xs : List Value) (hs : a.eval s = v) (hown : OwnL W base v xs) (A : Option Addr) (n c : Nat) (ys : List Value) (hx : a.eval x = .slice A n c) (hl : ys.length = n) (hA : A = none → c = 0) (hq : Rd W A ys) (h1 : ∀ u ∈ ys, u.oneCell' = true) (hm : xs.length + n ≤ 1000000000000) (hbase : base ≤ W.heap.size)
    (h : ∀ v' w', OwnL w' base v' (xs ++ ys) → W.grownBy w' v.ownBlock → (v'.ownBlock = v.ownBlock ∨ v'.ownBlock = some W.heap.size) → K (a.put o.dst v') w') :
    if Region.wanted o (yielded ops a.tmps) = true then Oper.wp Tryz.prog o a W K Q else E := by
  have hw : Region.wanted o (yielded ops a.tmps) = true := by simp [Region.wanted, hgd]
  rw [if_pos hw]
  exact opw_headsR W s x ho base v xs hs hown A n c ys hx hl hA hq h1 hm hbase h
theorem wpList_headsR (W : World) (hgd : o.guard = none) (s x : Operand) (ho : o.op = .call { callee := .builtin .append, args := #[s, x], argTypes := #[33, 33] })
    (base : Nat) (v : Value) (xs : List Value) (hs : a.eval s = v) (hown : OwnL W base v xs) (A : Option Addr) (n c : Nat) (ys : List Value) (hx : a.eval x = .slice A n c) (hl : ys.length = n) (hA : A = none → c = 0) (hq : Rd W A ys) (h1 : ∀ u ∈ ys, u.oneCell' = true) (hm : xs.length + n ≤ 1000000000000) (hbase : base ≤ W.heap.size)
    (h : ∀ v' w', OwnL w' base v' (xs ++ ys) → W.grownBy w' v.ownBlock → (v'.ownBlock = v.ownBlock ∨ v'.ownBlock = some W.heap.size) → wpList Tryz.prog ops Q rest (a.put o.dst v') w') : wpList Tryz.prog ops Q (o :: rest) a W :=
  wpList_plain hgd fun _ hK => opw_headsR W s x ho base v xs hs hown A n c ys hx hl hA hq h1 hm hbase fun v' w' k1 k2 k3 => hK _ _ (h v' w' k1 k2 k3)
end
/-- a list of lists that the search tells: each lies in a new block, or is the list that came in -/
structure OutF (w0 : World) (Af : Option Addr) (v : Value) (xs : List Value) (L : List (List Int)) (w : World) : Prop where
  gr : GrL w w0.heap.size v xs L
  fr : ∀ b, AtL xs b → (∃ ad, Af = some ad ∧ ad.block = b) ∨ w0.heap.size ≤ b
  ok : Below w0.heap.size w0 w
theorem OutF.belo {w0 w w' : World} {Af : Option Addr} {v : Value} {xs : List Value} {L : List (List Int)} (h : OutF w0 Af v xs L w) (hb : Below w.heap.size w w') : OutF w0 Af v xs L w' := ⟨h.gr.belo hb, h.fr, bl_go h.ok hb⟩
theorem OutF.app {w0 w w' : World} {Af : Option Addr} {v v' : Value} {xs ys : List Value} {L G : List (List Int)} (h : OutF w0 Af v xs L w) (hy : HeadsI w ys G) (hp : ∀ b, AtL ys b → b < w.heap.size ∧ v.ownBlock ≠ some b ∧ ((∃ ad, Af = some ad ∧ ad.block = b) ∨ w0.heap.size ≤ b))
    (ho : OwnL w' w0.heap.size v' (xs ++ ys)) (hg : w.grownBy w' v.ownBlock) (hv : v'.ownBlock = v.ownBlock ∨ v'.ownBlock = some w.heap.size) : OutF w0 Af v' (xs ++ ys) (L ++ G) w' :=
  ⟨h.gr.app hy (fun b hb => ⟨(hp b hb).1, (hp b hb).2.1⟩) ho hg hv, fun b hb => by
    rcases hb.app with e | e
    · exact h.fr b e
    · exact (hp b e).2.2, h.ok.grown hg h.ok.size (fun k hk => (h.gr.own.lt k hk).1)⟩
/-- the search's result -/
def FsR (fs : List (List Int)) (Af : Option Addr) (w : World) (e : Ending) (w' : World) : Prop :=
  ∃ (A : Option Addr) (c : Nat) (xs : List Value), e = .returned (.slice A fs.length c) ∧ fs.length ≤ c ∧ (A = none → c = 0) ∧ Rd w' A xs ∧ HeadsI w' xs fs ∧ (∀ b, AtL xs b → b < w'.heap.size ∧ ((∃ ad, Af = some ad ∧ ad.block = b) ∨ w.heap.size ≤ b)) ∧ Below w.heap.size w w'
theorem OutF.res {w0 w : World} {Af : Option Addr} {v : Value} {xs : List Value} {L : List (List Int)} (h : OutF w0 Af v xs L w) : ∃ (A : Option Addr) (c : Nat), v = .slice A L.length c ∧ FsR L Af w0 (.returned (.slice A L.length c)) w := by
  obtain ⟨A, c, e, o⟩ := id h.gr.own
  have hl := h.gr.hd.1
  rw [hl] at e
  rw [hl, e] at o
  refine ⟨A, c, e, A, c, xs, rfl, ?_, ?_, Rd.own o, h.gr.hd, fun b hb => ⟨(h.gr.pt b hb).1, h.fr b hb⟩, h.ok⟩
  · rcases o.2 with ⟨e1, e2⟩ | ⟨g, cap, cur, hv, _, _, h3, _⟩
    · rw [e2]; simp
    · injection hv with _ _ e3; omega
  · intro hA
    rcases o.2 with ⟨e1, e2⟩ | ⟨g, cap, cur, hv, _, _, h3, _⟩
    · injection e1
    · rw [hA] at hv; injection hv with e3; cases e3
theorem FsR.lower {fs : List (List Int)} {Af : Option Addr} {w0 w w' : World} {e : Ending} (h : FsR fs Af w0 e w') (hb : Below w.heap.size w w0) : FsR fs Af w e w' := by
  obtain ⟨A, c, xs, h1, h2, h3, h4, h5, h6, h7⟩ := h
  refine ⟨A, c, xs, h1, h2, h3, h4, h5, fun b hb' => ?_, bl_go hb h7⟩
  obtain ⟨a1, a2⟩ := h6 b hb'
  refine ⟨a1, ?_⟩
  rcases a2 with a2 | a2
  · exact .inl a2
  · exact .inr (Nat.le_trans hb.size a2)
theorem wrap2 {P : Nat} (h : P ≤ 6) : wrap64 ((2 : Int) ^ P) = ((2 ^ P : Nat) : Int) ∧ 2 ^ P ≤ 64 := by
  have h1 : (2 : Nat) ^ P ≤ 2 ^ 6 := Nat.pow_le_pow_right (by omega) h
  have h2 : ((2 ^ P : Nat) : Int) = (2 : Int) ^ P := by simp
  have h3 : 0 < 2 ^ P := Nat.pow_pos (by omega)
  refine ⟨?_, by omega⟩
  rw [← h2]
  exact IntWalk.wrap64_in _ (by omega)
theorem wsum {u q : Nat} (hu : u ≤ 63) (hq : q ≤ 64) : wrap64 ((u : Int) + (q : Int)) = ((u + q : Nat) : Int) ∧ IntKind.i64.wrap ((u : Int) + (q : Int)) = ((u + q : Nat) : Int) := by
  rw [IntWalk.i64_left, IntWalk.wrap64_in _ (by omega), Int.natCast_add]
  exact ⟨rfl, rfl⟩
/-- all pieces are used -/
theorem msk_test {used : List Bool} {P u : Nat} (hl : used.length = P) (h6 : P ≤ 6) (hu : u = mskN used) : ((u : Int) == wrap64 (wrap64 (2 ^ P) - 1)) = used.all id := by
  obtain ⟨h1, h2⟩ := wrap2 h6
  have h3 : 0 < 2 ^ P := Nat.pow_pos (by omega)
  rw [h1, show wrap64 (((2 ^ P : Nat) : Int) - 1) = ((2 ^ P : Nat) : Int) - 1 from IntWalk.wrap64_in _ (by omega)]
  have h4 := mskN_all used
  rw [hl, ← hu] at h4
  cases h : used.all id with
  | true => rw [h] at h4; have := h4.2 rfl; rw [beq_iff_eq]; omega
  | false => rw [h] at h4; rw [beq_eq_false_iff_ne]; intro e; have := h4.1 (by omega); cases this
theorem msk_bit {used : List Bool} {u k : Nat} (hu : u = mskN used) : (((u : Int) / 2 ^ k).tmod 2 == 0) = !used.getD k false := by
  have h1 : ((u : Int) / 2 ^ k) = ((u / 2 ^ k : Nat) : Int) := by simp
  have h2 := mskN_bit used k
  rw [← hu] at h2
  rw [h1]
  generalize u / 2 ^ k = x at h2 ⊢
  rw [Int.tmod_eq_emod_of_nonneg (Int.natCast_nonneg x)]
  cases h : used.getD k false with
  | true => rw [h, if_pos rfl] at h2; rw [show (!true) = false from rfl, beq_eq_false_iff_ne]; omega
  | false => rw [h, if_neg (by decide)] at h2; rw [show (!false) = true from rfl, beq_iff_eq]; omega
/-- a slice elsewhere reads as before -/
theorem Rd.blk {w w' : World} {A : Option Addr} {xs : List Value} (h : Rd w A xs) (hb : xs ≠ [] → ∀ ad, A = some ad → w'.heap[ad.block]? = w.heap[ad.block]?) : Rd w' A xs := fun hne => by
  obtain ⟨ad, e, hc⟩ := h hne
  refine ⟨ad, e, fun j u hu => ?_⟩
  have hbk := hb hne ad e
  have hcj := hc j u hu
  have hz : (ad.add j).block = ad.block := by unfold Addr.add; split <;> rfl
  generalize ad.add j = aj at hcj hz ⊢
  obtain ⟨b9, o9, s9⟩ := aj
  have hs := World.cell?_spot hcj
  simp only at hs hz
  subst hs
  rw [← hz] at hbk
  exact cellH hbk hcj
/-- the first cell of a form is in the first row -/
theorem form_head {p x : List Ce} (h : PieceOk p) (hx : x ∈ formsV p) : (x.headD (0, 0)).2 = 0 := by
  have hx2 := (forms_of_form hx).2
  obtain ⟨-, -, -, h4, -, v, hv, e⟩ := law_moved hx2
  have e0 := form_mvd h hx
  rw [mvdV_ok stayC hx2, map_stay, e0] at h4 hv
  have hpw : x.Pairwise fun a b => ltC b a = false := by rw [← e0]; exact sortC_pw _
  cases x with
  | nil => cases hv
  | cons a l =>
    show a.2 = 0
    have ha := (h4 a (by simp)).2
    rcases List.mem_cons.1 hv with rfl | hl
    · exact e
    · have := (List.pairwise_cons.1 hpw).1 v hl
      unfold ltC at this
      rw [decide_eq_false_iff_not] at this
      omega
/-- what an append to an elder list leaves as it was -/
structure FrmR (N : Nat) (w5 : World) (v : Value) (w : World) : Prop where
  blk : ∀ i, N ≤ i → i < w5.heap.size → w.heap[i]? = w5.heap[i]?
  own : ∀ k, v.ownBlock = some k → k < N ∨ w5.heap.size ≤ k
  size : w5.heap.size ≤ w.heap.size
theorem FrmR.belo {N : Nat} {w5 w w' : World} {v : Value} (h : FrmR N w5 v w) (hb : Below w.heap.size w w') : FrmR N w5 v w' :=
  ⟨fun i h1 h2 => (hb.block i (Nat.lt_of_lt_of_le h2 h.size)).trans (h.blk i h1 h2), h.own, Nat.le_trans h.size hb.size⟩
theorem FrmR.app {N : Nat} {w5 w w' : World} {v v' : Value} (h : FrmR N w5 v w) (hg : w.grownBy w' v.ownBlock) (hv : v'.ownBlock = v.ownBlock ∨ v'.ownBlock = some w.heap.size) : FrmR N w5 v' w' :=
  ⟨fun i h1 h2 => (hg.block i (Nat.lt_of_lt_of_le h2 h.size) (fun e => by have := h.own i e.symm; omega)).trans (h.blk i h1 h2), fun k hk => by
    rcases hv with e | e
    · exact h.own k (e ▸ hk)
    · rw [e] at hk; injection hk with hk; subst hk; exact .inr h.size, Nat.le_trans h.size hg.size⟩
end Go.Proofs.YtejkbjcmndnfeaaGreat

/- Contract: whether a place belongs to a region (the reference's). -/
namespace Go.Proofs.YtejkbjcmndnfeaaGreat
open Go.RowKit

set_option maxRecDepth 100000 in
set_option maxHeartbeats 1000000 in
theorem sAt_any (W T : Int) (A : Option Addr) (c : Nat) (bs : List Bool) (x y : Int) (w : World) (hr : Rd w A (bs.map .bool)) (h1 : 1 ≤ W) (h2 : W ≤ 6) (h3 : 1 ≤ T) (h4 : T ≤ 6) (hn : (bs.length : Int) = W * T) (hx : -1000 ≤ x ∧ x ≤ 1000) (hy : -1000 ≤ y ∧ y ≤ 1000) :
    Calls Tryz.prog 192 #[.agg #[.int .i64 W, .int .i64 T, .slice A bs.length c], .int .i64 x, .int .i64 y] w fun e w' => e = .returned (.bool (atQ W T bs x y)) ∧ Below w.heap.size w w' := by
  have X0 := C3.new w (.int .i64 W) (.int .i64 T) (.slice A bs.length c) 25
  have B0 := bl_alloc (Below.refl w.heap.size w) (.cells #[.int .i64 W, .int .i64 T, .slice A bs.length c] 25)
  obtain ⟨x0, x1, x2⟩ := id X0
  obtain ⟨hx1, hx2⟩ := hx
  obtain ⟨hy1, hy2⟩ := hy
  have HN := Lib.hid hn
  have h36 : bs.length ≤ 36 := by have := mul_bd h1 h2 h3 h4; omega
  clear hn
  by_cases hxin : 0 ≤ x ∧ x ≤ W - 1
  · by_cases hyin : 0 ≤ y ∧ y ≤ T - 1
    · obtain ⟨k, hk, hkn⟩ := at_idx h1 HN.out ⟨hxin.1, hxin.2, hyin.1, hyin.2⟩
      have HV := Lib.hid (atQ_t ⟨hxin.1, hxin.2, hyin.1, hyin.2⟩ hk hkn)
      obtain ⟨b, off, rfl, cb⟩ := (hr.alloc (.cells #[.int .i64 W, .int .i64 T, .slice A bs.length c] 25)).atEM hkn
      obtain ⟨v, hv⟩ : ∃ v, bs[k] = v := ⟨_, rfl⟩
      rw [hv] at cb HV
      clear hv
      have m0 : 0 ≤ y * W := Int.mul_nonneg hyin.1 (by omega)
      have wm : IntKind.i64.wrap (y * W) = y * W := IntWalk.i64_in _ (by omega)
      have wa : IntKind.i64.wrap (y * W + x) = (k : Int) := by rw [hk]; exact IntWalk.i64_in _ (by omega)
      have kI : (k : Int) < (bs.length : Int) := by omega
      obtain ⟨p1, p2⟩ := hxin
      obtain ⟨p3, p4⟩ := hyin
      clear hk
      go_enter Tryz.func192, Tryz.ntmps192
      go_wp2_with (go_at_call 70; first | ((with_reducible refine (l1in_t x _ _ _ p1 p2).mono ?_); rintro e w' ⟨rfl, rfl⟩) | ((with_reducible refine (l1in_t y _ _ _ p3 p4).mono ?_); rintro e w' ⟨rfl, rfl⟩))
      go_ret
      exact ⟨ret_b HV.out.symm, B0⟩
    · have HV := Lib.hid (atQ_f (W := W) (T := T) (bs := bs) (x := x) (y := y) (fun h => hyin ⟨h.2.2.1, h.2.2.2⟩))
      have hyo : y < 0 ∨ T - 1 < y := by omega
      obtain ⟨p1, p2⟩ := hxin
      go_enter Tryz.func192, Tryz.ntmps192
      go_wp2_with (go_at_call 70; first | ((with_reducible refine (l1in_t x _ _ _ p1 p2).mono ?_); rintro e w' ⟨rfl, rfl⟩) | ((with_reducible refine (l1in_f y _ _ _ hyo).mono ?_); rintro e w' ⟨rfl, rfl⟩))
      go_ret
      exact ⟨ret_b HV.out.symm, B0⟩
  · have HV := Lib.hid (atQ_f (W := W) (T := T) (bs := bs) (x := x) (y := y) (fun h => hxin ⟨h.1, h.2.1⟩))
    have hxo : x < 0 ∨ W - 1 < x := by omega
    go_enter Tryz.func192, Tryz.ntmps192
    go_wp2_with (go_at_call 70; refine (l1in_f x _ _ _ hxo).mono ?_; rintro e w' ⟨rfl, rfl⟩)
    go_ret
    exact ⟨ret_b HV.out.symm, B0⟩
end Go.Proofs.YtejkbjcmndnfeaaGreat

/- Contract: the reference's l8Put, a form put into a list. -/
namespace Go.Proofs.YtejkbjcmndnfeaaGreat
open Go.RowKit

/-- cells apart lie at places apart -/
theorem plc_apart {W T : Int} {bs : List Bool} {fill : List Int} {c : Nat} {form : List Ce} {v : Int} (hf : FldF W T bs.length) (hnd : form.Nodup) {q : Nat} (hq : q < form.length)
    (h : ∀ q' (h : q' < form.length), q' ≤ q → 0 ≤ fxC W c form form[q'] ∧ fxC W c form form[q'] ≤ W - 1 ∧ 0 ≤ fyC W c form form[q'] ∧ fyC W c form form[q'] ≤ T - 1) :
    (setF fill ((plcL W c form).take q) v).getD (fyC W c form form[q] * W + fxC W c form form[q]).toNat 0 = fill.getD (fyC W c form form[q] * W + fxC W c form form[q]).toNat 0 := by
  refine setF_not fun hm => ?_
  obtain ⟨j, hj, e⟩ := List.getElem_of_mem hm
  rw [List.length_take, plc_len] at hj
  have hjq : j < q := by omega
  have hjf : j < form.length := by omega
  rw [List.getElem_take, plc_get hjf] at e
  obtain ⟨a1, a2, a3, a4⟩ := h j hjf (by omega)
  obtain ⟨b1, b2, b3, b4⟩ := h q hq (Nat.le_refl _)
  obtain ⟨k1, e1, -, m1, d1⟩ := hf.at_ a1 a2 a3 a4
  obtain ⟨k2, e2, -, m2, d2⟩ := hf.at_ b1 b2 b3 b4
  rw [e1, e2, Int.toNat_natCast, Int.toNat_natCast] at e
  subst e
  have x : form[j] = form[q] := by
    unfold fxC at m1 m2
    unfold fyC at d1 d2
    exact Prod.ext (by omega) (by omega)
  have := List.pairwise_iff_getElem.1 hnd j q hjf hq hjq
  exact this x
/-- what l8Put hands back -/
def PutR (fit : Bool) (n : Nat) (new : List Int) (Af : Option Addr) (cf : Nat) (w : World) (e : Ending) (w' : World) : Prop :=
  (fit = true → ∃ (g c' : Nat), e = .returned (.tuple #[.slice (some ⟨g, 0, none⟩) n c', .bool true]) ∧ n ≤ c' ∧ Wr w' w.heap.size 3 (some ⟨g, 0, none⟩) (new.map (.int .i64)) ∧ g < w'.heap.size) ∧
  (fit = false → e = .returned (.tuple #[.slice Af n cf, .bool false])) ∧ Below w.heap.size w w'
set_option maxRecDepth 100000 in
set_option maxHeartbeats 4000000 in
theorem sPut_any (W T : Int) (A Af Ap : Option Addr) (c cf cp n cell m : Nat) (bs : List Bool) (fill : List Int) (form : List Ce) (w : World) (hr : Rd w A (bs.map .bool)) (hrF : Rd w Af (fill.map (.int .i64))) (hrC : RdC w Ap form)
    (hf : FldF W T bs.length) (hn : bs.length = n) (hl : fill.length = n) (hc : cell < n) (hfl : form.length ≤ 10) (hb : ∀ q ∈ form, -100 ≤ q.1 ∧ q.1 ≤ 100 ∧ -100 ≤ q.2 ∧ q.2 ≤ 100) (h0 : (form.headD (0, 0)).2 = 0) (hnd : form.Nodup) :
    Calls Tryz.prog 133 #[.agg #[.int .i64 W, .int .i64 T, .slice A n c], .slice Af n cf, .slice Ap form.length cp, .int .i64 cell, .int .i64 m] w (PutR (fitF W T bs fill cell form) n (setF fill (plcL W cell form) m) Af cf w) := by
  have X0 := C3.new w (.int .i64 W) (.int .i64 T) (.slice A n c) 25
  have B0 := bl_alloc (Below.refl w.heap.size w) (.cells #[.int .i64 W, .int .i64 T, .slice A n c] 25)
  have n36 : n ≤ 36 := by have := hf.bd; omega
  obtain ⟨w1, w6, t1, t6, hlen⟩ := id hf
  obtain ⟨i0, hi, hz0, hz1, hz2⟩ := info_parts Tryz.infoI
  have HZ := Lib.hid (And.intro hz0 (And.intro hz1 hz2))
  have HF := Lib.hid hf
  have HN := Lib.hid hn
  have HL := Lib.hid hl
  have HB := Lib.hid hb
  have HD := Lib.hid hnd
  have H0 := Lib.hid h0
  have CAT := Lib.hid (fun (x y : Int) (z : World) (R : Rd z A (bs.map .bool)) (hx : -1000 ≤ x ∧ x ≤ 1000) (hy : -1000 ≤ y ∧ y ≤ 1000) => by
    have := sAt_any W T A c bs x y z R w1 w6 t1 t6 hlen hx hy
    rw [HN.out] at this
    exact this)
  have hfn : fill ≠ [] := by intro e; rw [e] at hl; simp at hl; omega
  obtain ⟨bf, off, rfl, -⟩ := hrF.atEM (k := 0) (by rw [hl]; omega)
  have hown0 := World.ownsRow_lit (e := 3) (size := 1) (w.alloc (.cells #[.int .i64 W, .int .i64 T, .slice A n c] 25)) #[] 0 (Nat.le_refl _) (by unfold maxLen; omega) (by simp)
  obtain ⟨ad', e', hcell⟩ := ((hrF.belo B0).alloc (.cells #[] 3)) (by intro e; exact hfn (List.map_eq_nil_iff.1 e))
  have HC := Lib.hid (show ∀ j y, (fill.map (Value.int .i64))[j]? = some y → ((w.alloc (.cells #[.int .i64 W, .int .i64 T, .slice A n c] 25)).alloc (.cells #[] 3)).cell? ((⟨bf, off, none⟩ : Addr).add j) = some y from fun j y hy => by injection e' with e'; rw [e']; exact hcell j y hy)
  clear hz0 hz1 hz2 hf hn hl hb hnd h0 hlen hcell e'
  have eo : (w.alloc (.cells #[.int .i64 W, .int .i64 T, .slice A n c] 25)).heap.size = w.heap.size + 1 := by simp
  rw [eo] at hown0
  go_enter Tryz.func133, Tryz.ntmps133
  go_wp2_with (at_builtin; refine wpList_append_own _ rfl _ _ 27 rfl (w.heap.size + 1) 3 i0 (.int .i64 0) 1 8 Tryz.underlying27 hi HZ.out.1 HZ.out.2.1 HZ.out.2.2 rfl (by decide) _ _ _ rfl hown0 ⟨bf, off, none⟩ n cf (fill.map (.int .i64)) rfl (by simp; exact HL.out) HC.out (by intro y hy; obtain ⟨b, _, rfl⟩ := List.mem_map.1 hy; rfl) (by unfold maxLen; omega) (by omega) (by simp) ?_; intro v' w3 hown3 hg3 _)
  simp only [Nat.zero_add, List.nil_append] at hown3
  have b3 : Below w.heap.size w w3 := (bl_alloc B0 (.cells #[] 3)).grown hg3 (by simp; omega) (fun k hk => by have h2 : some (w.heap.size + 1) = some k := hk; injection h2 with h2; omega)
  obtain ⟨g, cap, rfl, hg, hgl⟩ := hown3.form (by omega)
  have hcap : n ≤ cap := by
    rcases hown3.2 with ⟨e, e2⟩ | ⟨g', cap', cur, e, _, _, h3, _⟩
    · omega
    · injection e with _ _ e3; omega
  have W3 := (Wr.of_own hown3).lower (show w.heap.size ≤ w.heap.size + 1 by omega)
  have b33 := (bl_alloc (Below.refl (w.alloc (.cells #[.int .i64 W, .int .i64 T, .slice A n c] 25)).heap.size (w.alloc (.cells #[.int .i64 W, .int .i64 T, .slice A n c] 25))) (.cells #[] 3)).grown hg3 (by simp) (fun k hk => by have h2 : some (w.heap.size + 1) = some k := hk; injection h2 with h2; rw [eo]; omega)
  rw [eo] at b33
  have X1 := X0
  obtain ⟨W1, hW1⟩ : ∃ W1, w.alloc (.cells #[.int .i64 W, .int .i64 T, .slice A n c] 25) = W1 := ⟨_, rfl⟩
  rw [hW1] at b33 X1 B0 eo
  have HE := Lib.hid eo
  clear hown3 hg3 hown0 HC X0 eo hW1
  obtain ⟨X, hX⟩ : ∃ X, (cell : Int) % W = X := ⟨_, rfl⟩
  obtain ⟨Y, hY⟩ : ∃ Y, (cell : Int) / W = Y := ⟨_, rfl⟩
  have hXY : 0 ≤ X ∧ X ≤ 6 ∧ 0 ≤ Y ∧ Y ≤ 36 := by
    obtain ⟨a1, a2, a3, a4, -⟩ := HF.out.xy (show cell < bs.length by rw [HN.out]; exact hc)
    omega
  obtain ⟨X0', X6', Y0', Y6'⟩ := hXY
  have HX := Lib.hid hX
  have HY := Lib.hid hY
  have HT := Lib.hid (show (cell : Int).tmod W = X ∧ (cell : Int).tdiv W = Y from ⟨by rw [Int.tmod_eq_emod_of_nonneg (by omega), hX], by rw [Int.tdiv_eq_ediv_of_nonneg (by omega), hY]⟩)
  clear hX hY
  go_wp2_with fail
  go_loopw [13] (fun i wr => LpF (fun q => q ≤ form.length ∧ Hid (∀ q' (h : q' < form.length), q' < q → fitQ W T bs fill (fxC W cell form form[q']) (fyC W cell form form[q']) = true) ∧ Wr wr w.heap.size 3 (some ⟨g, 0, none⟩) ((setF fill ((plcL W cell form).take q) m).map (.int .i64)) ∧ Below (w.heap.size + 1) W1 wr) i) (fun i _ => form.length - (intOf i).toNat)
  case atStart => exact ⟨0, rfl, Nat.zero_le _, fun q' h h2 => by omega, W3, b33⟩
  case round =>
    clear W3 b33
    obtain ⟨q, rfl, hq, HFQ, Wq, Bq⟩ := hrel
    obtain ⟨wc, hwc⟩ : ∃ wc : World, wc = wr := ⟨_, rfl⟩
    subst hwc
    have Bw : Below w.heap.size w wc := B0.trans (Bq.mono (by omega))
    by_cases hq2 : q < form.length
    · have RF : RdC wc Ap form := Rd.belo hrC Bw
      have hIq : (q : Int) < (form.length : Int) := by omega
      obtain ⟨b4, o4, rfl, g0a, g0b⟩ := RF.at_ (k := 0) (by omega)
      obtain ⟨b4', o4', e4, h1a, h1b⟩ := RF.at_ hq2
      injection e4 with e4
      injection e4 with e4 e5
      subst e4
      subst e5
      simp only [Nat.zero_mul, Nat.add_zero] at g0a g0b
      have hhd : form.headD (0, 0) = form[0]'(by omega) := by cases form with
        | nil => simp at hq2
        | cons a l => rfl
      obtain ⟨a1, a2, a3, a4⟩ := HB.out (form[0]'(by omega)) (List.getElem_mem _)
      obtain ⟨a5, a6, a7, a8⟩ := HB.out form[q] (List.getElem_mem hq2)
      have h00 := H0.out
      rw [hhd] at h00
      have HXY := Lib.hid (show fxC W cell form form[q] = X + form[q].1 - (form[0]'(by omega)).1 ∧ fyC W cell form form[q] = Y + form[q].2 by unfold fxC fyC; rw [hhd, HX.out, HY.out]; exact ⟨rfl, by omega⟩)
      have HPG := Lib.hid (plc_get (W := W) (c := cell) hq2 (by rw [plc_len]; exact hq2))
      have HAP := Lib.hid (fun h => plc_apart (v := (m : Int)) (fill := fill) (c := cell) HF.out HD.out hq2 h)
      have HNO := Lib.hid (fun (h : fitQ W T bs fill (fxC W cell form form[q]) (fyC W cell form form[q]) = false) => fit_no (W := W) (T := T) (bs := bs) (fill := fill) (c := cell) (List.getElem_mem hq2) h)
      have HQG := Lib.hid (show form[q]? = some form[q] from List.getElem?_eq_getElem hq2)
      obtain ⟨fa, hfa⟩ : ∃ fa, form[0]'(by omega) = fa := ⟨_, rfl⟩
      obtain ⟨fq, hfq⟩ : ∃ fq, form[q] = fq := ⟨_, rfl⟩
      rw [hfa] at g0a g0b a1 a2 a3 a4 HXY
      rw [hfq] at h1a h1b a5 a6 a7 a8 HXY HPG HAP HNO
      have HFQE := Lib.hid hfq
      clear hfq hfa hhd h00
      obtain ⟨x0, x1, x2⟩ := X1.below Bq (by omega)
      have i0' : IntKind.i64.wrap X = X := IntWalk.i64_in _ (by omega)
      have i1 : IntKind.i64.wrap (X + fq.1) = X + fq.1 := IntWalk.i64_in _ (by omega)
      have i2 : IntKind.i64.wrap (X + fq.1 - fa.1) = X + fq.1 - fa.1 := IntWalk.i64_in _ (by omega)
      have i3 : IntKind.i64.wrap Y = Y := IntWalk.i64_in _ (by omega)
      have i4 : IntKind.i64.wrap (Y + fq.2) = Y + fq.2 := IntWalk.i64_in _ (by omega)
      have hw0 : (W == 0) = false := by rw [beq_eq_false_iff_ne]; omega
      have hw1 : ¬ W = 0 := by omega
      have y1 := HT.out.1
      have y2 := HT.out.2
      have y3 := HX.out
      have y4 := HY.out
      go_wp2_with fail
      go_region
      go_wp2_with fail
      go_region
      have bd : Below wc.heap.size wc wc.drew.drew := (Below.refl wc.heap.size wc).drew.drew
      have W10 : Wr wc.drew.drew w.heap.size 3 (some ⟨g, 0, none⟩) ((setF fill ((plcL W cell form).take q) m).map (.int .i64)) := Wq.belo bd
      have B10 : Below (w.heap.size + 1) W1 wc.drew.drew := Bq.trans (bd.mono (by have := Bq.size; have := HE.out; omega))
      generalize wc.drew.drew = wd at *
      have Bw10 : Below w.heap.size w wd := B0.trans (B10.mono (by omega))
      clear bd g0a g0b h1a h1b RF Wq Bq Bw i0' i1 i2 i3 i4 y1 y2 y3 y4 x0 x1 x2
      obtain ⟨fx, hfx⟩ : ∃ fx, X + fq.1 - fa.1 = fx := ⟨_, rfl⟩
      obtain ⟨fy, hfy⟩ : ∃ fy, Y + fq.2 = fy := ⟨_, rfl⟩
      have hfx1 : -1000 ≤ fx ∧ fx ≤ 1000 := by omega
      have hfy1 : -1000 ≤ fy ∧ fy ≤ 1000 := by omega
      rw [hfx, hfy] at HXY ⊢
      clear hfx hfy
      have CATz := Lib.hid (CAT.out fx fy wd (hr.belo Bw10) hfx1 hfy1)
      obtain ⟨x0, x1, x2⟩ := X1.below B10 (by omega)
      go_wp2_with fail
      refine CATz.out.mono ?_
      rintro e w11 ⟨rfl, b11⟩
      have W11 := W10.belo b11
      have B11 : Below (w.heap.size + 1) W1 w11 := B10.trans (b11.mono (by have := B10.size; have := HE.out; omega))
      have Bw11 : Below w.heap.size w w11 := B0.trans (B11.mono (by omega))
      have HFE := Lib.hid (fitQ_eq (W := W) (T := T) (bs := bs) (fill := fill) (x := fx) (y := fy))
      clear x0 x1 x2 CATz W10 B10 Bw10 b11
      obtain ⟨x0, x1, x2⟩ := X1.below B11 (by omega)
      cases hat : atQ W T bs fx fy with
      | false =>
        have HBR0 := Lib.hid (HNO.out (by rw [HXY.out.1, HXY.out.2, HFE.out, hat]; rfl))
        clear hat
        go_wp2_with fail
        go_ret2
        refine ⟨fun h => ?_, fun _ => rfl, Bw11⟩
        rw [HBR0.out] at h; cases h
      | true =>
        have hin : 0 ≤ fx ∧ fx ≤ W - 1 ∧ 0 ≤ fy ∧ fy ≤ T - 1 := by
          have h := hat
          unfold atQ at h
          rw [Bool.and_eq_true, decide_eq_true_eq] at h
          exact h.1
        have HPA := Lib.hid (HAP.out (fun q' h1 h2 => by
          rcases Nat.lt_or_ge q' q with h3 | h3
          · have h4 := HFQ.out q' h1 h3
            unfold fitQ at h4
            rw [Bool.and_eq_true, decide_eq_true_eq] at h4
            exact h4.1
          · obtain rfl : q' = q := by omega
            rw [HFQE.out, HXY.out.1, HXY.out.2]; exact hin))
        obtain ⟨k9, hk9, hkn9⟩ := at_idx w1 HF.out.len hin
        rw [HN.out] at hkn9
        obtain ⟨p1, p2, p3, p4⟩ := hin
        have k9I : (k9 : Int) < (n : Int) := by omega
        have m0 : 0 ≤ fy * W := Int.mul_nonneg p3 (by omega)
        have i5 : IntKind.i64.wrap (fy * W) = fy * W := IntWalk.i64_in _ (by omega)
        have i6 : IntKind.i64.wrap (fy * W + fx) = (k9 : Int) := by rw [hk9]; exact IntWalk.i64_in _ (by omega)
        have k9f : k9 < (setF fill ((plcL W cell form).take q) m).length := by rw [setF_len, HL.out]; exact hkn9
        have c9f := W11.rd.cellEM (k := k9) k9f
        simp only [Nat.zero_add] at c9f
        have HF9 := Lib.hid (show fill.getD k9 0 = (setF fill ((plcL W cell form).take q) m)[k9] by
          have h := HPA.out
          rw [HXY.out.1, HXY.out.2, hk9, Int.toNat_natCast, List.getD_eq_getElem?_getD, List.getElem?_eq_getElem k9f] at h
          exact h.symm)
        obtain ⟨f9, hf9⟩ : ∃ f9, (setF fill ((plcL W cell form).take q) m)[k9] = f9 := ⟨_, rfl⟩
        rw [hf9] at c9f HF9
        have HQ9 := Lib.hid (show fitQ W T bs fill fx fy = decide (f9 < 0) by rw [HFE.out, hat, hk9, Int.toNat_natCast, HF9.out]; rfl)
        have HP9 := Lib.hid (show (plcL W cell form)[q]'(by rw [plc_len]; exact hq2) = k9 by rw [HPG.out, HXY.out.1, HXY.out.2, hk9, Int.toNat_natCast])
        obtain ⟨g', eg, -, -, fr⟩ := W11.form (by intro e; have := congrArg List.length e; simp at this; rw [this] at k9f; simp at k9f)
        injection eg with eg
        injection eg with eg
        subst eg
        have fr9 := fr k9
        clear hat hf9 hk9 fr
        cases hge9 : decide (0 ≤ f9) with
        | true =>
          have hge0 : 0 ≤ f9 := of_decide_eq_true hge9
          have HBR0 := Lib.hid (HNO.out (by rw [HXY.out.1, HXY.out.2, HQ9.out]; exact decide_eq_false (by omega)))
          go_wp2_with fail
          go_ret2
          refine ⟨fun h => ?_, fun _ => rfl, Bw11⟩
          rw [HBR0.out] at h; cases h
        | false =>
          have hge0 : ¬ 0 ≤ f9 := of_decide_eq_false hge9
          have HYQ := Lib.hid (show fitQ W T bs fill (fxC W cell form form[q]) (fyC W cell form form[q]) = true by rw [HFQE.out, HXY.out.1, HXY.out.2, HQ9.out]; exact decide_eq_true (by omega))
          go_wp2_with fail
          go_roundw
          case rel =>
            refine ⟨q + 1, by go_num, by omega, fun q' h h2 => ?_, ?_, B11.setCell (by simp; omega) _⟩
            · rcases Nat.lt_or_ge q' q with h3 | h3
              · exact HFQ.out q' h h3
              · obtain rfl : q' = q := by omega
                exact HYQ.out
            · rw [setF_take _ _ _ (by rw [plc_len]; exact hq2), HP9.out, List.map_set]
              exact W11.store k9 _
          case measure => simp [intOf]; omega
    · obtain rfl : q = form.length := by omega
      have HFIT := Lib.hid (fit_all (fun q' h => HFQ.out q' h h))
      rw [List.take_of_length_le (by rw [plc_len]; exact Nat.le_refl _)] at Wq
      go_wp2_with fail
      go_ret2
      refine ⟨fun _ => ⟨g, cap, rfl, hcap, Wq, ?_⟩, fun h => ?_, Bw⟩
      · have h := Bq.size
        have := HE.out
        exact (Wq.form (by intro e; have h2 := congrArg List.length e; rw [List.length_map, setF_len, HL.out] at h2; simp at h2; omega)).elim fun g' ⟨e, _, h3, _⟩ => by injection e with e; injection e with e; rw [e]; exact h3
      · rw [HFIT.out] at h; cases h
end Go.Proofs.YtejkbjcmndnfeaaGreat

/- Contracts: the reference's PieceMoved, PieceTurn, PieceFlip. -/
namespace Go.Proofs.YtejkbjcmndnfeaaGreat
open Go.RowKit Go.Sort

set_option maxHeartbeats 1000000 in
theorem sPieceMoved_any (A : Option Addr) (c : Nat) (ps : List Ce) (w : World) (hr : RdC w A ps) (hn : ps.length ≤ maxLen) (hcap : ps.length ≤ c) :
    Calls Tryz.prog 132 #[.slice A ps.length c] w (NewRdK (mvdV stayC ps) w) := by
  cases hp : pieceB ps with
  | true =>
    obtain ⟨⟨h1, h5⟩, hb, hnd, -⟩ := ok_of_pieceB hp
    rw [show mvdV stayC ps = mvd ps by unfold mvdV; rw [if_pos hp, map_stay]]
    have HP := Lib.hid hp
    have HB := Lib.hid (show ∀ q ∈ ps, inBd 9 q from hb)
    have HN := Lib.hid hnd
    clear hp hb hnd
    go_enter Tryz.func132, Tryz.ntmps132
    go_wp2_with fail
    refine (sPieceValid_any _ _ _ _ hr hn hcap).mono ?_
    rintro e w1 ⟨rfl, b1⟩
    rw [HP.out]
    go_wp2_with fail
    refine (l8Moved_any _ _ _ _ (hr.belo b1) h1 h5 HB.out HN.out).mono ?_
    rintro e w2 ⟨A2, c2, rfl, r2, b2, f2⟩
    go_wp2
    go_ret
    exact ⟨A2, c2, rfl, r2, bl_go b1 b2, fun ad h => by have := f2.1 ad h; have := b1.size; omega, f2.2⟩
  | false =>
    rw [show mvdV stayC ps = [] by unfold mvdV; rw [hp]; rfl]
    have HP := Lib.hid hp
    clear hp
    go_enter Tryz.func132, Tryz.ntmps132
    go_wp2_with fail
    refine (sPieceValid_any _ _ _ _ hr hn hcap).mono ?_
    rintro e w1 ⟨rfl, b1⟩
    rw [HP.out]
    go_wp2
    go_ret
    refine ⟨_, _, rfl, Rd.nil _ _, bl_alloc b1 _, fun ad h => ?_, Nat.zero_le _⟩
    injection h with h
    subst h
    exact b1.size
/-- numbers of 64 bits -/
def okI (x : Int) : Prop := -9223372036854775808 ≤ x ∧ x ≤ 9223372036854775807
def okC (c : Ce) : Prop := okI c.1 ∧ okI c.2
def negI (x : Int) : Int := IntKind.i64.wrap (-x)
theorem negI_ok {x : Int} (h : okI x) (hx : x ≠ -9223372036854775808) : negI x = -x := by unfold okI at h; unfold negI; exact IntWalk.i64_in _ (by omega)
theorem negI_min : negI (-9223372036854775808) = -9223372036854775808 := by decide
def turnW (c : Ce) : Ce := (negI c.2, c.1)
def flipW (c : Ce) : Ce := (negI c.1, c.2)
theorem turnW_eq {ps : List Ce} (hw : ∀ q ∈ ps, okC q) : mvdV stayC (ps.map turnW) = mvdV turnC ps := by
  by_cases hm : ∃ q ∈ ps, q.2 = -9223372036854775808
  · obtain ⟨q, hq, hqm⟩ := hm
    have e1 : pieceB ps = false := pieceB_f (fun hk => by have := hk.2.1 q hq; omega)
    have e2 : pieceB (ps.map turnW) = false := pieceB_f (fun hk => by
      have := hk.2.1 (turnW q) (List.mem_map_of_mem hq)
      have e : (turnW q).1 = -9223372036854775808 := by unfold turnW; rw [hqm]; exact negI_min
      omega)
    unfold mvdV
    rw [e1, e2]; rfl
  · have e : ps.map turnW = ps.map turnC := by
      refine List.map_congr_left (fun q hq => ?_)
      have h1 := hw q hq
      unfold turnW turnC
      rw [negI_ok h1.2 (fun hh => hm ⟨q, hq, hh⟩)]
    unfold mvdV
    rw [e, map_stay, pieceB_turn]
set_option maxRecDepth 100000 in
set_option maxHeartbeats 2000000 in
theorem sPieceTurn_any (A : Option Addr) (c : Nat) (ps : List Ce) (w : World) (hr : RdC w A ps) (hn : ps.length ≤ 1048576) (hw : ∀ q ∈ ps, okC q) :
    Calls Tryz.prog 193 #[.slice A ps.length c] w (NewRdK (mvdV turnC ps) w) := by
  rw [← turnW_eq hw]
  clear hw
  have O0 : OwnC (w.alloc (.cells #[] 89)) w.heap.size (.slice (some ⟨w.heap.size, 0, none⟩) 0 0) [] := ⟨_, _, rfl, World.ownsRow_lit w #[] 0 (Nat.le_refl _) (by simp) (by simp)⟩
  have Z0 := bl_alloc (Below.refl w.heap.size w) (.cells #[] 89)
  go_enter Tryz.func193, Tryz.ntmps193
  go_wp2_with fail
  go_loopw [3, 4] (fun v i wr => ∃ (k : Nat) (L : List Ce), Hid (L = (ps.take k).map turnW) ∧ L.length = k ∧ k ≤ ps.length ∧ i = .int .i64 k ∧ OwnC wr w.heap.size v L ∧ Below w.heap.size w wr) (fun _ i _ => ps.length - (intOf i).toNat)
  case atStart => exact ⟨0, [], rfl, rfl, Nat.zero_le _, rfl, O0, Z0⟩
  case round =>
    clear O0 Z0
    obtain ⟨k, L, HL, hLk, hk, rfl, OM, B1⟩ := hrel
    obtain ⟨A3, c3, rfl, hw3⟩ := id OM
    by_cases hlt : k < ps.length
    · obtain ⟨b, off, rfl, c0, c1⟩ := RdC.at_ (w := wr) (show RdC wr A ps from hr.belo B1) hlt
      obtain ⟨q, hq⟩ : ∃ q, ps[k] = q := ⟨_, rfl⟩
      have HQ := Lib.hid hq
      rw [hq] at c0 c1
      clear hq
      obtain ⟨x, y⟩ := q
      simp only at c0 c1
      have hkI : (k : Int) < (ps.length : Int) := by omega
      have hng : IntKind.i64.wrap (-y) = negI y := rfl
      have z2 := World.block_lt_of_cell? wr _ c0
      simp only at z2
      have hsz := B1.size
      have OW1 : OwnC (wr.alloc (.cells #[.int .i64 (negI y), .int .i64 x] 89)).drew w.heap.size (.slice A3 L.length c3) L := OM.alloc _
      have BB1 : Below w.heap.size w (wr.alloc (.cells #[.int .i64 (negI y), .int .i64 x] 89)).drew := (bl_alloc B1 _).drew
      have e0 : (wr.alloc (.cells #[.int .i64 (negI y), .int .i64 x] 89)).drew.cell? ⟨wr.heap.size, 0, none⟩ = some (.int .i64 (negI y)) := cell_of_row _ _ _ _ _ _ (heap_alloc_new wr _)
      have e1 : (wr.alloc (.cells #[.int .i64 (negI y), .int .i64 x] 89)).drew.cell? ⟨wr.heap.size, 1, none⟩ = some (.int .i64 x) := cell_of_row _ _ _ _ _ _ (heap_alloc_new wr _)
      have hLl : L.length ≤ 1000000000000 := by omega
      have HLK := Lib.hid hLk
      clear hLk
      go_wp2_with fail
      go_region_law (first
        | (refine step_app_cell _ rfl _ _ rfl w.heap.size _ L rfl OW1 (negI y) x _ rfl e0 e1 hLl (by simp; omega) ?_
           intro g4 c4 w4 o4 G4 e4))
      all_goals (
        go_wp2_with fail
        go_roundw
        case rel =>
          refine ⟨k + 1, L ++ [(negI y, x)], ?_, by rw [List.length_append, HLK.out]; rfl, by omega, by go_num, by simpa using o4, BB1.grown G4 (by simp; omega) (fun kk hkk => own_base_lt OW1 kk hkk)⟩
          show _ = _
          rw [take_one_more ps k hlt, List.map_append, HL.out, HQ.out]
          rfl
        case measure => simp [intOf]; omega)
    · obtain rfl : k = ps.length := by omega
      have HE : Hid (L = ps.map turnW) := by show _ = _; rw [HL.out, List.take_length]
      have hcap : L.length ≤ c3 := by
        rcases hw3.2 with ⟨e, e2⟩ | ⟨g, cap, cur, e, _, _, h3, _⟩
        · injection e with _ _ e3; omega
        · injection e with _ _ e3; omega
      have hcon := sPieceMoved_any A3 c3 L wr OM.rd (by unfold maxLen; omega) hcap
      rw [hLk] at hcon
      have HC := Lib.hid hcon
      clear hw3 hcon
      go_wp2_with fail
      refine HC.out.mono ?_
      rintro e w2 ⟨A2, c2, rfl, r2, b2, f2⟩
      rw [HE.out] at r2 ⊢
      go_wp2
      go_ret
      exact ⟨A2, c2, rfl, r2, bl_go B1 b2, fun ad h => by have := f2.1 ad h; have := B1.size; omega, by rw [← HE.out]; exact f2.2⟩
theorem flipW_eq {ps : List Ce} (hw : ∀ q ∈ ps, okC q) : mvdV stayC (ps.map flipW) = mvdV flipC ps := by
  by_cases hm : ∃ q ∈ ps, q.1 = -9223372036854775808
  · obtain ⟨q, hq, hqm⟩ := hm
    have e1 : pieceB ps = false := pieceB_f (fun hk => by have := hk.2.1 q hq; omega)
    have e2 : pieceB (ps.map flipW) = false := pieceB_f (fun hk => by
      have := hk.2.1 (flipW q) (List.mem_map_of_mem hq)
      have e : (flipW q).1 = -9223372036854775808 := by unfold flipW; rw [hqm]; exact negI_min
      omega)
    unfold mvdV
    rw [e1, e2]; rfl
  · have e : ps.map flipW = ps.map flipC := by
      refine List.map_congr_left (fun q hq => ?_)
      have h1 := hw q hq
      unfold flipW flipC
      rw [negI_ok h1.1 (fun hh => hm ⟨q, hq, hh⟩)]
    unfold mvdV
    rw [e, map_stay, pieceB_flip]
set_option maxRecDepth 100000 in
set_option maxHeartbeats 2000000 in
theorem sPieceFlip_any (A : Option Addr) (c : Nat) (ps : List Ce) (w : World) (hr : RdC w A ps) (hn : ps.length ≤ 1048576) (hw : ∀ q ∈ ps, okC q) :
    Calls Tryz.prog 194 #[.slice A ps.length c] w (NewRdK (mvdV flipC ps) w) := by
  rw [← flipW_eq hw]
  clear hw
  have O0 : OwnC (w.alloc (.cells #[] 89)) w.heap.size (.slice (some ⟨w.heap.size, 0, none⟩) 0 0) [] := ⟨_, _, rfl, World.ownsRow_lit w #[] 0 (Nat.le_refl _) (by simp) (by simp)⟩
  have Z0 := bl_alloc (Below.refl w.heap.size w) (.cells #[] 89)
  go_enter Tryz.func194, Tryz.ntmps194
  go_wp2_with fail
  go_loopw [3, 4] (fun v i wr => ∃ (k : Nat) (L : List Ce), Hid (L = (ps.take k).map flipW) ∧ L.length = k ∧ k ≤ ps.length ∧ i = .int .i64 k ∧ OwnC wr w.heap.size v L ∧ Below w.heap.size w wr) (fun _ i _ => ps.length - (intOf i).toNat)
  case atStart => exact ⟨0, [], rfl, rfl, Nat.zero_le _, rfl, O0, Z0⟩
  case round =>
    clear O0 Z0
    obtain ⟨k, L, HL, hLk, hk, rfl, OM, B1⟩ := hrel
    obtain ⟨A3, c3, rfl, hw3⟩ := id OM
    by_cases hlt : k < ps.length
    · obtain ⟨b, off, rfl, c0, c1⟩ := RdC.at_ (w := wr) (show RdC wr A ps from hr.belo B1) hlt
      obtain ⟨q, hq⟩ : ∃ q, ps[k] = q := ⟨_, rfl⟩
      have HQ := Lib.hid hq
      rw [hq] at c0 c1
      clear hq
      obtain ⟨x, y⟩ := q
      simp only at c0 c1
      have hkI : (k : Int) < (ps.length : Int) := by omega
      have hng : IntKind.i64.wrap (-x) = negI x := rfl
      have z2 := World.block_lt_of_cell? wr _ c0
      simp only at z2
      have hsz := B1.size
      have OW1 : OwnC (wr.alloc (.cells #[.int .i64 (negI x), .int .i64 y] 89)).drew w.heap.size (.slice A3 L.length c3) L := OM.alloc _
      have BB1 : Below w.heap.size w (wr.alloc (.cells #[.int .i64 (negI x), .int .i64 y] 89)).drew := (bl_alloc B1 _).drew
      have e0 : (wr.alloc (.cells #[.int .i64 (negI x), .int .i64 y] 89)).drew.cell? ⟨wr.heap.size, 0, none⟩ = some (.int .i64 (negI x)) := cell_of_row _ _ _ _ _ _ (heap_alloc_new wr _)
      have e1 : (wr.alloc (.cells #[.int .i64 (negI x), .int .i64 y] 89)).drew.cell? ⟨wr.heap.size, 1, none⟩ = some (.int .i64 y) := cell_of_row _ _ _ _ _ _ (heap_alloc_new wr _)
      have hLl : L.length ≤ 1000000000000 := by omega
      have HLK := Lib.hid hLk
      clear hLk
      go_wp2_with fail
      go_region_law (first
        | (refine step_app_cell _ rfl _ _ rfl w.heap.size _ L rfl OW1 (negI x) y _ rfl e0 e1 hLl (by simp; omega) ?_
           intro g4 c4 w4 o4 G4 e4))
      all_goals (
        go_wp2_with fail
        go_roundw
        case rel =>
          refine ⟨k + 1, L ++ [(negI x, y)], ?_, by rw [List.length_append, HLK.out]; rfl, by omega, by go_num, by simpa using o4, BB1.grown G4 (by simp; omega) (fun kk hkk => own_base_lt OW1 kk hkk)⟩
          show _ = _
          rw [take_one_more ps k hlt, List.map_append, HL.out, HQ.out]
          rfl
        case measure => simp [intOf]; omega)
    · obtain rfl : k = ps.length := by omega
      have HE : Hid (L = ps.map flipW) := by show _ = _; rw [HL.out, List.take_length]
      have hcap : L.length ≤ c3 := by
        rcases hw3.2 with ⟨e, e2⟩ | ⟨g, cap, cur, e, _, _, h3, _⟩
        · injection e with _ _ e3; omega
        · injection e with _ _ e3; omega
      have hcon := sPieceMoved_any A3 c3 L wr OM.rd (by unfold maxLen; omega) hcap
      rw [hLk] at hcon
      have HC := Lib.hid hcon
      clear hw3 hcon
      go_wp2_with fail
      refine HC.out.mono ?_
      rintro e w2 ⟨A2, c2, rfl, r2, b2, f2⟩
      rw [HE.out] at r2 ⊢
      go_wp2
      go_ret
      exact ⟨A2, c2, rfl, r2, bl_go B1 b2, fun ad h => by have := f2.1 ad h; have := B1.size; omega, by rw [← HE.out]; exact f2.2⟩
end Go.Proofs.YtejkbjcmndnfeaaGreat

/- Contracts: the reference's forms of a piece. -/
namespace Go.Proofs.YtejkbjcmndnfeaaGreat
open Go.RowKit Go.Sort

section
variable {ops : Array Oper} {o : Oper} {a : Act} {Q : Exit → Act → World → Prop}
/-- a part of a list of heads appended to a list of heads of its own, an empty one too -/
theorem step_headsA {K : Act → World → Prop} {E : Prop} (W : World) (hgd : o.guard = none) (s x : Operand) (ho : o.op = .call { callee := .builtin .append, args := #[s, x], argTypes := #[26, 26] })
    (base : Nat) (v : Value) (xs : List Value) (hs : a.eval s = v) (hown : OwnH W base v xs) (ad : Addr) (n c : Nat) (ys : List Value) (hx : a.eval x = .slice (some ad) n c) (hl : ys.length = n) (hq : ∀ j u, ys[j]? = some u → W.cell? (ad.add j) = some u) (h1 : ∀ u ∈ ys, u.oneCell' = true) (hm : xs.length + n ≤ 1000000000) (hbase : base ≤ W.heap.size)
    (h : ∀ v' w', OwnH w' base v' (xs ++ ys) → W.grownBy w' v.ownBlock → K (a.put o.dst v') w') :
    if Region.wanted o (yielded ops a.tmps) = true then Oper.wp Tryz.prog o a W K Q else E := by
  obtain ⟨i0, hi, hz0, hz1, hz2⟩ := info_parts Tryz.infoSC
  obtain ⟨A, c', e, hown⟩ := hown
  have hw : Region.wanted o (yielded ops a.tmps) = true := by simp [Region.wanted, hgd]
  rw [if_pos hw]
  obtain ⟨v', w', hr, h2, h3, _, _⟩ := run_append_own_at (P := Tryz.prog) W base 26 o.type 32 i0 _ 1 24 Tryz.underlying26 hi hz0 hz1 hz2 rfl (by decide) v xs.length xs hown ad n c ys (by omega) hq h1 (by unfold maxLen; omega) (by omega) hbase
  unfold Oper.wp execOp
  simp only [ho, resolve, invoke, builtin, Sem.run_bind, Sem.run_pure, Result.andThen_ok, List.map_toArray, List.map_cons, List.map_nil, hs, hx, hr]
  refine h v' w' ?_ h3
  have hlen : (xs ++ ys).length = xs.length + n := by rw [List.length_append, hl]
  rcases h2.2 with ⟨e1, e2⟩ | ⟨g, cap, cur, e1, _⟩
  · subst e1
    have hnil : xs ++ ys = [] := List.eq_nil_of_length_eq_zero (by omega)
    rw [hnil]
    exact ⟨none, 0, rfl, World.ownsRow_nil _ _ _ _⟩
  · subst e1
    exact ⟨_, cap, by rw [hlen], by rw [hlen]; exact h2⟩
end
set_option maxHeartbeats 400000 in
theorem l8LessC_any (x y : Ce) (w : World) :
    Calls Tryz.prog 235 #[.agg #[.int .i64 x.1, .int .i64 x.2], .agg #[.int .i64 y.1, .int .i64 y.2]] w fun e w' => e = .returned (.bool (ltC x y)) ∧ Below w.heap.size w w' := l8Less_any x.1 x.2 y.1 y.2 w
theorem ltL_at : ∀ (k : Nat) (ps qs : List Ce), ps.length = qs.length → (∀ j (h : j < ps.length) (h2 : j < qs.length), j < k → ps[j] = qs[j]) → ∀ (h : k < ps.length) (h2 : k < qs.length), ps[k] ≠ qs[k] → ltL ps qs = ltC ps[k] qs[k]
  | k, [], qs, _, _, h, _, _ => by simp at h
  | k, a :: l, [], _, _, _, h2, _ => by simp at h2
  | 0, a :: l, b :: m, _, _, _, _, hne => by
    simp only [List.getElem_cons_zero] at hne ⊢
    unfold ltL
    rw [decide_eq_false hne]; simp
  | k + 1, a :: l, b :: m, hl, hs, h, h2, hne => by
    have h0 := hs 0 (by simp) (by simp) (by omega)
    simp only [List.getElem_cons_zero] at h0
    subst h0
    simp only [List.getElem_cons_succ] at hne ⊢
    unfold ltL
    rw [show ltC a a = false by rw [← ltC_eq]; exact swoC.irrefl a, ltL_at k l m (by simpa using hl) (fun j hj hj2 hjk => by have := hs (j + 1) (by simpa using hj) (by simpa using hj2) (by omega); simpa using this) (by simpa using h) (by simpa using h2) hne]
    simp
theorem eq_upto {α : Type} {n : Nat} {ps qs : List α} (h1 : ps.length = n) (h2 : qs.length = n) (h : ∀ j (h : j < ps.length) (h2 : j < qs.length), j < n → ps[j] = qs[j]) : ps = qs :=
  List.ext_getElem (by omega) (fun j hj hj2 => h j hj hj2 (by omega))
set_option maxHeartbeats 2000000 in
theorem l8Before_any (A A' : Option Addr) (n c c' : Nat) (ps qs : List Ce) (w : World) (hr : RdC w A ps) (hr' : RdC w A' qs) (hp : ps.length = n) (hq : qs.length = n) (hn : n ≤ 1000000) :
    Calls Tryz.prog 207 #[.slice A n c, .slice A' n c'] w fun e w' => e = .returned (.bool (ltL ps qs)) ∧ Below w.heap.size w w' := by
  have HP := Lib.hid hp
  have HQ := Lib.hid hq
  clear hp hq
  have hneq := fun W a b x y => neq_cell W a b x y
  go_enter Tryz.func207, Tryz.ntmps207
  go_wp2_with fail
  go_loopw [5] (fun i wr => ∃ k : Nat, k ≤ n ∧ i = .int .i64 k ∧ Hid (∀ j (h : j < ps.length) (h2 : j < qs.length), j < k → ps[j] = qs[j]) ∧ Below w.heap.size w wr) (fun i _ => n - (intOf i).toNat)
  case atStart => exact ⟨0, Nat.zero_le _, rfl, fun j h h2 h3 => by omega, Below.refl _ _⟩
  case round =>
    obtain ⟨k, hk, rfl, HK, Z1⟩ := hrel
    by_cases hlt : k < n
    · have hkp : k < ps.length := by rw [HP.out]; exact hlt
      have hkq : k < qs.length := by rw [HQ.out]; exact hlt
      obtain ⟨b, off, rfl, c0, c1⟩ := RdC.at_ (w := wr) (Rd.belo hr Z1) hkp
      obtain ⟨b', off', rfl, d0, d1⟩ := RdC.at_ (w := wr) (Rd.belo hr' Z1) hkq
      have HL := Lib.hid (fun hne => ltL_at k ps qs (by rw [HP.out, HQ.out]) HK.out hkp hkq hne)
      by_cases hc : ps[k] = qs[k]
      · have HC := Lib.hid hc
        rw [← hc] at d0 d1
        clear hc
        generalize ps[k] = z at c0 c1 d0 d1
        obtain ⟨x, y⟩ := z
        simp only at c0 c1 d0 d1
        have hqq : (x == x && y == y) = true := by simp
        clear HL
        go_wp2_with fail
        go_quiet (fail)
        go_wp2_with fail
        go_roundw
        case rel =>
          refine ⟨k + 1, by omega, by go_num, fun j h h2 h3 => ?_, below_drewN' Z1 _⟩
          rcases Nat.lt_or_ge j k with h4 | h4
          · exact HK.out j h h2 h4
          · obtain rfl : j = k := by omega
            exact HC.out
        case measure => simp [intOf]; omega
      · have hb : (ps[k].1 == qs[k].1 && ps[k].2 == qs[k].2) = false := by
          cases h : (ps[k].1 == qs[k].1 && ps[k].2 == qs[k].2) with
          | false => rfl
          | true => simp at h; exact absurd (Prod.ext h.1 h.2) hc
        have HF := Lib.hid (HL.out hc)
        clear hc HL
        obtain ⟨z, hz⟩ : ∃ z, ps[k] = z := ⟨_, rfl⟩
        obtain ⟨z', hz'⟩ : ∃ z, qs[k] = z := ⟨_, rfl⟩
        have HZ := Lib.hid hz
        have HZ' := Lib.hid hz'
        rw [hz] at c0 c1 hb
        rw [hz'] at d0 d1 hb
        clear hz hz'
        have CL := Lib.hid (fun W => l8LessC_any z z' W)
        obtain ⟨x, y⟩ := z
        obtain ⟨x', y'⟩ := z'
        simp only at c0 c1 d0 d1 hb
        go_wp2_with fail
        go_quiet (fail)
        go_wp2_with fail
        have c0q : (wr.drewN nq).cell? ⟨b, off + k * 2, none⟩ = some (.int .i64 x) := c0
        have c1q : (wr.drewN nq).cell? ⟨b, off + k * 2 + 1, none⟩ = some (.int .i64 y) := c1
        have d0q : (wr.drewN nq).cell? ⟨b', off' + k * 2, none⟩ = some (.int .i64 x') := d0
        have d1q : (wr.drewN nq).cell? ⟨b', off' + k * 2 + 1, none⟩ = some (.int .i64 y') := d1
        have Zq := below_drewN' Z1 nq
        clear c0 c1 d0 d1 Z1
        generalize wr.drewN nq = wq at *
        have hb1 : b < wq.heap.size := by have := World.block_lt_of_cell? wq _ c0q; simpa using this
        have hb2 : b' < wq.heap.size := by have := World.block_lt_of_cell? wq _ d0q; simpa using this
        have e0 : ∀ z : BW wq, z.wo.cell? ⟨b, off + k * 2, none⟩ = some (.int .i64 x) := fun z => z.cell hb1 c0q
        have e1 : ∀ z : BW wq, z.wo.cell? ⟨b, off + k * 2 + 1, none⟩ = some (.int .i64 y) := fun z => z.cell hb1 c1q
        have f0 : ∀ z : BW wq, z.wo.cell? ⟨b', off' + k * 2, none⟩ = some (.int .i64 x') := fun z => z.cell hb2 d0q
        have f1 : ∀ z : BW wq, z.wo.cell? ⟨b', off' + k * 2 + 1, none⟩ = some (.int .i64 y') := fun z => z.cell hb2 d1q
        (refine region_bw (by kernel_rfl) (by kernel_rfl) ?_; (repeat (first | go_big_quiet_skip | (go_big_quiet_want; go_big_quiet_op; first | go_big_quiet_on | (refine ⟨.bool (ltC (x, y) (x', y')), fun zz => ?_, ?_⟩; (go_at_call 235; exact zz.on (CL.out _)); go_big_quiet_on)))); refine wpQuiet_nil ?_; intro wz hw'; obtain ⟨zw, hw''⟩ := hw'; subst hw'')
        go_wp2_with fail
        go_ret
        exact ⟨ret_b (by rw [HF.out, HZ.out, HZ'.out]), bl_go Zq zw.ok⟩
    · have HT := Lib.hid (show ltL ps qs = false by rw [eq_upto HP.out HQ.out (fun j h h2 h3 => HK.out j h h2 (by omega))]; exact ltL_irrefl _)
      go_wp2_with fail
      go_ret
      exact ⟨ret_b HT.out.symm, Z1⟩
set_option maxHeartbeats 2000000 in
theorem l8Same_any (A A' : Option Addr) (n c c' : Nat) (ps qs : List Ce) (w : World) (hr : RdC w A ps) (hr' : RdC w A' qs) (hp : ps.length = n) (hq : qs.length = n) (hn : n ≤ 1000000) :
    Calls Tryz.prog 140 #[.slice A n c, .slice A' n c'] w fun e w' => e = .returned (.bool (decide (ps = qs))) ∧ Below w.heap.size w w' := by
  have HP := Lib.hid hp
  have HQ := Lib.hid hq
  clear hp hq
  have hneq := fun W a b x y => neq_cell W a b x y
  have hnn : ((n : Int) == (n : Int)) = true := by simp
  go_enter Tryz.func140, Tryz.ntmps140
  go_wp2_with fail
  go_loopw [5] (fun i wr => ∃ k : Nat, k ≤ n ∧ i = .int .i64 k ∧ Hid (∀ j (h : j < ps.length) (h2 : j < qs.length), j < k → ps[j] = qs[j]) ∧ Below w.heap.size w wr) (fun i _ => n - (intOf i).toNat)
  case atStart => exact ⟨0, Nat.zero_le _, rfl, fun j h h2 h3 => by omega, Below.refl _ _⟩
  case round =>
    obtain ⟨k, hk, rfl, HK, Z1⟩ := hrel
    by_cases hlt : k < n
    · have hkp : k < ps.length := by rw [HP.out]; exact hlt
      have hkq : k < qs.length := by rw [HQ.out]; exact hlt
      obtain ⟨b, off, rfl, c0, c1⟩ := RdC.at_ (w := wr) (Rd.belo hr Z1) hkp
      obtain ⟨b', off', rfl, d0, d1⟩ := RdC.at_ (w := wr) (Rd.belo hr' Z1) hkq
      by_cases hc : ps[k] = qs[k]
      · have HC := Lib.hid hc
        rw [← hc] at d0 d1
        clear hc
        generalize ps[k] = z at c0 c1 d0 d1
        obtain ⟨x, y⟩ := z
        simp only at c0 c1 d0 d1
        have hqq : (x == x && y == y) = true := by simp

        go_wp2_with fail
        go_quiet (fail)
        go_wp2_with fail
        go_roundw
        case rel =>
          refine ⟨k + 1, by omega, by go_num, fun j h h2 h3 => ?_, below_drewN' Z1 _⟩
          rcases Nat.lt_or_ge j k with h4 | h4
          · exact HK.out j h h2 h4
          · obtain rfl : j = k := by omega
            exact HC.out
        case measure => simp [intOf]; omega
      · have HF := Lib.hid (show decide (ps = qs) = false from decide_eq_false (fun e => hc (by simp only [e])))
        have hb : (ps[k].1 == qs[k].1 && ps[k].2 == qs[k].2) = false := by
          cases h : (ps[k].1 == qs[k].1 && ps[k].2 == qs[k].2) with
          | false => rfl
          | true => simp at h; exact absurd (Prod.ext h.1 h.2) hc
        clear hc
        generalize ps[k] = z at c0 c1 hb
        generalize qs[k] = z' at d0 d1 hb
        obtain ⟨x, y⟩ := z
        obtain ⟨x', y'⟩ := z'
        simp only at c0 c1 d0 d1 hb

        go_wp2_with fail
        go_quiet (fail)
        go_wp2_with fail
        go_ret
        exact ⟨ret_b HF.out.symm, below_drewN' Z1 _⟩
    · have HT := Lib.hid (show decide (ps = qs) = true from decide_eq_true (eq_upto HP.out HQ.out (fun j h h2 h3 => HK.out j h h2 (by omega))))
      go_wp2_with fail
      go_ret
      exact ⟨ret_b HT.out.symm, Z1⟩
end Go.Proofs.YtejkbjcmndnfeaaGreat

/- Contracts: the reference's PieceForms. (printed by gen_sforms.py) -/
namespace Go.Proofs.YtejkbjcmndnfeaaGreat
open Go.RowKit Go.Sort

/-- the heads read as the lists -/
def HeadsN (w : World) (xs : List Value) (pss : List (List Ce)) : Prop :=
  xs.length = pss.length ∧ ∀ k (h : k < pss.length), ∃ (B : Option Addr) (c' : Nat), xs[k]? = some (.slice B pss[k].length c') ∧ pss[k].length ≤ 7 ∧ RdC w B pss[k]
theorem HeadsN.belo {w w' : World} {xs : List Value} {pss : List (List Ce)} (h : HeadsN w xs pss) (hb : Below w.heap.size w w') : HeadsN w' xs pss :=
  ⟨h.1, fun k hk => by obtain ⟨B, c', h1, h3, h4⟩ := h.2 k hk; exact ⟨B, c', h1, h3, Rd.belo h4 hb⟩⟩
theorem HeadsN.one {w : World} {xs : List Value} {pss : List (List Ce)} (h : HeadsN w xs pss) : ∀ u ∈ xs, u.oneCell' = true := fun u hu => by
  obtain ⟨i, hi, e⟩ := List.getElem_of_mem hu
  obtain ⟨B, c', h1, -⟩ := h.2 i (by have := h.1; omega)
  rw [List.getElem?_eq_getElem hi, e] at h1
  injection h1 with h1
  rw [h1]; rfl
/-- a list of lists that may be read -/
def NewRdSS (F : List (List Ce)) (w : World) (e : Ending) (w' : World) : Prop :=
  ∃ (b c' : Nat) (xs : List Value), e = .returned (.slice (some ⟨b, 0, none⟩) F.length c') ∧ F.length ≤ c' ∧ Rd w' (some ⟨b, 0, none⟩) xs ∧ HeadsN w' xs F ∧ Below w.heap.size w w'
/-- .. that lies in new blocks -/
def NewRdSN (F : List (List Ce)) (w : World) (e : Ending) (w' : World) : Prop :=
  ∃ (b c' : Nat) (xs : List Value), e = .returned (.slice (some ⟨b, 0, none⟩) F.length c') ∧ F.length ≤ c' ∧ Rd w' (some ⟨b, 0, none⟩) xs ∧ HeadsN w' xs F ∧ Below w.heap.size w w' ∧ w.heap.size ≤ b ∧ ∀ ad n c, Value.slice (some ad) n c ∈ xs → w.heap.size ≤ ad.block
theorem NewRdSN.ss {F : List (List Ce)} {w : World} {e : Ending} {w' : World} (h : NewRdSN F w e w') : NewRdSS F w e w' := by
  obtain ⟨b, c', xs, h1, h2, h3, h4, h5, -⟩ := h
  exact ⟨b, c', xs, h1, h2, h3, h4, h5⟩
/-- cells that may be read, in a new block -/
def RdZ (S : Nat) (z : World) (B : Option Addr) (p : List Ce) : Prop := RdC z B p ∧ (∀ ad, B = some ad → S ≤ ad.block) ∧ S ≤ z.heap.size
theorem RdZ.belo {S : Nat} {z z' : World} {B : Option Addr} {p : List Ce} (h : RdZ S z B p) (hb : Below z.heap.size z z') : RdZ S z' B p := ⟨Rd.belo h.1 hb, h.2.1, Nat.le_trans h.2.2 hb.size⟩
/-- a list of cells that may be read -/
def NewRdL (p : List Ce) (L : Nat) (w : World) (e : Ending) (w' : World) : Prop :=
  ∃ (A : Option Addr) (c : Nat), e = .returned (.slice A L c) ∧ RdC w' A p ∧ Below w.heap.size w w'
theorem NewRdK.toL {p : List Ce} {L : Nat} (hl : p.length = L) {w : World} {e : Ending} {w' : World} (h : NewRdK p w e w') : NewRdL p L w e w' := by
  subst hl
  obtain ⟨A, c, h1, h2, h3, -⟩ := h
  exact ⟨A, c, h1, h2, h3⟩
/-- .. in a new block -/
def NewRdM (S : Nat) (p : List Ce) (L : Nat) (w : World) (e : Ending) (w' : World) : Prop :=
  ∃ (A : Option Addr) (c : Nat), e = .returned (.slice A L c) ∧ RdZ S w' A p ∧ Below w.heap.size w w'
theorem NewRdK.toM {S : Nat} {p : List Ce} {L : Nat} (hl : p.length = L) {w : World} (hS : S ≤ w.heap.size) {e : Ending} {w' : World} (h : NewRdK p w e w') : NewRdM S p L w e w' := by
  subst hl
  obtain ⟨A, c, h1, h2, h3, h4, -⟩ := h
  exact ⟨A, c, h1, ⟨h2, fun ad e => Nat.le_trans hS (h4 ad e), Nat.le_trans hS h3.size⟩, h3⟩
theorem piece_okC {ps : List Ce} (h : PieceOk ps) : ∀ q ∈ ps, okC q := fun q hq => by
  have := h.2.1 q hq
  unfold okC okI
  omega
theorem walkF_len (ps : List Ce) (n : Nat) : (walkF ps n).length = ps.length := by
  unfold walkF fmC
  split <;> rw [mvd_len, List.length_map]
theorem mvdV_lenE {ps : List Ce} (f : Ce → Ce) (h : PieceOk ps) : (mvdV f ps).length = ps.length := by
  rw [mvdV_ok f h, mvd_len, List.length_map]
theorem incOf_len_le (F : List (List Ce)) : (incOf F).length ≤ F.length := by
  have hle : ∀ (F L : List (List Ce)), (F.foldl (fun L x => insF x L) L).length ≤ L.length + F.length := by
    intro F
    induction F with
    | nil => intro L; simp
    | cons a F ih =>
      intro L
      have h1 := ih (insF a L)
      have h2 : (insF a L).length ≤ L.length + 1 := by
        clear h1 ih
        induction L with
        | nil => simp [insF]
        | cons y l ih =>
          unfold insF
          split
          · simp; omega
          · split <;> simp
      rw [List.foldl_cons, List.length_cons]; omega
  have := hle F []
  unfold incOf
  simpa using this
/-- the state of the loop -/
structure SpF (w wr : World) (ps : List Ce) (n N : Nat) (F : List (List Ce)) (xs : List Value) (b c' : Nat) (B : Option Addr) : Prop where
  is : F = incOf ((List.range n).map (walkF ps))
  len : F.length = N
  cap : N ≤ c'
  rd : Rd wr (some ⟨b, 0, none⟩) xs
  hd : HeadsN wr xs F
  x : RdZ w.heap.size wr B (walkF ps n)
  nb : w.heap.size ≤ b
  nx : ∀ ad n c, Value.slice (some ad) n c ∈ xs → w.heap.size ≤ ad.block
  ok : Below w.heap.size w wr
theorem SpF.le {w wr : World} {ps : List Ce} {n N : Nat} {F : List (List Ce)} {xs : List Value} {b c' : Nat} {B : Option Addr} (h : SpF w wr ps n N F xs b c' B) : N ≤ n := by
  have := incOf_len_le ((List.range n).map (walkF ps))
  rw [← h.is, h.len] at this
  simpa using this
theorem SpF.keep {w wr w2 w3 : World} {ps : List Ce} {n N : Nat} {F : List (List Ce)} {xs : List Value} {b c' : Nat} {B B' : Option Addr} (h : SpF w wr ps n N F xs b c' B) (hi : insF (walkF ps n) F = F) (b2 : Below wr.heap.size wr w2) (b3 : Below w2.heap.size w2 w3) (hx : RdZ w.heap.size w3 B' (walkF ps (n + 1))) :
    SpF w w3 ps (n + 1) N F xs b c' B' := by
  have bb := bl_go b2 b3
  refine ⟨?_, h.len, h.cap, h.rd.belo bb, h.hd.belo bb, hx, h.nb, h.nx, bl_go h.ok bb⟩
  rw [List.range_succ, List.map_append, List.map_singleton, incOf_snoc, ← h.is, hi]
theorem SpF.put {w wr w2 w3 : World} {ps : List Ce} {n N : Nat} {F : List (List Ce)} {xs : List Value} {b c' : Nat} {B B' : Option Addr} (h : SpF w wr ps n N F xs b c' B) {k : Nat} (hi : insF (walkF ps n) F = F.take k ++ [walkF ps n] ++ F.drop k) {L cB base b5 c5 : Nat}
    (hd2 : HeadsN w2 (xs.take k ++ [.slice B L cB] ++ xs.drop k) (F.take k ++ [walkF ps n] ++ F.drop k)) (rd2 : base ≤ b5 ∧ Rd w2 (some ⟨b5, 0, none⟩) (xs.take k ++ [.slice B L cB] ++ xs.drop k)) (hbase : w.heap.size ≤ base) (hc : N + 1 ≤ c5) (b2 : Below wr.heap.size wr w2) (b3 : Below w2.heap.size w2 w3) (hx : RdZ w.heap.size w3 B' (walkF ps (n + 1))) :
    SpF w w3 ps (n + 1) (N + 1) (F.take k ++ [walkF ps n] ++ F.drop k) (xs.take k ++ [.slice B L cB] ++ xs.drop k) b5 c5 B' := by
  have bb := bl_go b2 b3
  refine ⟨?_, ?_, hc, rd2.2.belo b3, hd2.belo b3, hx, Nat.le_trans hbase rd2.1, fun ad n' c'' hm => ?_, bl_go h.ok bb⟩
  rotate_left
  rotate_left
  · rcases List.mem_append.1 hm with hm | hm
    · rcases List.mem_append.1 hm with hm | hm
      · exact h.nx ad n' c'' (List.mem_of_mem_take hm)
      · rw [List.mem_singleton] at hm
        injection hm with e1 e2 e3
        exact h.x.2.1 ad e1.symm
    · exact h.nx ad n' c'' (List.mem_of_mem_drop hm)
  · rw [List.range_succ, List.map_append, List.map_singleton, incOf_snoc, ← h.is, hi]
  · have := h.len
    simp only [List.length_append, List.length_take, List.length_drop, List.length_cons, List.length_nil]
    omega
theorem HeadsN.takeT {w : World} {xs : List Value} {pss : List (List Ce)} (h : HeadsN w xs pss) (k : Nat) : HeadsN w (xs.take k) (pss.take k) :=
  ⟨by rw [List.length_take, List.length_take, h.1], fun j hj => by
    rw [List.length_take] at hj
    obtain ⟨B, c', h1, h3, h4⟩ := h.2 j (by omega)
    rw [List.getElem_take]
    exact ⟨B, c', by rw [List.getElem?_take, if_pos (by omega)]; exact h1, h3, h4⟩⟩
theorem HeadsN.dropT {w : World} {xs : List Value} {pss : List (List Ce)} (h : HeadsN w xs pss) (k : Nat) : HeadsN w (xs.drop k) (pss.drop k) :=
  ⟨by rw [List.length_drop, List.length_drop, h.1], fun j hj => by
    rw [List.length_drop] at hj
    obtain ⟨B, c', h1, h3, h4⟩ := h.2 (k + j) (by omega)
    rw [List.getElem_drop]
    exact ⟨B, c', by rw [List.getElem?_drop]; exact h1, h3, h4⟩⟩
theorem HeadsN.appT {w : World} {xs ys : List Value} {P R : List (List Ce)} (h : HeadsN w xs P) (k : HeadsN w ys R) : HeadsN w (xs ++ ys) (P ++ R) := by
  have h1 := h.1
  refine ⟨by rw [List.length_append, List.length_append, h1, k.1], fun j hj => ?_⟩
  rcases Nat.lt_or_ge j P.length with h2 | h2
  · rw [List.getElem_append_left h2]
    obtain ⟨B, c', a1, a2⟩ := h.2 j h2
    exact ⟨B, c', by rw [List.getElem?_append_left (by omega)]; exact a1, a2⟩
  · have hj' : j - P.length < R.length := by rw [List.length_append] at hj; omega
    rw [List.getElem_append_right h2]
    obtain ⟨B, c', a1, a2⟩ := k.2 _ hj'
    exact ⟨B, c', by rw [List.getElem?_append_right (by omega), h1]; exact a1, a2⟩
theorem HeadsN.oneT {w : World} {B : Option Addr} {c n : Nat} {p : List Ce} (h : RdC w B p) (hp : p.length = n) (hn : n ≤ 7) : HeadsN w [.slice B n c] [p] := by
  subst hp
  exact ⟨rfl, fun j hj => by
    obtain rfl : j = 0 := by simpa using hj
    exact ⟨B, c, rfl, hn, h⟩⟩
theorem HeadsN.ins {w : World} {xs : List Value} {F : List (List Ce)} (h : HeadsN w xs F) (k : Nat) {B : Option Addr} {c n : Nat} {p : List Ce} (hx : RdC w B p) (hp : p.length = n) (hn : n ≤ 7) :
    HeadsN w (xs.take k ++ [.slice B n c] ++ xs.drop k) (F.take k ++ [p] ++ F.drop k) := ((h.takeT k).appT (HeadsN.oneT hx hp hn)).appT (h.dropT k)
theorem rd_take {w : World} {b : Nat} {xs : List Value} (h : Rd w (some ⟨b, 0, none⟩) xs) (k : Nat) : ∀ j u, (xs.take k)[j]? = some u → w.cell? ((⟨b, 0, none⟩ : Addr).add j) = some u := fun j u hu => by
  rw [List.getElem?_take] at hu
  split at hu
  · obtain ⟨ad, e, hc⟩ := h (by rintro rfl; simp at hu)
    injection e with e
    subst e
    exact hc j u hu
  · cases hu
theorem rd_drop {w : World} {b o : Nat} {xs : List Value} (h : Rd w (some ⟨b, 0, none⟩) xs) (k : Nat) (ho : o = k ∨ xs.length ≤ k) : ∀ j u, (xs.drop k)[j]? = some u → w.cell? ((⟨b, o, none⟩ : Addr).add j) = some u := fun j u hu => by
  rw [List.getElem?_drop] at hu
  obtain ⟨ad, e, hc⟩ := h (by rintro rfl; simp at hu)
  injection e with e
  subst e
  have hlt : k + j < xs.length := by
    rcases Nat.lt_or_ge (k + j) xs.length with h1 | h1
    · exact h1
    · rw [List.getElem?_eq_none h1] at hu; cases hu
  have := hc _ u hu
  rw [add_off, Nat.zero_add] at this
  rw [add_off, show o = k by omega]; exact this
theorem one_take {xs : List Value} (h : ∀ u ∈ xs, u.oneCell' = true) (k : Nat) : ∀ u ∈ xs.take k, u.oneCell' = true := fun u hu => h u (List.mem_of_mem_take hu)
theorem one_drop {xs : List Value} (h : ∀ u ∈ xs, u.oneCell' = true) (k : Nat) : ∀ u ∈ xs.drop k, u.oneCell' = true := fun u hu => h u (List.mem_of_mem_drop hu)
/-- an empty list of the call's own -/
theorem own_none (w : World) (base : Nat) (hb : base ≤ w.heap.size) : OwnH (w.alloc (.cells #[] 32)) base (.slice (some ⟨w.heap.size, 0, none⟩) 0 0) [] :=
  ⟨_, _, rfl, World.ownsRow_lit w #[] 0 hb (by unfold maxLen; omega) (by simp)⟩
theorem OwnH.allocT {w : World} {base : Nat} {v : Value} {xs : List Value} (h : OwnH w base v xs) (o : Obj) : OwnH (w.alloc o) base v xs := by
  obtain ⟨A, c, e, h⟩ := h; exact ⟨A, c, e, h.alloc o⟩
theorem own_gr {w w' w0 : World} {base : Nat} {v : Value} {xs : List Value} (h : OwnH w base v xs) (hb : Below base w0 w) (hz : base ≤ w.heap.size) (hg : w.grownBy w' v.ownBlock) : Below base w0 w' :=
  hb.grown hg hz (fun k hk => by obtain ⟨A, c, e, o⟩ := h; exact (o.lt k hk).1)
theorem own_fm {w : World} {base m : Nat} {v : Value} {xs : List Value} (h : OwnH w base v xs) (hm : xs.length = m) (h0 : 0 < m) : ∃ g cap, v = .slice (some ⟨g, 0, none⟩) m cap ∧ m ≤ cap ∧ base ≤ g ∧ Rd w (some ⟨g, 0, none⟩) xs := by
  subst hm
  obtain ⟨A, c, rfl, o⟩ := h
  obtain ⟨g, cap, e, hbg, -⟩ := o.form h0
  injection e with e1 e2 e3
  subst e1
  refine ⟨g, c, rfl, ?_, hbg, Rd.own o⟩
  rcases o.2 with ⟨e, _⟩ | ⟨g', cap', cur, hv, _, _, h3, _⟩
  · cases e
  · injection hv with _ _ e4; omega
theorem one_new (w : World) (x : Value) (t : TypeId) : ∀ j u, [x][j]? = some u → (w.alloc (.cells #[x] t)).cell? ((⟨w.heap.size, 0, none⟩ : Addr).add j) = some u := fun j u hu => by
  rw [add_off, Nat.zero_add, cell_of_row _ _ _ _ _ _ (heap_alloc_new w _)]; simpa using hu
theorem one_old {w w' : World} {h : Nat} {x : Value} {row : Option Nat} (hc : ∀ j u, [x][j]? = some u → w.cell? ((⟨h, 0, none⟩ : Addr).add j) = some u) (hg : w.grownBy w' row) (hn : row ≠ some h) : ∀ j u, [x][j]? = some u → w'.cell? ((⟨h, 0, none⟩ : Addr).add j) = some u := fun j u hu => by
  have h1 := hc j u hu
  have hlt := World.block_lt_of_cell? w _ h1
  rw [add_off] at h1 hlt ⊢
  simp only at hlt
  rw [← h1]
  exact World.cell?_of_block (hg.block h hlt (fun e => hn e.symm))
theorem one_one (A : Option Addr) (n c : Nat) : ∀ u ∈ [Value.slice A n c], u.oneCell' = true := fun u hu => by simp at hu; subst hu; rfl
set_option maxRecDepth 100000 in
set_option maxHeartbeats 16000000 in
theorem sPieceForms_n (A : Option Addr) (c : Nat) (ps : List Ce) (w : World) (hr : RdC w A ps) (hn : ps.length ≤ maxLen) (hcap : ps.length ≤ c) (hp : pieceB ps = true) :
    Calls Tryz.prog 155 #[.slice A ps.length c] w (NewRdSN (formsV ps) w) := by
  have hok := ok_of_pieceB hp
  rw [formsV_ok hok]
  have HOK := Lib.hid hok
  obtain ⟨h1, h5⟩ := hok.1
  obtain ⟨L, hL⟩ : ∃ L, ps.length = L := ⟨_, rfl⟩
  have HL := Lib.hid hL
  have C0 : Hid (∀ z, RdC z A ps → w.heap.size ≤ z.heap.size → Calls Tryz.prog 132 #[.slice A L c] z (NewRdM w.heap.size (walkF ps 0) L z)) := by
    intro z R hS
    have := sPieceMoved_any A c ps z R hn hcap
    rw [walkF_zero hok, hL] at this
    exact this.mono fun _ _ h => h.toM (by rw [walkF_len, hL]) hS
  have CT : Hid (∀ (B : Option Addr) (cB : Nat) (z : World) (k : Nat), RdZ w.heap.size z B (walkF ps k) → Calls Tryz.prog 193 #[.slice B L cB] z (NewRdM w.heap.size (mvdV turnC (walkF ps k)) L z)) := by
    intro B cB z k ⟨R, _, hS⟩
    have hk := walkF_ok hok k
    have := sPieceTurn_any B cB (walkF ps k) z R (by have := hk.1.2; omega) (piece_okC hk)
    rw [walkF_len, hL] at this
    exact this.mono fun _ _ h => h.toM (by rw [mvdV_lenE _ hk, walkF_len, hL]) hS
  have CF : Hid (∀ (B : Option Addr) (cB : Nat) (z : World), RdZ w.heap.size z B (mvdV turnC (walkF ps 3)) → Calls Tryz.prog 194 #[.slice B L cB] z (NewRdM w.heap.size (walkF ps 4) L z)) := by
    intro B cB z ⟨R, _, hS⟩
    have hk : PieceOk (mvdV turnC (walkF ps 3)) := by
      rw [mvdV_ok turnC (walkF_ok hok 3)]
      exact ok_mvd (ok_turn (walkF_ok hok 3))
    have := sPieceFlip_any B cB _ z R (by have := hk.1.2; omega) (piece_okC hk)
    rw [mvdV_lenE _ (walkF_ok hok 3), walkF_len, hL, walkF_flip hok] at this
    exact this.mono fun _ _ h => h.toM (by rw [walkF_len, hL]) hS
  rw [hL] at h1 h5 ⊢
  have Z1 := bl_alloc (Below.refl w.heap.size w) (.cells #[] 32)
  have R1 : RdC (w.alloc (.cells #[] 32)) A ps := hr.alloc _
  clear hL hr hok hn hcap hp
  go_enter Tryz.func155, Tryz.ntmps155
  go_wp2_with fail
  refine (C0.out _ R1 Z1.size).mono ?_
  rintro e w1 ⟨B0, c0, rfl, r0, b0⟩
  have I0 : SpF w w1 ps 0 0 [] [] w.heap.size 0 B0 := ⟨rfl, rfl, Nat.le_refl _, Rd.nil _ _, ⟨rfl, fun k h => absurd h (Nat.not_lt_zero k)⟩, r0, Nat.le_refl _, fun ad n' c'' h => (by cases h), bl_go Z1 b0⟩
  clear r0 b0 Z1 R1
  have hL0 : (0 : Int) < (L : Int) := by omega
  have hdL : decide (0 < L) = true := by simp; omega
  go_wp2_with fail
  go_loopw [3, 4, 5] (fun v3 v4 i wr => ∃ (n N : Nat) (F : List (List Ce)) (xs : List Value) (b c' : Nat) (B : Option Addr) (cB : Nat), n ≤ 8 ∧ i = .int .i64 n ∧ v4 = .slice B L cB ∧ v3 = .slice (some ⟨b, 0, none⟩) N c' ∧ SpF w wr ps n N F xs b c' B) (fun _ _ i _ => 8 - (intOf i).toNat)
  case atStart => exact ⟨0, 0, [], [], w.heap.size, 0, B0, c0, by omega, rfl, rfl, rfl, I0⟩
  case round =>
    clear I0
    obtain ⟨n, N, F, xs, b, c', B, cB, hn, rfl, rfl, rfl, I1⟩ := hrel
    obtain ⟨wo, hwo⟩ : ∃ wo : World, wo = wr := ⟨_, rfl⟩
    subst hwo
    have hNn := I1.le
    have hNc := I1.cap
    have HI := Lib.hid I1
    have HFL := Lib.hid I1.len
    have KA := Lib.hid (fun (z : World) (hb : Below wo.heap.size wo z) => And.intro (I1.rd.belo hb) (And.intro (I1.hd.belo hb) (show RdZ w.heap.size z B (walkF ps n) from I1.x.belo hb)))
    have HONE := Lib.hid I1.hd.one
    have HXL := Lib.hid (show xs.length = N by rw [I1.hd.1, I1.len])
    have HWL := Lib.hid (show (walkF ps n).length = L by rw [walkF_len, HL.out])
    clear I1
    by_cases hlt : n < 8
    · have hlt8 : (n : Int) < 8 := by omega
      have Z0 := Below.refl wo.heap.size wo
      go_wp2_with fail
      go_loopw [6] (fun i wr => ∃ k : Nat, k ≤ N ∧ i = .int .i64 k ∧ Hid (PlaceF (walkF ps n) F k) ∧ Below wo.heap.size wo wr) (fun i _ => N - (intOf i).toNat)
      case atStart => exact ⟨0, Nat.zero_le _, rfl, fun j h h2 => by omega, Z0⟩
      case round =>
        clear Z0
        obtain ⟨k, hk, rfl, HK, Z1⟩ := hrel
        obtain ⟨rx, hx, rB⟩ := KA.out _ Z1
        have HAT := Lib.hid (insF_at (by rw [HFL.out]; exact hk) HK.out)
        by_cases hkN : k < N
        · have hkF : k < F.length := by rw [HFL.out]; exact hkN
          obtain ⟨B5, c5, e5, m5, r5⟩ := hx.2 k hkF
          have d5 : wr.cell? ⟨b, k, none⟩ = some (.slice B5 F[k].length c5) := by
            obtain ⟨ad, e, hc⟩ := rx (by intro e; rw [e] at e5; simp at e5)
            injection e with e
            subst e
            have := hc k _ e5
            rw [add_off, Nat.zero_add] at this
            exact this
          have hFk : F[k].length = L := by
            have := HI.out.is
            have hm : F[k] ∈ incOf ((List.range n).map (walkF ps)) := by rw [← this]; exact List.getElem_mem hkF
            rw [incOf_mem, List.mem_map] at hm
            obtain ⟨i, -, e⟩ := hm
            rw [← e, walkF_len, HL.out]
          rw [hFk] at d5
          have CB := Lib.hid (l8Before_any B5 B L c5 cB F[k] (walkF ps n) wr r5 rB.1 hFk HWL.out (by omega))
          have CS := Lib.hid (fun (z : World) (hb : Below wr.heap.size wr z) => l8Same_any B5 B L c5 cB F[k] (walkF ps n) z (Rd.belo r5 hb) (Rd.belo rB.1 hb) hFk HWL.out (by omega))
          have hkN' : (k : Int) < (N : Int) := by omega
          have hbl := World.block_lt_of_cell? wr _ d5
          simp only at hbl
          cases hlb : ltL F[k] (walkF ps n) with
          | true =>
            rw [hlb] at CB
            have HP : Hid (PlaceF (walkF ps n) F (k + 1)) := fun j hj h2 => by
              rcases Nat.lt_or_ge j k with h3 | h3
              · exact HK.out j hj h3
              · obtain rfl : j = k := by omega
                exact hlb
            clear hlb hFk e5 m5 r5 hkF CS hx rx rB
            go_wp2_with (go_at_call 207; refine CB.out.mono ?_; rintro e w5 ⟨rfl, b5⟩)
            go_roundw
            case rel => first | exact ⟨k + 1, by omega, by go_num, HP.out, bl_go Z1 b5⟩ | ((repeat apply Exists.intro); exact ⟨⟨k + 1, by omega, by go_num, HP.out, bl_go Z1 b5⟩, rfl⟩)
            case measure => simp [intOf]; omega
          | false =>
            rw [hlb] at CB
            have HLB := Lib.hid hlb
            have hne2 : ((k : Int) == (N : Int)) = false := by rw [beq_eq_false_iff_ne]; omega
            by_cases hE : F[k] = walkF ps n
            · have HINS := Lib.hid (HAT.out.1 hkF hlb hE)
              rw [decide_eq_true hE] at CS
              clear hlb hFk e5 m5 r5 HAT hx rx rB hE
              go_wp2_with (first | (go_at_call 207; refine CB.out.mono ?_; rintro e w5 ⟨rfl, b5⟩; have d6 := ((bcell b5).1 b k hbl).trans d5) | (go_at_call 140; refine (CS.out _ b5).mono ?_; rintro e w6 ⟨rfl, b6⟩))
              have Z6 := bl_go (bl_go Z1 b5) b6
              by_cases h3 : n = 3
              · subst h3
                go_wp2_with (first
                  | (go_at_call 193; (refine (CT.out B cB _ 3 (KA.out _ Z6).2.2).mono ?_); rintro e w7 ⟨B7, c7, rfl, r7, b7⟩)
                  | (go_at_call 194; (refine (CF.out B7 c7 _ r7).mono ?_); rintro e w8 ⟨B8, c8, rfl, r8, b8⟩))
                go_roundw
                case rel => exact ⟨4, N, F, xs, b, c', B8, c8, by omega, rfl, rfl, rfl, HI.out.keep HINS.out Z6 (bl_go b7 b8) r8⟩
                case measure => simp [intOf]
              · have h3b : ((n : Int) == 3) = false := by rw [beq_eq_false_iff_ne]; omega
                have HW := Lib.hid (walkF_step HOK.out h3)
                clear h3
                go_wp2_with (go_at_call 193; (refine (CT.out B cB _ n (KA.out _ Z6).2.2).mono ?_); rintro e w7 ⟨B7, c7, rfl, r7, b7⟩)
                rw [HW.out] at r7
                go_roundw
                case rel => exact ⟨n + 1, N, F, xs, b, c', B7, c7, by omega, by go_num, rfl, rfl, HI.out.keep HINS.out Z6 b7 r7⟩
                case measure => simp [intOf]; omega
            · have HINS := Lib.hid (HAT.out.2.1 hkF hlb hE)
              rw [decide_eq_false hE] at CS
              clear hlb hFk e5 m5 r5 HAT hx rx rB hE
              go_wp2_with (first | (go_at_call 207; refine CB.out.mono ?_; rintro e w5 ⟨rfl, b5⟩; have d6 := ((bcell b5).1 b k hbl).trans d5) | (go_at_call 140; refine (CS.out _ b5).mono ?_; rintro e w6 ⟨rfl, b6⟩))
              have Z6 := bl_go (bl_go Z1 b5) b6
              have hkc : (k : Int) ≤ (c' : Int) := by omega
              have hkc2 : k < c' := by omega
              have hkc3 : (k : Int) < (c' : Int) := by omega
              have hkc5 : ¬ c' = k := by omega
              have hz6 := Z6.size
              have KB := Lib.hid (fun (z : World) (hb : Below w6.heap.size w6 z) => KA.out z (bl_go Z6 hb))
              have OA : OwnH (w6.alloc (.cells #[] 32)).drew w6.heap.size (.slice (some ⟨w6.heap.size, 0, none⟩) 0 0) [] := own_none w6 w6.heap.size (Nat.le_refl _)
              have OB : OwnH ((w6.alloc (.cells #[] 32)).alloc (.cells #[.slice B L cB] 32)).drew w6.heap.size (.slice (some ⟨w6.heap.size, 0, none⟩) 0 0) [] := (own_none w6 w6.heap.size (Nat.le_refl _)).allocT (.cells #[.slice B L cB] 32)
              have OC : OwnH ((w6.alloc (.cells #[.slice B L cB] 32)).alloc (.cells #[] 32)).drew w6.heap.size (.slice (some ⟨w6.heap.size + 1, 0, none⟩) 0 0) [] := by
                have h := own_none (w6.alloc (.cells #[.slice B L cB] 32)) w6.heap.size (by simp)
                rw [show (w6.alloc (.cells #[.slice B L cB] 32)).heap.size = w6.heap.size + 1 by simp] at h
                exact h
              have BA : Below w6.heap.size w6 (w6.alloc (.cells #[] 32)).drew := (bl_alloc (Below.refl _ _) _).drew
              have BB : Below w6.heap.size w6 ((w6.alloc (.cells #[] 32)).alloc (.cells #[.slice B L cB] 32)).drew := (bl_alloc (bl_alloc (Below.refl _ _) _) _).drew
              have BC : Below w6.heap.size w6 ((w6.alloc (.cells #[.slice B L cB] 32)).alloc (.cells #[] 32)).drew := (bl_alloc (bl_alloc (Below.refl _ _) _) _).drew
              have XB : ∀ j u, [Value.slice B L cB][j]? = some u → ((w6.alloc (.cells #[] 32)).alloc (.cells #[.slice B L cB] 32)).drew.cell? ((⟨w6.heap.size + 1, 0, none⟩ : Addr).add j) = some u := by
                have h := one_new (w6.alloc (.cells #[] 32)) (.slice B L cB) 32
                rw [show (w6.alloc (.cells #[] 32)).heap.size = w6.heap.size + 1 by simp] at h
                exact h
              have XC : ∀ j u, [Value.slice B L cB][j]? = some u → ((w6.alloc (.cells #[.slice B L cB] 32)).alloc (.cells #[] 32)).drew.cell? ((⟨w6.heap.size, 0, none⟩ : Addr).add j) = some u := fun j u hu => by
                have h1 := one_new w6 (.slice B L cB) 32 j u hu
                exact (World.cell?_alloc_lt _ _ _ (World.block_lt_of_cell? _ _ h1)).trans h1
              go_wp2_with fail
              go_region_law (first
                | (refine step_headsA _ rfl _ _ rfl w6.heap.size _ [] rfl OA ⟨b, 0, none⟩ _ _ (xs.take k) rfl (by rw [List.length_take, HXL.out]; omega) (rd_take (KB.out _ BA).1 k) (one_take HONE.out k) (by simp; omega) BA.size ?_; intro v5 w5 O5 G5; have B5 := own_gr OA BA BA.size G5; rw [List.nil_append] at O5; have O5a := O5.allocT (.cells #[.slice B L cB] 32); have B5a := bl_alloc B5 (.cells #[.slice B L cB] 32))
                | (refine step_headsA _ rfl _ _ rfl w6.heap.size _ [] rfl OB ⟨b, 0, none⟩ _ _ (xs.take k) rfl (by rw [List.length_take, HXL.out]; omega) (rd_take (KB.out _ BB).1 k) (one_take HONE.out k) (by simp; omega) BB.size ?_; intro v5 w5 O5 G5; have B5 := own_gr OB BB BB.size G5; rw [List.nil_append] at O5; have X5 := one_old (row := some w6.heap.size) XB G5 (by simp))
                | (refine step_headsA _ rfl _ _ rfl w6.heap.size _ [] rfl OC ⟨b, 0, none⟩ _ _ (xs.take k) rfl (by rw [List.length_take, HXL.out]; omega) (rd_take (KB.out _ BC).1 k) (one_take HONE.out k) (by simp; omega) BC.size ?_; intro v5 w5 O5 G5; have B5 := own_gr OC BC BC.size G5; rw [List.nil_append] at O5; have X5 := one_old (row := some (w6.heap.size + 1)) XC G5 (by simp))
                | (refine step_headsA _ rfl _ _ rfl w6.heap.size v5 (xs.take k) rfl O5a ⟨w5.heap.size, 0, none⟩ _ _ [Value.slice B L cB] rfl rfl (one_new w5 _ _) (one_one _ _ _) (by rw [List.length_take, HXL.out]; omega) B5a.size ?_; intro v6 w7 O6 G6; have B6 := own_gr O5a B5a B5a.size G6)
                | (refine step_headsA _ rfl _ _ rfl w6.heap.size v5 (xs.take k) rfl O5 _ _ _ [Value.slice B L cB] rfl rfl X5 (one_one _ _ _) (by rw [List.length_take, HXL.out]; omega) B5.size ?_; intro v6 w7 O6 G6; have B6 := own_gr O5 B5 B5.size G6)
                | (refine step_headsA _ rfl _ _ rfl w6.heap.size v6 (xs.take k ++ [Value.slice B L cB]) rfl O6 ⟨b, k, none⟩ _ _ (xs.drop k) rfl (by rw [List.length_drop, HXL.out] <;> omega) (rd_drop (KB.out _ B6).1 k (.inl rfl)) (one_drop HONE.out k) (by simp only [List.length_append, List.length_take, List.length_cons, List.length_nil, HXL.out]; omega) B6.size ?_; intro v8 w9 O8 G8; have B8 := own_gr O6 B6 B6.size G8; obtain ⟨g9, c9, rfl, hc9, rd9⟩ := own_fm O8 (m := N + 1 ) (by simp only [List.length_append, List.length_take, List.length_drop, List.length_cons, List.length_nil, HXL.out]; omega) (by omega)))
              all_goals (
                have HD9 := (KB.out _ B8).2.1.ins k (c := cB) (KB.out _ B8).2.2.1 HWL.out (by omega)
                have Z9 := bl_go Z6 B8
                clear KB OA OB OC BA BB BC XB XC
                by_cases h3 : n = 3
                · subst h3
                  go_wp2_with (first
                    | (go_at_call 193; (refine (CT.out B cB _ 3 (KA.out _ Z9).2.2).mono ?_); rintro e w7 ⟨B7, c7, rfl, r7, b7⟩)
                    | (go_at_call 194; (refine (CF.out B7 c7 _ r7).mono ?_); rintro e w8 ⟨B8, c8, rfl, r8, b8⟩))
                  go_roundw
                  case rel => exact ⟨4, N + 1, _, _, g9, c9, B8, c8, by omega, rfl, rfl, rfl, HI.out.put HINS.out HD9 rd9 (Nat.le_trans HI.out.ok.size Z6.size) hc9 Z9 (bl_go b7 b8) r8⟩
                  case measure => simp [intOf]
                · have h3b : ((n : Int) == 3) = false := by rw [beq_eq_false_iff_ne]; omega
                  have HW := Lib.hid (walkF_step HOK.out h3)
                  clear h3
                  go_wp2_with (go_at_call 193; (refine (CT.out B cB _ n (KA.out _ Z9).2.2).mono ?_); rintro e w7 ⟨B7, c7, rfl, r7, b7⟩)
                  rw [HW.out] at r7
                  go_roundw
                  case rel => exact ⟨n + 1, N + 1, _, _, g9, c9, B7, c7, by omega, by go_num, rfl, rfl, HI.out.put HINS.out HD9 rd9 (Nat.le_trans HI.out.ok.size Z6.size) hc9 Z9 b7 r7⟩
                  case measure => simp [intOf]; omega)
        · obtain rfl : k = N := by omega
          have HINS := Lib.hid (HAT.out.2.2 HFL.out.symm)
          have hnn : ((k : Int) == (k : Int)) = true := by simp
          clear HAT hx rx rB
          have hkc : (k : Int) ≤ (c' : Int) := by omega
          by_cases hcc : k = c'
          · subst hcc
            have Z6 := Z1
            have hz6 := Z6.size
            have KB := Lib.hid (fun (z : World) (hb : Below wr.heap.size wr z) => KA.out z (bl_go Z6 hb))
            have OA : OwnH (wr.alloc (.cells #[] 32)).drew wr.heap.size (.slice (some ⟨wr.heap.size, 0, none⟩) 0 0) [] := own_none wr wr.heap.size (Nat.le_refl _)
            have OB : OwnH ((wr.alloc (.cells #[] 32)).alloc (.cells #[.slice B L cB] 32)).drew wr.heap.size (.slice (some ⟨wr.heap.size, 0, none⟩) 0 0) [] := (own_none wr wr.heap.size (Nat.le_refl _)).allocT (.cells #[.slice B L cB] 32)
            have OC : OwnH ((wr.alloc (.cells #[.slice B L cB] 32)).alloc (.cells #[] 32)).drew wr.heap.size (.slice (some ⟨wr.heap.size + 1, 0, none⟩) 0 0) [] := by
              have h := own_none (wr.alloc (.cells #[.slice B L cB] 32)) wr.heap.size (by simp)
              rw [show (wr.alloc (.cells #[.slice B L cB] 32)).heap.size = wr.heap.size + 1 by simp] at h
              exact h
            have BA : Below wr.heap.size wr (wr.alloc (.cells #[] 32)).drew := (bl_alloc (Below.refl _ _) _).drew
            have BB : Below wr.heap.size wr ((wr.alloc (.cells #[] 32)).alloc (.cells #[.slice B L cB] 32)).drew := (bl_alloc (bl_alloc (Below.refl _ _) _) _).drew
            have BC : Below wr.heap.size wr ((wr.alloc (.cells #[.slice B L cB] 32)).alloc (.cells #[] 32)).drew := (bl_alloc (bl_alloc (Below.refl _ _) _) _).drew
            have XB : ∀ j u, [Value.slice B L cB][j]? = some u → ((wr.alloc (.cells #[] 32)).alloc (.cells #[.slice B L cB] 32)).drew.cell? ((⟨wr.heap.size + 1, 0, none⟩ : Addr).add j) = some u := by
              have h := one_new (wr.alloc (.cells #[] 32)) (.slice B L cB) 32
              rw [show (wr.alloc (.cells #[] 32)).heap.size = wr.heap.size + 1 by simp] at h
              exact h
            have XC : ∀ j u, [Value.slice B L cB][j]? = some u → ((wr.alloc (.cells #[.slice B L cB] 32)).alloc (.cells #[] 32)).drew.cell? ((⟨wr.heap.size, 0, none⟩ : Addr).add j) = some u := fun j u hu => by
              have h1 := one_new wr (.slice B L cB) 32 j u hu
              exact (World.cell?_alloc_lt _ _ _ (World.block_lt_of_cell? _ _ h1)).trans h1
            go_wp2_with fail
            go_region_law (first
              | (refine step_headsA _ rfl _ _ rfl wr.heap.size _ [] rfl OA ⟨b, 0, none⟩ _ _ (xs.take k) rfl (by rw [List.length_take, HXL.out]; omega) (rd_take (KB.out _ BA).1 k) (one_take HONE.out k) (by simp; omega) BA.size ?_; intro v5 w5 O5 G5; have B5 := own_gr OA BA BA.size G5; rw [List.nil_append] at O5; have O5a := O5.allocT (.cells #[.slice B L cB] 32); have B5a := bl_alloc B5 (.cells #[.slice B L cB] 32))
              | (refine step_headsA _ rfl _ _ rfl wr.heap.size _ [] rfl OB ⟨b, 0, none⟩ _ _ (xs.take k) rfl (by rw [List.length_take, HXL.out]; omega) (rd_take (KB.out _ BB).1 k) (one_take HONE.out k) (by simp; omega) BB.size ?_; intro v5 w5 O5 G5; have B5 := own_gr OB BB BB.size G5; rw [List.nil_append] at O5; have X5 := one_old (row := some wr.heap.size) XB G5 (by simp))
              | (refine step_headsA _ rfl _ _ rfl wr.heap.size _ [] rfl OC ⟨b, 0, none⟩ _ _ (xs.take k) rfl (by rw [List.length_take, HXL.out]; omega) (rd_take (KB.out _ BC).1 k) (one_take HONE.out k) (by simp; omega) BC.size ?_; intro v5 w5 O5 G5; have B5 := own_gr OC BC BC.size G5; rw [List.nil_append] at O5; have X5 := one_old (row := some (wr.heap.size + 1)) XC G5 (by simp))
              | (refine step_headsA _ rfl _ _ rfl wr.heap.size v5 (xs.take k) rfl O5a ⟨w5.heap.size, 0, none⟩ _ _ [Value.slice B L cB] rfl rfl (one_new w5 _ _) (one_one _ _ _) (by rw [List.length_take, HXL.out]; omega) B5a.size ?_; intro v6 w7 O6 G6; have B6 := own_gr O5a B5a B5a.size G6)
              | (refine step_headsA _ rfl _ _ rfl wr.heap.size v5 (xs.take k) rfl O5 _ _ _ [Value.slice B L cB] rfl rfl X5 (one_one _ _ _) (by rw [List.length_take, HXL.out]; omega) B5.size ?_; intro v6 w7 O6 G6; have B6 := own_gr O5 B5 B5.size G6)
              | (refine step_headsA _ rfl _ _ rfl wr.heap.size v6 (xs.take k ++ [Value.slice B L cB]) rfl O6 ⟨b, 0, none⟩ _ _ (xs.drop k) rfl (by rw [List.length_drop, HXL.out] <;> omega) (rd_drop (KB.out _ B6).1 k (.inr (by rw [HXL.out]; exact Nat.le_refl _))) (one_drop HONE.out k) (by simp only [List.length_append, List.length_take, List.length_cons, List.length_nil, HXL.out]; omega) B6.size ?_; intro v8 w9 O8 G8; have B8 := own_gr O6 B6 B6.size G8; obtain ⟨g9, c9, rfl, hc9, rd9⟩ := own_fm O8 (m := k + 1 ) (by simp only [List.length_append, List.length_take, List.length_drop, List.length_cons, List.length_nil, HXL.out]; omega) (by omega)))
            all_goals (
              have HD9 := (KB.out _ B8).2.1.ins k (c := cB) (KB.out _ B8).2.2.1 HWL.out (by omega)
              have Z9 := bl_go Z6 B8
              clear KB OA OB OC BA BB BC XB XC
              by_cases h3 : n = 3
              · subst h3
                go_wp2_with (first
                  | (go_at_call 193; (refine (CT.out B cB _ 3 (KA.out _ Z9).2.2).mono ?_); rintro e w7 ⟨B7, c7, rfl, r7, b7⟩)
                  | (go_at_call 194; (refine (CF.out B7 c7 _ r7).mono ?_); rintro e w8 ⟨B8, c8, rfl, r8, b8⟩))
                go_roundw
                case rel => exact ⟨4, k + 1, _, _, g9, c9, B8, c8, by omega, rfl, rfl, rfl, HI.out.put HINS.out HD9 rd9 (Nat.le_trans HI.out.ok.size Z6.size) hc9 Z9 (bl_go b7 b8) r8⟩
                case measure => simp [intOf]
              · have h3b : ((n : Int) == 3) = false := by rw [beq_eq_false_iff_ne]; omega
                have HW := Lib.hid (walkF_step HOK.out h3)
                clear h3
                go_wp2_with (go_at_call 193; (refine (CT.out B cB _ n (KA.out _ Z9).2.2).mono ?_); rintro e w7 ⟨B7, c7, rfl, r7, b7⟩)
                rw [HW.out] at r7
                go_roundw
                case rel => exact ⟨n + 1, k + 1, _, _, g9, c9, B7, c7, by omega, by go_num, rfl, rfl, HI.out.put HINS.out HD9 rd9 (Nat.le_trans HI.out.ok.size Z6.size) hc9 Z9 b7 r7⟩
                case measure => simp [intOf]; omega)
          · have hkc2 : k < c' := by omega
            have hkc3 : (k : Int) < (c' : Int) := by omega
            have hkc5 : ¬ c' = k := by omega
            have Z6 := Z1
            have hz6 := Z6.size
            have KB := Lib.hid (fun (z : World) (hb : Below wr.heap.size wr z) => KA.out z (bl_go Z6 hb))
            have OA : OwnH (wr.alloc (.cells #[] 32)).drew wr.heap.size (.slice (some ⟨wr.heap.size, 0, none⟩) 0 0) [] := own_none wr wr.heap.size (Nat.le_refl _)
            have OB : OwnH ((wr.alloc (.cells #[] 32)).alloc (.cells #[.slice B L cB] 32)).drew wr.heap.size (.slice (some ⟨wr.heap.size, 0, none⟩) 0 0) [] := (own_none wr wr.heap.size (Nat.le_refl _)).allocT (.cells #[.slice B L cB] 32)
            have OC : OwnH ((wr.alloc (.cells #[.slice B L cB] 32)).alloc (.cells #[] 32)).drew wr.heap.size (.slice (some ⟨wr.heap.size + 1, 0, none⟩) 0 0) [] := by
              have h := own_none (wr.alloc (.cells #[.slice B L cB] 32)) wr.heap.size (by simp)
              rw [show (wr.alloc (.cells #[.slice B L cB] 32)).heap.size = wr.heap.size + 1 by simp] at h
              exact h
            have BA : Below wr.heap.size wr (wr.alloc (.cells #[] 32)).drew := (bl_alloc (Below.refl _ _) _).drew
            have BB : Below wr.heap.size wr ((wr.alloc (.cells #[] 32)).alloc (.cells #[.slice B L cB] 32)).drew := (bl_alloc (bl_alloc (Below.refl _ _) _) _).drew
            have BC : Below wr.heap.size wr ((wr.alloc (.cells #[.slice B L cB] 32)).alloc (.cells #[] 32)).drew := (bl_alloc (bl_alloc (Below.refl _ _) _) _).drew
            have XB : ∀ j u, [Value.slice B L cB][j]? = some u → ((wr.alloc (.cells #[] 32)).alloc (.cells #[.slice B L cB] 32)).drew.cell? ((⟨wr.heap.size + 1, 0, none⟩ : Addr).add j) = some u := by
              have h := one_new (wr.alloc (.cells #[] 32)) (.slice B L cB) 32
              rw [show (wr.alloc (.cells #[] 32)).heap.size = wr.heap.size + 1 by simp] at h
              exact h
            have XC : ∀ j u, [Value.slice B L cB][j]? = some u → ((wr.alloc (.cells #[.slice B L cB] 32)).alloc (.cells #[] 32)).drew.cell? ((⟨wr.heap.size, 0, none⟩ : Addr).add j) = some u := fun j u hu => by
              have h1 := one_new wr (.slice B L cB) 32 j u hu
              exact (World.cell?_alloc_lt _ _ _ (World.block_lt_of_cell? _ _ h1)).trans h1
            go_wp2_with fail
            go_region_law (first
              | (refine step_headsA _ rfl _ _ rfl wr.heap.size _ [] rfl OA ⟨b, 0, none⟩ _ _ (xs.take k) rfl (by rw [List.length_take, HXL.out]; omega) (rd_take (KB.out _ BA).1 k) (one_take HONE.out k) (by simp; omega) BA.size ?_; intro v5 w5 O5 G5; have B5 := own_gr OA BA BA.size G5; rw [List.nil_append] at O5; have O5a := O5.allocT (.cells #[.slice B L cB] 32); have B5a := bl_alloc B5 (.cells #[.slice B L cB] 32))
              | (refine step_headsA _ rfl _ _ rfl wr.heap.size _ [] rfl OB ⟨b, 0, none⟩ _ _ (xs.take k) rfl (by rw [List.length_take, HXL.out]; omega) (rd_take (KB.out _ BB).1 k) (one_take HONE.out k) (by simp; omega) BB.size ?_; intro v5 w5 O5 G5; have B5 := own_gr OB BB BB.size G5; rw [List.nil_append] at O5; have X5 := one_old (row := some wr.heap.size) XB G5 (by simp))
              | (refine step_headsA _ rfl _ _ rfl wr.heap.size _ [] rfl OC ⟨b, 0, none⟩ _ _ (xs.take k) rfl (by rw [List.length_take, HXL.out]; omega) (rd_take (KB.out _ BC).1 k) (one_take HONE.out k) (by simp; omega) BC.size ?_; intro v5 w5 O5 G5; have B5 := own_gr OC BC BC.size G5; rw [List.nil_append] at O5; have X5 := one_old (row := some (wr.heap.size + 1)) XC G5 (by simp))
              | (refine step_headsA _ rfl _ _ rfl wr.heap.size v5 (xs.take k) rfl O5a ⟨w5.heap.size, 0, none⟩ _ _ [Value.slice B L cB] rfl rfl (one_new w5 _ _) (one_one _ _ _) (by rw [List.length_take, HXL.out]; omega) B5a.size ?_; intro v6 w7 O6 G6; have B6 := own_gr O5a B5a B5a.size G6)
              | (refine step_headsA _ rfl _ _ rfl wr.heap.size v5 (xs.take k) rfl O5 _ _ _ [Value.slice B L cB] rfl rfl X5 (one_one _ _ _) (by rw [List.length_take, HXL.out]; omega) B5.size ?_; intro v6 w7 O6 G6; have B6 := own_gr O5 B5 B5.size G6)
              | (refine step_headsA _ rfl _ _ rfl wr.heap.size v6 (xs.take k ++ [Value.slice B L cB]) rfl O6 ⟨b, k, none⟩ _ _ (xs.drop k) rfl (by rw [List.length_drop, HXL.out] <;> omega) (rd_drop (KB.out _ B6).1 k (.inl rfl)) (one_drop HONE.out k) (by simp only [List.length_append, List.length_take, List.length_cons, List.length_nil, HXL.out]; omega) B6.size ?_; intro v8 w9 O8 G8; have B8 := own_gr O6 B6 B6.size G8; obtain ⟨g9, c9, rfl, hc9, rd9⟩ := own_fm O8 (m := k + 1 ) (by simp only [List.length_append, List.length_take, List.length_drop, List.length_cons, List.length_nil, HXL.out]; omega) (by omega)))
            all_goals (
              have HD9 := (KB.out _ B8).2.1.ins k (c := cB) (KB.out _ B8).2.2.1 HWL.out (by omega)
              have Z9 := bl_go Z6 B8
              clear KB OA OB OC BA BB BC XB XC
              by_cases h3 : n = 3
              · subst h3
                go_wp2_with (first
                  | (go_at_call 193; (refine (CT.out B cB _ 3 (KA.out _ Z9).2.2).mono ?_); rintro e w7 ⟨B7, c7, rfl, r7, b7⟩)
                  | (go_at_call 194; (refine (CF.out B7 c7 _ r7).mono ?_); rintro e w8 ⟨B8, c8, rfl, r8, b8⟩))
                go_roundw
                case rel => exact ⟨4, k + 1, _, _, g9, c9, B8, c8, by omega, rfl, rfl, rfl, HI.out.put HINS.out HD9 rd9 (Nat.le_trans HI.out.ok.size Z6.size) hc9 Z9 (bl_go b7 b8) r8⟩
                case measure => simp [intOf]
              · have h3b : ((n : Int) == 3) = false := by rw [beq_eq_false_iff_ne]; omega
                have HW := Lib.hid (walkF_step HOK.out h3)
                clear h3
                go_wp2_with (go_at_call 193; (refine (CT.out B cB _ n (KA.out _ Z9).2.2).mono ?_); rintro e w7 ⟨B7, c7, rfl, r7, b7⟩)
                rw [HW.out] at r7
                go_roundw
                case rel => exact ⟨n + 1, k + 1, _, _, g9, c9, B7, c7, by omega, by go_num, rfl, rfl, HI.out.put HINS.out HD9 rd9 (Nat.le_trans HI.out.ok.size Z6.size) hc9 Z9 b7 r7⟩
                case measure => simp [intOf]; omega)
    · obtain rfl : n = 8 := by omega
      have hge : ¬ ((8 : Int) < 8) := by omega
      have HF : Hid (F = incOf (formsF ps)) := by
        show _ = _
        rw [HI.out.is, walkF_list]
      go_wp2_with fail
      go_ret
      have hfin : NewRdSN F w (.returned (.slice (some ⟨b, 0, none⟩) N c')) wo := ⟨b, c', xs, by rw [HFL.out], by rw [HFL.out]; exact hNc, HI.out.rd, HI.out.hd, HI.out.ok, HI.out.nb, HI.out.nx⟩
      rw [HF.out] at hfin
      exact hfin
theorem sPieceForms_t (A : Option Addr) (c : Nat) (ps : List Ce) (w : World) (hr : RdC w A ps) (hn : ps.length ≤ maxLen) (hcap : ps.length ≤ c) (hp : pieceB ps = true) :
    Calls Tryz.prog 155 #[.slice A ps.length c] w (NewRdSS (formsV ps) w) := (sPieceForms_n A c ps w hr hn hcap hp).mono fun _ _ h => h.ss
end Go.Proofs.YtejkbjcmndnfeaaGreat

/- Contracts: the reference's PieceForms of any list, PieceFirst, SamePiece. -/
namespace Go.Proofs.YtejkbjcmndnfeaaGreat
open Go.RowKit Go.Sort

set_option maxRecDepth 100000 in
set_option maxHeartbeats 1000000 in
theorem sPieceForms_f (A : Option Addr) (c : Nat) (ps : List Ce) (w : World) (hr : RdC w A ps) (hn : ps.length ≤ maxLen) (hcap : ps.length ≤ c) (hp : pieceB ps = false) :
    Calls Tryz.prog 155 #[.slice A ps.length c] w (NewRdSS (formsV ps) w) := by
  rw [formsV_no hp]
  have C0 := Lib.hid (fun (z : World) (R : RdC z A ps) => by
    have := sPieceMoved_any A c ps z R hn hcap
    rw [mvdV_no stayC hp] at this
    exact this)
  have Z1 := bl_alloc (Below.refl w.heap.size w) (.cells #[] 32)
  have R1 : RdC (w.alloc (.cells #[] 32)) A ps := hr.alloc _
  clear hr hn hcap hp
  go_enter Tryz.func155, Tryz.ntmps155
  go_wp2_with fail
  refine (C0.out _ R1).mono ?_
  rintro e w1 ⟨B0, c0, rfl, r0, b0, -⟩
  have Z2 := bl_go Z1 b0
  clear r0 b0 Z1 R1
  simp only [List.length_nil]
  go_wp2_with fail
  refine wp_loop_rounds 1 ?_
  rw [rounds_succ]
  go_wp2_with fail
  go_ret
  exact ⟨w.heap.size, 0, [], rfl, Nat.le_refl _, Rd.nil _ _, ⟨rfl, fun k h => absurd h (Nat.not_lt_zero k)⟩, Z2⟩
theorem sPieceForms_any (A : Option Addr) (c : Nat) (ps : List Ce) (w : World) (hr : RdC w A ps) (hn : ps.length ≤ maxLen) (hcap : ps.length ≤ c) :
    Calls Tryz.prog 155 #[.slice A ps.length c] w (NewRdSS (formsV ps) w) := by
  cases hp : pieceB ps with
  | true => exact sPieceForms_t A c ps w hr hn hcap hp
  | false => exact sPieceForms_f A c ps w hr hn hcap hp
theorem getD0_head {α : Type} {d : α} : ∀ (l : List α) (h : 0 < l.length), l[0] = l.headD d
  | _ :: _, _ => rfl
set_option maxHeartbeats 1000000 in
theorem sPieceFirst_any (A : Option Addr) (c : Nat) (ps : List Ce) (w : World) (hr : RdC w A ps) (hn : ps.length ≤ maxLen) (hcap : ps.length ≤ c) :
    Calls Tryz.prog 141 #[.slice A ps.length c] w (NewRdL (firstV ps) (firstV ps).length w) := by
  have C0 := Lib.hid (sPieceForms_any A c ps w hr hn hcap)
  by_cases h0 : 0 < (formsV ps).length
  · have HF := Lib.hid (show (formsV ps)[0] = firstV ps by unfold firstV; exact getD0_head _ h0)
    obtain ⟨N, hN⟩ : ∃ N, (formsV ps).length = N := ⟨_, rfl⟩
    have HN := Lib.hid hN
    have h0' : 0 < N := by omega
    have h0b : (0 : Int) < (N : Int) := by omega
    have hne : ((N : Int) == 0) = false := by rw [beq_eq_false_iff_ne]; omega
    clear hN
    go_enter Tryz.func141, Tryz.ntmps141
    go_wp2_with fail
    refine C0.out.mono ?_
    rintro e w1 ⟨b, c', xs, rfl, hc, hrd, hhd, b1⟩
    obtain ⟨B, c1, e1, -, r1⟩ := hhd.2 0 h0
    have d1 : w1.cell? ⟨b, 0, none⟩ = some (.slice B (formsV ps)[0].length c1) := by
      obtain ⟨ad, e, hcc⟩ := hrd (by rintro rfl; simp at e1)
      injection e with e
      subst e
      have := hcc 0 _ e1
      rw [add_zero'] at this
      exact this
    rw [HF.out] at d1 r1
    rw [HN.out]
    clear hc hrd hhd e1
    go_wp2_with fail
    go_ret
    exact ⟨B, c1, rfl, r1, b1⟩
  · have hnil : formsV ps = [] := List.eq_nil_of_length_eq_zero (by omega)
    have HF := Lib.hid (show firstV ps = [] by unfold firstV; rw [hnil]; rfl)
    rw [hnil] at C0
    clear hnil h0
    go_enter Tryz.func141, Tryz.ntmps141
    go_wp2_with fail
    refine C0.out.mono ?_
    rintro e w1 ⟨b, c', xs, rfl, hc, hrd, hhd, b1⟩
    simp only [List.length_nil]
    go_wp2_with fail
    go_ret
    rw [HF.out]
    exact ⟨_, _, rfl, Rd.nil _ _, bl_alloc b1 _⟩
/-- .. in the words of the exact laws -/
def NewRdT (p : List Ce) (w : World) (e : Ending) (w' : World) : Prop :=
  ∃ (A : Option Addr) (c : Nat), e = .returned (.slice A p.length c) ∧ RdC w' A p ∧ Below w.heap.size w w' ∧ True
theorem sPieceFirstT_any (A : Option Addr) (c : Nat) (ps : List Ce) (w : World) (hr : RdC w A ps) (hn : ps.length ≤ maxLen) (hcap : ps.length ≤ c) :
    Calls Tryz.prog 141 #[.slice A ps.length c] w (NewRdT (firstV ps) w) :=
  (sPieceFirst_any A c ps w hr hn hcap).mono fun _ _ ⟨A, c, h1, h2, h3⟩ => ⟨A, c, h1, h2, h3, trivial⟩
theorem firstV_len_le (ps : List Ce) : (firstV ps).length ≤ 5 := by
  cases hp : pieceB ps with
  | true => rw [first_len (ok_of_pieceB hp)]; exact (ok_of_pieceB hp).1.2
  | false => rw [first_no hp]; simp
theorem listEq_len {α : Type} [DecidableEq α] {a b : List α} (h : a.length ≠ b.length) : decide (a = b) = false := decide_eq_false (fun e => h (by rw [e]))
set_option maxHeartbeats 2000000 in
theorem l8SameN_any (A A' : Option Addr) (c c' : Nat) (ps qs : List Ce) (w : World) (hr : RdC w A ps) (hr' : RdC w A' qs) (hl : ps.length ≠ qs.length) (hn : ps.length ≤ 1000000) :
    Calls Tryz.prog 140 #[.slice A ps.length c, .slice A' qs.length c'] w fun e w' => e = .returned (.bool (decide (ps = qs))) ∧ Below w.heap.size w w' := by
  have HF := Lib.hid (listEq_len hl)
  have hneq := fun W a b x y => neq_cell W a b x y
  have hne : ((ps.length : Int) == (qs.length : Int)) = false := by rw [beq_eq_false_iff_ne]; omega
  go_enter Tryz.func140, Tryz.ntmps140
  go_wp2_with fail
  go_loopw [5] (fun i wr => ∃ k : Nat, k ≤ ps.length ∧ k ≤ qs.length ∧ i = .int .i64 k ∧ Below w.heap.size w wr) (fun i _ => ps.length - (intOf i).toNat)
  case atStart => exact ⟨0, Nat.zero_le _, Nat.zero_le _, rfl, Below.refl _ _⟩
  case round =>
    obtain ⟨k, hk, hk', rfl, Z1⟩ := hrel
    by_cases hlt : k < ps.length
    · by_cases hlt' : k < qs.length
      · obtain ⟨b, off, rfl, c0, c1⟩ := RdC.at_ (w := wr) (Rd.belo hr Z1) hlt
        obtain ⟨b', off', rfl, d0, d1⟩ := RdC.at_ (w := wr) (Rd.belo hr' Z1) hlt'
        generalize ps[k] = z at c0 c1
        generalize qs[k] = z' at d0 d1
        obtain ⟨x, y⟩ := z
        obtain ⟨x', y'⟩ := z'
        simp only at c0 c1 d0 d1
        cases hb : (x == x' && y == y') with
        | true =>
          go_wp2_with fail
          go_quiet (fail)
          go_wp2_with fail
          go_roundw
          case rel => exact ⟨k + 1, by omega, by omega, by go_num, below_drewN' Z1 _⟩
          case measure => simp [intOf]; omega
        | false =>
          go_wp2_with fail
          go_quiet (fail)
          go_wp2_with fail
          go_ret
          exact ⟨ret_b HF.out.symm, below_drewN' Z1 _⟩
      · go_wp2_with fail
        go_ret
        exact ⟨ret_b HF.out.symm, Z1⟩
    · go_wp2_with fail
      go_ret
      exact ⟨ret_b HF.out.symm, Z1⟩
theorem l8SameA_any (A A' : Option Addr) (c c' : Nat) (ps qs : List Ce) (w : World) (hr : RdC w A ps) (hr' : RdC w A' qs) (hn : ps.length ≤ 1000000) :
    Calls Tryz.prog 140 #[.slice A ps.length c, .slice A' qs.length c'] w fun e w' => e = .returned (.bool (decide (ps = qs))) ∧ Below w.heap.size w w' := by
  by_cases hl : ps.length = qs.length
  · have := l8Same_any A A' ps.length c c' ps qs w hr hr' rfl hl.symm hn
    rw [hl] at this ⊢
    exact this
  · exact l8SameN_any A A' c c' ps qs w hr hr' hl hn
/-- whether two pieces are the same -/
noncomputable def sameW (a b : List Ce) : Bool := pieceB a && pieceB b && decide (firstV a = firstV b)
set_option maxRecDepth 100000 in
set_option maxHeartbeats 2000000 in
theorem sSamePiece_any (A A' : Option Addr) (c c' : Nat) (ps qs : List Ce) (w : World) (hr : RdC w A ps) (hr' : RdC w A' qs) (hn : ps.length ≤ maxLen) (hn' : qs.length ≤ maxLen) (hcap : ps.length ≤ c) (hcap' : qs.length ≤ c') :
    Calls Tryz.prog 71 #[.slice A ps.length c, .slice A' qs.length c'] w fun e w' => e = .returned (.bool (sameW ps qs)) ∧ Below w.heap.size w w' := by
  have VA := Lib.hid (fun (z : World) (R : RdC z A ps) => sPieceValid_any A c ps z R hn hcap)
  have VB := Lib.hid (fun (z : World) (R : RdC z A' qs) => sPieceValid_any A' c' qs z R hn' hcap')
  have FA := Lib.hid (fun (z : World) (R : RdC z A ps) => sPieceFirst_any A c ps z R hn hcap)
  have FB := Lib.hid (fun (z : World) (R : RdC z A' qs) => sPieceFirst_any A' c' qs z R hn' hcap')
  have SF := Lib.hid (fun (z : World) (B B' : Option Addr) (d d' : Nat) (R : RdC z B (firstV ps)) (R' : RdC z B' (firstV qs)) => l8SameA_any B B' d d' (firstV ps) (firstV qs) z R R' (by have := firstV_len_le ps; omega))
  obtain ⟨la, hla⟩ : ∃ la, (firstV ps).length = la := ⟨_, rfl⟩
  obtain ⟨lb, hlb⟩ : ∃ lb, (firstV qs).length = lb := ⟨_, rfl⟩
  rw [hla] at FA SF
  rw [hlb] at FB SF
  clear hla hlb
  have hsv : sameW ps qs = (pieceB ps && pieceB qs && decide (firstV ps = firstV qs)) := rfl
  rw [hsv]
  clear hsv hn hn' hcap hcap'
  generalize decide (firstV ps = firstV qs) = dd at SF ⊢
  have HR := Lib.hid hr
  have HR' := Lib.hid hr'
  clear hr hr'
  cases hp : pieceB ps with
  | false =>
    rw [hp] at VA
    clear hp
    go_enter Tryz.func71, Tryz.ntmps71
    go_wp2_with fail
    refine (VA.out _ HR.out).mono ?_
    rintro e w1 ⟨rfl, b1⟩
    go_wp2_with fail
    go_ret
    exact ⟨rfl, b1⟩
  | true =>
    rw [hp] at VA
    clear hp
    cases hq : pieceB qs with
    | false =>
      rw [hq] at VB
      clear hq
      go_enter Tryz.func71, Tryz.ntmps71
      go_wp2_with fail
      refine (VA.out _ HR.out).mono ?_
      rintro e w1 ⟨rfl, b1⟩
      have r1 := Rd.belo HR'.out b1
      go_wp2_with fail
      refine (VB.out _ r1).mono ?_
      rintro e w2 ⟨rfl, b2⟩
      go_wp2_with fail
      go_ret
      exact ⟨rfl, bl_go b1 b2⟩
    | true =>
      rw [hq] at VB
      clear hq
      go_enter Tryz.func71, Tryz.ntmps71
      go_wp2_with fail
      refine (VA.out _ HR.out).mono ?_
      rintro e w1 ⟨rfl, b1⟩
      have q1 := Rd.belo HR'.out b1
      have r1 := Rd.belo HR.out b1
      go_wp2_with fail
      refine (VB.out _ q1).mono ?_
      rintro e w2 ⟨rfl, b2⟩
      have q2 := Rd.belo q1 b2
      have r2 := Rd.belo r1 b2
      have B2 := bl_go b1 b2
      go_wp2_with fail
      refine (FA.out _ r2).mono ?_
      rintro e w3 ⟨B3, c3, rfl, r3, b3⟩
      have q3 := Rd.belo q2 b3
      have B3' := bl_go B2 b3
      go_wp2_with fail
      refine (FB.out _ q3).mono ?_
      rintro e w4 ⟨B4, c4, rfl, r4, b4⟩
      have B4' := bl_go B3' b4
      go_wp2_with fail
      refine (SF.out _ _ _ _ _ (Rd.belo r3 b4) r4).mono ?_
      rintro e w5 ⟨rfl, b5⟩
      go_wp2_with fail
      go_ret
      exact ⟨ret_b (by simp), bl_go B4' b5⟩
end Go.Proofs.YtejkbjcmndnfeaaGreat

/- All pieces of so many cells, plainly. -/
namespace Go.Proofs.YtejkbjcmndnfeaaGreat

/-! ### Sorting that the kernel can run -/
def insC (c : Ce) : List Ce → List Ce
  | [] => [c]
  | d :: l => if ltC c d = true then c :: d :: l else d :: insC c l
def isortC : List Ce → List Ce
  | [] => []
  | c :: l => insC c (isortC l)
theorem insC_perm (c : Ce) (l : List Ce) : (insC c l).Perm (c :: l) := by
  induction l with
  | nil => exact List.Perm.refl _
  | cons d l ih =>
    unfold insC
    split
    · exact List.Perm.refl _
    · exact (ih.cons d).trans (List.Perm.swap c d l)
theorem isortC_perm (l : List Ce) : (isortC l).Perm l := by
  induction l with
  | nil => exact List.Perm.refl _
  | cons c l ih => exact (insC_perm c _).trans (ih.cons c)
theorem ltC_asymm {a b : Ce} (h : ltC a b = true) : ltC b a = false := by
  unfold ltC at *
  simp only [decide_eq_true_eq, decide_eq_false_iff_not] at *
  omega
theorem ltC_ntrans {a b c : Ce} (h1 : ltC b a = false) (h2 : ltC c b = false) : ltC c a = false := by
  unfold ltC at *
  simp only [decide_eq_false_iff_not] at *
  omega
theorem insC_pw {c : Ce} {l : List Ce} (h : l.Pairwise fun x y => ltC y x = false) : (insC c l).Pairwise fun x y => ltC y x = false := by
  induction l with
  | nil => simp [insC]
  | cons d l ih =>
    obtain ⟨h1, h2⟩ := List.pairwise_cons.1 h
    unfold insC
    split
    · rename_i hcd
      refine List.pairwise_cons.2 ⟨fun z hz => ?_, h⟩
      rcases List.mem_cons.1 hz with rfl | hz
      · exact ltC_asymm hcd
      · exact ltC_ntrans (ltC_asymm hcd) (h1 z hz)
    · rename_i hcd
      refine List.pairwise_cons.2 ⟨fun z hz => ?_, ih h2⟩
      rcases List.mem_cons.1 ((insC_perm c l).mem_iff.1 hz) with rfl | hz
      · simpa using hcd
      · exact h1 z hz
theorem isortC_pw (l : List Ce) : (isortC l).Pairwise fun x y => ltC y x = false := by
  induction l with
  | nil => simp [isortC]
  | cons c l ih => exact insC_pw ih
theorem isort_eq (l : List Ce) : isortC l = sortC l := sortC_unique (isortC_perm l) (isortC_pw l)
def mvdK (ps : List Ce) : List Ce := isortC (ps.map (subC (loP ps)))
theorem mvdK_eq (ps : List Ce) : mvdK ps = mvd ps := isort_eq _
def formsK (ps : List Ce) : List (List Ce) := [mvdK (ps.map (turnN 0)), mvdK (ps.map (turnN 1)), mvdK (ps.map (turnN 2)), mvdK (ps.map (turnN 3)), mvdK (ps.map (turnFlip 0)), mvdK (ps.map (turnFlip 1)), mvdK (ps.map (turnFlip 2)), mvdK (ps.map (turnFlip 3))]
theorem formsK_eq (ps : List Ce) : formsK ps = formsF ps := by
  unfold formsK
  simp only [mvdK_eq]
  rfl
def firstK (ps : List Ce) : List Ce := (incOf (formsK ps)).headD []
theorem firstK_eq {ps : List Ce} (h : PieceOk ps) : firstV ps = firstK ps := by
  unfold firstV firstK
  rw [formsV_ok h, formsK_eq]

/-! ### Grown by a cell -/
def nearC (c : Ce) : List Ce := [(c.1 + 1, c.2), (c.1, c.2 + 1), (c.1 - 1, c.2), (c.1, c.2 - 1)]
theorem near_adj {c x : Ce} (h : x ∈ nearC c) : adjC x c := by
  obtain ⟨x1, x2⟩ := x
  obtain ⟨c1, c2⟩ := c
  unfold nearC at h
  simp only [List.mem_cons, Prod.mk.injEq, List.not_mem_nil, or_false] at h
  unfold adjC
  simp only
  omega
theorem adj_near {c x : Ce} (h : adjC x c) : x ∈ nearC c := by
  obtain ⟨x1, x2⟩ := x
  obtain ⟨c1, c2⟩ := c
  unfold adjC at h
  simp only at h
  unfold nearC
  simp only [List.mem_cons, Prod.mk.injEq, List.not_mem_nil, or_false]
  omega
/-- the new cells at one cell, those that the piece has left out -/
def newsC (p : List Ce) (c : Ce) : List Ce := (nearC c).filter fun x => !decide (x ∈ p)
/-- all pieces with a cell more, and their first forms -/
noncomputable def growV (p : List Ce) : List (List Ce) := p.flatMap fun c => (newsC p c).map fun x => firstV (p ++ [x])
noncomputable def growL (L : List (List Ce)) : List (List Ce) := L.flatMap growV
noncomputable def allP : Nat → List (List Ce)
  | 0 => []
  | 1 => [[(0, 0)]]
  | n + 2 => incOf (growL (allP (n + 1)))
def growK (p : List Ce) : List (List Ce) := p.flatMap fun c => (newsC p c).map fun x => firstK (p ++ [x])
def allK : Nat → List (List Ce)
  | 0 => []
  | 1 => [[(0, 0)]]
  | n + 2 => incOf ((allK (n + 1)).flatMap growK)
theorem ok_snoc {p : List Ce} (h : PieceOk p) (hl : p.length < 5) {c x : Ce} (hc : c ∈ p) (hx : adjC x c) (hn : x ∉ p) (hb : ∀ d ∈ p, -8 ≤ d.1 ∧ d.1 ≤ 8 ∧ -8 ≤ d.2 ∧ d.2 ≤ 8) : PieceOk (p ++ [x]) := by
  obtain ⟨⟨l1, l2⟩, h2, h3, h4⟩ := h
  have hh : (p ++ [x]).headD (0, 0) = p.headD (0, 0) := by
    cases p with
    | nil => simp at l1
    | cons a l => rfl
  refine ⟨⟨by simp, by simp; omega⟩, ?_, ?_, ?_⟩
  · intro d hd
    rcases List.mem_append.1 hd with hd | hd
    · exact h2 d hd
    · simp at hd
      subst hd
      have := hb c hc
      unfold adjC at hx
      omega
  · rw [List.nodup_append]
    refine ⟨h3, by simp, fun a ha b hb e => ?_⟩
    simp at hb
    subst hb; subst e
    exact hn ha
  · rw [hh]
    intro a ha
    have hr : ∀ b ∈ p, ReachC (p ++ [x]) (p.headD (0, 0)) b := fun b hb => reach_mono (h4 b hb) (fun y hy => List.mem_append_left _ hy)
    rcases List.mem_append.1 ha with ha | ha
    · exact hr a ha
    · simp at ha
      subst ha
      exact .step c _ (hr c hc) (by simp) hx
/-- moved: near the edge -/
def Edge (p : List Ce) : Prop := ∀ d ∈ p, 0 ≤ d.1 ∧ d.1 ≤ 4 ∧ 0 ≤ d.2 ∧ d.2 ≤ 4
theorem mvd_edge {p : List Ce} (h : PieceOk p) : Edge (mvd p) := by
  intro d hd
  obtain ⟨⟨l1, l2⟩, -, -, h4⟩ := h
  have hne : p ≠ [] := by rintro rfl; simp at l1
  obtain ⟨c, hc, rfl⟩ := List.mem_map.1 ((mvd_perm0 p).mem_iff.1 hd)
  obtain ⟨⟨u, hu, e1⟩, ⟨v, hv, e2⟩⟩ := lo_att hne p.length (Nat.le_refl _)
  have hsp : p.headD (0, 0) ∈ p := by cases p with | nil => simp at l1 | cons a l => simp
  have r1 := reach_w l2 (reach_trans (reach_symm (h4 u hu) hsp) (h4 c hc)) hu
  have r2 := reach_w l2 (reach_trans (reach_symm (h4 v hv) hsp) (h4 c hc)) hv
  have k := loP_le p c hc
  unfold loP at *
  unfold subC
  simp only
  omega
theorem form_edge {p x : List Ce} (hx : x ∈ formsV p) : Edge x := by
  have h := ok_of_pieceB (formsV_each hx).2
  rw [formsV_ok h, incOf_mem, walkF_mem] at hx
  obtain ⟨k, hk, rfl⟩ := hx
  unfold walkF
  split
  · exact mvd_edge (ok_turnN h k)
  · exact mvd_edge (ok_turnFlip h _)
structure AllOk (n : Nat) (p : List Ce) : Prop where
  ok : PieceOk p
  len : p.length = n
  edge : Edge p
  first : firstV p = p
theorem first_first {p : List Ce} (h : PieceOk p) : firstV (firstV p) = firstV p := by
  have := (forms_of_form (first_mem h)).1
  show (formsV (firstV p)).headD [] = _
  rw [this]; rfl
theorem first_ok {p : List Ce} (h : PieceOk p) : AllOk p.length (firstV p) :=
  ⟨(forms_of_form (first_mem h)).2, first_len h, form_edge (first_mem h), first_first h⟩
theorem one_ok : AllOk 1 [(0, 0)] := by
  have h : PieceOk [((0 : Int), (0 : Int))] := by
    refine ⟨⟨by simp, by simp⟩, ?_, by simp, ?_⟩
    · intro c hc; simp at hc; subst hc; simp
    · intro a ha; simp at ha; subst ha; exact .base
  refine ⟨h, rfl, ?_, ?_⟩
  · intro c hc; simp at hc; subst hc; simp
  · rw [firstK_eq h]; decide +kernel
theorem grow_ok {n : Nat} {p : List Ce} (h : AllOk n p) (hn : n < 5) {c x : Ce} (hc : c ∈ p) (hx : x ∈ newsC p c) : PieceOk (p ++ [x]) := by
  unfold newsC at hx
  rw [List.mem_filter] at hx
  refine ok_snoc h.ok (by rw [h.len]; exact hn) hc (near_adj hx.1) (by simpa using hx.2) (fun d hd => ?_)
  have := h.edge d hd
  omega
theorem allP_ok : ∀ n, n ≤ 5 → ∀ p ∈ allP n, AllOk n p
  | 0, _, p, hp => by simp [allP] at hp
  | 1, _, p, hp => by simp [allP] at hp; subst hp; exact one_ok
  | n + 2, hn, p, hp => by
    unfold allP at hp
    rw [incOf_mem] at hp
    unfold growL growV at hp
    rw [List.mem_flatMap] at hp
    obtain ⟨q, hq, hp⟩ := hp
    rw [List.mem_flatMap] at hp
    obtain ⟨c, hc, hp⟩ := hp
    rw [List.mem_map] at hp
    obtain ⟨x, hx, rfl⟩ := hp
    have hqo := allP_ok (n + 1) (by omega) q hq
    have hok := grow_ok hqo (by omega) hc hx
    have := first_ok hok
    rw [show (q ++ [x]).length = n + 2 by rw [List.length_append, hqo.len]; rfl] at this
    exact this
theorem allP_inc : ∀ n, Inc (allP n)
  | 0 => by simp [allP, Inc]
  | 1 => by simp [allP, Inc]
  | n + 2 => by unfold allP; exact incOf_inc _
theorem growV_eq {n : Nat} {p : List Ce} (h : AllOk n p) (hn : n < 5) : growV p = growK p := by
  have hm : ∀ {α β : Type} (l : List α) (f g : α → List β), (∀ a ∈ l, f a = g a) → l.flatMap f = l.flatMap g := fun l f g hfg => by
    rw [List.flatMap_def, List.flatMap_def, List.map_congr_left hfg]
  unfold growV growK
  refine hm _ _ _ (fun c hc => List.map_congr_left (fun x hx => firstK_eq (grow_ok h hn hc hx)))
theorem allP_eq : ∀ n, n ≤ 5 → allP n = allK n
  | 0, _ => rfl
  | 1, _ => rfl
  | n + 2, hn => by
    have hm : ∀ {α β : Type} (l : List α) (f g : α → List β), (∀ a ∈ l, f a = g a) → l.flatMap f = l.flatMap g := fun l f g hfg => by
      rw [List.flatMap_def, List.flatMap_def, List.map_congr_left hfg]
    unfold allP allK growL
    rw [← allP_eq (n + 1) (by omega)]
    rw [hm _ _ _ (fun p hp => growV_eq (allP_ok (n + 1) (by omega) p hp) (by omega))]
theorem all_len : (allP 1).length = 1 ∧ (allP 2).length = 1 ∧ (allP 3).length = 2 ∧ (allP 4).length = 5 ∧ (allP 5).length = 12 := by
  rw [allP_eq 1 (by omega), allP_eq 2 (by omega), allP_eq 3 (by omega), allP_eq 4 (by omega), allP_eq 5 (by omega)]
  decide +kernel
theorem all_apart {n : Nat} (hn : n ≤ 5) {a b : List Ce} (ha : a ∈ allP n) (hb : b ∈ allP n) (h : firstV a = firstV b) : a = b := by
  rw [← (allP_ok n hn a ha).first, h, (allP_ok n hn b hb).first]
end Go.Proofs.YtejkbjcmndnfeaaGreat

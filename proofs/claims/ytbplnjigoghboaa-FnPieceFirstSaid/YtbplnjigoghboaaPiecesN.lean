/- All pieces of so many cells, plainly. -/
import Derived.Test.YtbplnjigoghboaaFormL
namespace Go.Proofs.Ytbplnjigoghboaa

/-! ### Sorting that the kernel can run -/
def insC (c : Ce) : List Ce → List Ce
  | [] => [c]
  | d :: l => if ltC c d = true then c :: d :: l else d :: insC c l
def isortC : List Ce → List Ce
  | [] => []
  | c :: l => insC c (isortC l)
theorem insC_perm (c : Ce) (l : List Ce) : (insC c l).Perm (c :: l) := by
  induction l with
  | nil => exact List.Perm.refl _
  | cons d l ih =>
    unfold insC
    split
    · exact List.Perm.refl _
    · exact (ih.cons d).trans (List.Perm.swap c d l)
theorem isortC_perm (l : List Ce) : (isortC l).Perm l := by
  induction l with
  | nil => exact List.Perm.refl _
  | cons c l ih => exact (insC_perm c _).trans (ih.cons c)
theorem ltC_asymm {a b : Ce} (h : ltC a b = true) : ltC b a = false := by
  unfold ltC at *
  simp only [decide_eq_true_eq, decide_eq_false_iff_not] at *
  omega
theorem ltC_ntrans {a b c : Ce} (h1 : ltC b a = false) (h2 : ltC c b = false) : ltC c a = false := by
  unfold ltC at *
  simp only [decide_eq_false_iff_not] at *
  omega
theorem insC_pw {c : Ce} {l : List Ce} (h : l.Pairwise fun x y => ltC y x = false) : (insC c l).Pairwise fun x y => ltC y x = false := by
  induction l with
  | nil => simp [insC]
  | cons d l ih =>
    obtain ⟨h1, h2⟩ := List.pairwise_cons.1 h
    unfold insC
    split
    · rename_i hcd
      refine List.pairwise_cons.2 ⟨fun z hz => ?_, h⟩
      rcases List.mem_cons.1 hz with rfl | hz
      · exact ltC_asymm hcd
      · exact ltC_ntrans (ltC_asymm hcd) (h1 z hz)
    · rename_i hcd
      refine List.pairwise_cons.2 ⟨fun z hz => ?_, ih h2⟩
      rcases List.mem_cons.1 ((insC_perm c l).mem_iff.1 hz) with rfl | hz
      · simpa using hcd
      · exact h1 z hz
theorem isortC_pw (l : List Ce) : (isortC l).Pairwise fun x y => ltC y x = false := by
  induction l with
  | nil => simp [isortC]
  | cons c l ih => exact insC_pw ih
theorem isort_eq (l : List Ce) : isortC l = sortC l := sortC_unique (isortC_perm l) (isortC_pw l)
def mvdK (ps : List Ce) : List Ce := isortC (ps.map (subC (loP ps)))
theorem mvdK_eq (ps : List Ce) : mvdK ps = mvd ps := isort_eq _
def formsK (ps : List Ce) : List (List Ce) := [mvdK (ps.map (turnN 0)), mvdK (ps.map (turnN 1)), mvdK (ps.map (turnN 2)), mvdK (ps.map (turnN 3)), mvdK (ps.map (turnFlip 0)), mvdK (ps.map (turnFlip 1)), mvdK (ps.map (turnFlip 2)), mvdK (ps.map (turnFlip 3))]
theorem formsK_eq (ps : List Ce) : formsK ps = formsF ps := by
  unfold formsK
  simp only [mvdK_eq]
  rfl
def firstK (ps : List Ce) : List Ce := (incOf (formsK ps)).headD []
theorem firstK_eq {ps : List Ce} (h : PieceOk ps) : firstV ps = firstK ps := by
  unfold firstV firstK
  rw [formsV_ok h, formsK_eq]

/-! ### Grown by a cell -/
def nearC (c : Ce) : List Ce := [(c.1 + 1, c.2), (c.1, c.2 + 1), (c.1 - 1, c.2), (c.1, c.2 - 1)]
theorem near_adj {c x : Ce} (h : x ∈ nearC c) : adjC x c := by
  obtain ⟨x1, x2⟩ := x
  obtain ⟨c1, c2⟩ := c
  unfold nearC at h
  simp only [List.mem_cons, Prod.mk.injEq, List.not_mem_nil, or_false] at h
  unfold adjC
  simp only
  omega
theorem adj_near {c x : Ce} (h : adjC x c) : x ∈ nearC c := by
  obtain ⟨x1, x2⟩ := x
  obtain ⟨c1, c2⟩ := c
  unfold adjC at h
  simp only at h
  unfold nearC
  simp only [List.mem_cons, Prod.mk.injEq, List.not_mem_nil, or_false]
  omega
/-- the new cells at one cell, those that the piece has left out -/
def newsC (p : List Ce) (c : Ce) : List Ce := (nearC c).filter fun x => !decide (x ∈ p)
/-- all pieces with a cell more, and their first forms -/
noncomputable def growV (p : List Ce) : List (List Ce) := p.flatMap fun c => (newsC p c).map fun x => firstV (p ++ [x])
noncomputable def growL (L : List (List Ce)) : List (List Ce) := L.flatMap growV
noncomputable def allP : Nat → List (List Ce)
  | 0 => []
  | 1 => [[(0, 0)]]
  | n + 2 => incOf (growL (allP (n + 1)))
def growK (p : List Ce) : List (List Ce) := p.flatMap fun c => (newsC p c).map fun x => firstK (p ++ [x])
def allK : Nat → List (List Ce)
  | 0 => []
  | 1 => [[(0, 0)]]
  | n + 2 => incOf ((allK (n + 1)).flatMap growK)
theorem ok_snoc {p : List Ce} (h : PieceOk p) (hl : p.length < 5) {c x : Ce} (hc : c ∈ p) (hx : adjC x c) (hn : x ∉ p) (hb : ∀ d ∈ p, -8 ≤ d.1 ∧ d.1 ≤ 8 ∧ -8 ≤ d.2 ∧ d.2 ≤ 8) : PieceOk (p ++ [x]) := by
  obtain ⟨⟨l1, l2⟩, h2, h3, h4⟩ := h
  have hh : (p ++ [x]).headD (0, 0) = p.headD (0, 0) := by
    cases p with
    | nil => simp at l1
    | cons a l => rfl
  refine ⟨⟨by simp, by simp; omega⟩, ?_, ?_, ?_⟩
  · intro d hd
    rcases List.mem_append.1 hd with hd | hd
    · exact h2 d hd
    · simp at hd
      subst hd
      have := hb c hc
      unfold adjC at hx
      omega
  · rw [List.nodup_append]
    refine ⟨h3, by simp, fun a ha b hb e => ?_⟩
    simp at hb
    subst hb; subst e
    exact hn ha
  · rw [hh]
    intro a ha
    have hr : ∀ b ∈ p, ReachC (p ++ [x]) (p.headD (0, 0)) b := fun b hb => reach_mono (h4 b hb) (fun y hy => List.mem_append_left _ hy)
    rcases List.mem_append.1 ha with ha | ha
    · exact hr a ha
    · simp at ha
      subst ha
      exact .step c _ (hr c hc) (by simp) hx
/-- moved: near the edge -/
def Edge (p : List Ce) : Prop := ∀ d ∈ p, 0 ≤ d.1 ∧ d.1 ≤ 4 ∧ 0 ≤ d.2 ∧ d.2 ≤ 4
theorem mvd_edge {p : List Ce} (h : PieceOk p) : Edge (mvd p) := by
  intro d hd
  obtain ⟨⟨l1, l2⟩, -, -, h4⟩ := h
  have hne : p ≠ [] := by rintro rfl; simp at l1
  obtain ⟨c, hc, rfl⟩ := List.mem_map.1 ((mvd_perm0 p).mem_iff.1 hd)
  obtain ⟨⟨u, hu, e1⟩, ⟨v, hv, e2⟩⟩ := lo_att hne p.length (Nat.le_refl _)
  have hsp : p.headD (0, 0) ∈ p := by cases p with | nil => simp at l1 | cons a l => simp
  have r1 := reach_w l2 (reach_trans (reach_symm (h4 u hu) hsp) (h4 c hc)) hu
  have r2 := reach_w l2 (reach_trans (reach_symm (h4 v hv) hsp) (h4 c hc)) hv
  have k := loP_le p c hc
  unfold loP at *
  unfold subC
  simp only
  omega
theorem form_edge {p x : List Ce} (hx : x ∈ formsV p) : Edge x := by
  have h := ok_of_pieceB (formsV_each hx).2
  rw [formsV_ok h, incOf_mem, walkF_mem] at hx
  obtain ⟨k, hk, rfl⟩ := hx
  unfold walkF
  split
  · exact mvd_edge (ok_turnN h k)
  · exact mvd_edge (ok_turnFlip h _)
structure AllOk (n : Nat) (p : List Ce) : Prop where
  ok : PieceOk p
  len : p.length = n
  edge : Edge p
  first : firstV p = p
theorem first_first {p : List Ce} (h : PieceOk p) : firstV (firstV p) = firstV p := by
  have := (forms_of_form (first_mem h)).1
  show (formsV (firstV p)).headD [] = _
  rw [this]; rfl
theorem first_ok {p : List Ce} (h : PieceOk p) : AllOk p.length (firstV p) :=
  ⟨(forms_of_form (first_mem h)).2, first_len h, form_edge (first_mem h), first_first h⟩
theorem one_ok : AllOk 1 [(0, 0)] := by
  have h : PieceOk [((0 : Int), (0 : Int))] := by
    refine ⟨⟨by simp, by simp⟩, ?_, by simp, ?_⟩
    · intro c hc; simp at hc; subst hc; simp
    · intro a ha; simp at ha; subst ha; exact .base
  refine ⟨h, rfl, ?_, ?_⟩
  · intro c hc; simp at hc; subst hc; simp
  · rw [firstK_eq h]; decide +kernel
theorem grow_ok {n : Nat} {p : List Ce} (h : AllOk n p) (hn : n < 5) {c x : Ce} (hc : c ∈ p) (hx : x ∈ newsC p c) : PieceOk (p ++ [x]) := by
  unfold newsC at hx
  rw [List.mem_filter] at hx
  refine ok_snoc h.ok (by rw [h.len]; exact hn) hc (near_adj hx.1) (by simpa using hx.2) (fun d hd => ?_)
  have := h.edge d hd
  omega
theorem allP_ok : ∀ n, n ≤ 5 → ∀ p ∈ allP n, AllOk n p
  | 0, _, p, hp => by simp [allP] at hp
  | 1, _, p, hp => by simp [allP] at hp; subst hp; exact one_ok
  | n + 2, hn, p, hp => by
    unfold allP at hp
    rw [incOf_mem] at hp
    unfold growL growV at hp
    rw [List.mem_flatMap] at hp
    obtain ⟨q, hq, hp⟩ := hp
    rw [List.mem_flatMap] at hp
    obtain ⟨c, hc, hp⟩ := hp
    rw [List.mem_map] at hp
    obtain ⟨x, hx, rfl⟩ := hp
    have hqo := allP_ok (n + 1) (by omega) q hq
    have hok := grow_ok hqo (by omega) hc hx
    have := first_ok hok
    rw [show (q ++ [x]).length = n + 2 by rw [List.length_append, hqo.len]; rfl] at this
    exact this
theorem allP_inc : ∀ n, Inc (allP n)
  | 0 => by simp [allP, Inc]
  | 1 => by simp [allP, Inc]
  | n + 2 => by unfold allP; exact incOf_inc _
theorem growV_eq {n : Nat} {p : List Ce} (h : AllOk n p) (hn : n < 5) : growV p = growK p := by
  have hm : ∀ {α β : Type} (l : List α) (f g : α → List β), (∀ a ∈ l, f a = g a) → l.flatMap f = l.flatMap g := fun l f g hfg => by
    rw [List.flatMap_def, List.flatMap_def, List.map_congr_left hfg]
  unfold growV growK
  refine hm _ _ _ (fun c hc => List.map_congr_left (fun x hx => firstK_eq (grow_ok h hn hc hx)))
theorem allP_eq : ∀ n, n ≤ 5 → allP n = allK n
  | 0, _ => rfl
  | 1, _ => rfl
  | n + 2, hn => by
    have hm : ∀ {α β : Type} (l : List α) (f g : α → List β), (∀ a ∈ l, f a = g a) → l.flatMap f = l.flatMap g := fun l f g hfg => by
      rw [List.flatMap_def, List.flatMap_def, List.map_congr_left hfg]
    unfold allP allK growL
    rw [← allP_eq (n + 1) (by omega)]
    rw [hm _ _ _ (fun p hp => growV_eq (allP_ok (n + 1) (by omega) p hp) (by omega))]
theorem all_len : (allP 1).length = 1 ∧ (allP 2).length = 1 ∧ (allP 3).length = 2 ∧ (allP 4).length = 5 ∧ (allP 5).length = 12 := by
  rw [allP_eq 1 (by omega), allP_eq 2 (by omega), allP_eq 3 (by omega), allP_eq 4 (by omega), allP_eq 5 (by omega)]
  decide +kernel
theorem all_apart {n : Nat} (hn : n ≤ 5) {a b : List Ce} (ha : a ∈ allP n) (hb : b ∈ allP n) (h : firstV a = firstV b) : a = b := by
  rw [← (allP_ok n hn a ha).first, h, (allP_ok n hn b hb).first]
end Go.Proofs.Ytbplnjigoghboaa

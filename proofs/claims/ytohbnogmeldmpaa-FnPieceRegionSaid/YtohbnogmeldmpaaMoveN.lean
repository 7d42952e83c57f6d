
/- Pieces moved to the edge and put in order, plainly. -/
import Derived.Test.YtohbnogmeldmpaaCell
import Derived.Shelf.SlSortCmp.Kit1
import Derived.Sort.LotA
import Derived.Lib.Small
namespace Go.Proofs.Ytohbnogmeldmpaa
open Go.RowKit Go.Sort

/-- by rows, then by columns -/
def cmpC (a b : Ce) : Int := if Lib.compareInt a.2 b.2 = 0 then Lib.compareInt a.1 b.1 else Lib.compareInt a.2 b.2
def ltC (a b : Ce) : Bool := decide (a.2 < b.2 ∨ (a.2 = b.2 ∧ a.1 < b.1))
theorem ltC_eq (a b : Ce) : ltOf cmpC a b = ltC a b := by
  unfold ltOf ltC
  congr 1
  apply propext
  unfold cmpC Lib.compareInt
  repeat' split
  all_goals omega
theorem swoC : SWO (ltOf cmpC) where
  irrefl x := by rw [ltC_eq]; unfold ltC; simp
  trans x y z h1 h2 := by rw [ltC_eq] at *; unfold ltC at *; simp only [decide_eq_true_eq] at *; omega
  ntrans x y z h1 h2 := by rw [ltC_eq] at *; unfold ltC at *; simp only [decide_eq_false_iff_not] at *; omega
theorem totC (x y : Ce) (h1 : ltOf cmpC x y = false) (h2 : ltOf cmpC y x = false) : x = y := by
  rw [ltC_eq] at *; unfold ltC at *; simp only [decide_eq_false_iff_not] at *
  exact Prod.ext (by omega) (by omega)
/-- in order -/
def sortC (ps : List Ce) : List Ce := ps.mergeSort fun x y => !(ltOf cmpC) y x
theorem sortC_perm (ps : List Ce) : (sortC ps).Perm ps := List.mergeSort_perm ps _
theorem sortC_len (ps : List Ce) : (sortC ps).length = ps.length := (sortC_perm ps).length_eq
theorem sortC_pw (ps : List Ce) : (sortC ps).Pairwise fun x y => ltC y x = false := by
  have h := List.pairwise_mergeSort (le := fun x y => !(ltOf cmpC) y x)
    (fun a b c h1 h2 => by
      simp only [Bool.not_eq_true'] at *
      exact swoC.ntrans c b a h2 h1)
    (fun a b => by
      rw [ltC_eq, ltC_eq]; unfold ltC
      simp only [Bool.or_eq_true, Bool.not_eq_true', decide_eq_false_iff_not]
      omega) ps
  refine h.imp (fun {a b} h => ?_)
  rw [← ltC_eq]
  simpa using h
/-- what is in order, and has the same cells, is it -/
theorem sortC_unique {L ps : List Ce} (hp : L.Perm ps) (h : L.Pairwise fun x y => ltC y x = false) : L = sortC ps := by
  refine List.Perm.eq_of_pairwise (le := fun x y => ltC y x = false) ?_ h (sortC_pw ps) (hp.trans (sortC_perm ps).symm)
  intro a b _ _ h1 h2
  rw [← ltC_eq] at h1 h2
  exact totC a b h2 h1
/-- the least column and row of the first k -/
def loK (ps : List Ce) (k : Nat) : Ce := (ps.take k).foldl (fun m c => (min m.1 c.1, min m.2 c.2)) (ps.headD (0, 0))
theorem loK_zero (ps : List Ce) : loK ps 0 = ps.headD (0, 0) := rfl
theorem loK_step (ps : List Ce) (k : Nat) (h : k < ps.length) : loK ps (k + 1) = (min (loK ps k).1 ps[k].1, min (loK ps k).2 ps[k].2) := by
  unfold loK; rw [take_one_more ps k h, List.foldl_append]; rfl
def loP (ps : List Ce) : Ce := loK ps ps.length
def subC (m : Ce) (c : Ce) : Ce := (c.1 - m.1, c.2 - m.2)
/-- a piece moved -/
def mvd (ps : List Ce) : List Ce := sortC (ps.map (subC (loP ps)))
theorem mvd_len (ps : List Ce) : (mvd ps).length = ps.length := by unfold mvd; rw [sortC_len, List.length_map]
/-- bounds -/
def inBd (b : Int) (q : Ce) : Prop := -b ≤ q.1 ∧ q.1 ≤ b ∧ -b ≤ q.2 ∧ q.2 ≤ b
theorem loK_bd {b : Int} {ps : List Ce} (h : ∀ c ∈ ps, inBd b c) (hb : 0 ≤ b) (k : Nat) : inBd b (loK ps k) := by
  have h0 : inBd b (ps.headD (0, 0)) := by
    cases ps with
    | nil => unfold inBd; simp; omega
    | cons a l => exact h a (by simp)
  unfold loK
  have : ∀ (l : List Ce) (m : Ce), inBd b m → (∀ c ∈ l, inBd b c) → inBd b (l.foldl (fun m c => (min m.1 c.1, min m.2 c.2)) m) := by
    intro l
    induction l with
    | nil => intro m hm _; exact hm
    | cons a l ih =>
      intro m hm hl
      rw [List.foldl_cons]
      refine ih _ ?_ (fun c hc => hl c (by simp [hc]))
      have ha := hl a (by simp)
      unfold inBd at *
      simp only
      omega
  exact this _ _ h0 (fun c hc => h c (List.mem_of_mem_take hc))
theorem loK_le {ps : List Ce} {k : Nat} (hk : k ≤ ps.length) : ∀ c ∈ ps.take k, (loK ps k).1 ≤ c.1 ∧ (loK ps k).2 ≤ c.2 := by
  induction k with
  | zero => intro c hc; simp at hc
  | succ k ih =>
    intro c hc
    rw [take_one_more ps k (by omega)] at hc
    rw [loK_step ps k (by omega)]
    rcases List.mem_append.1 hc with h | h
    · have := ih (by omega) c h
      simp only
      omega
    · simp at h
      subst h
      simp only
      omega
theorem loP_le (ps : List Ce) : ∀ c ∈ ps, (loP ps).1 ≤ c.1 ∧ (loP ps).2 ≤ c.2 := fun c hc => loK_le (Nat.le_refl _) c (by rw [List.take_length]; exact hc)
theorem subC_inj {m a b : Ce} (h : subC m a = subC m b) : a = b := by
  unfold subC at h
  injection h with h1 h2
  exact Prod.ext (by omega) (by omega)
theorem subC_lt (m a b : Ce) : ltC (subC m a) (subC m b) = ltC a b := by
  unfold ltC subC
  congr 1
  apply propext
  simp only
  omega

/-! ### The least one left, again and again -/
structure SelC (q L : List Ce) : Prop where
  nodup : L.Nodup
  sub : ∀ a ∈ L, a ∈ q
  pw : L.Pairwise fun x y => ltC y x = false
  rest : ∀ b ∈ q, b ∉ L → ∀ a ∈ L, ltC b a = false
theorem SelC.nil (q : List Ce) : SelC q [] := ⟨by simp, by simp, by simp, by simp⟩
theorem SelC.le {q L : List Ce} (h : SelC q L) : L.length ≤ q.length := nodup_le L q h.nodup h.sub
theorem SelC.more {q L : List Ce} (h : SelC q L) {b : Ce} (hb : b ∈ q) (hn : b ∉ L) (hl : ∀ c ∈ q, c ∉ L → ltC c b = false) : SelC q (L ++ [b]) := by
  refine ⟨?_, ?_, ?_, ?_⟩
  · rw [List.nodup_append]
    refine ⟨h.nodup, by simp, fun x hx y hy => ?_⟩
    simp at hy; subst hy; intro e; subst e; exact hn hx
  · intro a ha
    rcases List.mem_append.1 ha with h1 | h1
    · exact h.sub a h1
    · simp at h1; rw [h1]; exact hb
  · rw [List.pairwise_append]
    refine ⟨h.pw, by simp, fun x hx y hy => ?_⟩
    simp at hy; subst hy
    exact h.rest _ hb hn x hx
  · intro c hc hcn a ha
    have hcl : c ∉ L := fun h1 => hcn (List.mem_append_left _ h1)
    rcases List.mem_append.1 ha with h1 | h1
    · exact h.rest c hc hcl a h1
    · simp at h1; subst h1
      exact hl c hc hcl
theorem perm_of_sub : ∀ (L q : List Ce), L.Nodup → (∀ a ∈ L, a ∈ q) → L.length = q.length → L.Perm q
  | [], q, _, _, hl => by
    have : q = [] := List.eq_nil_of_length_eq_zero (by simpa using hl.symm)
    subst this; exact List.Perm.refl _
  | a :: L, q, hn, hs, hl => by
    have h1 := List.nodup_cons.1 hn
    have hp : a ∈ q := hs a (by simp)
    have h2 := perm_of_sub L (q.erase a) h1.2 (fun b hb => by
      have : b ≠ a := fun e => h1.1 (e ▸ hb)
      exact (List.mem_erase_of_ne this).2 (hs b (by simp [hb]))) (by rw [List.length_erase_of_mem hp]; simp at hl; omega)
    exact (h2.cons a).trans (List.perm_cons_erase hp).symm
theorem SelC.done {q L : List Ce} (h : SelC q L) (hl : q.length ≤ L.length) : L = sortC q :=
  sortC_unique (perm_of_sub L q h.nodup h.sub (by have := h.le; omega)) h.pw
/-- the least one so far, of the first m that are not in L; -1 if there is none -/
def BestC (q L : List Ce) (m : Nat) (b : Int) : Prop :=
  (b = -1 ∧ ∀ j (hj : j < q.length), j < m → q[j] ∈ L) ∨ (∃ (i : Nat) (hi : i < q.length), b = i ∧ i < m ∧ q[i] ∉ L ∧ ∀ j (hj : j < q.length), j < m → q[j] ∉ L → ltC q[j] q[i] = false)
theorem BestC.start (q L : List Ce) : BestC q L 0 (-1) := .inl ⟨rfl, fun _ _ h => by omega⟩
theorem BestC.skip {q L : List Ce} {m : Nat} {b : Int} (h : BestC q L m b) (hm : m < q.length) (hin : q[m] ∈ L) : BestC q L (m + 1) b := by
  rcases h with ⟨e, h⟩ | ⟨i, hi, e, him, hn, h⟩
  · refine .inl ⟨e, fun j hj hjm => ?_⟩
    rcases Nat.lt_or_ge j m with h1 | h1
    · exact h j hj h1
    · obtain rfl : j = m := by omega
      exact hin
  · refine .inr ⟨i, hi, e, by omega, hn, fun j hj hjm hjn => ?_⟩
    rcases Nat.lt_or_ge j m with h1 | h1
    · exact h j hj h1 hjn
    · obtain rfl : j = m := by omega
      exact absurd hin hjn
theorem BestC.keep {q L : List Ce} {m i : Nat} (h : BestC q L m i) (hm : m < q.length) (hi : i < q.length) (hlt : ltC q[m] q[i] = false) : BestC q L (m + 1) i := by
  rcases h with ⟨e, h⟩ | ⟨i', hi', e, him, hn, h⟩
  · omega
  · obtain rfl : i = i' := by omega
    refine .inr ⟨i, hi, rfl, by omega, hn, fun j hj hjm hjn => ?_⟩
    rcases Nat.lt_or_ge j m with h1 | h1
    · exact h j hj h1 hjn
    · obtain rfl : j = m := by omega
      exact hlt
theorem BestC.first {q L : List Ce} {m : Nat} (h : BestC q L m (-1)) (hm : m < q.length) (hn : q[m] ∉ L) : BestC q L (m + 1) m := by
  rcases h with ⟨e, h⟩ | ⟨i', hi', e, him, hn', h⟩
  · refine .inr ⟨m, hm, rfl, by omega, hn, fun j hj hjm hjn => ?_⟩
    rcases Nat.lt_or_ge j m with h1 | h1
    · exact absurd (h j hj h1) hjn
    · obtain rfl : j = m := by omega
      rw [← ltC_eq]; exact swoC.irrefl _
  · omega
theorem BestC.better {q L : List Ce} {m i : Nat} (h : BestC q L m i) (hm : m < q.length) (hi : i < q.length) (hn : q[m] ∉ L) (hlt : ltC q[m] q[i] = true) : BestC q L (m + 1) m := by
  rcases h with ⟨e, h⟩ | ⟨i', hi', e, him, hn', h⟩
  · omega
  · obtain rfl : i = i' := by omega
    refine .inr ⟨m, hm, rfl, by omega, hn, fun j hj hjm hjn => ?_⟩
    rcases Nat.lt_or_ge j m with h1 | h1
    · have := h j hj h1 hjn
      unfold ltC at *
      simp only [decide_eq_true_eq, decide_eq_false_iff_not] at *
      omega
    · obtain rfl : j = m := by omega
      rw [← ltC_eq]; exact swoC.irrefl _
theorem BestC.bd {q L : List Ce} {m : Nat} {b : Int} (h : BestC q L m b) : b = -1 ∨ ∃ i : Nat, b = i ∧ i < q.length ∧ i < m := by
  rcases h with ⟨e, _⟩ | ⟨i, hi, e, him, _⟩
  · exact .inl e
  · exact .inr ⟨i, e, hi, him⟩
theorem BestC.done {q L : List Ce} {b : Int} (h : BestC q L q.length b) (hS : SelC q L) (hq : q.Nodup) (hl : L.length < q.length) :
    ∃ (i : Nat) (hi : i < q.length), b = i ∧ SelC q (L ++ [q[i]]) := by
  rcases h with ⟨e, h⟩ | ⟨i, hi, e, him, hn, h⟩
  · exfalso
    have := nodup_le q L hq (fun a ha => by obtain ⟨j, hj, e⟩ := List.getElem_of_mem ha; rw [← e]; exact h j hj hj)
    omega
  · refine ⟨i, hi, e, hS.more (List.getElem_mem hi) hn (fun c hc hcn => ?_)⟩
    obtain ⟨j, hj, e⟩ := List.getElem_of_mem hc
    subst e
    exact h j hj hj hcn

/-! ### Turned and mirrored pieces are valid -/
def turnC (c : Ce) : Ce := (-c.2, c.1)
def flipC (c : Ce) : Ce := (-c.1, c.2)
def backC (c : Ce) : Ce := (c.2, -c.1)
theorem reach_map {f : Ce → Ce} (hf : ∀ a b, adjC a b → adjC (f a) (f b)) {p : List Ce} {s a : Ce} (h : ReachC p s a) : ReachC (p.map f) (f s) (f a) := by
  induction h with
  | base => exact .base
  | step a b _ hb hab ih => exact .step _ _ ih (List.mem_map_of_mem hb) (hf _ _ hab)
theorem ok_map {f : Ce → Ce} (hf : ∀ a b, adjC a b → adjC (f a) (f b)) (hi : ∀ a b, f a = f b → a = b) (hr : ∀ c : Ce, (-9 ≤ c.1 ∧ c.1 ≤ 9 ∧ -9 ≤ c.2 ∧ c.2 ≤ 9) → (-9 ≤ (f c).1 ∧ (f c).1 ≤ 9 ∧ -9 ≤ (f c).2 ∧ (f c).2 ≤ 9)) {p : List Ce} (h : PieceOk p) : PieceOk (p.map f) := by
  obtain ⟨h1, h2, h3, h4⟩ := h
  refine ⟨by simpa using h1, ?_, ?_, ?_⟩
  · intro c hc
    obtain ⟨d, hd, rfl⟩ := List.mem_map.1 hc
    exact hr d (h2 d hd)
  · unfold List.Nodup at *
    rw [List.pairwise_map]
    exact h3.imp (fun {a b} hab e => hab (hi _ _ e))
  · intro a ha
    obtain ⟨d, hd, rfl⟩ := List.mem_map.1 ha
    have := reach_map hf (h4 d hd)
    have e : (p.map f).headD (0, 0) = f (p.headD (0, 0)) := by
      cases p with
      | nil => simp at hd
      | cons a l => rfl
    rw [e]; exact this
theorem pieceB_eq {p q : List Ce} (h : PieceOk p ↔ PieceOk q) : pieceB p = pieceB q := by
  by_cases hp : PieceOk p
  · rw [pieceB_t hp, pieceB_t (h.1 hp)]
  · rw [pieceB_f hp, pieceB_f (fun hq => hp (h.2 hq))]
theorem ok_turn {p : List Ce} (h : PieceOk p) : PieceOk (p.map turnC) :=
  ok_map (fun a b hab => by unfold adjC turnC at *; simp only; omega) (fun a b e => by unfold turnC at e; injection e with e1 e2; exact Prod.ext (by omega) (by omega)) (fun c hc => by unfold turnC; simp only; omega) h
theorem ok_back {p : List Ce} (h : PieceOk p) : PieceOk (p.map backC) :=
  ok_map (fun a b hab => by unfold adjC backC at *; simp only; omega) (fun a b e => by unfold backC at e; injection e with e1 e2; exact Prod.ext (by omega) (by omega)) (fun c hc => by unfold backC; simp only; omega) h
theorem ok_flip {p : List Ce} (h : PieceOk p) : PieceOk (p.map flipC) :=
  ok_map (fun a b hab => by unfold adjC flipC at *; simp only; omega) (fun a b e => by unfold flipC at e; injection e with e1 e2; exact Prod.ext (by omega) (by omega)) (fun c hc => by unfold flipC; simp only; omega) h
theorem back_turn (p : List Ce) : (p.map turnC).map backC = p := by
  rw [List.map_map]
  have : backC ∘ turnC = id := by funext c; unfold backC turnC; simp
  rw [this, List.map_id]
theorem flip_flip (p : List Ce) : (p.map flipC).map flipC = p := by
  rw [List.map_map]
  have : flipC ∘ flipC = id := by funext c; unfold flipC; simp
  rw [this, List.map_id]
theorem pieceB_turn (p : List Ce) : pieceB (p.map turnC) = pieceB p := pieceB_eq ⟨fun h => by have := ok_back h; rwa [back_turn] at this, ok_turn⟩
theorem pieceB_flip (p : List Ce) : pieceB (p.map flipC) = pieceB p := pieceB_eq ⟨fun h => by have := ok_flip h; rwa [flip_flip] at this, ok_flip⟩
/-- what the three functions return -/
noncomputable def mvdV (f : Ce → Ce) (ps : List Ce) : List Ce := if pieceB ps = true then mvd (ps.map f) else []
theorem mvdV_len (f : Ce → Ce) (ps : List Ce) : (mvdV f ps).length ≤ 5 := by
  unfold mvdV
  split
  · rename_i h
    rw [mvd_len, List.length_map]
    by_cases hp : PieceOk ps
    · exact hp.1.2
    · rw [pieceB_f hp] at h; cases h
  · simp
theorem ok_of_pieceB {ps : List Ce} (h : pieceB ps = true) : PieceOk ps := by
  refine Classical.byContradiction fun hk => ?_
  rw [pieceB_f hk] at h; cases h
def stayC (c : Ce) : Ce := c
theorem map_stay (ps : List Ce) : ps.map stayC = ps := by
  have : stayC = id := rfl
  rw [this, List.map_id]
end Go.Proofs.Ytohbnogmeldmpaa


/- Plain words for memory and lists: a slice that reads as a list. -/
import Derived.WalkKit
import Derived.WalkSpells
import Derived.WalkLawsBesides
import Derived.Deep.AppendLies
import Derived.Deep.Draws
import Derived.Lib.Hide
namespace Go.Proofs.YtafmpgikdhlknaaGreat
open Go.RowKit

theorem blk_add (a : Addr) (n : Nat) : (a.add n).block = a.block := by unfold Addr.add; split <;> rfl
theorem add_add' (a : Addr) (i j : Nat) : (a.add i).add j = a.add (i + j) := by
  unfold Addr.add
  by_cases hi : i = 0 <;> by_cases hj : j = 0 <;> simp [hi, hj, Nat.add_assoc]
theorem add_zero' (a : Addr) : a.add 0 = a := by simp [Addr.add]

/-- The slice that begins at A holds the cells xs. -/
def Rd (w : World) (A : Option Addr) (xs : List Value) : Prop :=
  xs ≠ [] → ∃ ad, A = some ad ∧ ∀ j u, xs[j]? = some u → w.cell? (ad.add j) = some u

section
variable {w w' : World} {B : Nat} {A : Option Addr} {xs : List Value}
theorem Rd.nil (w : World) (A : Option Addr) : Rd w A [] := fun h => absurd rfl h
theorem Rd.keep (h : Rd w A xs) (hk : ∀ p : Addr, p.block < w.heap.size → w'.cell? p = w.cell? p) : Rd w' A xs := fun hn => by
  obtain ⟨ad, e, hc⟩ := h hn
  refine ⟨ad, e, fun j u hu => ?_⟩
  have h1 := hc j u hu
  rw [hk _ (World.block_lt_of_cell? w _ h1), h1]
theorem Rd.below (h : Rd w A xs) (hb : Below B w w') (hB : w.heap.size ≤ B) : Rd w' A xs := h.keep fun _ hp => hb.cell (by omega)
theorem Rd.belo (h : Rd w A xs) (hb : Below w.heap.size w w') : Rd w' A xs := h.below hb (Nat.le_refl _)
theorem Rd.drew (h : Rd w A xs) : Rd w.drew A xs := h
theorem Rd.drewN (h : Rd w A xs) (k : Nat) : Rd (w.drewN k) A xs := h
theorem Rd.alloc (h : Rd w A xs) (o : Obj) : Rd (w.alloc o) A xs := h.keep fun p hp => World.cell?_alloc_lt w o p (by omega)
theorem Rd.grown (h : Rd w A xs) {row : Option Nat} (hg : w.grownBy w' row) (hr : ∀ g, row = some g → w.heap.size ≤ g) : Rd w' A xs :=
  h.keep fun p hp => World.cell?_of_block (hg.block p.block hp (fun e => by have := hr _ e.symm; omega))
theorem Rd.at_ {k : Nat} (h : Rd w A xs) (hk : k < xs.length) : ∃ ad, A = some ad ∧ w.cell? (ad.add k) = some xs[k] := by
  obtain ⟨ad, e, hc⟩ := h (by intro e; subst e; simp at hk)
  exact ⟨ad, e, hc k _ (List.getElem?_eq_getElem hk)⟩
/-- a cell of a list that is the image of another one -/
theorem Rd.atM {α : Type} {f : α → Value} {l : List α} {k : Nat} (h : Rd w A (l.map f)) (hk : k < l.length) : ∃ ad, A = some ad ∧ w.cell? (ad.add k) = some (f l[k]) := by
  obtain ⟨ad, e, hc⟩ := h.at_ (k := k) (by simpa using hk)
  exact ⟨ad, e, by simpa using hc⟩
/-- every cell of it lies in a block that is there -/
theorem Rd.lt (h : Rd w A xs) {ad : Addr} (e : A = some ad) (hn : xs ≠ []) : ad.block < w.heap.size := by
  obtain ⟨ad', e', hc⟩ := h hn
  rw [e] at e'; obtain rfl : ad = ad' := by injection e'
  have h0 : 0 < xs.length := List.length_pos_iff.2 hn
  have := World.block_lt_of_cell? w _ (hc 0 _ (List.getElem?_eq_getElem h0))
  rwa [blk_add] at this
theorem Rd.own {base : Nat} {e : TypeId} {n c : Nat} (h : w.ownsRow base e 1 (.slice A n c) n xs) : Rd w A xs := fun hn => by
  have hl : xs.length = n := by have := h.1; omega
  have h0 : 0 < n := by
    rcases Nat.eq_zero_or_pos n with h0 | h0
    · exact absurd (List.eq_nil_of_length_eq_zero (by omega)) hn
    · exact h0
  obtain ⟨g, cap, hv, _, hlt⟩ := h.form h0
  have hA : A = some ⟨g, 0, none⟩ := by injection hv
  subst hA
  exact ⟨_, rfl, h.cells (g := g) rfl⟩
end
/-- what is owned stays owned while only what is new is written -/
theorem own_below {w w' : World} {base e size : Nat} {v : Value} {n B : Nat} {xs : List Value} (h : w.ownsRow base e size v n xs) (hb : Below B w w') (hB : w.heap.size ≤ B) : w'.ownsRow base e size v n xs := by
  obtain ⟨h1, h2⟩ := h
  refine ⟨h1, ?_⟩
  rcases h2 with h2 | ⟨g, cap, cur, hv, hg, hh, r⟩
  · exact Or.inl h2
  · have hlt : g < w.heap.size := by
      rcases Nat.lt_or_ge g w.heap.size with h3 | h3
      · exact h3
      · rw [Array.getElem?_eq_none h3] at hh; cases hh
    exact Or.inr ⟨g, cap, cur, hv, hg, by rw [hb.block g (by omega)]; exact hh, r⟩
theorem own_base {w : World} {base base' e size : Nat} {v : Value} {n : Nat} {xs : List Value} (h : w.ownsRow base e size v n xs) (hB : base' ≤ base) : w.ownsRow base' e size v n xs := by
  obtain ⟨h1, h2⟩ := h
  refine ⟨h1, ?_⟩
  rcases h2 with h2 | ⟨g, cap, cur, hv, hg, r⟩
  · exact Or.inl h2
  · exact Or.inr ⟨g, cap, cur, hv, by omega, r⟩
/-- all old cells and marks read as before -/
theorem bcell {W w1 : World} {B : Nat} (hb : Below B W w1) : (∀ b o, b < B → w1.cell? ⟨b, o, none⟩ = W.cell? ⟨b, o, none⟩) ∧ (∀ b o, b < B → w1.frozen? ⟨b, o, none⟩ = W.frozen? ⟨b, o, none⟩) :=
  ⟨fun b o h => hb.cell (p := ⟨b, o, none⟩) h, fun b o h => hb.frozen (p := ⟨b, o, none⟩) h⟩
/-- steps of Below, the base below -/
theorem bl_trans {B : Nat} {a b c : World} (h : Below B a b) (k : Below b.heap.size b c) (hB : B ≤ b.heap.size) : Below B a c := h.trans (k.mono hB)

/-- a block of three cells -/
def C3 (w : World) (b : Nat) (x y z : Value) : Prop := w.cell? ⟨b, 0, none⟩ = some x ∧ w.cell? ⟨b, 1, none⟩ = some y ∧ w.cell? ⟨b, 2, none⟩ = some z
theorem C3.lt {w : World} {b : Nat} {x y z : Value} (h : C3 w b x y z) : b < w.heap.size := by have := World.block_lt_of_cell? w _ h.1; simpa using this
theorem C3.below {w w' : World} {b B : Nat} {x y z : Value} (h : C3 w b x y z) (hb : Below B w w') (hB : b < B) : C3 w' b x y z :=
  ⟨(hb.cell (p := ⟨b, 0, none⟩) hB).trans h.1, (hb.cell (p := ⟨b, 1, none⟩) hB).trans h.2.1, (hb.cell (p := ⟨b, 2, none⟩) hB).trans h.2.2⟩
theorem C3.belo {w w' : World} {b : Nat} {x y z : Value} (h : C3 w b x y z) (hb : Below w.heap.size w w') : C3 w' b x y z := h.below hb h.lt
theorem C3.drew {w : World} {b : Nat} {x y z : Value} (h : C3 w b x y z) : C3 w.drew b x y z := h
theorem C3.alloc {w : World} {b : Nat} {x y z : Value} (h : C3 w b x y z) (o : Obj) : C3 (w.alloc o) b x y z := h.belo ((Below.refl _ _).alloc (Nat.le_refl _) o)
theorem C3.new (w : World) (x y z : Value) (t : TypeId) : C3 (w.alloc (.cells #[x, y, z] t)) w.heap.size x y z :=
  ⟨cell_of_row _ _ _ _ _ _ (heap_alloc_new w _), cell_of_row _ _ _ _ _ _ (heap_alloc_new w _), cell_of_row _ _ _ _ _ _ (heap_alloc_new w _)⟩
/-- steps of Below from the entry on -/
theorem bl_next {B : Nat} {a b c : World} (h : Below B a b) (k : Below b.heap.size b c) (hB : B ≤ b.heap.size) : Below B a c := h.trans (k.mono hB)
theorem bl_alloc {a b : World} (h : Below a.heap.size a b) (o : Obj) : Below a.heap.size a (b.alloc o) := h.alloc h.size o
theorem bl_go {a b c : World} (h : Below a.heap.size a b) (k : Below b.heap.size b c) : Below a.heap.size a c := h.trans (k.mono h.size)

/-- how many are true -/
def cnt (bs : List Bool) : Int := (bs.filter id).length
theorem cnt_le (bs : List Bool) : 0 ≤ cnt bs ∧ cnt bs ≤ bs.length := by
  unfold cnt; exact ⟨by omega, by have := List.length_filter_le id bs; omega⟩
theorem take_one_more {α : Type} (l : List α) (k : Nat) (h : k < l.length) : l.take (k + 1) = l.take k ++ [l[k]] := by
  rw [List.take_succ_eq_append_getElem h]
theorem cnt_snoc (l : List Bool) (b : Bool) : cnt (l ++ [b]) = cnt l + if b = true then 1 else 0 := by
  unfold cnt; rw [List.filter_append]; cases b <;> simp
theorem cnt_step (l : List Bool) (k : Nat) (h : k < l.length) : cnt (l.take (k + 1)) = cnt (l.take k) + if l[k] = true then 1 else 0 := by
  rw [take_one_more l k h, cnt_snoc]
theorem ret_i {a b : Int} (h : a = b) : Ending.returned (.int .i64 a) = .returned (.int .i64 b) := by rw [h]
theorem ret_b {a b : Bool} (h : a = b) : Ending.returned (.bool a) = .returned (.bool b) := by rw [h]
end Go.Proofs.YtafmpgikdhlknaaGreat

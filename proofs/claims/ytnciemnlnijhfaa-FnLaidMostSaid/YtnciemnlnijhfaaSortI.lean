/- Contracts: numbers of the call's own sorted and compacted. -/
import Derived.Test.YtnciemnlnijhfaaBesideN
import Derived.Test.YtnciemnlnijhfaaRowP
import Derived.Test.YtnciemnlnijhfaaShelfI
import Derived.Lib.RowBridge
import Derived.Test.YtnciemnlnijhfaaApp
namespace Go.Proofs.Ytnciemnlnijhfaa
open Go.RowKit Go.Sort

theorem putCells_map {α : Type} [Inhabited α] (enc : α → Value) (off : Nat) (d : Array α) (c : Array Value) : putCells enc off d c = putCells id off (d.map enc) c := by
  unfold putCells
  congr 1
  funext k x
  rw [Array.size_map]
  by_cases h : off ≤ k ∧ k < off + d.size
  · rw [if_pos h, if_pos h]
    have hk : k - off < d.size := by omega
    simp [hk]
  · rw [if_neg h, if_neg h]
theorem putRow_map {α : Type} [Inhabited α] (enc : α → Value) (w : World) (blk off : Nat) (d : Array α) : putRow enc w blk off d = putRow id w blk off (d.map enc) := by
  unfold putRow
  congr 1
  funext c
  exact putCells_map enc off d c
theorem holds_map {α : Type} [Inhabited α] {enc : α → Value} {w : World} {blk off : Nat} {d : Array α} (h : Holds id w blk off (d.map enc)) : Holds enc w blk off d := by
  intro j hj
  have := h j (by simpa using hj)
  simpa [hj] using this
theorem own_takeW {w : World} {lo : Nat} {e : TypeId} {g n c : Nat} {xs ys : List Value} (h : w.ownsRow lo e 1 (.slice (some ⟨g, 0, none⟩) n c) n (xs ++ ys)) : Wr w lo e (some ⟨g, 0, none⟩) xs := by
  obtain ⟨h1, h2⟩ := h
  rcases h2 with ⟨e1, _⟩ | ⟨g', cap, cur, hv, hg, hh, h3, h4, h5, h6⟩
  · cases e1
  · injection hv with hA hn hc
    injection hA with hA
    injection hA with hg2
    subst hg2
    refine ⟨fun ad ha => by injection ha with ha; subst ha; exact hg, fun _ => ⟨g, cur, rfl, hh, ?_⟩⟩
    rw [Nat.mul_one] at h6
    have hl : xs.length ≤ n := by rw [List.length_append] at h1; omega
    have := congrArg (List.take xs.length) h6
    rw [List.take_take, Nat.min_eq_left hl, List.take_left] at this
    exact this
set_option maxHeartbeats 1000000 in
theorem sortI_any (A : Option Addr) (c base : Nat) (zs : List Int) (w : World) (h : OwnI w base (.slice A zs.length c) zs) (hn : zs.length ≤ 10000000000) (hb : base ≤ w.heap.size) :
    Calls Try.prog 108 #[.slice A zs.length c] w fun e w' => e = .returned (.tuple #[]) ∧ OwnI w' base (.slice A zs.length c) (zs.mergeSort fun x y => decide (x ≤ y)) ∧ ∀ B w0, B ≤ base → Below B w0 w → Below B w0 w' := by
  by_cases h0 : zs = []
  · subst h0
    refine (AnyG.slices_Sort_int_none Try.sortI A c w).mono ?_
    rintro e w' ⟨rfl, rfl⟩
    exact ⟨rfl, by simpa using h, fun _ _ _ hb => hb⟩
  · obtain ⟨A', c', e, o⟩ := id h
    injection e with e1 e2 e3
    subst e1; subst e3
    rcases o.2 with ⟨e1, e2⟩ | ⟨g, cap, cur, hv, hg, _⟩
    · exact absurd (List.eq_nil_of_length_eq_zero e2) h0
    · have hA : A = some ⟨g, 0, none⟩ := by injection hv
      subst hA
      have hH : Holds (Value.int .i64) w g 0 zs.toArray := holds_map (by
        have := own_holds o
        simpa using this)
      have hlt : g < w.heap.size := (o.lt g rfl).2
      refine (AnyG.slices_Sort_int Try.sortI g 0 c zs w hH hlt (by omega)).mono ?_
      rintro e w' ⟨rfl, m, os, rfl⟩
      have hp := List.mergeSort_perm zs (fun x y => decide (x ≤ y))
      have hpl := hp.length_eq
      have hs : (grow (putRow (Value.int .i64) (Sort.ahead w m) g 0 (zs.mergeSort fun x y => decide (x ≤ y)).toArray) os).ownsRow base 3 1 (.slice (some ⟨g, 0, none⟩) zs.length c) zs.length ((zs.mergeSort fun x y => decide (x ≤ y)).map (.int .i64)) := by
        rw [putRow_map]
        have := own_putRow o (((zs.mergeSort fun x y => decide (x ≤ y)).toArray).map (Value.int .i64)) (by simp [hpl]) m os
        simpa using this
      refine ⟨rfl, ⟨_, c, by rw [hpl], by rw [hpl]; exact hs⟩, fun B w0 hB hb2 => below_putRow _ hb2 (by omega) (by omega) 0 m _ os⟩
set_option maxHeartbeats 1000000 in
theorem compI_any (A : Option Addr) (c base : Nat) (zs : List Int) (w : World) (h : OwnI w base (.slice A zs.length c) zs) (hn : zs.length ≤ 10000000000) (hb : base ≤ w.heap.size) :
    Calls Try.prog 110 #[.slice A zs.length c] w fun e w' => e = .returned (.slice A (Lib.compact zs).length c) ∧ (Lib.compact zs).length ≤ c ∧ Wr w' base 3 A ((Lib.compact zs).map (.int .i64)) ∧ ∀ B w0, B ≤ base → Below B w0 w → Below B w0 w' := by
  by_cases h0 : zs = []
  · subst h0
    have hlt := h.lt
    refine (AnyG.slices_Compact_int_empty Try.compI A c w).mono ?_
    rintro e w' ⟨rfl, rfl⟩
    exact ⟨rfl, Nat.zero_le _, ⟨fun ad ha => (hlt ad ha).1, fun hne => absurd rfl hne⟩, fun _ _ _ hb => hb⟩
  · obtain ⟨A', c', e, o⟩ := id h
    injection e with e1 e2 e3
    subst e1; subst e3
    rcases o.2 with ⟨e1, e2⟩ | ⟨g, cap, cur, hv, hg, hh, hcap, _⟩
    · exact absurd (List.eq_nil_of_length_eq_zero e2) h0
    · have hA : A = some ⟨g, 0, none⟩ := by injection hv
      have hc : c = cap := by injection hv
      subst hA; subst hc
      have hH : Holds (Value.int .i64) w g 0 zs.toArray := holds_map (by
        have := own_holds o
        simpa using this)
      have hle := Lib.compact_length_le zs
      refine (AnyG.slices_Compact_int Try.compI g 0 c zs w hH (by omega) hcap).mono ?_
      rintro e w' ⟨rfl, m, rfl⟩
      have hs : (putRow (Value.int .i64) (Sort.ahead w m) g 0 (Lib.compact zs ++ List.replicate (zs.length - (Lib.compact zs).length) 0).toArray).ownsRow base 3 1 (.slice (some ⟨g, 0, none⟩) zs.length c) zs.length ((Lib.compact zs).map (.int .i64) ++ (List.replicate (zs.length - (Lib.compact zs).length) (0 : Int)).map (.int .i64)) := by
        rw [putRow_map]
        have := own_putRow o (((Lib.compact zs ++ List.replicate (zs.length - (Lib.compact zs).length) 0).toArray).map (Value.int .i64)) (by simp; omega) m #[]
        rw [grow_empty] at this
        simpa using this
      refine ⟨rfl, by omega, own_takeW hs, fun B w0 hB hb2 => ?_⟩
      have := below_putRow (Value.int .i64) hb2 (g := g) (by omega) (by omega) 0 m (Lib.compact zs ++ List.replicate (zs.length - (Lib.compact zs).length) 0).toArray #[]
      rw [grow_empty] at this
      exact this
set_option maxHeartbeats 400000 in
theorem clip_raw (A : Option Addr) (n c : Nat) (w : World) (h : n ≤ c) :
    Calls Try.prog 109 #[.slice A n c] w fun e w' => e = .returned (.slice A n n) ∧ w = w' := by
  go_enter Try.func109, Try.ntmps109
  go_wp2
  go_ret
  exact ⟨rfl, rfl⟩
end Go.Proofs.Ytnciemnlnijhfaa

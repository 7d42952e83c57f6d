
/- Contracts: copies of arguments, and comparisons: toBoolS, toRegion, eqBoolS, eqRegion, szRegion and the like. -/
import Derived.Test.YtkdgejmjecldeaaGreatReg
import Derived.Deep.RegionHeld3
namespace Go.Proofs.YtkdgejmjecldeaaGreat
open Go.RowKit

theorem Tryz.infoB : (Tryz.prog.info? 4).map (fun i => (i.zero, i.size, i.bytes)) = some (some (.bool false), 1, 1) := by kernel_rfl
theorem Tryz.infoI : (Tryz.prog.info? 3).map (fun i => (i.zero, i.size, i.bytes)) = some (some (.int .i64 0), 1, 8) := by kernel_rfl

/-- a new slice that holds bs -/
def NewS (P : List Value) (n : Nat) (w : World) (et : TypeId) (e : Ending) (w' : World) : Prop :=
  ∃ (A : Option Addr) (c : Nat), e = .returned (.slice A n c) ∧ w'.ownsRow w.heap.size et 1 (.slice A n c) n P ∧ Below w.heap.size w w'

theorem set_take_rep {α : Type} (f : α → Value) (z : Value) (l : List α) (k : Nat) (h : k < l.length) :
    ((l.take k).map f ++ List.replicate (l.length - k) z).set k (f l[k]) = (l.take (k + 1)).map f ++ List.replicate (l.length - (k + 1)) z := by
  rw [take_one_more l k h, List.map_append, List.set_append_right _ _ (by rw [List.length_map, List.length_take]; omega)]
  have h1 : ((l.take k).map f).length = k := by rw [List.length_map, List.length_take]; omega
  rw [h1, Nat.sub_self]
  obtain ⟨m, hm⟩ : ∃ m, l.length - k = m + 1 := ⟨l.length - k - 1, by omega⟩
  rw [hm, List.replicate_succ, List.set_cons_zero]
  have : l.length - (k + 1) = m := by omega
  rw [this]; simp

set_option maxHeartbeats 800000 in
theorem toBoolS_any (A : Option Addr) (c : Nat) (bs : List Bool) (w : World) (hr : Rd w A (bs.map .bool)) (hn : bs.length ≤ 281474976710656) :
    Calls Tryz.prog 63 #[.slice A bs.length c] w (NewS (bs.map .bool) bs.length w 4) := by
  obtain ⟨i0, hi, hz0, hz1, hz2⟩ := info_parts Tryz.infoB
  have hb1 : i0.bytes * bs.length ≤ 281474976710656 := by rw [hz2]; omega
  have HZ := Lib.hid (And.intro hz0 (And.intro hz1 hz2))
  go_enter Tryz.func63, Tryz.ntmps63
  go_wp2_with (at_make; refine wpList_make_full _ rfl _ _ 23 rfl w.heap.size 4 i0 (.bool false) 1 Tryz.underlying23 hi HZ.out.1 HZ.out.2.1 .i64 .i64 _ _ bs.length rfl rfl rfl rfl hb1 (by unfold maxLen; omega) (Nat.le_refl _) ?_; intro w1 hown1 hgrow1)
  go_loopw [4] (fun i wr => ∃ k : Nat, k ≤ bs.length ∧ i = .int .i64 k ∧ wr.ownsRow w.heap.size 4 1 (.slice (some ⟨w.heap.size, 0, none⟩) bs.length bs.length) bs.length ((bs.take k).map .bool ++ List.replicate (bs.length - k) (.bool false)) ∧ Below w.heap.size w wr) (fun i _ => bs.length - (intOf i).toNat)
  case atStart =>
    refine ⟨0, Nat.zero_le _, rfl, ?_, (Below.refl _ _).grown hgrow1 (Nat.le_refl _) (fun k hk => by cases hk)⟩
    rw [show (Value.bool false).cells = #[.bool false] from rfl, toList_madeCells_one] at hown1
    simpa using hown1
  case round =>
    obtain ⟨k, hk, rfl, hown, hbel⟩ := hrel
    by_cases hlt : k < bs.length
    · obtain ⟨ad, rfl, hc⟩ := (hr.belo hbel).atM hlt
      have hc1 := hown.cellAt k (by omega)
      have hf1 := hown.frozenAt k
      clear hgrow1 hown1
      go_wp2
      refine ⟨⟨k + 1, by omega, by go_num, ?_, hbel.setCell (Nat.le_refl _) _⟩, by simp [intOf]; omega⟩
      rw [← set_take_rep Value.bool (.bool false) bs k hlt]
      exact (hown.stored k _).1
    · clear hgrow1 hown1
      go_wp2
      go_ret
      have hk2 : k = bs.length := by omega
      subst hk2
      exact ⟨_, _, rfl, by simpa using hown, hbel⟩

end Go.Proofs.YtkdgejmjecldeaaGreat

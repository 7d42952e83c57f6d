
/- Contracts: sizes and comparisons of the laws' own: szBoolS, szRegion, eqBoolS, eqIntS, toRegion, eqRegion. -/
import Derived.Test.YtkdgejmjecldeaaGreatTo
namespace Go.Proofs.YtkdgejmjecldeaaGreat
open Go.RowKit

theorem below_drewN' {B : Nat} {a w : World} (h : Below B a w) (n : Nat) : Below B a (w.drewN n) := ⟨h.os, h.tape, h.output, h.size, h.block⟩

set_option maxHeartbeats 400000 in
theorem szBoolS_t (A : Option Addr) (n c : Nat) (left : Int) (w : World) (h0 : left ≤ 1048576) (h : (n : Int) ≤ left) :
    Calls Tryz.prog 62 #[.slice A n c, .int .i64 left] w fun e w' => e = .returned (.int .i64 (left - n)) ∧ w = w' := by
  go_enter Tryz.func62, Tryz.ntmps62
  go_wp2
  go_ret
  exact ⟨rfl, rfl⟩
set_option maxHeartbeats 400000 in
theorem szBoolS_f (A : Option Addr) (n c : Nat) (left : Int) (w : World) (h0 : 0 ≤ left) (hn : n ≤ maxLen) (h : left < n) :
    Calls Tryz.prog 62 #[.slice A n c, .int .i64 left] w fun e w' => e = .returned (.int .i64 (-1)) ∧ w = w' := by
  unfold maxLen at hn
  go_enter Tryz.func62, Tryz.ntmps62
  go_wp2
  go_ret
  exact ⟨rfl, rfl⟩
set_option maxHeartbeats 400000 in
theorem szRegion_t (W T : Int) (A : Option Addr) (n c : Nat) (left : Int) (w : World) (h0 : left ≤ 1048576) (h : (n : Int) ≤ left) :
    Calls Tryz.prog 16 #[.agg #[.int .i64 W, .int .i64 T, .slice A n c], .int .i64 left] w fun e w' => e = .returned (.int .i64 (left - n)) ∧ Below w.heap.size w w' := by
  go_enter Tryz.func16, Tryz.ntmps16
  go_wp2_with (go_at_call 62; refine (szBoolS_t _ _ _ _ _ h0 h).mono ?_; rintro e w' ⟨rfl, rfl⟩)
  go_ret
  exact ⟨rfl, (Below.refl _ _).alloc (Nat.le_refl _) _⟩
set_option maxHeartbeats 400000 in
theorem szRegion_f (W T : Int) (A : Option Addr) (n c : Nat) (left : Int) (w : World) (h0 : 0 ≤ left) (hn : n ≤ maxLen) (h : left < n) :
    Calls Tryz.prog 16 #[.agg #[.int .i64 W, .int .i64 T, .slice A n c], .int .i64 left] w fun e w' => e = .returned (.int .i64 (-1)) ∧ Below w.heap.size w w' := by
  go_enter Tryz.func16, Tryz.ntmps16
  go_wp2_with (go_at_call 62; refine (szBoolS_f _ _ _ _ _ h0 hn h).mono ?_; rintro e w' ⟨rfl, rfl⟩)
  go_ret
  exact ⟨rfl, (Below.refl _ _).alloc (Nat.le_refl _) _⟩

set_option maxHeartbeats 400000 in
theorem eqBoolS_t (A A' : Option Addr) (c c' : Nat) (bs : List Bool) (w : World) (hr : Rd w A (bs.map .bool)) (hr' : Rd w A' (bs.map .bool)) (hn : bs.length ≤ maxLen) :
    Calls Tryz.prog 65 #[.slice A bs.length c, .slice A' bs.length c'] w fun e w' => e = .returned (.bool true) ∧ Below w.heap.size w w' := by
  unfold maxLen at hn
  go_enter Tryz.func65, Tryz.ntmps65
  go_wp2
  go_loopw [5] (fun i wr => ∃ k : Nat, k ≤ bs.length ∧ i = .int .i64 k ∧ Below w.heap.size w wr) (fun i _ => bs.length - (intOf i).toNat)
  case atStart => exact ⟨0, Nat.zero_le _, rfl, Below.refl _ _⟩
  case round =>
    obtain ⟨k, hk, rfl, hbel⟩ := hrel
    by_cases hlt : k < bs.length
    · obtain ⟨ad, rfl, hc⟩ := (hr.belo hbel).atM hlt
      obtain ⟨ad', rfl, hc'⟩ := (hr'.belo hbel).atM hlt
      have hne : (bs[k] != bs[k]) = false := by simp
      go_wp2
      go_quiet (fail)
      go_wp2
      go_roundw
      case rel => exact ⟨k + 1, by omega, by go_num, below_drewN' hbel _⟩
      case measure => simp [intOf]; omega
    · go_wp2
      go_ret
      exact ⟨rfl, hbel⟩
set_option maxHeartbeats 400000 in
theorem eqIntS_t (A A' : Option Addr) (c c' : Nat) (bs : List Int) (w : World) (hr : Rd w A (bs.map (.int .i64))) (hr' : Rd w A' (bs.map (.int .i64))) (hn : bs.length ≤ maxLen) :
    Calls Tryz.prog 22 #[.slice A bs.length c, .slice A' bs.length c'] w fun e w' => e = .returned (.bool true) ∧ Below w.heap.size w w' := by
  unfold maxLen at hn
  go_enter Tryz.func22, Tryz.ntmps22
  go_wp2
  go_loopw [5] (fun i wr => ∃ k : Nat, k ≤ bs.length ∧ i = .int .i64 k ∧ Below w.heap.size w wr) (fun i _ => bs.length - (intOf i).toNat)
  case atStart => exact ⟨0, Nat.zero_le _, rfl, Below.refl _ _⟩
  case round =>
    obtain ⟨k, hk, rfl, hbel⟩ := hrel
    by_cases hlt : k < bs.length
    · obtain ⟨ad, rfl, hc⟩ := (hr.belo hbel).atM hlt
      obtain ⟨ad', rfl, hc'⟩ := (hr'.belo hbel).atM hlt
      have hne : (bs[k] != bs[k]) = false := by simp
      go_wp2
      go_quiet (fail)
      go_wp2
      go_roundw
      case rel => exact ⟨k + 1, by omega, by go_num, below_drewN' hbel _⟩
      case measure => simp [intOf]; omega
    · go_wp2
      go_ret
      exact ⟨rfl, hbel⟩
/-- a new region that holds bs -/
def NewR (W T : Int) (bs : List Bool) (w : World) (e : Ending) (w' : World) : Prop :=
  ∃ (A : Option Addr) (c : Nat), e = .returned (.agg #[.int .i64 W, .int .i64 T, .slice A bs.length c]) ∧ w'.ownsRow w.heap.size 4 1 (.slice A bs.length c) bs.length (bs.map .bool) ∧ Below w.heap.size w w'

set_option maxHeartbeats 800000 in
theorem toRegion_any (W T : Int) (A : Option Addr) (c : Nat) (bs : List Bool) (w : World) (hr : Rd w A (bs.map .bool)) (hn : bs.length ≤ 281474976710656) :
    Calls Tryz.prog 19 #[.agg #[.int .i64 W, .int .i64 T, .slice A bs.length c]] w (NewR W T bs w) := by
  go_enter Tryz.func19, Tryz.ntmps19
  go_wp2_with (go_at_call 63; refine (toBoolS_any A c bs _ (by repeat (first | exact hr | apply Rd.alloc)) hn).mono ?_; rintro e w1 ⟨A', c', rfl, hown, hbel⟩; obtain ⟨hc1, hf1⟩ := bcell hbel)
  refine bodyPost_ret (v := .agg #[.int .i64 W, .int .i64 T, .slice A' bs.length c']) (by simp [results, Tryz.results19, go_sem, hc1]) rfl ⟨A', c', rfl, ?_, ?_⟩
  · exact own_base (ownsRow_setCell_below (ownsRow_setCell_below (ownsRow_setCell_below (ownsRow_setCell_below hown (by simp) _) (by simp) _) (by simp) _) (by simp) _) (by simp; omega)
  · refine ((((Below.trans ?_ (hbel.mono (B' := w.heap.size) (by simp; omega))).setCell (by simp; omega) _).setCell (by simp) _).setCell (by simp) _).setCell (by simp) _
    exact (((Below.refl _ _).alloc (Nat.le_refl _) _).alloc (by simp) _).alloc (by simp; omega) _
set_option maxHeartbeats 800000 in
theorem eqRegion_t (W T : Int) (A A' : Option Addr) (c c' : Nat) (bs : List Bool) (w : World) (hr : Rd w A (bs.map .bool)) (hr' : Rd w A' (bs.map .bool)) (hn : bs.length ≤ maxLen) :
    Calls Tryz.prog 23 #[.agg #[.int .i64 W, .int .i64 T, .slice A bs.length c], .agg #[.int .i64 W, .int .i64 T, .slice A' bs.length c']] w fun e w' => e = .returned (.bool true) ∧ Below w.heap.size w w' := by
  have h1 : (W != W) = false := by simp
  have h2 : (T != T) = false := by simp
  go_enter Tryz.func23, Tryz.ntmps23
  go_wp2_with (go_at_call 65; refine (eqBoolS_t _ _ _ _ bs _ (by repeat (first | exact hr | apply Rd.alloc)) (by repeat (first | exact hr' | apply Rd.alloc)) hn).mono ?_; rintro e w1 ⟨rfl, hbel⟩)
  go_ret
  exact ⟨rfl, (((Below.refl _ _).alloc (Nat.le_refl _) _).alloc (by simp) _).trans (hbel.mono (by simp; omega))⟩
end Go.Proofs.YtkdgejmjecldeaaGreat

/- Contract: the program's CellsBeside. -/
import Derived.Test.YtbplnjigoghboaaBesideI
import Derived.Test.YtbplnjigoghboaaBesideS
namespace Go.Proofs.Ytbplnjigoghboaa
open Go.RowKit

theorem besV_len (W T : Int) (bs : List Bool) (cells : List Int) {n : Nat} (h : bs.length ≤ n) : (besV W T bs cells).length ≤ n := by
  unfold besV
  split
  · exact Nat.le_trans (besL_len _ _ _ _) h
  · simp
set_option maxHeartbeats 1000000 in
theorem iCellsBeside_any (W T : Int) (A A2 : Option Addr) (c c2 : Nat) (bs : List Bool) (cells : List Int) (w : World) (hr : Rd w A (bs.map .bool)) (hc : Rd w A2 (cells.map (.int .i64))) (hn : bs.length ≤ maxLen) (hm : cells.length ≤ 2000000) :
    Calls Try.prog 34 #[.agg #[.int .i64 W, .int .i64 T, .slice A bs.length c], .slice A2 cells.length c2] w (NewW (besV W T bs cells) w) := by
  have X0 := C3.new w (.int .i64 W) (.int .i64 T) (.slice A bs.length c) 40
  cases hv : validB W T bs with
  | true =>
    obtain ⟨h1, h2, h3, h4, h5, h6⟩ := valid_len hv
    rw [show besV W T bs cells = besL W T bs cells by unfold besV; rw [if_pos hv]]
    have HV := Lib.hid hv
    have HL := Lib.hid h6
    clear hv h6
    go_enter Try.func34, Try.ntmps34
    go_wp2_with fail
    refine (iRegionValid_any _ _ _ _ _ _ (hr.alloc _) hn).mono ?_
    rintro e w1 ⟨rfl, b1⟩
    rw [HV.out]
    have B1 := bl_go (bl_alloc (Below.refl w.heap.size w) _) b1
    obtain ⟨x0, x1, x2⟩ := X0.belo b1
    go_wp2_with fail
    refine (beside_any _ _ _ _ _ _ _ _ _ (hr.belo B1) (hc.belo B1) h1 h2 h3 h4 HL.out h5 hm).mono ?_
    rintro e w2 ⟨A3, rfl, hw, b2⟩
    go_wp2
    go_ret
    exact ⟨_, rfl, hw.lower B1.size, bl_go B1 b2⟩
  | false =>
    rw [show besV W T bs cells = [] by unfold besV; rw [hv]; rfl]
    have HV := Lib.hid hv
    clear hv
    go_enter Try.func34, Try.ntmps34
    go_wp2_with fail
    refine (iRegionValid_any _ _ _ _ _ _ (hr.alloc _) hn).mono ?_
    rintro e w1 ⟨rfl, b1⟩
    rw [HV.out]
    have B1 := bl_go (bl_alloc (Below.refl w.heap.size w) _) b1
    go_wp2
    go_ret
    exact ⟨none, rfl, Wr.none_ _ _ _, B1⟩
end Go.Proofs.Ytbplnjigoghboaa

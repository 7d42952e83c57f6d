/- The walk of the law FnExactPiecesAll. -/
import Derived.Test.YtbplnjigoghboaaPiecesI
import Derived.Test.YtbplnjigoghboaaPiecesT
import Derived.Test.YtbplnjigoghboaaMarkSS
namespace Go.Proofs.Ytbplnjigoghboaa
open Go.RowKit

set_option maxHeartbeats 4000000 in
theorem fnExactPiecesAll_walk (m : Int) (_wm : (Lit.int .i64 m).wf = true) (w0 : World) :
    Calls Try.prog 3 #[.int .i64 m] w0 fun e w' => e = .returned (.bool true) ∧ Below w0.heap.size w0 w' := by
  have hXl : (allV m).length ≤ 1000 := by have := allV_len m; omega
  have hXt : totR ((allV m).map cellsV) ≤ 1000000 := by
    have h1 := tot_le 5 (allV m) (allV_each m)
    have h2 := allV_len m
    omega
  have CS := Lib.hid (fun (w : World) => sPiecesAll_any m w)
  have CI := Lib.hid (fun (w : World) => iPiecesAll_any m w)
  generalize allV m = V at *
  have hXm : V.length ≤ maxLen := by unfold maxLen; omega
  obtain ⟨T, hT⟩ : ∃ T, totR (V.map cellsV) = T := ⟨_, rfl⟩
  have HT := Lib.hid hT
  rw [hT] at hXt
  clear hT
  have HVL := Lib.hid (show (V.map cellsV).length = V.length from List.length_map _)
  have hne : ((1 : Int) + (T : Int) != 1 + (T : Int)) = false := by simp
  have hng : ¬ ((1 : Int) + (T : Int) < 0) := by omega
  go_enter Try.func3, Try.ntmps3
  go_wp2_with fail
  refine (CS.out _).mono ?_
  rintro e w3 ⟨b3a, c3, xs3, rfl, -, rd3, hd3, Z3⟩
  have P3 := RdSN.ofN rd3 hd3
  have s3 := Z3.size
  clear rd3 hd3
  go_wp2_with fail
  refine (CI.out _).mono ?_
  rintro e w5 ⟨A5, xs5, rfl, rd5, at5, hd5, fr5, b5⟩
  have Z5 := bl_go Z3 b5
  have P5 := P3.belo b5
  have G5 := RowsW.of hd5.1 fr5
  have D5 := b5
  clear b5 fr5 at5
  go_wp2_with fail
  refine (eqCellSN_t _ _ _ _ V _ (RdSN.ofR rd5 hd5) P5 hXm).mono ?_
  rintro e w10 ⟨rfl, b10⟩
  have Z10 := bl_go Z5 b10
  have D10 := bl_go D5 b10
  have G10 := G5.belo b10
  have rd10 := rd5.belo b10
  clear b10 P5 G5 Z5 D5 rd5 hd5
  go_wp2_with fail
  refine (markCellSS_any _ V.length _ _ _ 1 _ _ G10 rd10 HVL.out (by rw [HT.out]; omega) (by omega) (by omega) (by omega)).mono ?_
  rintro e w11 ⟨rfl, G11, rd11, ab11, sz11⟩
  rw [HT.out]
  have Z11 := ab11 _ _ s3 Z10.size Z10
  have D11 := ab11 _ _ (Nat.le_refl _) D10.size D10
  have P11 := P3.belo D11
  clear Z10 D10 G10 rd10 ab11 sz11
  go_wp2_with fail
  refine (heldCellSS_any _ V.length _ _ _ 1 _ _ G11 rd11 HVL.out (by rw [HT.out]; omega) (by omega) (by omega) (by omega)).mono ?_
  rintro e w' ⟨rfl, rfl⟩
  rw [HT.out]
  go_wp2_with fail
  refine (CI.out _).mono ?_
  rintro e w13 ⟨A13, xs13, rfl, rd13, -, hd13, -, b13⟩
  have B13 := bl_go Z11 b13
  go_wp2_with fail
  refine (eqCellSN_t _ _ _ _ V _ (RdSN.ofR rd13 hd13) (P11.belo b13) hXm).mono ?_
  rintro e w14 ⟨rfl, b14⟩
  have B14 := bl_go B13 b14
  have G14 := (G11.belo b13).belo b14
  have rd14 := (rd11.belo b13).belo b14
  go_wp2_with fail
  refine (heldCellSS_any _ V.length _ _ _ 1 _ _ G14 rd14 HVL.out (by rw [HT.out]; omega) (by omega) (by omega) (by omega)).mono ?_
  rintro e w' ⟨rfl, rfl⟩
  rw [HT.out]
  go_wp2
  go_ret
  exact ⟨rfl, B14⟩
end Go.Proofs.Ytbplnjigoghboaa


/- FnCornerFill: joined from CornC, CornD, CornJ. -/
import Derived.Test.YtnignglhefcecaaMCrn1
import Derived.Deep.RegionHeld3
import Derived.Laws.EntriesVeiled
import Derived.StillTailTactics
/- The closure of the program's CornerFill at the squares side 4, level 1 at 2, 2. -/
namespace Go.Proofs.Ytnignglhefcecaa
open Go.RowKit
set_option maxRecDepth 100000 in
set_option maxHeartbeats 4000000 in
theorem crn_4_1_2_2 (c g bn bf bs bk lo : Nat) : CrnOk 4 c g bn bf bs bk lo 1 2 2 := by
  intro w F n gx gy S h3 h4 h5
  have h6 : n + 1 + 4 * 5 ^ 0 ≤ 1000 := by
    have : (5 : Nat) ^ 1 = 5 * 5 ^ 0 := by decide
    have : 1 ≤ 5 ^ 0 := by decide
    omega
  rw [crnI_eq]
  have S1 := S.two (bl_alloc (Below.refl w.heap.size w) (.cells #[.int .i64 gx, .int .i64 gy] 44))
  have c0 := cell_of_row _ _ 0 _ _ _ S1.nx
  have f0 := frozen_of_row _ _ 0 _ _ S1.nx
  have hbn : bn < w.heap.size := heap_ltC S.nx
  have HGW : Hid (g < w.heap.size ∧ bn < w.heap.size ∧ bs < w.heap.size ∧ bf < w.heap.size ∧ bk < w.heap.size) := by
    obtain ⟨⟨ov, k1⟩, -⟩ := cells_of S.row S.len.out (j := 0) (by decide)
    exact ⟨by have := World.block_lt_of_cell? w _ k1; simpa using this, hbn, S.lt.1, S.lt.2.1, S.lt.2.2.2⟩
  have S2 := (S1.inc (n + 1)).two (bl_alloc (Below.refl _ _) (.cells #[.int .i64 0, .int .i64 0, .int .i64 0, .int .i64 0, .int .i64 0, .int .i64 0, .int .i64 0, .int .i64 0] 65))
  have B2 : Two g bn w (((w.alloc (.cells #[.int .i64 gx, .int .i64 gy] 44)).setCell ⟨bn, 0, none⟩ (.int .i64 ((n + 1 : Nat) : Int))).alloc (.cells #[.int .i64 0, .int .i64 0, .int .i64 0, .int .i64 0, .int .i64 0, .int .i64 0, .int .i64 0, .int .i64 0] 65)) :=
    (((Two.refl g bn w).alloc _).setB 0 _).alloc _
  have P2 : (((w.alloc (.cells #[.int .i64 gx, .int .i64 gy] 44)).setCell ⟨bn, 0, none⟩ (.int .i64 ((n + 1 : Nat) : Int))).alloc (.cells #[.int .i64 0, .int .i64 0, .int .i64 0, .int .i64 0, .int .i64 0, .int .i64 0, .int .i64 0, .int .i64 0] 65)).heap[w.heap.size]? = some (.cells #[.int .i64 gx, .int .i64 gy] 44 (0, 0)) := by
    rw [(bl_alloc (Below.refl _ _) _).block w.heap.size (by simp), Below.heap_setCell _ _ _ _ (by simp; omega)]
    exact heap_alloc_new w _
  have Q2 : (((w.alloc (.cells #[.int .i64 gx, .int .i64 gy] 44)).setCell ⟨bn, 0, none⟩ (.int .i64 ((n + 1 : Nat) : Int))).alloc (.cells #[.int .i64 0, .int .i64 0, .int .i64 0, .int .i64 0, .int .i64 0, .int .i64 0, .int .i64 0, .int .i64 0] 65)).heap[w.heap.size + 1]? = some (.cells (gapA (crnX 2 2 1 gx gy) 0) 65 (0, 0)) := by
    have := heap_alloc_new ((w.alloc (.cells #[.int .i64 gx, .int .i64 gy] 44)).setCell ⟨bn, 0, none⟩ (.int .i64 ((n + 1 : Nat) : Int))) (.cells #[.int .i64 0, .int .i64 0, .int .i64 0, .int .i64 0, .int .i64 0, .int .i64 0, .int .i64 0, .int .i64 0] 65)
    have e : ((w.alloc (.cells #[.int .i64 gx, .int .i64 gy] 44)).setCell ⟨bn, 0, none⟩ (.int .i64 ((n + 1 : Nat) : Int))).heap.size = w.heap.size + 1 := by simp
    rw [e] at this
    exact this
  clear hbn
  have ecast : ((n + 1 : Nat) : Int) = (n : Int) + 1 := by simp
  rw [ecast] at B2 P2 Q2
  have S3 : CrnSt 4 c g bn bf bs bk lo F (n + 1) (((w.alloc (.cells #[.int .i64 gx, .int .i64 gy] 44)).setCell ⟨bn, 0, none⟩ (.int .i64 ((n : Int) + 1))).alloc (.cells #[.int .i64 0, .int .i64 0, .int .i64 0, .int .i64 0, .int .i64 0, .int .i64 0, .int .i64 0, .int .i64 0] 65)) := S2
  clear S S1 S2 ecast
  show Calls Try.prog 47 #[.int .i64 2, .int .i64 2, .int .i64 2, .agg #[.int .i64 gx, .int .i64 gy], .pointer (some ⟨bn, 0, none⟩), .pointer (some ⟨bf, 0, none⟩), .pointer (some ⟨bs, 0, none⟩), .pointer (some ⟨bk, 0, none⟩)] w _
  go_enter Try.func47, Try.ntmps47
  go_wp2
  generalize ((w.alloc (.cells #[.int .i64 gx, .int .i64 gy] 44)).setCell ⟨bn, 0, none⟩ (.int .i64 ((n : Int) + 1))).alloc (.cells #[.int .i64 0, .int .i64 0, .int .i64 0, .int .i64 0, .int .i64 0, .int .i64 0, .int .i64 0, .int .i64 0] 65) = w2 at *
  go_loopw [28] (fun i wr => ∃ q : Nat, q ≤ 4 ∧ i = .int .i64 q ∧ Lp1 4 2 2 1 c g bn bf bs bk lo gx gy n F w q wr) (fun i _ => 4 - (intOf i).toNat)
  case atStart => exact ⟨0, by omega, rfl, S3, P2, Q2, B2, HGW.out⟩
  case round =>
    clear S3 P2 Q2 B2
    obtain ⟨q, hq, rfl, H⟩ := hrel
    rcases (show q = 0 ∨ q = 1 ∨ q = 2 ∨ q = 3 ∨ q = 4 from by omega) with rfl | rfl | rfl | rfl | rfl
    · obtain ⟨⟨ov, k1⟩, k2⟩ := cells_of H.st.row H.st.len.out (j := 10) (by decide)
      have k3 := H.st.fl
      have k4 := H.st.sd
      have k5 := cell_of_row _ _ 0 _ _ _ H.box
      have k6 := cell_of_row _ _ 1 _ _ _ H.box
      have k7 := frozen_of_row _ _ 0 _ _ H.gaps
      have k8 := frozen_of_row _ _ 1 _ _ H.gaps
      obtain ⟨v9, k9⟩ : ∃ v, wr.cell? ⟨w.heap.size + 1, 0, none⟩ = some v := ⟨_, cell_of_row _ _ 0 _ _ _ H.gaps⟩
      obtain ⟨v10, k10⟩ : ∃ v, wr.cell? ⟨w.heap.size + 1, 1, none⟩ = some v := ⟨_, cell_of_row _ _ 1 _ _ _ H.gaps⟩
      have g2 := heap_ltC H.gaps
      have g3 := heap_ltC H.box
      have g4 : g < wr.heap.size := by have := H.lt; omega
      obtain ⟨g5, g6, g7, g8⟩ := H.st.lt
      have g9 : ¬ g = w.heap.size + 1 := by have := H.lt.1; omega
      have g10 : ¬ g = w.heap.size := by have := H.lt.1; omega
      have g11 : ¬ w.heap.size + 1 = g := by have := H.lt.1; omega
      obtain ⟨tx, hx⟩ : ∃ b, decide ((3 : Int) ≤ (gx : Int)) = b := ⟨_, rfl⟩
      obtain ⟨ty, hy⟩ : ∃ b, decide ((3 : Int) ≤ (gy : Int)) = b := ⟨_, rfl⟩
      cases tx <;> cases ty
      all_goals
        go_wp2
        first
          | exact ⟨⟨1, by omega, rfl, H.put (by omega) (by simp at hx hy; unfold crnIn; simp; omega) _⟩, by simp [intOf]⟩
          | exact ⟨⟨1, by omega, rfl, H.keep (by omega) (by simp at hx hy; unfold crnIn; simp; omega) _⟩, by simp [intOf]⟩
    · obtain ⟨⟨ov, k1⟩, k2⟩ := cells_of H.st.row H.st.len.out (j := 11) (by decide)
      have k3 := H.st.fl
      have k4 := H.st.sd
      have k5 := cell_of_row _ _ 0 _ _ _ H.box
      have k6 := cell_of_row _ _ 1 _ _ _ H.box
      have k7 := frozen_of_row _ _ 2 _ _ H.gaps
      have k8 := frozen_of_row _ _ 3 _ _ H.gaps
      obtain ⟨v9, k9⟩ : ∃ v, wr.cell? ⟨w.heap.size + 1, 2, none⟩ = some v := ⟨_, cell_of_row _ _ 2 _ _ _ H.gaps⟩
      obtain ⟨v10, k10⟩ : ∃ v, wr.cell? ⟨w.heap.size + 1, 3, none⟩ = some v := ⟨_, cell_of_row _ _ 3 _ _ _ H.gaps⟩
      have g2 := heap_ltC H.gaps
      have g3 := heap_ltC H.box
      have g4 : g < wr.heap.size := by have := H.lt; omega
      obtain ⟨g5, g6, g7, g8⟩ := H.st.lt
      have g9 : ¬ g = w.heap.size + 1 := by have := H.lt.1; omega
      have g10 : ¬ g = w.heap.size := by have := H.lt.1; omega
      have g11 : ¬ w.heap.size + 1 = g := by have := H.lt.1; omega
      obtain ⟨tx, hx⟩ : ∃ b, decide ((3 : Int) ≤ (gx : Int)) = b := ⟨_, rfl⟩
      obtain ⟨ty, hy⟩ : ∃ b, decide ((3 : Int) ≤ (gy : Int)) = b := ⟨_, rfl⟩
      cases tx <;> cases ty
      all_goals
        go_wp2
        first
          | exact ⟨⟨2, by omega, rfl, H.put (by omega) (by simp at hx hy; unfold crnIn; simp; omega) _⟩, by simp [intOf]⟩
          | exact ⟨⟨2, by omega, rfl, H.keep (by omega) (by simp at hx hy; unfold crnIn; simp; omega) _⟩, by simp [intOf]⟩
    · obtain ⟨⟨ov, k1⟩, k2⟩ := cells_of H.st.row H.st.len.out (j := 14) (by decide)
      have k3 := H.st.fl
      have k4 := H.st.sd
      have k5 := cell_of_row _ _ 0 _ _ _ H.box
      have k6 := cell_of_row _ _ 1 _ _ _ H.box
      have k7 := frozen_of_row _ _ 4 _ _ H.gaps
      have k8 := frozen_of_row _ _ 5 _ _ H.gaps
      obtain ⟨v9, k9⟩ : ∃ v, wr.cell? ⟨w.heap.size + 1, 4, none⟩ = some v := ⟨_, cell_of_row _ _ 4 _ _ _ H.gaps⟩
      obtain ⟨v10, k10⟩ : ∃ v, wr.cell? ⟨w.heap.size + 1, 5, none⟩ = some v := ⟨_, cell_of_row _ _ 5 _ _ _ H.gaps⟩
      have g2 := heap_ltC H.gaps
      have g3 := heap_ltC H.box
      have g4 : g < wr.heap.size := by have := H.lt; omega
      obtain ⟨g5, g6, g7, g8⟩ := H.st.lt
      have g9 : ¬ g = w.heap.size + 1 := by have := H.lt.1; omega
      have g10 : ¬ g = w.heap.size := by have := H.lt.1; omega
      have g11 : ¬ w.heap.size + 1 = g := by have := H.lt.1; omega
      obtain ⟨tx, hx⟩ : ∃ b, decide ((3 : Int) ≤ (gx : Int)) = b := ⟨_, rfl⟩
      obtain ⟨ty, hy⟩ : ∃ b, decide ((3 : Int) ≤ (gy : Int)) = b := ⟨_, rfl⟩
      cases tx <;> cases ty
      all_goals
        go_wp2
        first
          | exact ⟨⟨3, by omega, rfl, H.put (by omega) (by simp at hx hy; unfold crnIn; simp; omega) _⟩, by simp [intOf]⟩
          | exact ⟨⟨3, by omega, rfl, H.keep (by omega) (by simp at hx hy; unfold crnIn; simp; omega) _⟩, by simp [intOf]⟩
    · obtain ⟨⟨ov, k1⟩, k2⟩ := cells_of H.st.row H.st.len.out (j := 15) (by decide)
      have k3 := H.st.fl
      have k4 := H.st.sd
      have k5 := cell_of_row _ _ 0 _ _ _ H.box
      have k6 := cell_of_row _ _ 1 _ _ _ H.box
      have k7 := frozen_of_row _ _ 6 _ _ H.gaps
      have k8 := frozen_of_row _ _ 7 _ _ H.gaps
      obtain ⟨v9, k9⟩ : ∃ v, wr.cell? ⟨w.heap.size + 1, 6, none⟩ = some v := ⟨_, cell_of_row _ _ 6 _ _ _ H.gaps⟩
      obtain ⟨v10, k10⟩ : ∃ v, wr.cell? ⟨w.heap.size + 1, 7, none⟩ = some v := ⟨_, cell_of_row _ _ 7 _ _ _ H.gaps⟩
      have g2 := heap_ltC H.gaps
      have g3 := heap_ltC H.box
      have g4 : g < wr.heap.size := by have := H.lt; omega
      obtain ⟨g5, g6, g7, g8⟩ := H.st.lt
      have g9 : ¬ g = w.heap.size + 1 := by have := H.lt.1; omega
      have g10 : ¬ g = w.heap.size := by have := H.lt.1; omega
      have g11 : ¬ w.heap.size + 1 = g := by have := H.lt.1; omega
      obtain ⟨tx, hx⟩ : ∃ b, decide ((3 : Int) ≤ (gx : Int)) = b := ⟨_, rfl⟩
      obtain ⟨ty, hy⟩ : ∃ b, decide ((3 : Int) ≤ (gy : Int)) = b := ⟨_, rfl⟩
      cases tx <;> cases ty
      all_goals
        go_wp2
        first
          | exact ⟨⟨4, by omega, rfl, H.put (by omega) (by simp at hx hy; unfold crnIn; simp; omega) _⟩, by simp [intOf]⟩
          | exact ⟨⟨4, by omega, rfl, H.keep (by omega) (by simp at hx hy; unfold crnIn; simp; omega) _⟩, by simp [intOf]⟩
    · have hx0 := crnX_lt (side := 4) (x := 2) (y := 2) (h := 1) (q := 0) h3 h4 (by decide) (by decide)
      have hx1 := crnX_lt (side := 4) (x := 2) (y := 2) (h := 1) (q := 1) h3 h4 (by decide) (by decide)
      have hx2 := crnX_lt (side := 4) (x := 2) (y := 2) (h := 1) (q := 2) h3 h4 (by decide) (by decide)
      have hx3 := crnX_lt (side := 4) (x := 2) (y := 2) (h := 1) (q := 3) h3 h4 (by decide) (by decide)
      obtain ⟨hst, -, hgap, htwo, hlt⟩ := H
      have j0 := cell_of_row _ _ 0 _ _ _ hgap
      have j1 := cell_of_row _ _ 1 _ _ _ hgap
      have j2 := cell_of_row _ _ 2 _ _ _ hgap
      have j3 := cell_of_row _ _ 3 _ _ _ hgap
      have j4 := cell_of_row _ _ 4 _ _ _ hgap
      have j5 := cell_of_row _ _ 5 _ _ _ hgap
      have j6 := cell_of_row _ _ 6 _ _ _ hgap
      have j7 := cell_of_row _ _ 7 _ _ _ hgap
      obtain ⟨p0, hp0⟩ : ∃ p, crnX 2 2 1 gx gy 0 = p := ⟨_, rfl⟩
      rw [hp0] at hx0
      have j0' : wr.cell? ⟨w.heap.size + 1, 0, none⟩ = some (.int .i64 (p0.1 : Nat)) := by rw [← hp0]; exact j0
      have j1' : wr.cell? ⟨w.heap.size + 1, 1, none⟩ = some (.int .i64 (p0.2 : Nat)) := by rw [← hp0]; exact j1
      obtain ⟨a0, b0⟩ := p0
      have HG0 := Lib.hid hp0
      have C0 := Lib.hid (fun (z : World) (F' : List Int) (m : Nat) (S : CrnSt 4 c g bn bf bs bk lo F' m z) (hm : m + 5 ^ 0 ≤ 1000) =>
        (show Calls Try.prog 47 #[.int .i64 2, .int .i64 2, .int .i64 1, .agg #[.int .i64 a0, .int .i64 b0], .pointer (some ⟨bn, 0, none⟩), .pointer (some ⟨bf, 0, none⟩), .pointer (some ⟨bs, 0, none⟩), .pointer (some ⟨bk, 0, none⟩)] z _ from (crn_zero 4 c g bn bf bs bk lo 2 2) z F' m a0 b0 S hx0.1 hx0.2 hm))
      clear hp0 j0 j1 hx0
      obtain ⟨p1, hp1⟩ : ∃ p, crnX 2 2 1 gx gy 1 = p := ⟨_, rfl⟩
      rw [hp1] at hx1
      have j2' : wr.cell? ⟨w.heap.size + 1, 2, none⟩ = some (.int .i64 (p1.1 : Nat)) := by rw [← hp1]; exact j2
      have j3' : wr.cell? ⟨w.heap.size + 1, 3, none⟩ = some (.int .i64 (p1.2 : Nat)) := by rw [← hp1]; exact j3
      obtain ⟨a1, b1⟩ := p1
      have HG1 := Lib.hid hp1
      have C1 := Lib.hid (fun (z : World) (F' : List Int) (m : Nat) (S : CrnSt 4 c g bn bf bs bk lo F' m z) (hm : m + 5 ^ 0 ≤ 1000) =>
        (show Calls Try.prog 47 #[.int .i64 3, .int .i64 2, .int .i64 1, .agg #[.int .i64 a1, .int .i64 b1], .pointer (some ⟨bn, 0, none⟩), .pointer (some ⟨bf, 0, none⟩), .pointer (some ⟨bs, 0, none⟩), .pointer (some ⟨bk, 0, none⟩)] z _ from (crn_zero 4 c g bn bf bs bk lo 3 2) z F' m a1 b1 S hx1.1 hx1.2 hm))
      clear hp1 j2 j3 hx1
      obtain ⟨p2, hp2⟩ : ∃ p, crnX 2 2 1 gx gy 2 = p := ⟨_, rfl⟩
      rw [hp2] at hx2
      have j4' : wr.cell? ⟨w.heap.size + 1, 4, none⟩ = some (.int .i64 (p2.1 : Nat)) := by rw [← hp2]; exact j4
      have j5' : wr.cell? ⟨w.heap.size + 1, 5, none⟩ = some (.int .i64 (p2.2 : Nat)) := by rw [← hp2]; exact j5
      obtain ⟨a2, b2⟩ := p2
      have HG2 := Lib.hid hp2
      have C2 := Lib.hid (fun (z : World) (F' : List Int) (m : Nat) (S : CrnSt 4 c g bn bf bs bk lo F' m z) (hm : m + 5 ^ 0 ≤ 1000) =>
        (show Calls Try.prog 47 #[.int .i64 2, .int .i64 3, .int .i64 1, .agg #[.int .i64 a2, .int .i64 b2], .pointer (some ⟨bn, 0, none⟩), .pointer (some ⟨bf, 0, none⟩), .pointer (some ⟨bs, 0, none⟩), .pointer (some ⟨bk, 0, none⟩)] z _ from (crn_zero 4 c g bn bf bs bk lo 2 3) z F' m a2 b2 S hx2.1 hx2.2 hm))
      clear hp2 j4 j5 hx2
      obtain ⟨p3, hp3⟩ : ∃ p, crnX 2 2 1 gx gy 3 = p := ⟨_, rfl⟩
      rw [hp3] at hx3
      have j6' : wr.cell? ⟨w.heap.size + 1, 6, none⟩ = some (.int .i64 (p3.1 : Nat)) := by rw [← hp3]; exact j6
      have j7' : wr.cell? ⟨w.heap.size + 1, 7, none⟩ = some (.int .i64 (p3.2 : Nat)) := by rw [← hp3]; exact j7
      obtain ⟨a3, b3⟩ := p3
      have HG3 := Lib.hid hp3
      have C3 := Lib.hid (fun (z : World) (F' : List Int) (m : Nat) (S : CrnSt 4 c g bn bf bs bk lo F' m z) (hm : m + 5 ^ 0 ≤ 1000) =>
        (show Calls Try.prog 47 #[.int .i64 3, .int .i64 3, .int .i64 1, .agg #[.int .i64 a3, .int .i64 b3], .pointer (some ⟨bn, 0, none⟩), .pointer (some ⟨bf, 0, none⟩), .pointer (some ⟨bs, 0, none⟩), .pointer (some ⟨bk, 0, none⟩)] z _ from (crn_zero 4 c g bn bf bs bk lo 3 3) z F' m a3 b3 S hx3.1 hx3.2 hm))
      clear hp3 j6 j7 hx3
      simp only at j0' j1' j2' j3' j4' j5' j6' j7'
      have hL2 : Lp2 4 0 2 2 c g bn bf bs bk lo gx gy (crnL 4 2 2 1 gx gy n F 4, (n : Int) + 1) (n + 1) w 0 wr := ⟨n + 1, rfl, by omega, hst, htwo⟩
      clear hst hgap htwo c0 f0
      rw [show ((4 : Nat) : Int) = 4 from rfl]
      go_wp2
      go_loopw [86] (fun i w6 => ∃ q : Nat, q ≤ 4 ∧ i = .int .i64 q ∧ Lp2 4 0 2 2 c g bn bf bs bk lo gx gy (crnL 4 2 2 1 gx gy n F 4, (n : Int) + 1) (n + 1) w q w6) (fun i _ => 4 - (intOf i).toNat)
      case atStart => exact ⟨0, by omega, rfl, hL2⟩
      case round =>
      clear hL2 j0' j1' j2' j3' j4' j5' j6' j7'
      obtain ⟨q, hq, rfl, H2⟩ := hrel
      have z1 : (5 : Nat) ^ 1 = 5 * 5 ^ 0 := by decide
      have z2 : 1 ≤ (5 : Nat) ^ 0 := by decide
      have z3 : (5 : Nat) ^ 0 = 1 := by decide
      rw [z3] at z1 z2 h6
      rcases (show q = 0 ∨ q = 1 ∨ q = 2 ∨ q = 3 ∨ q = 4 from by omega) with rfl | rfl | rfl | rfl | rfl
      · obtain ⟨m, hm, hle, S3, B3⟩ := H2
        have hle' : m + 5 ^ 0 ≤ 1000 := by omega
        have k1 := S3.wk
        have S4 := S3.two (bl_alloc (Below.refl _ _) (.cells #[.int .i64 a0, .int .i64 b0] 44))
        have B4 := B3.alloc (.cells #[.int .i64 a0, .int .i64 b0] 44)
        have iq : ∀ z, (Instr.index 65 (.agg #[.int .i64 a0, .int .i64 b0, .int .i64 a1, .int .i64 b1, .int .i64 a2, .int .i64 b2, .int .i64 a3, .int .i64 b3]) (.int .i64 0)).run Try.prog z = .ok (.agg #[.int .i64 a0, .int .i64 b0]) z := fun _ => by kernel_rfl
        have k2 := S3.lt.2.2.2
        go_wp2_with fail
        refine (C0.out _ _ _ S4 hle').mono ?_
        rintro e w5 ⟨rfl, hpost⟩
        go_wp2_with fail
        go_roundw
        case rel => exact ⟨1, by omega, rfl, Lp2.next (X := 2) (Y := 2) rfl rfl HG0 hm hle B4 hpost⟩
        case measure => simp [intOf]
      · obtain ⟨m, hm, hle, S3, B3⟩ := H2
        have hle' : m + 5 ^ 0 ≤ 1000 := by omega
        have k1 := S3.wk
        have S4 := S3.two (bl_alloc (Below.refl _ _) (.cells #[.int .i64 a1, .int .i64 b1] 44))
        have B4 := B3.alloc (.cells #[.int .i64 a1, .int .i64 b1] 44)
        have iq : ∀ z, (Instr.index 65 (.agg #[.int .i64 a0, .int .i64 b0, .int .i64 a1, .int .i64 b1, .int .i64 a2, .int .i64 b2, .int .i64 a3, .int .i64 b3]) (.int .i64 1)).run Try.prog z = .ok (.agg #[.int .i64 a1, .int .i64 b1]) z := fun _ => by kernel_rfl
        have k2 := S3.lt.2.2.2
        go_wp2_with fail
        refine (C1.out _ _ _ S4 hle').mono ?_
        rintro e w5 ⟨rfl, hpost⟩
        go_wp2_with fail
        go_roundw
        case rel => exact ⟨2, by omega, rfl, Lp2.next (X := 3) (Y := 2) rfl rfl HG1 hm hle B4 hpost⟩
        case measure => simp [intOf]
      · obtain ⟨m, hm, hle, S3, B3⟩ := H2
        have hle' : m + 5 ^ 0 ≤ 1000 := by omega
        have k1 := S3.wk
        have S4 := S3.two (bl_alloc (Below.refl _ _) (.cells #[.int .i64 a2, .int .i64 b2] 44))
        have B4 := B3.alloc (.cells #[.int .i64 a2, .int .i64 b2] 44)
        have iq : ∀ z, (Instr.index 65 (.agg #[.int .i64 a0, .int .i64 b0, .int .i64 a1, .int .i64 b1, .int .i64 a2, .int .i64 b2, .int .i64 a3, .int .i64 b3]) (.int .i64 2)).run Try.prog z = .ok (.agg #[.int .i64 a2, .int .i64 b2]) z := fun _ => by kernel_rfl
        have k2 := S3.lt.2.2.2
        go_wp2_with fail
        refine (C2.out _ _ _ S4 hle').mono ?_
        rintro e w5 ⟨rfl, hpost⟩
        go_wp2_with fail
        go_roundw
        case rel => exact ⟨3, by omega, rfl, Lp2.next (X := 2) (Y := 3) rfl rfl HG2 hm hle B4 hpost⟩
        case measure => simp [intOf]
      · obtain ⟨m, hm, hle, S3, B3⟩ := H2
        have hle' : m + 5 ^ 0 ≤ 1000 := by omega
        have k1 := S3.wk
        have S4 := S3.two (bl_alloc (Below.refl _ _) (.cells #[.int .i64 a3, .int .i64 b3] 44))
        have B4 := B3.alloc (.cells #[.int .i64 a3, .int .i64 b3] 44)
        have iq : ∀ z, (Instr.index 65 (.agg #[.int .i64 a0, .int .i64 b0, .int .i64 a1, .int .i64 b1, .int .i64 a2, .int .i64 b2, .int .i64 a3, .int .i64 b3]) (.int .i64 3)).run Try.prog z = .ok (.agg #[.int .i64 a3, .int .i64 b3]) z := fun _ => by kernel_rfl
        have k2 := S3.lt.2.2.2
        go_wp2_with fail
        refine (C3.out _ _ _ S4 hle').mono ?_
        rintro e w5 ⟨rfl, hpost⟩
        go_wp2_with fail
        go_roundw
        case rel => exact ⟨4, by omega, rfl, Lp2.next (X := 3) (Y := 3) rfl rfl HG3 hm hle B4 hpost⟩
        case measure => simp [intOf]
      · obtain ⟨m, hm, hle, S3, B3⟩ := H2
        go_wp2
        go_end0
        exact ⟨rfl, ⟨m, rfl, by omega, S3⟩, B3⟩
end Go.Proofs.Ytnignglhefcecaa

/- The closure of the program's CornerFill at the squares side 4, level 2 at 0, 0. -/
namespace Go.Proofs.Ytnignglhefcecaa
open Go.RowKit
set_option maxRecDepth 100000 in
set_option maxHeartbeats 4000000 in
theorem crn_4_2_0_0 (c g bn bf bs bk lo : Nat) : CrnOk 4 c g bn bf bs bk lo 2 0 0 := by
  intro w F n gx gy S h3 h4 h5
  have h6 : n + 1 + 4 * 5 ^ 1 ≤ 1000 := by
    have : (5 : Nat) ^ 2 = 5 * 5 ^ 1 := by decide
    have : 1 ≤ 5 ^ 1 := by decide
    omega
  rw [crnI_eq]
  have S1 := S.two (bl_alloc (Below.refl w.heap.size w) (.cells #[.int .i64 gx, .int .i64 gy] 44))
  have c0 := cell_of_row _ _ 0 _ _ _ S1.nx
  have f0 := frozen_of_row _ _ 0 _ _ S1.nx
  have hbn : bn < w.heap.size := heap_ltC S.nx
  have HGW : Hid (g < w.heap.size ∧ bn < w.heap.size ∧ bs < w.heap.size ∧ bf < w.heap.size ∧ bk < w.heap.size) := by
    obtain ⟨⟨ov, k1⟩, -⟩ := cells_of S.row S.len.out (j := 0) (by decide)
    exact ⟨by have := World.block_lt_of_cell? w _ k1; simpa using this, hbn, S.lt.1, S.lt.2.1, S.lt.2.2.2⟩
  have S2 := (S1.inc (n + 1)).two (bl_alloc (Below.refl _ _) (.cells #[.int .i64 0, .int .i64 0, .int .i64 0, .int .i64 0, .int .i64 0, .int .i64 0, .int .i64 0, .int .i64 0] 65))
  have B2 : Two g bn w (((w.alloc (.cells #[.int .i64 gx, .int .i64 gy] 44)).setCell ⟨bn, 0, none⟩ (.int .i64 ((n + 1 : Nat) : Int))).alloc (.cells #[.int .i64 0, .int .i64 0, .int .i64 0, .int .i64 0, .int .i64 0, .int .i64 0, .int .i64 0, .int .i64 0] 65)) :=
    (((Two.refl g bn w).alloc _).setB 0 _).alloc _
  have P2 : (((w.alloc (.cells #[.int .i64 gx, .int .i64 gy] 44)).setCell ⟨bn, 0, none⟩ (.int .i64 ((n + 1 : Nat) : Int))).alloc (.cells #[.int .i64 0, .int .i64 0, .int .i64 0, .int .i64 0, .int .i64 0, .int .i64 0, .int .i64 0, .int .i64 0] 65)).heap[w.heap.size]? = some (.cells #[.int .i64 gx, .int .i64 gy] 44 (0, 0)) := by
    rw [(bl_alloc (Below.refl _ _) _).block w.heap.size (by simp), Below.heap_setCell _ _ _ _ (by simp; omega)]
    exact heap_alloc_new w _
  have Q2 : (((w.alloc (.cells #[.int .i64 gx, .int .i64 gy] 44)).setCell ⟨bn, 0, none⟩ (.int .i64 ((n + 1 : Nat) : Int))).alloc (.cells #[.int .i64 0, .int .i64 0, .int .i64 0, .int .i64 0, .int .i64 0, .int .i64 0, .int .i64 0, .int .i64 0] 65)).heap[w.heap.size + 1]? = some (.cells (gapA (crnX 0 0 2 gx gy) 0) 65 (0, 0)) := by
    have := heap_alloc_new ((w.alloc (.cells #[.int .i64 gx, .int .i64 gy] 44)).setCell ⟨bn, 0, none⟩ (.int .i64 ((n + 1 : Nat) : Int))) (.cells #[.int .i64 0, .int .i64 0, .int .i64 0, .int .i64 0, .int .i64 0, .int .i64 0, .int .i64 0, .int .i64 0] 65)
    have e : ((w.alloc (.cells #[.int .i64 gx, .int .i64 gy] 44)).setCell ⟨bn, 0, none⟩ (.int .i64 ((n + 1 : Nat) : Int))).heap.size = w.heap.size + 1 := by simp
    rw [e] at this
    exact this
  clear hbn
  have ecast : ((n + 1 : Nat) : Int) = (n : Int) + 1 := by simp
  rw [ecast] at B2 P2 Q2
  have S3 : CrnSt 4 c g bn bf bs bk lo F (n + 1) (((w.alloc (.cells #[.int .i64 gx, .int .i64 gy] 44)).setCell ⟨bn, 0, none⟩ (.int .i64 ((n : Int) + 1))).alloc (.cells #[.int .i64 0, .int .i64 0, .int .i64 0, .int .i64 0, .int .i64 0, .int .i64 0, .int .i64 0, .int .i64 0] 65)) := S2
  clear S S1 S2 ecast
  show Calls Try.prog 47 #[.int .i64 0, .int .i64 0, .int .i64 4, .agg #[.int .i64 gx, .int .i64 gy], .pointer (some ⟨bn, 0, none⟩), .pointer (some ⟨bf, 0, none⟩), .pointer (some ⟨bs, 0, none⟩), .pointer (some ⟨bk, 0, none⟩)] w _
  go_enter Try.func47, Try.ntmps47
  go_wp2
  generalize ((w.alloc (.cells #[.int .i64 gx, .int .i64 gy] 44)).setCell ⟨bn, 0, none⟩ (.int .i64 ((n : Int) + 1))).alloc (.cells #[.int .i64 0, .int .i64 0, .int .i64 0, .int .i64 0, .int .i64 0, .int .i64 0, .int .i64 0, .int .i64 0] 65) = w2 at *
  go_loopw [28] (fun i wr => ∃ q : Nat, q ≤ 4 ∧ i = .int .i64 q ∧ Lp1 4 0 0 2 c g bn bf bs bk lo gx gy n F w q wr) (fun i _ => 4 - (intOf i).toNat)
  case atStart => exact ⟨0, by omega, rfl, S3, P2, Q2, B2, HGW.out⟩
  case round =>
    clear S3 P2 Q2 B2
    obtain ⟨q, hq, rfl, H⟩ := hrel
    rcases (show q = 0 ∨ q = 1 ∨ q = 2 ∨ q = 3 ∨ q = 4 from by omega) with rfl | rfl | rfl | rfl | rfl
    · obtain ⟨⟨ov, k1⟩, k2⟩ := cells_of H.st.row H.st.len.out (j := 5) (by decide)
      have k3 := H.st.fl
      have k4 := H.st.sd
      have k5 := cell_of_row _ _ 0 _ _ _ H.box
      have k6 := cell_of_row _ _ 1 _ _ _ H.box
      have k7 := frozen_of_row _ _ 0 _ _ H.gaps
      have k8 := frozen_of_row _ _ 1 _ _ H.gaps
      obtain ⟨v9, k9⟩ : ∃ v, wr.cell? ⟨w.heap.size + 1, 0, none⟩ = some v := ⟨_, cell_of_row _ _ 0 _ _ _ H.gaps⟩
      obtain ⟨v10, k10⟩ : ∃ v, wr.cell? ⟨w.heap.size + 1, 1, none⟩ = some v := ⟨_, cell_of_row _ _ 1 _ _ _ H.gaps⟩
      have g2 := heap_ltC H.gaps
      have g3 := heap_ltC H.box
      have g4 : g < wr.heap.size := by have := H.lt; omega
      obtain ⟨g5, g6, g7, g8⟩ := H.st.lt
      have g9 : ¬ g = w.heap.size + 1 := by have := H.lt.1; omega
      have g10 : ¬ g = w.heap.size := by have := H.lt.1; omega
      have g11 : ¬ w.heap.size + 1 = g := by have := H.lt.1; omega
      obtain ⟨tx, hx⟩ : ∃ b, decide ((2 : Int) ≤ (gx : Int)) = b := ⟨_, rfl⟩
      obtain ⟨ty, hy⟩ : ∃ b, decide ((2 : Int) ≤ (gy : Int)) = b := ⟨_, rfl⟩
      cases tx <;> cases ty
      all_goals
        go_wp2
        first
          | exact ⟨⟨1, by omega, rfl, H.put (by omega) (by simp at hx hy; unfold crnIn; simp; omega) _⟩, by simp [intOf]⟩
          | exact ⟨⟨1, by omega, rfl, H.keep (by omega) (by simp at hx hy; unfold crnIn; simp; omega) _⟩, by simp [intOf]⟩
    · obtain ⟨⟨ov, k1⟩, k2⟩ := cells_of H.st.row H.st.len.out (j := 6) (by decide)
      have k3 := H.st.fl
      have k4 := H.st.sd
      have k5 := cell_of_row _ _ 0 _ _ _ H.box
      have k6 := cell_of_row _ _ 1 _ _ _ H.box
      have k7 := frozen_of_row _ _ 2 _ _ H.gaps
      have k8 := frozen_of_row _ _ 3 _ _ H.gaps
      obtain ⟨v9, k9⟩ : ∃ v, wr.cell? ⟨w.heap.size + 1, 2, none⟩ = some v := ⟨_, cell_of_row _ _ 2 _ _ _ H.gaps⟩
      obtain ⟨v10, k10⟩ : ∃ v, wr.cell? ⟨w.heap.size + 1, 3, none⟩ = some v := ⟨_, cell_of_row _ _ 3 _ _ _ H.gaps⟩
      have g2 := heap_ltC H.gaps
      have g3 := heap_ltC H.box
      have g4 : g < wr.heap.size := by have := H.lt; omega
      obtain ⟨g5, g6, g7, g8⟩ := H.st.lt
      have g9 : ¬ g = w.heap.size + 1 := by have := H.lt.1; omega
      have g10 : ¬ g = w.heap.size := by have := H.lt.1; omega
      have g11 : ¬ w.heap.size + 1 = g := by have := H.lt.1; omega
      obtain ⟨tx, hx⟩ : ∃ b, decide ((2 : Int) ≤ (gx : Int)) = b := ⟨_, rfl⟩
      obtain ⟨ty, hy⟩ : ∃ b, decide ((2 : Int) ≤ (gy : Int)) = b := ⟨_, rfl⟩
      cases tx <;> cases ty
      all_goals
        go_wp2
        first
          | exact ⟨⟨2, by omega, rfl, H.put (by omega) (by simp at hx hy; unfold crnIn; simp; omega) _⟩, by simp [intOf]⟩
          | exact ⟨⟨2, by omega, rfl, H.keep (by omega) (by simp at hx hy; unfold crnIn; simp; omega) _⟩, by simp [intOf]⟩
    · obtain ⟨⟨ov, k1⟩, k2⟩ := cells_of H.st.row H.st.len.out (j := 9) (by decide)
      have k3 := H.st.fl
      have k4 := H.st.sd
      have k5 := cell_of_row _ _ 0 _ _ _ H.box
      have k6 := cell_of_row _ _ 1 _ _ _ H.box
      have k7 := frozen_of_row _ _ 4 _ _ H.gaps
      have k8 := frozen_of_row _ _ 5 _ _ H.gaps
      obtain ⟨v9, k9⟩ : ∃ v, wr.cell? ⟨w.heap.size + 1, 4, none⟩ = some v := ⟨_, cell_of_row _ _ 4 _ _ _ H.gaps⟩
      obtain ⟨v10, k10⟩ : ∃ v, wr.cell? ⟨w.heap.size + 1, 5, none⟩ = some v := ⟨_, cell_of_row _ _ 5 _ _ _ H.gaps⟩
      have g2 := heap_ltC H.gaps
      have g3 := heap_ltC H.box
      have g4 : g < wr.heap.size := by have := H.lt; omega
      obtain ⟨g5, g6, g7, g8⟩ := H.st.lt
      have g9 : ¬ g = w.heap.size + 1 := by have := H.lt.1; omega
      have g10 : ¬ g = w.heap.size := by have := H.lt.1; omega
      have g11 : ¬ w.heap.size + 1 = g := by have := H.lt.1; omega
      obtain ⟨tx, hx⟩ : ∃ b, decide ((2 : Int) ≤ (gx : Int)) = b := ⟨_, rfl⟩
      obtain ⟨ty, hy⟩ : ∃ b, decide ((2 : Int) ≤ (gy : Int)) = b := ⟨_, rfl⟩
      cases tx <;> cases ty
      all_goals
        go_wp2
        first
          | exact ⟨⟨3, by omega, rfl, H.put (by omega) (by simp at hx hy; unfold crnIn; simp; omega) _⟩, by simp [intOf]⟩
          | exact ⟨⟨3, by omega, rfl, H.keep (by omega) (by simp at hx hy; unfold crnIn; simp; omega) _⟩, by simp [intOf]⟩
    · obtain ⟨⟨ov, k1⟩, k2⟩ := cells_of H.st.row H.st.len.out (j := 10) (by decide)
      have k3 := H.st.fl
      have k4 := H.st.sd
      have k5 := cell_of_row _ _ 0 _ _ _ H.box
      have k6 := cell_of_row _ _ 1 _ _ _ H.box
      have k7 := frozen_of_row _ _ 6 _ _ H.gaps
      have k8 := frozen_of_row _ _ 7 _ _ H.gaps
      obtain ⟨v9, k9⟩ : ∃ v, wr.cell? ⟨w.heap.size + 1, 6, none⟩ = some v := ⟨_, cell_of_row _ _ 6 _ _ _ H.gaps⟩
      obtain ⟨v10, k10⟩ : ∃ v, wr.cell? ⟨w.heap.size + 1, 7, none⟩ = some v := ⟨_, cell_of_row _ _ 7 _ _ _ H.gaps⟩
      have g2 := heap_ltC H.gaps
      have g3 := heap_ltC H.box
      have g4 : g < wr.heap.size := by have := H.lt; omega
      obtain ⟨g5, g6, g7, g8⟩ := H.st.lt
      have g9 : ¬ g = w.heap.size + 1 := by have := H.lt.1; omega
      have g10 : ¬ g = w.heap.size := by have := H.lt.1; omega
      have g11 : ¬ w.heap.size + 1 = g := by have := H.lt.1; omega
      obtain ⟨tx, hx⟩ : ∃ b, decide ((2 : Int) ≤ (gx : Int)) = b := ⟨_, rfl⟩
      obtain ⟨ty, hy⟩ : ∃ b, decide ((2 : Int) ≤ (gy : Int)) = b := ⟨_, rfl⟩
      cases tx <;> cases ty
      all_goals
        go_wp2
        first
          | exact ⟨⟨4, by omega, rfl, H.put (by omega) (by simp at hx hy; unfold crnIn; simp; omega) _⟩, by simp [intOf]⟩
          | exact ⟨⟨4, by omega, rfl, H.keep (by omega) (by simp at hx hy; unfold crnIn; simp; omega) _⟩, by simp [intOf]⟩
    · have hx0 := crnX_lt (side := 4) (x := 0) (y := 0) (h := 2) (q := 0) h3 h4 (by decide) (by decide)
      have hx1 := crnX_lt (side := 4) (x := 0) (y := 0) (h := 2) (q := 1) h3 h4 (by decide) (by decide)
      have hx2 := crnX_lt (side := 4) (x := 0) (y := 0) (h := 2) (q := 2) h3 h4 (by decide) (by decide)
      have hx3 := crnX_lt (side := 4) (x := 0) (y := 0) (h := 2) (q := 3) h3 h4 (by decide) (by decide)
      obtain ⟨hst, -, hgap, htwo, hlt⟩ := H
      have j0 := cell_of_row _ _ 0 _ _ _ hgap
      have j1 := cell_of_row _ _ 1 _ _ _ hgap
      have j2 := cell_of_row _ _ 2 _ _ _ hgap
      have j3 := cell_of_row _ _ 3 _ _ _ hgap
      have j4 := cell_of_row _ _ 4 _ _ _ hgap
      have j5 := cell_of_row _ _ 5 _ _ _ hgap
      have j6 := cell_of_row _ _ 6 _ _ _ hgap
      have j7 := cell_of_row _ _ 7 _ _ _ hgap
      obtain ⟨p0, hp0⟩ : ∃ p, crnX 0 0 2 gx gy 0 = p := ⟨_, rfl⟩
      rw [hp0] at hx0
      have j0' : wr.cell? ⟨w.heap.size + 1, 0, none⟩ = some (.int .i64 (p0.1 : Nat)) := by rw [← hp0]; exact j0
      have j1' : wr.cell? ⟨w.heap.size + 1, 1, none⟩ = some (.int .i64 (p0.2 : Nat)) := by rw [← hp0]; exact j1
      obtain ⟨a0, b0⟩ := p0
      have HG0 := Lib.hid hp0
      have C0 := Lib.hid (fun (z : World) (F' : List Int) (m : Nat) (S : CrnSt 4 c g bn bf bs bk lo F' m z) (hm : m + 5 ^ 1 ≤ 1000) =>
        (show Calls Try.prog 47 #[.int .i64 0, .int .i64 0, .int .i64 2, .agg #[.int .i64 a0, .int .i64 b0], .pointer (some ⟨bn, 0, none⟩), .pointer (some ⟨bf, 0, none⟩), .pointer (some ⟨bs, 0, none⟩), .pointer (some ⟨bk, 0, none⟩)] z _ from (crn_4_1_0_0 c g bn bf bs bk lo) z F' m a0 b0 S hx0.1 hx0.2 hm))
      clear hp0 j0 j1 hx0
      obtain ⟨p1, hp1⟩ : ∃ p, crnX 0 0 2 gx gy 1 = p := ⟨_, rfl⟩
      rw [hp1] at hx1
      have j2' : wr.cell? ⟨w.heap.size + 1, 2, none⟩ = some (.int .i64 (p1.1 : Nat)) := by rw [← hp1]; exact j2
      have j3' : wr.cell? ⟨w.heap.size + 1, 3, none⟩ = some (.int .i64 (p1.2 : Nat)) := by rw [← hp1]; exact j3
      obtain ⟨a1, b1⟩ := p1
      have HG1 := Lib.hid hp1
      have C1 := Lib.hid (fun (z : World) (F' : List Int) (m : Nat) (S : CrnSt 4 c g bn bf bs bk lo F' m z) (hm : m + 5 ^ 1 ≤ 1000) =>
        (show Calls Try.prog 47 #[.int .i64 2, .int .i64 0, .int .i64 2, .agg #[.int .i64 a1, .int .i64 b1], .pointer (some ⟨bn, 0, none⟩), .pointer (some ⟨bf, 0, none⟩), .pointer (some ⟨bs, 0, none⟩), .pointer (some ⟨bk, 0, none⟩)] z _ from (crn_4_1_2_0 c g bn bf bs bk lo) z F' m a1 b1 S hx1.1 hx1.2 hm))
      clear hp1 j2 j3 hx1
      obtain ⟨p2, hp2⟩ : ∃ p, crnX 0 0 2 gx gy 2 = p := ⟨_, rfl⟩
      rw [hp2] at hx2
      have j4' : wr.cell? ⟨w.heap.size + 1, 4, none⟩ = some (.int .i64 (p2.1 : Nat)) := by rw [← hp2]; exact j4
      have j5' : wr.cell? ⟨w.heap.size + 1, 5, none⟩ = some (.int .i64 (p2.2 : Nat)) := by rw [← hp2]; exact j5
      obtain ⟨a2, b2⟩ := p2
      have HG2 := Lib.hid hp2
      have C2 := Lib.hid (fun (z : World) (F' : List Int) (m : Nat) (S : CrnSt 4 c g bn bf bs bk lo F' m z) (hm : m + 5 ^ 1 ≤ 1000) =>
        (show Calls Try.prog 47 #[.int .i64 0, .int .i64 2, .int .i64 2, .agg #[.int .i64 a2, .int .i64 b2], .pointer (some ⟨bn, 0, none⟩), .pointer (some ⟨bf, 0, none⟩), .pointer (some ⟨bs, 0, none⟩), .pointer (some ⟨bk, 0, none⟩)] z _ from (crn_4_1_0_2 c g bn bf bs bk lo) z F' m a2 b2 S hx2.1 hx2.2 hm))
      clear hp2 j4 j5 hx2
      obtain ⟨p3, hp3⟩ : ∃ p, crnX 0 0 2 gx gy 3 = p := ⟨_, rfl⟩
      rw [hp3] at hx3
      have j6' : wr.cell? ⟨w.heap.size + 1, 6, none⟩ = some (.int .i64 (p3.1 : Nat)) := by rw [← hp3]; exact j6
      have j7' : wr.cell? ⟨w.heap.size + 1, 7, none⟩ = some (.int .i64 (p3.2 : Nat)) := by rw [← hp3]; exact j7
      obtain ⟨a3, b3⟩ := p3
      have HG3 := Lib.hid hp3
      have C3 := Lib.hid (fun (z : World) (F' : List Int) (m : Nat) (S : CrnSt 4 c g bn bf bs bk lo F' m z) (hm : m + 5 ^ 1 ≤ 1000) =>
        (show Calls Try.prog 47 #[.int .i64 2, .int .i64 2, .int .i64 2, .agg #[.int .i64 a3, .int .i64 b3], .pointer (some ⟨bn, 0, none⟩), .pointer (some ⟨bf, 0, none⟩), .pointer (some ⟨bs, 0, none⟩), .pointer (some ⟨bk, 0, none⟩)] z _ from (crn_4_1_2_2 c g bn bf bs bk lo) z F' m a3 b3 S hx3.1 hx3.2 hm))
      clear hp3 j6 j7 hx3
      simp only at j0' j1' j2' j3' j4' j5' j6' j7'
      have hL2 : Lp2 4 1 0 0 c g bn bf bs bk lo gx gy (crnL 4 0 0 2 gx gy n F 4, (n : Int) + 1) (n + 1) w 0 wr := ⟨n + 1, rfl, by omega, hst, htwo⟩
      clear hst hgap htwo c0 f0
      rw [show ((4 : Nat) : Int) = 4 from rfl]
      go_wp2
      go_loopw [86] (fun i w6 => ∃ q : Nat, q ≤ 4 ∧ i = .int .i64 q ∧ Lp2 4 1 0 0 c g bn bf bs bk lo gx gy (crnL 4 0 0 2 gx gy n F 4, (n : Int) + 1) (n + 1) w q w6) (fun i _ => 4 - (intOf i).toNat)
      case atStart => exact ⟨0, by omega, rfl, hL2⟩
      case round =>
      clear hL2 j0' j1' j2' j3' j4' j5' j6' j7'
      obtain ⟨q, hq, rfl, H2⟩ := hrel
      have z1 : (5 : Nat) ^ 2 = 5 * 5 ^ 1 := by decide
      have z2 : 1 ≤ (5 : Nat) ^ 1 := by decide
      have z3 : (5 : Nat) ^ 1 = 5 := by decide
      rw [z3] at z1 z2 h6
      rcases (show q = 0 ∨ q = 1 ∨ q = 2 ∨ q = 3 ∨ q = 4 from by omega) with rfl | rfl | rfl | rfl | rfl
      · obtain ⟨m, hm, hle, S3, B3⟩ := H2
        have hle' : m + 5 ^ 1 ≤ 1000 := by omega
        have k1 := S3.wk
        have S4 := S3.two (bl_alloc (Below.refl _ _) (.cells #[.int .i64 a0, .int .i64 b0] 44))
        have B4 := B3.alloc (.cells #[.int .i64 a0, .int .i64 b0] 44)
        have iq : ∀ z, (Instr.index 65 (.agg #[.int .i64 a0, .int .i64 b0, .int .i64 a1, .int .i64 b1, .int .i64 a2, .int .i64 b2, .int .i64 a3, .int .i64 b3]) (.int .i64 0)).run Try.prog z = .ok (.agg #[.int .i64 a0, .int .i64 b0]) z := fun _ => by kernel_rfl
        have k2 := S3.lt.2.2.2
        go_wp2_with fail
        refine (C0.out _ _ _ S4 hle').mono ?_
        rintro e w5 ⟨rfl, hpost⟩
        go_wp2_with fail
        go_roundw
        case rel => exact ⟨1, by omega, rfl, Lp2.next (X := 0) (Y := 0) rfl rfl HG0 hm hle B4 hpost⟩
        case measure => simp [intOf]
      · obtain ⟨m, hm, hle, S3, B3⟩ := H2
        have hle' : m + 5 ^ 1 ≤ 1000 := by omega
        have k1 := S3.wk
        have S4 := S3.two (bl_alloc (Below.refl _ _) (.cells #[.int .i64 a1, .int .i64 b1] 44))
        have B4 := B3.alloc (.cells #[.int .i64 a1, .int .i64 b1] 44)
        have iq : ∀ z, (Instr.index 65 (.agg #[.int .i64 a0, .int .i64 b0, .int .i64 a1, .int .i64 b1, .int .i64 a2, .int .i64 b2, .int .i64 a3, .int .i64 b3]) (.int .i64 1)).run Try.prog z = .ok (.agg #[.int .i64 a1, .int .i64 b1]) z := fun _ => by kernel_rfl
        have k2 := S3.lt.2.2.2
        go_wp2_with fail
        refine (C1.out _ _ _ S4 hle').mono ?_
        rintro e w5 ⟨rfl, hpost⟩
        go_wp2_with fail
        go_roundw
        case rel => exact ⟨2, by omega, rfl, Lp2.next (X := 2) (Y := 0) rfl rfl HG1 hm hle B4 hpost⟩
        case measure => simp [intOf]
      · obtain ⟨m, hm, hle, S3, B3⟩ := H2
        have hle' : m + 5 ^ 1 ≤ 1000 := by omega
        have k1 := S3.wk
        have S4 := S3.two (bl_alloc (Below.refl _ _) (.cells #[.int .i64 a2, .int .i64 b2] 44))
        have B4 := B3.alloc (.cells #[.int .i64 a2, .int .i64 b2] 44)
        have iq : ∀ z, (Instr.index 65 (.agg #[.int .i64 a0, .int .i64 b0, .int .i64 a1, .int .i64 b1, .int .i64 a2, .int .i64 b2, .int .i64 a3, .int .i64 b3]) (.int .i64 2)).run Try.prog z = .ok (.agg #[.int .i64 a2, .int .i64 b2]) z := fun _ => by kernel_rfl
        have k2 := S3.lt.2.2.2
        go_wp2_with fail
        refine (C2.out _ _ _ S4 hle').mono ?_
        rintro e w5 ⟨rfl, hpost⟩
        go_wp2_with fail
        go_roundw
        case rel => exact ⟨3, by omega, rfl, Lp2.next (X := 0) (Y := 2) rfl rfl HG2 hm hle B4 hpost⟩
        case measure => simp [intOf]
      · obtain ⟨m, hm, hle, S3, B3⟩ := H2
        have hle' : m + 5 ^ 1 ≤ 1000 := by omega
        have k1 := S3.wk
        have S4 := S3.two (bl_alloc (Below.refl _ _) (.cells #[.int .i64 a3, .int .i64 b3] 44))
        have B4 := B3.alloc (.cells #[.int .i64 a3, .int .i64 b3] 44)
        have iq : ∀ z, (Instr.index 65 (.agg #[.int .i64 a0, .int .i64 b0, .int .i64 a1, .int .i64 b1, .int .i64 a2, .int .i64 b2, .int .i64 a3, .int .i64 b3]) (.int .i64 3)).run Try.prog z = .ok (.agg #[.int .i64 a3, .int .i64 b3]) z := fun _ => by kernel_rfl
        have k2 := S3.lt.2.2.2
        go_wp2_with fail
        refine (C3.out _ _ _ S4 hle').mono ?_
        rintro e w5 ⟨rfl, hpost⟩
        go_wp2_with fail
        go_roundw
        case rel => exact ⟨4, by omega, rfl, Lp2.next (X := 2) (Y := 2) rfl rfl HG3 hm hle B4 hpost⟩
        case measure => simp [intOf]
      · obtain ⟨m, hm, hle, S3, B3⟩ := H2
        go_wp2
        go_end0
        exact ⟨rfl, ⟨m, rfl, by omega, S3⟩, B3⟩
end Go.Proofs.Ytnignglhefcecaa

/- Contract: the program's CornerFill. -/
namespace Go.Proofs.Ytnignglhefcecaa
open Go.RowKit

/-- a new list and whether it is one -/
def NewW2 (xs : List Int) (ok : Bool) (w : World) (e : Ending) (w' : World) : Prop :=
  ∃ A : Option Addr, e = .returned (.tuple #[.slice A xs.length xs.length, .bool ok]) ∧ Wr w' w.heap.size 3 A (xs.map (.int .i64)) ∧ Below w.heap.size w w'
/-- the square filled -/
def crnV (side : Nat) (f cell : Nat) : List Int := (crnI side f 0 0 (cell % side) (cell / side) (List.replicate (side * side) (-1), 0)).1
theorem al_new1 (w : World) (v : Value) (t : TypeId) : (w.alloc (.cells #[v] t)).cell? ⟨w.heap.size, 0, none⟩ = some v := cell_of_row _ _ 0 _ _ _ (heap_alloc_new w _)
theorem al_old1 {w : World} {p : Addr} {v : Value} (o : Obj) (h : w.cell? p = some v) : (w.alloc o).cell? p = some v := (World.cell?_alloc_lt w o p (World.block_lt_of_cell? w _ h)).trans h
theorem one_rd (w : World) (v : Int) (t : TypeId) {b : Nat} (hb : w.heap.size = b) : Rd (w.alloc (.cells #[.int .i64 v] t)) (some ⟨b, 0, none⟩) [.int .i64 v] := fun _ => ⟨_, rfl, fun j u hu => by
  subst hb
  match j, hu with
  | 0, hu => simp at hu; subst hu; rw [add_zero']; exact al_new1 _ _ _⟩
theorem Two.far {g b : Nat} {w w' : World} (h : Two g b w w') {w0 : World} (h0 : Below w0.heap.size w0 w) (hg : w0.heap.size ≤ g) (hb : w0.heap.size ≤ b) : Below w0.heap.size w0 w' :=
  ⟨h.os.trans h0.os, h.tape.trans h0.tape, h.output.trans h0.output, Nat.le_trans h0.size h.size, fun i hi => (h.block i (Nat.lt_of_lt_of_le hi h0.size) (by omega) (by omega)).trans (h0.block i hi)⟩
theorem two_drew {g b : Nat} (w : World) : Two g b w w.drew := ⟨rfl, rfl, rfl, Nat.le_refl _, fun _ _ _ _ => rfl⟩
/-- the boxes of the call, made -/
theorem crn_made {side c g bs lo : Nat} {F : List Int} {w2 : World} (hsd : w2.cell? ⟨bs, 0, none⟩ = some (.int .i64 side)) (hrow : Wr w2 lo 3 (some ⟨g, 0, none⟩) (F.map (.int .i64))) (hl : F.length = side * side) (hg : g < w2.heap.size) (hne : bs ≠ g) (hb : bs < w2.heap.size) :
    CrnSt side c g (w2.heap.size + 1) w2.heap.size bs (w2.heap.size + 1 + 1) lo F 0 (((w2.alloc (.cells #[.slice (some ⟨g, 0, none⟩) (side * side) c] 38)).alloc (.cells #[.int .i64 0] 3)).alloc (.cells #[.func (.func 47) #[] #[.pointer (some ⟨w2.heap.size + 1, 0, none⟩), .pointer (some ⟨w2.heap.size, 0, none⟩), .pointer (some ⟨bs, 0, none⟩), .pointer (some ⟨w2.heap.size + 1 + 1, 0, none⟩)]] 64)) := by
  have z1 : (w2.alloc (.cells #[.slice (some ⟨g, 0, none⟩) (side * side) c] 38)).heap.size = w2.heap.size + 1 := by simp
  have z2 : ((w2.alloc (.cells #[.slice (some ⟨g, 0, none⟩) (side * side) c] 38)).alloc (.cells #[.int .i64 0] 3)).heap.size = w2.heap.size + 1 + 1 := by simp
  refine ⟨?_, ?_, ?_, ?_, ?_, hl, ⟨hne, by omega⟩, ⟨by omega, by omega⟩, ⟨by omega, by omega⟩, by omega⟩
  · exact al_old1 _ (al_old1 _ (al_old1 _ hsd))
  · exact al_old1 _ (al_old1 _ (al_new1 _ _ _))
  · rw [(bl_alloc (Below.refl _ _) _).block _ (by rw [z2]; omega)]
    have := heap_alloc_new (w2.alloc (.cells #[.slice (some ⟨g, 0, none⟩) (side * side) c] 38)) (.cells #[.int .i64 0] 3)
    rw [z1] at this
    exact this
  · have := al_new1 ((w2.alloc (.cells #[.slice (some ⟨g, 0, none⟩) (side * side) c] 38)).alloc (.cells #[.int .i64 0] 3)) (.func (.func 47) #[] #[.pointer (some ⟨w2.heap.size + 1, 0, none⟩), .pointer (some ⟨w2.heap.size, 0, none⟩), .pointer (some ⟨bs, 0, none⟩), .pointer (some ⟨w2.heap.size + 1 + 1, 0, none⟩)]) 64
    rw [z2] at this
    exact this
  · exact ((hrow.belo (bl_alloc (Below.refl _ _) _)).belo (bl_alloc (Below.refl _ _) _)).belo (bl_alloc (Below.refl _ _) _)
set_option maxRecDepth 100000 in
set_option maxHeartbeats 4000000 in
theorem iCorner_1 (cell : Nat) (hc : cell < 1) (w : World) :
    Calls Try.prog 18 #[.int .i64 1, .int .i64 cell] w (NewW2 (crnV 1 0 cell) true w) := by
  obtain ⟨gx, hgx⟩ : ∃ gx, cell % 1 = gx := ⟨_, rfl⟩
  obtain ⟨gy, hgy⟩ : ∃ gy, cell / 1 = gy := ⟨_, rfl⟩
  have CALL := Lib.hid (fun (z : World) (c g bn bf bs bk lo : Nat) (S : CrnSt 1 c g bn bf bs bk lo (List.replicate 1 (-1)) 0 z) =>
    (show Calls Try.prog 47 #[.int .i64 0, .int .i64 0, .int .i64 1, .agg #[.int .i64 gx, .int .i64 gy], .pointer (some ⟨bn, 0, none⟩), .pointer (some ⟨bf, 0, none⟩), .pointer (some ⟨bs, 0, none⟩), .pointer (some ⟨bk, 0, none⟩)] z _ from
      (crn_zero _ _ _ _ _ _ _ _ _ _) z (List.replicate 1 (-1)) 0 gx gy S (by omega) (by omega) (by decide)))
  have VEQ := Lib.hid (show (crnI 1 0 0 0 gx gy (List.replicate 1 (-1), ((0 : Nat) : Int))).1 = crnV 1 0 cell by unfold crnV; rw [hgx, hgy]; rfl)
  have HL := Lib.hid (show (crnV 1 0 cell).length = 1 from crn_len _ _ _ _ _ _ _ _)
  have e2 : ((cell : Int).tmod 1) = (gx : Int) := by rw [Int.tmod_eq_emod_of_nonneg (by omega)]; omega
  have e3 : ((cell : Int).tdiv 1) = (gy : Int) := by rw [Int.tdiv_eq_ediv_of_nonneg (by omega)]; omega
  have e4 : ((cell : Int) % 1) = (gx : Int) := by omega
  have e5 : ((cell : Int) / 1) = (gy : Int) := by omega
  clear hgx hgy
  have CREP := Lib.hid (fun (z : World) (A : Option Addr) (c : Nat) (R : Rd z A [.int .i64 (-1)]) => repeat_one A c (-1) 1 (by omega) (by omega) z R)
  have R1 := one_rd (w.alloc (.cells #[.int .i64 1] 3)) (-1) 3 (b := w.heap.size + 1) (by simp)
  have c1 : ((w.alloc (.cells #[.int .i64 1] 3)).alloc (.cells #[.int .i64 (-1)] 3)).cell? ⟨w.heap.size, 0, none⟩ = some (.int .i64 1) := al_old1 _ (al_new1 _ _ _)
  have B1 := bl_alloc (bl_alloc (Below.refl w.heap.size w) (.cells #[.int .i64 1] 3)) (.cells #[.int .i64 (-1)] 3)
  have z1 : ((w.alloc (.cells #[.int .i64 1] 3)).alloc (.cells #[.int .i64 (-1)] 3)).heap.size = w.heap.size + 2 := by simp
  go_enter Try.func18, Try.ntmps18
  go_wp2_with (go_at_call 45; refine (in_t _ _ _ _ (by omega) (by omega)).mono ?_; rintro e w' ⟨rfl, rfl⟩)
  refine (CREP.out _ _ _ R1).mono ?_
  rintro e w2 ⟨A2, rfl, hw2, b2⟩
  simp only [List.length_replicate]
  have hz2 := b2.size
  have c2 : w2.cell? ⟨w.heap.size, 0, none⟩ = some (.int .i64 1) := ((bcell b2).1 _ _ (by rw [z1]; omega)).trans c1
  have B2 := bl_go B1 b2
  obtain ⟨g, rfl, hg1, hg2, -⟩ := hw2.form (by simp)
  rw [z1] at hg1 hz2
  have S2 := crn_made (side := 1) (c := 1) (lo := w.heap.size) c2 (hw2.lower (by rw [z1]; omega)) (by simp) hg2 (by omega) (by omega)
  have c2' := c2
  clear R1 c1 B1 z1 CREP hw2 b2
  go_wp2_with fail
  have B3 := bl_alloc (bl_alloc (bl_alloc B2 (.cells #[.slice (some ⟨g, 0, none⟩) 1 1] 38)) (.cells #[.int .i64 0] 3)) (.cells #[.func (.func 47) #[] #[.pointer (some ⟨w2.heap.size + 1, 0, none⟩), .pointer (some ⟨w2.heap.size, 0, none⟩), .pointer (some ⟨w.heap.size, 0, none⟩), .pointer (some ⟨w2.heap.size + 1 + 1, 0, none⟩)]] 64)
  have S2' : CrnSt 1 1 g (w2.heap.size + 1) w2.heap.size w.heap.size (w2.heap.size + 1 + 1) w.heap.size (List.replicate 1 (-1)) 0 (((w2.alloc (.cells #[.slice (some ⟨g, 0, none⟩) 1 1] 38)).alloc (.cells #[.int .i64 0] 3)).alloc (.cells #[.func (.func 47) #[] #[.pointer (some ⟨w2.heap.size + 1, 0, none⟩), .pointer (some ⟨w2.heap.size, 0, none⟩), .pointer (some ⟨w.heap.size, 0, none⟩), .pointer (some ⟨w2.heap.size + 1 + 1, 0, none⟩)]] 64)) := S2
  clear S2 c2 c2' B2
  generalize (((w2.alloc (.cells #[.slice (some ⟨g, 0, none⟩) 1 1] 38)).alloc (.cells #[.int .i64 0] 3)).alloc (.cells #[.func (.func 47) #[] #[.pointer (some ⟨w2.heap.size + 1, 0, none⟩), .pointer (some ⟨w2.heap.size, 0, none⟩), .pointer (some ⟨w.heap.size, 0, none⟩), .pointer (some ⟨w2.heap.size + 1 + 1, 0, none⟩)]] 64)) = w3 at *
  have k1 := S2'.sd
  have k2 := S2'.wk
  have T3 := (two_drew (g := g) (b := w2.heap.size + 1) w3)
  have S3 : CrnSt 1 1 g (w2.heap.size + 1) w2.heap.size w.heap.size (w2.heap.size + 1 + 1) w.heap.size (List.replicate 1 (-1)) 0 w3.drew := S2'.two ⟨rfl, rfl, rfl, Nat.le_refl _, fun _ _ => rfl⟩
  go_still_tail 9, (by kernel_rfl)
  change wpList _ _ _ _ _ w3.drew
  have B4 := T3.far B3 (by omega) (by omega)
  generalize w3.drew = w4 at *
  clear T3 S2' k1 k2 B3
  go_wp2_with fail
  refine (CALL.out _ _ _ _ _ _ _ _ S3).mono ?_
  rintro e w5 ⟨rfl, ⟨m, -, -, S5⟩, T5⟩
  rw [VEQ.out] at S5
  have B5 := T5.far B4 (by omega) (by omega)
  have k1 := S5.fl
  go_wp2
  refine bodyPost_ret (v := .tuple #[.slice (some ⟨g, 0, none⟩) 1 1, .bool true]) (by simp [results, Try.results18, go_sem]) rfl ⟨some ⟨g, 0, none⟩, by rw [HL.out], S5.row, B5⟩
set_option maxRecDepth 100000 in
set_option maxHeartbeats 4000000 in
theorem iCorner_2 (cell : Nat) (hc : cell < 4) (w : World) :
    Calls Try.prog 18 #[.int .i64 2, .int .i64 cell] w (NewW2 (crnV 2 1 cell) true w) := by
  obtain ⟨gx, hgx⟩ : ∃ gx, cell % 2 = gx := ⟨_, rfl⟩
  obtain ⟨gy, hgy⟩ : ∃ gy, cell / 2 = gy := ⟨_, rfl⟩
  have CALL := Lib.hid (fun (z : World) (c g bn bf bs bk lo : Nat) (S : CrnSt 2 c g bn bf bs bk lo (List.replicate 4 (-1)) 0 z) =>
    (show Calls Try.prog 47 #[.int .i64 0, .int .i64 0, .int .i64 2, .agg #[.int .i64 gx, .int .i64 gy], .pointer (some ⟨bn, 0, none⟩), .pointer (some ⟨bf, 0, none⟩), .pointer (some ⟨bs, 0, none⟩), .pointer (some ⟨bk, 0, none⟩)] z _ from
      (crn_2_1_0_0 _ _ _ _ _ _ _) z (List.replicate 4 (-1)) 0 gx gy S (by omega) (by omega) (by decide)))
  have VEQ := Lib.hid (show (crnI 2 1 0 0 gx gy (List.replicate 4 (-1), ((0 : Nat) : Int))).1 = crnV 2 1 cell by unfold crnV; rw [hgx, hgy]; rfl)
  have HL := Lib.hid (show (crnV 2 1 cell).length = 4 from crn_len _ _ _ _ _ _ _ _)
  have e2 : ((cell : Int).tmod 2) = (gx : Int) := by rw [Int.tmod_eq_emod_of_nonneg (by omega)]; omega
  have e3 : ((cell : Int).tdiv 2) = (gy : Int) := by rw [Int.tdiv_eq_ediv_of_nonneg (by omega)]; omega
  have e4 : ((cell : Int) % 2) = (gx : Int) := by omega
  have e5 : ((cell : Int) / 2) = (gy : Int) := by omega
  clear hgx hgy
  have CREP := Lib.hid (fun (z : World) (A : Option Addr) (c : Nat) (R : Rd z A [.int .i64 (-1)]) => repeat_one A c (-1) 4 (by omega) (by omega) z R)
  have R1 := one_rd (w.alloc (.cells #[.int .i64 2] 3)) (-1) 3 (b := w.heap.size + 1) (by simp)
  have c1 : ((w.alloc (.cells #[.int .i64 2] 3)).alloc (.cells #[.int .i64 (-1)] 3)).cell? ⟨w.heap.size, 0, none⟩ = some (.int .i64 2) := al_old1 _ (al_new1 _ _ _)
  have B1 := bl_alloc (bl_alloc (Below.refl w.heap.size w) (.cells #[.int .i64 2] 3)) (.cells #[.int .i64 (-1)] 3)
  have z1 : ((w.alloc (.cells #[.int .i64 2] 3)).alloc (.cells #[.int .i64 (-1)] 3)).heap.size = w.heap.size + 2 := by simp
  go_enter Try.func18, Try.ntmps18
  go_wp2_with (go_at_call 45; refine (in_t _ _ _ _ (by omega) (by omega)).mono ?_; rintro e w' ⟨rfl, rfl⟩)
  refine (CREP.out _ _ _ R1).mono ?_
  rintro e w2 ⟨A2, rfl, hw2, b2⟩
  simp only [List.length_replicate]
  have hz2 := b2.size
  have c2 : w2.cell? ⟨w.heap.size, 0, none⟩ = some (.int .i64 2) := ((bcell b2).1 _ _ (by rw [z1]; omega)).trans c1
  have B2 := bl_go B1 b2
  obtain ⟨g, rfl, hg1, hg2, -⟩ := hw2.form (by simp)
  rw [z1] at hg1 hz2
  have S2 := crn_made (side := 2) (c := 4) (lo := w.heap.size) c2 (hw2.lower (by rw [z1]; omega)) (by simp) hg2 (by omega) (by omega)
  have c2' := c2
  clear R1 c1 B1 z1 CREP hw2 b2
  go_wp2_with fail
  have B3 := bl_alloc (bl_alloc (bl_alloc B2 (.cells #[.slice (some ⟨g, 0, none⟩) 4 4] 38)) (.cells #[.int .i64 0] 3)) (.cells #[.func (.func 47) #[] #[.pointer (some ⟨w2.heap.size + 1, 0, none⟩), .pointer (some ⟨w2.heap.size, 0, none⟩), .pointer (some ⟨w.heap.size, 0, none⟩), .pointer (some ⟨w2.heap.size + 1 + 1, 0, none⟩)]] 64)
  have S2' : CrnSt 2 4 g (w2.heap.size + 1) w2.heap.size w.heap.size (w2.heap.size + 1 + 1) w.heap.size (List.replicate 4 (-1)) 0 (((w2.alloc (.cells #[.slice (some ⟨g, 0, none⟩) 4 4] 38)).alloc (.cells #[.int .i64 0] 3)).alloc (.cells #[.func (.func 47) #[] #[.pointer (some ⟨w2.heap.size + 1, 0, none⟩), .pointer (some ⟨w2.heap.size, 0, none⟩), .pointer (some ⟨w.heap.size, 0, none⟩), .pointer (some ⟨w2.heap.size + 1 + 1, 0, none⟩)]] 64)) := S2
  clear S2 c2 c2' B2
  generalize (((w2.alloc (.cells #[.slice (some ⟨g, 0, none⟩) 4 4] 38)).alloc (.cells #[.int .i64 0] 3)).alloc (.cells #[.func (.func 47) #[] #[.pointer (some ⟨w2.heap.size + 1, 0, none⟩), .pointer (some ⟨w2.heap.size, 0, none⟩), .pointer (some ⟨w.heap.size, 0, none⟩), .pointer (some ⟨w2.heap.size + 1 + 1, 0, none⟩)]] 64)) = w3 at *
  have k1 := S2'.sd
  have k2 := S2'.wk
  have T3 := (two_drew (g := g) (b := w2.heap.size + 1) w3)
  have S3 : CrnSt 2 4 g (w2.heap.size + 1) w2.heap.size w.heap.size (w2.heap.size + 1 + 1) w.heap.size (List.replicate 4 (-1)) 0 w3.drew := S2'.two ⟨rfl, rfl, rfl, Nat.le_refl _, fun _ _ => rfl⟩
  go_still_tail 9, (by kernel_rfl)
  change wpList _ _ _ _ _ w3.drew
  have B4 := T3.far B3 (by omega) (by omega)
  generalize w3.drew = w4 at *
  clear T3 S2' k1 k2 B3
  go_wp2_with fail
  refine (CALL.out _ _ _ _ _ _ _ _ S3).mono ?_
  rintro e w5 ⟨rfl, ⟨m, -, -, S5⟩, T5⟩
  rw [VEQ.out] at S5
  have B5 := T5.far B4 (by omega) (by omega)
  have k1 := S5.fl
  go_wp2
  refine bodyPost_ret (v := .tuple #[.slice (some ⟨g, 0, none⟩) 4 4, .bool true]) (by simp [results, Try.results18, go_sem]) rfl ⟨some ⟨g, 0, none⟩, by rw [HL.out], S5.row, B5⟩
set_option maxRecDepth 100000 in
set_option maxHeartbeats 4000000 in
theorem iCorner_4 (cell : Nat) (hc : cell < 16) (w : World) :
    Calls Try.prog 18 #[.int .i64 4, .int .i64 cell] w (NewW2 (crnV 4 2 cell) true w) := by
  obtain ⟨gx, hgx⟩ : ∃ gx, cell % 4 = gx := ⟨_, rfl⟩
  obtain ⟨gy, hgy⟩ : ∃ gy, cell / 4 = gy := ⟨_, rfl⟩
  have CALL := Lib.hid (fun (z : World) (c g bn bf bs bk lo : Nat) (S : CrnSt 4 c g bn bf bs bk lo (List.replicate 16 (-1)) 0 z) =>
    (show Calls Try.prog 47 #[.int .i64 0, .int .i64 0, .int .i64 4, .agg #[.int .i64 gx, .int .i64 gy], .pointer (some ⟨bn, 0, none⟩), .pointer (some ⟨bf, 0, none⟩), .pointer (some ⟨bs, 0, none⟩), .pointer (some ⟨bk, 0, none⟩)] z _ from
      (crn_4_2_0_0 _ _ _ _ _ _ _) z (List.replicate 16 (-1)) 0 gx gy S (by omega) (by omega) (by decide)))
  have VEQ := Lib.hid (show (crnI 4 2 0 0 gx gy (List.replicate 16 (-1), ((0 : Nat) : Int))).1 = crnV 4 2 cell by unfold crnV; rw [hgx, hgy]; rfl)
  have HL := Lib.hid (show (crnV 4 2 cell).length = 16 from crn_len _ _ _ _ _ _ _ _)
  have e2 : ((cell : Int).tmod 4) = (gx : Int) := by rw [Int.tmod_eq_emod_of_nonneg (by omega)]; omega
  have e3 : ((cell : Int).tdiv 4) = (gy : Int) := by rw [Int.tdiv_eq_ediv_of_nonneg (by omega)]; omega
  have e4 : ((cell : Int) % 4) = (gx : Int) := by omega
  have e5 : ((cell : Int) / 4) = (gy : Int) := by omega
  clear hgx hgy
  have CREP := Lib.hid (fun (z : World) (A : Option Addr) (c : Nat) (R : Rd z A [.int .i64 (-1)]) => repeat_one A c (-1) 16 (by omega) (by omega) z R)
  have R1 := one_rd (w.alloc (.cells #[.int .i64 4] 3)) (-1) 3 (b := w.heap.size + 1) (by simp)
  have c1 : ((w.alloc (.cells #[.int .i64 4] 3)).alloc (.cells #[.int .i64 (-1)] 3)).cell? ⟨w.heap.size, 0, none⟩ = some (.int .i64 4) := al_old1 _ (al_new1 _ _ _)
  have B1 := bl_alloc (bl_alloc (Below.refl w.heap.size w) (.cells #[.int .i64 4] 3)) (.cells #[.int .i64 (-1)] 3)
  have z1 : ((w.alloc (.cells #[.int .i64 4] 3)).alloc (.cells #[.int .i64 (-1)] 3)).heap.size = w.heap.size + 2 := by simp
  go_enter Try.func18, Try.ntmps18
  go_wp2_with (go_at_call 45; refine (in_t _ _ _ _ (by omega) (by omega)).mono ?_; rintro e w' ⟨rfl, rfl⟩)
  refine (CREP.out _ _ _ R1).mono ?_
  rintro e w2 ⟨A2, rfl, hw2, b2⟩
  simp only [List.length_replicate]
  have hz2 := b2.size
  have c2 : w2.cell? ⟨w.heap.size, 0, none⟩ = some (.int .i64 4) := ((bcell b2).1 _ _ (by rw [z1]; omega)).trans c1
  have B2 := bl_go B1 b2
  obtain ⟨g, rfl, hg1, hg2, -⟩ := hw2.form (by simp)
  rw [z1] at hg1 hz2
  have S2 := crn_made (side := 4) (c := 16) (lo := w.heap.size) c2 (hw2.lower (by rw [z1]; omega)) (by simp) hg2 (by omega) (by omega)
  have c2' := c2
  clear R1 c1 B1 z1 CREP hw2 b2
  go_wp2_with fail
  have B3 := bl_alloc (bl_alloc (bl_alloc B2 (.cells #[.slice (some ⟨g, 0, none⟩) 16 16] 38)) (.cells #[.int .i64 0] 3)) (.cells #[.func (.func 47) #[] #[.pointer (some ⟨w2.heap.size + 1, 0, none⟩), .pointer (some ⟨w2.heap.size, 0, none⟩), .pointer (some ⟨w.heap.size, 0, none⟩), .pointer (some ⟨w2.heap.size + 1 + 1, 0, none⟩)]] 64)
  have S2' : CrnSt 4 16 g (w2.heap.size + 1) w2.heap.size w.heap.size (w2.heap.size + 1 + 1) w.heap.size (List.replicate 16 (-1)) 0 (((w2.alloc (.cells #[.slice (some ⟨g, 0, none⟩) 16 16] 38)).alloc (.cells #[.int .i64 0] 3)).alloc (.cells #[.func (.func 47) #[] #[.pointer (some ⟨w2.heap.size + 1, 0, none⟩), .pointer (some ⟨w2.heap.size, 0, none⟩), .pointer (some ⟨w.heap.size, 0, none⟩), .pointer (some ⟨w2.heap.size + 1 + 1, 0, none⟩)]] 64)) := S2
  clear S2 c2 c2' B2
  generalize (((w2.alloc (.cells #[.slice (some ⟨g, 0, none⟩) 16 16] 38)).alloc (.cells #[.int .i64 0] 3)).alloc (.cells #[.func (.func 47) #[] #[.pointer (some ⟨w2.heap.size + 1, 0, none⟩), .pointer (some ⟨w2.heap.size, 0, none⟩), .pointer (some ⟨w.heap.size, 0, none⟩), .pointer (some ⟨w2.heap.size + 1 + 1, 0, none⟩)]] 64)) = w3 at *
  have k1 := S2'.sd
  have k2 := S2'.wk
  have T3 := (two_drew (g := g) (b := w2.heap.size + 1) w3)
  have S3 : CrnSt 4 16 g (w2.heap.size + 1) w2.heap.size w.heap.size (w2.heap.size + 1 + 1) w.heap.size (List.replicate 16 (-1)) 0 w3.drew := S2'.two ⟨rfl, rfl, rfl, Nat.le_refl _, fun _ _ => rfl⟩
  go_still_tail 9, (by kernel_rfl)
  change wpList _ _ _ _ _ w3.drew
  have B4 := T3.far B3 (by omega) (by omega)
  generalize w3.drew = w4 at *
  clear T3 S2' k1 k2 B3
  go_wp2_with fail
  refine (CALL.out _ _ _ _ _ _ _ _ S3).mono ?_
  rintro e w5 ⟨rfl, ⟨m, -, -, S5⟩, T5⟩
  rw [VEQ.out] at S5
  have B5 := T5.far B4 (by omega) (by omega)
  have k1 := S5.fl
  go_wp2
  refine bodyPost_ret (v := .tuple #[.slice (some ⟨g, 0, none⟩) 16 16, .bool true]) (by simp [results, Try.results18, go_sem]) rfl ⟨some ⟨g, 0, none⟩, by rw [HL.out], S5.row, B5⟩
set_option maxHeartbeats 1000000 in
theorem iCorner_no (side cell : Int) (h : ¬ ((side = 1 ∨ side = 2 ∨ side = 4) ∧ 0 ≤ cell ∧ cell < side * side)) (hs1 : -9223372036854775808 ≤ side) (hs2 : side ≤ 9223372036854775807) (w : World) :
    Calls Try.prog 18 #[.int .i64 side, .int .i64 cell] w (NewW2 [] false w) := by
  have B1 := bl_alloc (Below.refl w.heap.size w) (.cells #[.int .i64 side] 3)
  have fin : NewW2 [] false w (.returned (.tuple #[.slice none 0 0, .bool false])) (w.alloc (.cells #[.int .i64 side] 3)) := ⟨none, rfl, Wr.none_ _ _ _, B1⟩
  have FIN := Lib.hid fin
  clear fin B1
  by_cases hs : side = 1 ∨ side = 2 ∨ side = 4
  · have hcell : cell < 0 ∨ side * side ≤ cell := by
      rcases Int.lt_or_le cell 0 with h1 | h1
      · exact .inl h1
      · rcases Int.lt_or_le cell (side * side) with h2 | h2
        · exact absurd ⟨hs, h1, h2⟩ h
        · exact .inr h2
    clear h
    rcases hs with rfl | rfl | rfl
    all_goals
      go_enter Try.func18, Try.ntmps18
      go_wp2_with (go_at_call 45; refine (in_f _ _ _ _ (by omega)).mono ?_; rintro e w' ⟨rfl, rfl⟩)
      exact bodyPost_ret (v := .tuple #[.slice none 0 0, .bool false]) (by simp [results, Try.results18, go_sem]) rfl FIN.out
  · have n1 : (side != 1) = true := by simp; omega
    have n2 : (side != 2) = true := by simp; omega
    have n4 : (side != 4) = true := by simp; omega
    clear h hs
    go_enter Try.func18, Try.ntmps18
    go_wp2
    exact bodyPost_ret (v := .tuple #[.slice none 0 0, .bool false]) (by simp [results, Try.results18, go_sem]) rfl FIN.out
end Go.Proofs.Ytnignglhefcecaa

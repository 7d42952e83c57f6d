/- The closure of the program's CornerFill at the squares side 4, level 1 at 2, 0, side 4, level 1 at 0, 2. -/
import Derived.Test.YtnciemnlnijhfaaCornI
namespace Go.Proofs.Ytnciemnlnijhfaa
open Go.RowKit
set_option maxRecDepth 100000 in
set_option maxHeartbeats 4000000 in
theorem crn_4_1_2_0 (c g bn bf bs bk lo : Nat) : CrnOk 4 c g bn bf bs bk lo 1 2 0 := by
  intro w F n gx gy S h3 h4 h5
  have h6 : n + 1 + 4 * 5 ^ 0 ≤ 1000 := by
    have : (5 : Nat) ^ 1 = 5 * 5 ^ 0 := by decide
    have : 1 ≤ 5 ^ 0 := by decide
    omega
  rw [crnI_eq]
  have S1 := S.two (bl_alloc (Below.refl w.heap.size w) (.cells #[.int .i64 gx, .int .i64 gy] 49))
  have c0 := cell_of_row _ _ 0 _ _ _ S1.nx
  have f0 := frozen_of_row _ _ 0 _ _ S1.nx
  have hbn : bn < w.heap.size := heap_ltC S.nx
  have HGW : Hid (g < w.heap.size ∧ bn < w.heap.size ∧ bs < w.heap.size ∧ bf < w.heap.size ∧ bk < w.heap.size) := by
    obtain ⟨⟨ov, k1⟩, -⟩ := cells_of S.row S.len.out (j := 0) (by decide)
    exact ⟨by have := World.block_lt_of_cell? w _ k1; simpa using this, hbn, S.lt.1, S.lt.2.1, S.lt.2.2.2⟩
  have S2 := (S1.inc (n + 1)).two (bl_alloc (Below.refl _ _) (.cells #[.int .i64 0, .int .i64 0, .int .i64 0, .int .i64 0, .int .i64 0, .int .i64 0, .int .i64 0, .int .i64 0] 96))
  have B2 : Two g bn w (((w.alloc (.cells #[.int .i64 gx, .int .i64 gy] 49)).setCell ⟨bn, 0, none⟩ (.int .i64 ((n + 1 : Nat) : Int))).alloc (.cells #[.int .i64 0, .int .i64 0, .int .i64 0, .int .i64 0, .int .i64 0, .int .i64 0, .int .i64 0, .int .i64 0] 96)) :=
    (((Two.refl g bn w).alloc _).setB 0 _).alloc _
  have P2 : (((w.alloc (.cells #[.int .i64 gx, .int .i64 gy] 49)).setCell ⟨bn, 0, none⟩ (.int .i64 ((n + 1 : Nat) : Int))).alloc (.cells #[.int .i64 0, .int .i64 0, .int .i64 0, .int .i64 0, .int .i64 0, .int .i64 0, .int .i64 0, .int .i64 0] 96)).heap[w.heap.size]? = some (.cells #[.int .i64 gx, .int .i64 gy] 49 (0, 0)) := by
    rw [(bl_alloc (Below.refl _ _) _).block w.heap.size (by simp), Below.heap_setCell _ _ _ _ (by simp; omega)]
    exact heap_alloc_new w _
  have Q2 : (((w.alloc (.cells #[.int .i64 gx, .int .i64 gy] 49)).setCell ⟨bn, 0, none⟩ (.int .i64 ((n + 1 : Nat) : Int))).alloc (.cells #[.int .i64 0, .int .i64 0, .int .i64 0, .int .i64 0, .int .i64 0, .int .i64 0, .int .i64 0, .int .i64 0] 96)).heap[w.heap.size + 1]? = some (.cells (gapA (crnX 2 0 1 gx gy) 0) 96 (0, 0)) := by
    have := heap_alloc_new ((w.alloc (.cells #[.int .i64 gx, .int .i64 gy] 49)).setCell ⟨bn, 0, none⟩ (.int .i64 ((n + 1 : Nat) : Int))) (.cells #[.int .i64 0, .int .i64 0, .int .i64 0, .int .i64 0, .int .i64 0, .int .i64 0, .int .i64 0, .int .i64 0] 96)
    have e : ((w.alloc (.cells #[.int .i64 gx, .int .i64 gy] 49)).setCell ⟨bn, 0, none⟩ (.int .i64 ((n + 1 : Nat) : Int))).heap.size = w.heap.size + 1 := by simp
    rw [e] at this
    exact this
  clear hbn
  have ecast : ((n + 1 : Nat) : Int) = (n : Int) + 1 := by simp
  rw [ecast] at B2 P2 Q2
  have S3 : CrnSt 4 c g bn bf bs bk lo F (n + 1) (((w.alloc (.cells #[.int .i64 gx, .int .i64 gy] 49)).setCell ⟨bn, 0, none⟩ (.int .i64 ((n : Int) + 1))).alloc (.cells #[.int .i64 0, .int .i64 0, .int .i64 0, .int .i64 0, .int .i64 0, .int .i64 0, .int .i64 0, .int .i64 0] 96)) := S2
  clear S S1 S2 ecast
  show Calls Try.prog 84 #[.int .i64 2, .int .i64 0, .int .i64 2, .agg #[.int .i64 gx, .int .i64 gy], .pointer (some ⟨bn, 0, none⟩), .pointer (some ⟨bf, 0, none⟩), .pointer (some ⟨bs, 0, none⟩), .pointer (some ⟨bk, 0, none⟩)] w _
  go_enter Try.func84, Try.ntmps84
  go_wp2
  generalize ((w.alloc (.cells #[.int .i64 gx, .int .i64 gy] 49)).setCell ⟨bn, 0, none⟩ (.int .i64 ((n : Int) + 1))).alloc (.cells #[.int .i64 0, .int .i64 0, .int .i64 0, .int .i64 0, .int .i64 0, .int .i64 0, .int .i64 0, .int .i64 0] 96) = w2 at *
  go_loopw [28] (fun i wr => ∃ q : Nat, q ≤ 4 ∧ i = .int .i64 q ∧ Lp1 4 2 0 1 c g bn bf bs bk lo gx gy n F w q wr) (fun i _ => 4 - (intOf i).toNat)
  case atStart => exact ⟨0, by omega, rfl, S3, P2, Q2, B2, HGW.out⟩
  case round =>
    clear S3 P2 Q2 B2
    obtain ⟨q, hq, rfl, H⟩ := hrel
    rcases (show q = 0 ∨ q = 1 ∨ q = 2 ∨ q = 3 ∨ q = 4 from by omega) with rfl | rfl | rfl | rfl | rfl
    · obtain ⟨⟨ov, k1⟩, k2⟩ := cells_of H.st.row H.st.len.out (j := 2) (by decide)
      have k3 := H.st.fl
      have k4 := H.st.sd
      have k5 := cell_of_row _ _ 0 _ _ _ H.box
      have k6 := cell_of_row _ _ 1 _ _ _ H.box
      have k7 := frozen_of_row _ _ 0 _ _ H.gaps
      have k8 := frozen_of_row _ _ 1 _ _ H.gaps
      obtain ⟨v9, k9⟩ : ∃ v, wr.cell? ⟨w.heap.size + 1, 0, none⟩ = some v := ⟨_, cell_of_row _ _ 0 _ _ _ H.gaps⟩
      obtain ⟨v10, k10⟩ : ∃ v, wr.cell? ⟨w.heap.size + 1, 1, none⟩ = some v := ⟨_, cell_of_row _ _ 1 _ _ _ H.gaps⟩
      have g2 := heap_ltC H.gaps
      have g3 := heap_ltC H.box
      have g4 : g < wr.heap.size := by have := H.lt; omega
      obtain ⟨g5, g6, g7, g8⟩ := H.st.lt
      have g9 : ¬ g = w.heap.size + 1 := by have := H.lt.1; omega
      have g10 : ¬ g = w.heap.size := by have := H.lt.1; omega
      have g11 : ¬ w.heap.size + 1 = g := by have := H.lt.1; omega
      obtain ⟨tx, hx⟩ : ∃ b, decide ((3 : Int) ≤ (gx : Int)) = b := ⟨_, rfl⟩
      obtain ⟨ty, hy⟩ : ∃ b, decide ((1 : Int) ≤ (gy : Int)) = b := ⟨_, rfl⟩
      cases tx <;> cases ty
      all_goals
        go_wp2
        first
          | exact ⟨⟨1, by omega, rfl, H.put (by omega) (by simp at hx hy; unfold crnIn; simp; omega) _⟩, by simp [intOf]⟩
          | exact ⟨⟨1, by omega, rfl, H.keep (by omega) (by simp at hx hy; unfold crnIn; simp; omega) _⟩, by simp [intOf]⟩
    · obtain ⟨⟨ov, k1⟩, k2⟩ := cells_of H.st.row H.st.len.out (j := 3) (by decide)
      have k3 := H.st.fl
      have k4 := H.st.sd
      have k5 := cell_of_row _ _ 0 _ _ _ H.box
      have k6 := cell_of_row _ _ 1 _ _ _ H.box
      have k7 := frozen_of_row _ _ 2 _ _ H.gaps
      have k8 := frozen_of_row _ _ 3 _ _ H.gaps
      obtain ⟨v9, k9⟩ : ∃ v, wr.cell? ⟨w.heap.size + 1, 2, none⟩ = some v := ⟨_, cell_of_row _ _ 2 _ _ _ H.gaps⟩
      obtain ⟨v10, k10⟩ : ∃ v, wr.cell? ⟨w.heap.size + 1, 3, none⟩ = some v := ⟨_, cell_of_row _ _ 3 _ _ _ H.gaps⟩
      have g2 := heap_ltC H.gaps
      have g3 := heap_ltC H.box
      have g4 : g < wr.heap.size := by have := H.lt; omega
      obtain ⟨g5, g6, g7, g8⟩ := H.st.lt
      have g9 : ¬ g = w.heap.size + 1 := by have := H.lt.1; omega
      have g10 : ¬ g = w.heap.size := by have := H.lt.1; omega
      have g11 : ¬ w.heap.size + 1 = g := by have := H.lt.1; omega
      obtain ⟨tx, hx⟩ : ∃ b, decide ((3 : Int) ≤ (gx : Int)) = b := ⟨_, rfl⟩
      obtain ⟨ty, hy⟩ : ∃ b, decide ((1 : Int) ≤ (gy : Int)) = b := ⟨_, rfl⟩
      cases tx <;> cases ty
      all_goals
        go_wp2
        first
          | exact ⟨⟨2, by omega, rfl, H.put (by omega) (by simp at hx hy; unfold crnIn; simp; omega) _⟩, by simp [intOf]⟩
          | exact ⟨⟨2, by omega, rfl, H.keep (by omega) (by simp at hx hy; unfold crnIn; simp; omega) _⟩, by simp [intOf]⟩
    · obtain ⟨⟨ov, k1⟩, k2⟩ := cells_of H.st.row H.st.len.out (j := 6) (by decide)
      have k3 := H.st.fl
      have k4 := H.st.sd
      have k5 := cell_of_row _ _ 0 _ _ _ H.box
      have k6 := cell_of_row _ _ 1 _ _ _ H.box
      have k7 := frozen_of_row _ _ 4 _ _ H.gaps
      have k8 := frozen_of_row _ _ 5 _ _ H.gaps
      obtain ⟨v9, k9⟩ : ∃ v, wr.cell? ⟨w.heap.size + 1, 4, none⟩ = some v := ⟨_, cell_of_row _ _ 4 _ _ _ H.gaps⟩
      obtain ⟨v10, k10⟩ : ∃ v, wr.cell? ⟨w.heap.size + 1, 5, none⟩ = some v := ⟨_, cell_of_row _ _ 5 _ _ _ H.gaps⟩
      have g2 := heap_ltC H.gaps
      have g3 := heap_ltC H.box
      have g4 : g < wr.heap.size := by have := H.lt; omega
      obtain ⟨g5, g6, g7, g8⟩ := H.st.lt
      have g9 : ¬ g = w.heap.size + 1 := by have := H.lt.1; omega
      have g10 : ¬ g = w.heap.size := by have := H.lt.1; omega
      have g11 : ¬ w.heap.size + 1 = g := by have := H.lt.1; omega
      obtain ⟨tx, hx⟩ : ∃ b, decide ((3 : Int) ≤ (gx : Int)) = b := ⟨_, rfl⟩
      obtain ⟨ty, hy⟩ : ∃ b, decide ((1 : Int) ≤ (gy : Int)) = b := ⟨_, rfl⟩
      cases tx <;> cases ty
      all_goals
        go_wp2
        first
          | exact ⟨⟨3, by omega, rfl, H.put (by omega) (by simp at hx hy; unfold crnIn; simp; omega) _⟩, by simp [intOf]⟩
          | exact ⟨⟨3, by omega, rfl, H.keep (by omega) (by simp at hx hy; unfold crnIn; simp; omega) _⟩, by simp [intOf]⟩
    · obtain ⟨⟨ov, k1⟩, k2⟩ := cells_of H.st.row H.st.len.out (j := 7) (by decide)
      have k3 := H.st.fl
      have k4 := H.st.sd
      have k5 := cell_of_row _ _ 0 _ _ _ H.box
      have k6 := cell_of_row _ _ 1 _ _ _ H.box
      have k7 := frozen_of_row _ _ 6 _ _ H.gaps
      have k8 := frozen_of_row _ _ 7 _ _ H.gaps
      obtain ⟨v9, k9⟩ : ∃ v, wr.cell? ⟨w.heap.size + 1, 6, none⟩ = some v := ⟨_, cell_of_row _ _ 6 _ _ _ H.gaps⟩
      obtain ⟨v10, k10⟩ : ∃ v, wr.cell? ⟨w.heap.size + 1, 7, none⟩ = some v := ⟨_, cell_of_row _ _ 7 _ _ _ H.gaps⟩
      have g2 := heap_ltC H.gaps
      have g3 := heap_ltC H.box
      have g4 : g < wr.heap.size := by have := H.lt; omega
      obtain ⟨g5, g6, g7, g8⟩ := H.st.lt
      have g9 : ¬ g = w.heap.size + 1 := by have := H.lt.1; omega
      have g10 : ¬ g = w.heap.size := by have := H.lt.1; omega
      have g11 : ¬ w.heap.size + 1 = g := by have := H.lt.1; omega
      obtain ⟨tx, hx⟩ : ∃ b, decide ((3 : Int) ≤ (gx : Int)) = b := ⟨_, rfl⟩
      obtain ⟨ty, hy⟩ : ∃ b, decide ((1 : Int) ≤ (gy : Int)) = b := ⟨_, rfl⟩
      cases tx <;> cases ty
      all_goals
        go_wp2
        first
          | exact ⟨⟨4, by omega, rfl, H.put (by omega) (by simp at hx hy; unfold crnIn; simp; omega) _⟩, by simp [intOf]⟩
          | exact ⟨⟨4, by omega, rfl, H.keep (by omega) (by simp at hx hy; unfold crnIn; simp; omega) _⟩, by simp [intOf]⟩
    · have hx0 := crnX_lt (side := 4) (x := 2) (y := 0) (h := 1) (q := 0) h3 h4 (by decide) (by decide)
      have hx1 := crnX_lt (side := 4) (x := 2) (y := 0) (h := 1) (q := 1) h3 h4 (by decide) (by decide)
      have hx2 := crnX_lt (side := 4) (x := 2) (y := 0) (h := 1) (q := 2) h3 h4 (by decide) (by decide)
      have hx3 := crnX_lt (side := 4) (x := 2) (y := 0) (h := 1) (q := 3) h3 h4 (by decide) (by decide)
      obtain ⟨hst, -, hgap, htwo, hlt⟩ := H
      have j0 := cell_of_row _ _ 0 _ _ _ hgap
      have j1 := cell_of_row _ _ 1 _ _ _ hgap
      have j2 := cell_of_row _ _ 2 _ _ _ hgap
      have j3 := cell_of_row _ _ 3 _ _ _ hgap
      have j4 := cell_of_row _ _ 4 _ _ _ hgap
      have j5 := cell_of_row _ _ 5 _ _ _ hgap
      have j6 := cell_of_row _ _ 6 _ _ _ hgap
      have j7 := cell_of_row _ _ 7 _ _ _ hgap
      obtain ⟨p0, hp0⟩ : ∃ p, crnX 2 0 1 gx gy 0 = p := ⟨_, rfl⟩
      rw [hp0] at hx0
      have j0' : wr.cell? ⟨w.heap.size + 1, 0, none⟩ = some (.int .i64 (p0.1 : Nat)) := by rw [← hp0]; exact j0
      have j1' : wr.cell? ⟨w.heap.size + 1, 1, none⟩ = some (.int .i64 (p0.2 : Nat)) := by rw [← hp0]; exact j1
      obtain ⟨a0, b0⟩ := p0
      have HG0 := Lib.hid hp0
      have C0 := Lib.hid (fun (z : World) (F' : List Int) (m : Nat) (S : CrnSt 4 c g bn bf bs bk lo F' m z) (hm : m + 5 ^ 0 ≤ 1000) =>
        (show Calls Try.prog 84 #[.int .i64 2, .int .i64 0, .int .i64 1, .agg #[.int .i64 a0, .int .i64 b0], .pointer (some ⟨bn, 0, none⟩), .pointer (some ⟨bf, 0, none⟩), .pointer (some ⟨bs, 0, none⟩), .pointer (some ⟨bk, 0, none⟩)] z _ from (crn_zero 4 c g bn bf bs bk lo 2 0) z F' m a0 b0 S hx0.1 hx0.2 hm))
      clear hp0 j0 j1 hx0
      obtain ⟨p1, hp1⟩ : ∃ p, crnX 2 0 1 gx gy 1 = p := ⟨_, rfl⟩
      rw [hp1] at hx1
      have j2' : wr.cell? ⟨w.heap.size + 1, 2, none⟩ = some (.int .i64 (p1.1 : Nat)) := by rw [← hp1]; exact j2
      have j3' : wr.cell? ⟨w.heap.size + 1, 3, none⟩ = some (.int .i64 (p1.2 : Nat)) := by rw [← hp1]; exact j3
      obtain ⟨a1, b1⟩ := p1
      have HG1 := Lib.hid hp1
      have C1 := Lib.hid (fun (z : World) (F' : List Int) (m : Nat) (S : CrnSt 4 c g bn bf bs bk lo F' m z) (hm : m + 5 ^ 0 ≤ 1000) =>
        (show Calls Try.prog 84 #[.int .i64 3, .int .i64 0, .int .i64 1, .agg #[.int .i64 a1, .int .i64 b1], .pointer (some ⟨bn, 0, none⟩), .pointer (some ⟨bf, 0, none⟩), .pointer (some ⟨bs, 0, none⟩), .pointer (some ⟨bk, 0, none⟩)] z _ from (crn_zero 4 c g bn bf bs bk lo 3 0) z F' m a1 b1 S hx1.1 hx1.2 hm))
      clear hp1 j2 j3 hx1
      obtain ⟨p2, hp2⟩ : ∃ p, crnX 2 0 1 gx gy 2 = p := ⟨_, rfl⟩
      rw [hp2] at hx2
      have j4' : wr.cell? ⟨w.heap.size + 1, 4, none⟩ = some (.int .i64 (p2.1 : Nat)) := by rw [← hp2]; exact j4
      have j5' : wr.cell? ⟨w.heap.size + 1, 5, none⟩ = some (.int .i64 (p2.2 : Nat)) := by rw [← hp2]; exact j5
      obtain ⟨a2, b2⟩ := p2
      have HG2 := Lib.hid hp2
      have C2 := Lib.hid (fun (z : World) (F' : List Int) (m : Nat) (S : CrnSt 4 c g bn bf bs bk lo F' m z) (hm : m + 5 ^ 0 ≤ 1000) =>
        (show Calls Try.prog 84 #[.int .i64 2, .int .i64 1, .int .i64 1, .agg #[.int .i64 a2, .int .i64 b2], .pointer (some ⟨bn, 0, none⟩), .pointer (some ⟨bf, 0, none⟩), .pointer (some ⟨bs, 0, none⟩), .pointer (some ⟨bk, 0, none⟩)] z _ from (crn_zero 4 c g bn bf bs bk lo 2 1) z F' m a2 b2 S hx2.1 hx2.2 hm))
      clear hp2 j4 j5 hx2
      obtain ⟨p3, hp3⟩ : ∃ p, crnX 2 0 1 gx gy 3 = p := ⟨_, rfl⟩
      rw [hp3] at hx3
      have j6' : wr.cell? ⟨w.heap.size + 1, 6, none⟩ = some (.int .i64 (p3.1 : Nat)) := by rw [← hp3]; exact j6
      have j7' : wr.cell? ⟨w.heap.size + 1, 7, none⟩ = some (.int .i64 (p3.2 : Nat)) := by rw [← hp3]; exact j7
      obtain ⟨a3, b3⟩ := p3
      have HG3 := Lib.hid hp3
      have C3 := Lib.hid (fun (z : World) (F' : List Int) (m : Nat) (S : CrnSt 4 c g bn bf bs bk lo F' m z) (hm : m + 5 ^ 0 ≤ 1000) =>
        (show Calls Try.prog 84 #[.int .i64 3, .int .i64 1, .int .i64 1, .agg #[.int .i64 a3, .int .i64 b3], .pointer (some ⟨bn, 0, none⟩), .pointer (some ⟨bf, 0, none⟩), .pointer (some ⟨bs, 0, none⟩), .pointer (some ⟨bk, 0, none⟩)] z _ from (crn_zero 4 c g bn bf bs bk lo 3 1) z F' m a3 b3 S hx3.1 hx3.2 hm))
      clear hp3 j6 j7 hx3
      simp only at j0' j1' j2' j3' j4' j5' j6' j7'
      have hL2 : Lp2 4 0 2 0 c g bn bf bs bk lo gx gy (crnL 4 2 0 1 gx gy n F 4, (n : Int) + 1) (n + 1) w 0 wr := ⟨n + 1, rfl, by omega, hst, htwo⟩
      clear hst hgap htwo c0 f0
      rw [show ((4 : Nat) : Int) = 4 from rfl]
      go_wp2
      go_loopw [86] (fun i w6 => ∃ q : Nat, q ≤ 4 ∧ i = .int .i64 q ∧ Lp2 4 0 2 0 c g bn bf bs bk lo gx gy (crnL 4 2 0 1 gx gy n F 4, (n : Int) + 1) (n + 1) w q w6) (fun i _ => 4 - (intOf i).toNat)
      case atStart => exact ⟨0, by omega, rfl, hL2⟩
      case round =>
      clear hL2 j0' j1' j2' j3' j4' j5' j6' j7'
      obtain ⟨q, hq, rfl, H2⟩ := hrel
      have z1 : (5 : Nat) ^ 1 = 5 * 5 ^ 0 := by decide
      have z2 : 1 ≤ (5 : Nat) ^ 0 := by decide
      have z3 : (5 : Nat) ^ 0 = 1 := by decide
      rw [z3] at z1 z2 h6
      rcases (show q = 0 ∨ q = 1 ∨ q = 2 ∨ q = 3 ∨ q = 4 from by omega) with rfl | rfl | rfl | rfl | rfl
      · obtain ⟨m, hm, hle, S3, B3⟩ := H2
        have hle' : m + 5 ^ 0 ≤ 1000 := by omega
        have k1 := S3.wk
        have S4 := S3.two (bl_alloc (Below.refl _ _) (.cells #[.int .i64 a0, .int .i64 b0] 49))
        have B4 := B3.alloc (.cells #[.int .i64 a0, .int .i64 b0] 49)
        have iq : ∀ z, (Instr.index 96 (.agg #[.int .i64 a0, .int .i64 b0, .int .i64 a1, .int .i64 b1, .int .i64 a2, .int .i64 b2, .int .i64 a3, .int .i64 b3]) (.int .i64 0)).run Try.prog z = .ok (.agg #[.int .i64 a0, .int .i64 b0]) z := fun _ => by kernel_rfl
        have k2 := S3.lt.2.2.2
        go_wp2_with fail
        refine (C0.out _ _ _ S4 hle').mono ?_
        rintro e w5 ⟨rfl, hpost⟩
        go_wp2_with fail
        go_roundw
        case rel => exact ⟨1, by omega, rfl, Lp2.next (X := 2) (Y := 0) rfl rfl HG0 hm hle B4 hpost⟩
        case measure => simp [intOf]
      · obtain ⟨m, hm, hle, S3, B3⟩ := H2
        have hle' : m + 5 ^ 0 ≤ 1000 := by omega
        have k1 := S3.wk
        have S4 := S3.two (bl_alloc (Below.refl _ _) (.cells #[.int .i64 a1, .int .i64 b1] 49))
        have B4 := B3.alloc (.cells #[.int .i64 a1, .int .i64 b1] 49)
        have iq : ∀ z, (Instr.index 96 (.agg #[.int .i64 a0, .int .i64 b0, .int .i64 a1, .int .i64 b1, .int .i64 a2, .int .i64 b2, .int .i64 a3, .int .i64 b3]) (.int .i64 1)).run Try.prog z = .ok (.agg #[.int .i64 a1, .int .i64 b1]) z := fun _ => by kernel_rfl
        have k2 := S3.lt.2.2.2
        go_wp2_with fail
        refine (C1.out _ _ _ S4 hle').mono ?_
        rintro e w5 ⟨rfl, hpost⟩
        go_wp2_with fail
        go_roundw
        case rel => exact ⟨2, by omega, rfl, Lp2.next (X := 3) (Y := 0) rfl rfl HG1 hm hle B4 hpost⟩
        case measure => simp [intOf]
      · obtain ⟨m, hm, hle, S3, B3⟩ := H2
        have hle' : m + 5 ^ 0 ≤ 1000 := by omega
        have k1 := S3.wk
        have S4 := S3.two (bl_alloc (Below.refl _ _) (.cells #[.int .i64 a2, .int .i64 b2] 49))
        have B4 := B3.alloc (.cells #[.int .i64 a2, .int .i64 b2] 49)
        have iq : ∀ z, (Instr.index 96 (.agg #[.int .i64 a0, .int .i64 b0, .int .i64 a1, .int .i64 b1, .int .i64 a2, .int .i64 b2, .int .i64 a3, .int .i64 b3]) (.int .i64 2)).run Try.prog z = .ok (.agg #[.int .i64 a2, .int .i64 b2]) z := fun _ => by kernel_rfl
        have k2 := S3.lt.2.2.2
        go_wp2_with fail
        refine (C2.out _ _ _ S4 hle').mono ?_
        rintro e w5 ⟨rfl, hpost⟩
        go_wp2_with fail
        go_roundw
        case rel => exact ⟨3, by omega, rfl, Lp2.next (X := 2) (Y := 1) rfl rfl HG2 hm hle B4 hpost⟩
        case measure => simp [intOf]
      · obtain ⟨m, hm, hle, S3, B3⟩ := H2
        have hle' : m + 5 ^ 0 ≤ 1000 := by omega
        have k1 := S3.wk
        have S4 := S3.two (bl_alloc (Below.refl _ _) (.cells #[.int .i64 a3, .int .i64 b3] 49))
        have B4 := B3.alloc (.cells #[.int .i64 a3, .int .i64 b3] 49)
        have iq : ∀ z, (Instr.index 96 (.agg #[.int .i64 a0, .int .i64 b0, .int .i64 a1, .int .i64 b1, .int .i64 a2, .int .i64 b2, .int .i64 a3, .int .i64 b3]) (.int .i64 3)).run Try.prog z = .ok (.agg #[.int .i64 a3, .int .i64 b3]) z := fun _ => by kernel_rfl
        have k2 := S3.lt.2.2.2
        go_wp2_with fail
        refine (C3.out _ _ _ S4 hle').mono ?_
        rintro e w5 ⟨rfl, hpost⟩
        go_wp2_with fail
        go_roundw
        case rel => exact ⟨4, by omega, rfl, Lp2.next (X := 3) (Y := 1) rfl rfl HG3 hm hle B4 hpost⟩
        case measure => simp [intOf]
      · obtain ⟨m, hm, hle, S3, B3⟩ := H2
        go_wp2
        go_end0
        exact ⟨rfl, ⟨m, rfl, by omega, S3⟩, B3⟩
set_option maxRecDepth 100000 in
set_option maxHeartbeats 4000000 in
theorem crn_4_1_0_2 (c g bn bf bs bk lo : Nat) : CrnOk 4 c g bn bf bs bk lo 1 0 2 := by
  intro w F n gx gy S h3 h4 h5
  have h6 : n + 1 + 4 * 5 ^ 0 ≤ 1000 := by
    have : (5 : Nat) ^ 1 = 5 * 5 ^ 0 := by decide
    have : 1 ≤ 5 ^ 0 := by decide
    omega
  rw [crnI_eq]
  have S1 := S.two (bl_alloc (Below.refl w.heap.size w) (.cells #[.int .i64 gx, .int .i64 gy] 49))
  have c0 := cell_of_row _ _ 0 _ _ _ S1.nx
  have f0 := frozen_of_row _ _ 0 _ _ S1.nx
  have hbn : bn < w.heap.size := heap_ltC S.nx
  have HGW : Hid (g < w.heap.size ∧ bn < w.heap.size ∧ bs < w.heap.size ∧ bf < w.heap.size ∧ bk < w.heap.size) := by
    obtain ⟨⟨ov, k1⟩, -⟩ := cells_of S.row S.len.out (j := 0) (by decide)
    exact ⟨by have := World.block_lt_of_cell? w _ k1; simpa using this, hbn, S.lt.1, S.lt.2.1, S.lt.2.2.2⟩
  have S2 := (S1.inc (n + 1)).two (bl_alloc (Below.refl _ _) (.cells #[.int .i64 0, .int .i64 0, .int .i64 0, .int .i64 0, .int .i64 0, .int .i64 0, .int .i64 0, .int .i64 0] 96))
  have B2 : Two g bn w (((w.alloc (.cells #[.int .i64 gx, .int .i64 gy] 49)).setCell ⟨bn, 0, none⟩ (.int .i64 ((n + 1 : Nat) : Int))).alloc (.cells #[.int .i64 0, .int .i64 0, .int .i64 0, .int .i64 0, .int .i64 0, .int .i64 0, .int .i64 0, .int .i64 0] 96)) :=
    (((Two.refl g bn w).alloc _).setB 0 _).alloc _
  have P2 : (((w.alloc (.cells #[.int .i64 gx, .int .i64 gy] 49)).setCell ⟨bn, 0, none⟩ (.int .i64 ((n + 1 : Nat) : Int))).alloc (.cells #[.int .i64 0, .int .i64 0, .int .i64 0, .int .i64 0, .int .i64 0, .int .i64 0, .int .i64 0, .int .i64 0] 96)).heap[w.heap.size]? = some (.cells #[.int .i64 gx, .int .i64 gy] 49 (0, 0)) := by
    rw [(bl_alloc (Below.refl _ _) _).block w.heap.size (by simp), Below.heap_setCell _ _ _ _ (by simp; omega)]
    exact heap_alloc_new w _
  have Q2 : (((w.alloc (.cells #[.int .i64 gx, .int .i64 gy] 49)).setCell ⟨bn, 0, none⟩ (.int .i64 ((n + 1 : Nat) : Int))).alloc (.cells #[.int .i64 0, .int .i64 0, .int .i64 0, .int .i64 0, .int .i64 0, .int .i64 0, .int .i64 0, .int .i64 0] 96)).heap[w.heap.size + 1]? = some (.cells (gapA (crnX 0 2 1 gx gy) 0) 96 (0, 0)) := by
    have := heap_alloc_new ((w.alloc (.cells #[.int .i64 gx, .int .i64 gy] 49)).setCell ⟨bn, 0, none⟩ (.int .i64 ((n + 1 : Nat) : Int))) (.cells #[.int .i64 0, .int .i64 0, .int .i64 0, .int .i64 0, .int .i64 0, .int .i64 0, .int .i64 0, .int .i64 0] 96)
    have e : ((w.alloc (.cells #[.int .i64 gx, .int .i64 gy] 49)).setCell ⟨bn, 0, none⟩ (.int .i64 ((n + 1 : Nat) : Int))).heap.size = w.heap.size + 1 := by simp
    rw [e] at this
    exact this
  clear hbn
  have ecast : ((n + 1 : Nat) : Int) = (n : Int) + 1 := by simp
  rw [ecast] at B2 P2 Q2
  have S3 : CrnSt 4 c g bn bf bs bk lo F (n + 1) (((w.alloc (.cells #[.int .i64 gx, .int .i64 gy] 49)).setCell ⟨bn, 0, none⟩ (.int .i64 ((n : Int) + 1))).alloc (.cells #[.int .i64 0, .int .i64 0, .int .i64 0, .int .i64 0, .int .i64 0, .int .i64 0, .int .i64 0, .int .i64 0] 96)) := S2
  clear S S1 S2 ecast
  show Calls Try.prog 84 #[.int .i64 0, .int .i64 2, .int .i64 2, .agg #[.int .i64 gx, .int .i64 gy], .pointer (some ⟨bn, 0, none⟩), .pointer (some ⟨bf, 0, none⟩), .pointer (some ⟨bs, 0, none⟩), .pointer (some ⟨bk, 0, none⟩)] w _
  go_enter Try.func84, Try.ntmps84
  go_wp2
  generalize ((w.alloc (.cells #[.int .i64 gx, .int .i64 gy] 49)).setCell ⟨bn, 0, none⟩ (.int .i64 ((n : Int) + 1))).alloc (.cells #[.int .i64 0, .int .i64 0, .int .i64 0, .int .i64 0, .int .i64 0, .int .i64 0, .int .i64 0, .int .i64 0] 96) = w2 at *
  go_loopw [28] (fun i wr => ∃ q : Nat, q ≤ 4 ∧ i = .int .i64 q ∧ Lp1 4 0 2 1 c g bn bf bs bk lo gx gy n F w q wr) (fun i _ => 4 - (intOf i).toNat)
  case atStart => exact ⟨0, by omega, rfl, S3, P2, Q2, B2, HGW.out⟩
  case round =>
    clear S3 P2 Q2 B2
    obtain ⟨q, hq, rfl, H⟩ := hrel
    rcases (show q = 0 ∨ q = 1 ∨ q = 2 ∨ q = 3 ∨ q = 4 from by omega) with rfl | rfl | rfl | rfl | rfl
    · obtain ⟨⟨ov, k1⟩, k2⟩ := cells_of H.st.row H.st.len.out (j := 8) (by decide)
      have k3 := H.st.fl
      have k4 := H.st.sd
      have k5 := cell_of_row _ _ 0 _ _ _ H.box
      have k6 := cell_of_row _ _ 1 _ _ _ H.box
      have k7 := frozen_of_row _ _ 0 _ _ H.gaps
      have k8 := frozen_of_row _ _ 1 _ _ H.gaps
      obtain ⟨v9, k9⟩ : ∃ v, wr.cell? ⟨w.heap.size + 1, 0, none⟩ = some v := ⟨_, cell_of_row _ _ 0 _ _ _ H.gaps⟩
      obtain ⟨v10, k10⟩ : ∃ v, wr.cell? ⟨w.heap.size + 1, 1, none⟩ = some v := ⟨_, cell_of_row _ _ 1 _ _ _ H.gaps⟩
      have g2 := heap_ltC H.gaps
      have g3 := heap_ltC H.box
      have g4 : g < wr.heap.size := by have := H.lt; omega
      obtain ⟨g5, g6, g7, g8⟩ := H.st.lt
      have g9 : ¬ g = w.heap.size + 1 := by have := H.lt.1; omega
      have g10 : ¬ g = w.heap.size := by have := H.lt.1; omega
      have g11 : ¬ w.heap.size + 1 = g := by have := H.lt.1; omega
      obtain ⟨tx, hx⟩ : ∃ b, decide ((1 : Int) ≤ (gx : Int)) = b := ⟨_, rfl⟩
      obtain ⟨ty, hy⟩ : ∃ b, decide ((3 : Int) ≤ (gy : Int)) = b := ⟨_, rfl⟩
      cases tx <;> cases ty
      all_goals
        go_wp2
        first
          | exact ⟨⟨1, by omega, rfl, H.put (by omega) (by simp at hx hy; unfold crnIn; simp; omega) _⟩, by simp [intOf]⟩
          | exact ⟨⟨1, by omega, rfl, H.keep (by omega) (by simp at hx hy; unfold crnIn; simp; omega) _⟩, by simp [intOf]⟩
    · obtain ⟨⟨ov, k1⟩, k2⟩ := cells_of H.st.row H.st.len.out (j := 9) (by decide)
      have k3 := H.st.fl
      have k4 := H.st.sd
      have k5 := cell_of_row _ _ 0 _ _ _ H.box
      have k6 := cell_of_row _ _ 1 _ _ _ H.box
      have k7 := frozen_of_row _ _ 2 _ _ H.gaps
      have k8 := frozen_of_row _ _ 3 _ _ H.gaps
      obtain ⟨v9, k9⟩ : ∃ v, wr.cell? ⟨w.heap.size + 1, 2, none⟩ = some v := ⟨_, cell_of_row _ _ 2 _ _ _ H.gaps⟩
      obtain ⟨v10, k10⟩ : ∃ v, wr.cell? ⟨w.heap.size + 1, 3, none⟩ = some v := ⟨_, cell_of_row _ _ 3 _ _ _ H.gaps⟩
      have g2 := heap_ltC H.gaps
      have g3 := heap_ltC H.box
      have g4 : g < wr.heap.size := by have := H.lt; omega
      obtain ⟨g5, g6, g7, g8⟩ := H.st.lt
      have g9 : ¬ g = w.heap.size + 1 := by have := H.lt.1; omega
      have g10 : ¬ g = w.heap.size := by have := H.lt.1; omega
      have g11 : ¬ w.heap.size + 1 = g := by have := H.lt.1; omega
      obtain ⟨tx, hx⟩ : ∃ b, decide ((1 : Int) ≤ (gx : Int)) = b := ⟨_, rfl⟩
      obtain ⟨ty, hy⟩ : ∃ b, decide ((3 : Int) ≤ (gy : Int)) = b := ⟨_, rfl⟩
      cases tx <;> cases ty
      all_goals
        go_wp2
        first
          | exact ⟨⟨2, by omega, rfl, H.put (by omega) (by simp at hx hy; unfold crnIn; simp; omega) _⟩, by simp [intOf]⟩
          | exact ⟨⟨2, by omega, rfl, H.keep (by omega) (by simp at hx hy; unfold crnIn; simp; omega) _⟩, by simp [intOf]⟩
    · obtain ⟨⟨ov, k1⟩, k2⟩ := cells_of H.st.row H.st.len.out (j := 12) (by decide)
      have k3 := H.st.fl
      have k4 := H.st.sd
      have k5 := cell_of_row _ _ 0 _ _ _ H.box
      have k6 := cell_of_row _ _ 1 _ _ _ H.box
      have k7 := frozen_of_row _ _ 4 _ _ H.gaps
      have k8 := frozen_of_row _ _ 5 _ _ H.gaps
      obtain ⟨v9, k9⟩ : ∃ v, wr.cell? ⟨w.heap.size + 1, 4, none⟩ = some v := ⟨_, cell_of_row _ _ 4 _ _ _ H.gaps⟩
      obtain ⟨v10, k10⟩ : ∃ v, wr.cell? ⟨w.heap.size + 1, 5, none⟩ = some v := ⟨_, cell_of_row _ _ 5 _ _ _ H.gaps⟩
      have g2 := heap_ltC H.gaps
      have g3 := heap_ltC H.box
      have g4 : g < wr.heap.size := by have := H.lt; omega
      obtain ⟨g5, g6, g7, g8⟩ := H.st.lt
      have g9 : ¬ g = w.heap.size + 1 := by have := H.lt.1; omega
      have g10 : ¬ g = w.heap.size := by have := H.lt.1; omega
      have g11 : ¬ w.heap.size + 1 = g := by have := H.lt.1; omega
      obtain ⟨tx, hx⟩ : ∃ b, decide ((1 : Int) ≤ (gx : Int)) = b := ⟨_, rfl⟩
      obtain ⟨ty, hy⟩ : ∃ b, decide ((3 : Int) ≤ (gy : Int)) = b := ⟨_, rfl⟩
      cases tx <;> cases ty
      all_goals
        go_wp2
        first
          | exact ⟨⟨3, by omega, rfl, H.put (by omega) (by simp at hx hy; unfold crnIn; simp; omega) _⟩, by simp [intOf]⟩
          | exact ⟨⟨3, by omega, rfl, H.keep (by omega) (by simp at hx hy; unfold crnIn; simp; omega) _⟩, by simp [intOf]⟩
    · obtain ⟨⟨ov, k1⟩, k2⟩ := cells_of H.st.row H.st.len.out (j := 13) (by decide)
      have k3 := H.st.fl
      have k4 := H.st.sd
      have k5 := cell_of_row _ _ 0 _ _ _ H.box
      have k6 := cell_of_row _ _ 1 _ _ _ H.box
      have k7 := frozen_of_row _ _ 6 _ _ H.gaps
      have k8 := frozen_of_row _ _ 7 _ _ H.gaps
      obtain ⟨v9, k9⟩ : ∃ v, wr.cell? ⟨w.heap.size + 1, 6, none⟩ = some v := ⟨_, cell_of_row _ _ 6 _ _ _ H.gaps⟩
      obtain ⟨v10, k10⟩ : ∃ v, wr.cell? ⟨w.heap.size + 1, 7, none⟩ = some v := ⟨_, cell_of_row _ _ 7 _ _ _ H.gaps⟩
      have g2 := heap_ltC H.gaps
      have g3 := heap_ltC H.box
      have g4 : g < wr.heap.size := by have := H.lt; omega
      obtain ⟨g5, g6, g7, g8⟩ := H.st.lt
      have g9 : ¬ g = w.heap.size + 1 := by have := H.lt.1; omega
      have g10 : ¬ g = w.heap.size := by have := H.lt.1; omega
      have g11 : ¬ w.heap.size + 1 = g := by have := H.lt.1; omega
      obtain ⟨tx, hx⟩ : ∃ b, decide ((1 : Int) ≤ (gx : Int)) = b := ⟨_, rfl⟩
      obtain ⟨ty, hy⟩ : ∃ b, decide ((3 : Int) ≤ (gy : Int)) = b := ⟨_, rfl⟩
      cases tx <;> cases ty
      all_goals
        go_wp2
        first
          | exact ⟨⟨4, by omega, rfl, H.put (by omega) (by simp at hx hy; unfold crnIn; simp; omega) _⟩, by simp [intOf]⟩
          | exact ⟨⟨4, by omega, rfl, H.keep (by omega) (by simp at hx hy; unfold crnIn; simp; omega) _⟩, by simp [intOf]⟩
    · have hx0 := crnX_lt (side := 4) (x := 0) (y := 2) (h := 1) (q := 0) h3 h4 (by decide) (by decide)
      have hx1 := crnX_lt (side := 4) (x := 0) (y := 2) (h := 1) (q := 1) h3 h4 (by decide) (by decide)
      have hx2 := crnX_lt (side := 4) (x := 0) (y := 2) (h := 1) (q := 2) h3 h4 (by decide) (by decide)
      have hx3 := crnX_lt (side := 4) (x := 0) (y := 2) (h := 1) (q := 3) h3 h4 (by decide) (by decide)
      obtain ⟨hst, -, hgap, htwo, hlt⟩ := H
      have j0 := cell_of_row _ _ 0 _ _ _ hgap
      have j1 := cell_of_row _ _ 1 _ _ _ hgap
      have j2 := cell_of_row _ _ 2 _ _ _ hgap
      have j3 := cell_of_row _ _ 3 _ _ _ hgap
      have j4 := cell_of_row _ _ 4 _ _ _ hgap
      have j5 := cell_of_row _ _ 5 _ _ _ hgap
      have j6 := cell_of_row _ _ 6 _ _ _ hgap
      have j7 := cell_of_row _ _ 7 _ _ _ hgap
      obtain ⟨p0, hp0⟩ : ∃ p, crnX 0 2 1 gx gy 0 = p := ⟨_, rfl⟩
      rw [hp0] at hx0
      have j0' : wr.cell? ⟨w.heap.size + 1, 0, none⟩ = some (.int .i64 (p0.1 : Nat)) := by rw [← hp0]; exact j0
      have j1' : wr.cell? ⟨w.heap.size + 1, 1, none⟩ = some (.int .i64 (p0.2 : Nat)) := by rw [← hp0]; exact j1
      obtain ⟨a0, b0⟩ := p0
      have HG0 := Lib.hid hp0
      have C0 := Lib.hid (fun (z : World) (F' : List Int) (m : Nat) (S : CrnSt 4 c g bn bf bs bk lo F' m z) (hm : m + 5 ^ 0 ≤ 1000) =>
        (show Calls Try.prog 84 #[.int .i64 0, .int .i64 2, .int .i64 1, .agg #[.int .i64 a0, .int .i64 b0], .pointer (some ⟨bn, 0, none⟩), .pointer (some ⟨bf, 0, none⟩), .pointer (some ⟨bs, 0, none⟩), .pointer (some ⟨bk, 0, none⟩)] z _ from (crn_zero 4 c g bn bf bs bk lo 0 2) z F' m a0 b0 S hx0.1 hx0.2 hm))
      clear hp0 j0 j1 hx0
      obtain ⟨p1, hp1⟩ : ∃ p, crnX 0 2 1 gx gy 1 = p := ⟨_, rfl⟩
      rw [hp1] at hx1
      have j2' : wr.cell? ⟨w.heap.size + 1, 2, none⟩ = some (.int .i64 (p1.1 : Nat)) := by rw [← hp1]; exact j2
      have j3' : wr.cell? ⟨w.heap.size + 1, 3, none⟩ = some (.int .i64 (p1.2 : Nat)) := by rw [← hp1]; exact j3
      obtain ⟨a1, b1⟩ := p1
      have HG1 := Lib.hid hp1
      have C1 := Lib.hid (fun (z : World) (F' : List Int) (m : Nat) (S : CrnSt 4 c g bn bf bs bk lo F' m z) (hm : m + 5 ^ 0 ≤ 1000) =>
        (show Calls Try.prog 84 #[.int .i64 1, .int .i64 2, .int .i64 1, .agg #[.int .i64 a1, .int .i64 b1], .pointer (some ⟨bn, 0, none⟩), .pointer (some ⟨bf, 0, none⟩), .pointer (some ⟨bs, 0, none⟩), .pointer (some ⟨bk, 0, none⟩)] z _ from (crn_zero 4 c g bn bf bs bk lo 1 2) z F' m a1 b1 S hx1.1 hx1.2 hm))
      clear hp1 j2 j3 hx1
      obtain ⟨p2, hp2⟩ : ∃ p, crnX 0 2 1 gx gy 2 = p := ⟨_, rfl⟩
      rw [hp2] at hx2
      have j4' : wr.cell? ⟨w.heap.size + 1, 4, none⟩ = some (.int .i64 (p2.1 : Nat)) := by rw [← hp2]; exact j4
      have j5' : wr.cell? ⟨w.heap.size + 1, 5, none⟩ = some (.int .i64 (p2.2 : Nat)) := by rw [← hp2]; exact j5
      obtain ⟨a2, b2⟩ := p2
      have HG2 := Lib.hid hp2
      have C2 := Lib.hid (fun (z : World) (F' : List Int) (m : Nat) (S : CrnSt 4 c g bn bf bs bk lo F' m z) (hm : m + 5 ^ 0 ≤ 1000) =>
        (show Calls Try.prog 84 #[.int .i64 0, .int .i64 3, .int .i64 1, .agg #[.int .i64 a2, .int .i64 b2], .pointer (some ⟨bn, 0, none⟩), .pointer (some ⟨bf, 0, none⟩), .pointer (some ⟨bs, 0, none⟩), .pointer (some ⟨bk, 0, none⟩)] z _ from (crn_zero 4 c g bn bf bs bk lo 0 3) z F' m a2 b2 S hx2.1 hx2.2 hm))
      clear hp2 j4 j5 hx2
      obtain ⟨p3, hp3⟩ : ∃ p, crnX 0 2 1 gx gy 3 = p := ⟨_, rfl⟩
      rw [hp3] at hx3
      have j6' : wr.cell? ⟨w.heap.size + 1, 6, none⟩ = some (.int .i64 (p3.1 : Nat)) := by rw [← hp3]; exact j6
      have j7' : wr.cell? ⟨w.heap.size + 1, 7, none⟩ = some (.int .i64 (p3.2 : Nat)) := by rw [← hp3]; exact j7
      obtain ⟨a3, b3⟩ := p3
      have HG3 := Lib.hid hp3
      have C3 := Lib.hid (fun (z : World) (F' : List Int) (m : Nat) (S : CrnSt 4 c g bn bf bs bk lo F' m z) (hm : m + 5 ^ 0 ≤ 1000) =>
        (show Calls Try.prog 84 #[.int .i64 1, .int .i64 3, .int .i64 1, .agg #[.int .i64 a3, .int .i64 b3], .pointer (some ⟨bn, 0, none⟩), .pointer (some ⟨bf, 0, none⟩), .pointer (some ⟨bs, 0, none⟩), .pointer (some ⟨bk, 0, none⟩)] z _ from (crn_zero 4 c g bn bf bs bk lo 1 3) z F' m a3 b3 S hx3.1 hx3.2 hm))
      clear hp3 j6 j7 hx3
      simp only at j0' j1' j2' j3' j4' j5' j6' j7'
      have hL2 : Lp2 4 0 0 2 c g bn bf bs bk lo gx gy (crnL 4 0 2 1 gx gy n F 4, (n : Int) + 1) (n + 1) w 0 wr := ⟨n + 1, rfl, by omega, hst, htwo⟩
      clear hst hgap htwo c0 f0
      rw [show ((4 : Nat) : Int) = 4 from rfl]
      go_wp2
      go_loopw [86] (fun i w6 => ∃ q : Nat, q ≤ 4 ∧ i = .int .i64 q ∧ Lp2 4 0 0 2 c g bn bf bs bk lo gx gy (crnL 4 0 2 1 gx gy n F 4, (n : Int) + 1) (n + 1) w q w6) (fun i _ => 4 - (intOf i).toNat)
      case atStart => exact ⟨0, by omega, rfl, hL2⟩
      case round =>
      clear hL2 j0' j1' j2' j3' j4' j5' j6' j7'
      obtain ⟨q, hq, rfl, H2⟩ := hrel
      have z1 : (5 : Nat) ^ 1 = 5 * 5 ^ 0 := by decide
      have z2 : 1 ≤ (5 : Nat) ^ 0 := by decide
      have z3 : (5 : Nat) ^ 0 = 1 := by decide
      rw [z3] at z1 z2 h6
      rcases (show q = 0 ∨ q = 1 ∨ q = 2 ∨ q = 3 ∨ q = 4 from by omega) with rfl | rfl | rfl | rfl | rfl
      · obtain ⟨m, hm, hle, S3, B3⟩ := H2
        have hle' : m + 5 ^ 0 ≤ 1000 := by omega
        have k1 := S3.wk
        have S4 := S3.two (bl_alloc (Below.refl _ _) (.cells #[.int .i64 a0, .int .i64 b0] 49))
        have B4 := B3.alloc (.cells #[.int .i64 a0, .int .i64 b0] 49)
        have iq : ∀ z, (Instr.index 96 (.agg #[.int .i64 a0, .int .i64 b0, .int .i64 a1, .int .i64 b1, .int .i64 a2, .int .i64 b2, .int .i64 a3, .int .i64 b3]) (.int .i64 0)).run Try.prog z = .ok (.agg #[.int .i64 a0, .int .i64 b0]) z := fun _ => by kernel_rfl
        have k2 := S3.lt.2.2.2
        go_wp2_with fail
        refine (C0.out _ _ _ S4 hle').mono ?_
        rintro e w5 ⟨rfl, hpost⟩
        go_wp2_with fail
        go_roundw
        case rel => exact ⟨1, by omega, rfl, Lp2.next (X := 0) (Y := 2) rfl rfl HG0 hm hle B4 hpost⟩
        case measure => simp [intOf]
      · obtain ⟨m, hm, hle, S3, B3⟩ := H2
        have hle' : m + 5 ^ 0 ≤ 1000 := by omega
        have k1 := S3.wk
        have S4 := S3.two (bl_alloc (Below.refl _ _) (.cells #[.int .i64 a1, .int .i64 b1] 49))
        have B4 := B3.alloc (.cells #[.int .i64 a1, .int .i64 b1] 49)
        have iq : ∀ z, (Instr.index 96 (.agg #[.int .i64 a0, .int .i64 b0, .int .i64 a1, .int .i64 b1, .int .i64 a2, .int .i64 b2, .int .i64 a3, .int .i64 b3]) (.int .i64 1)).run Try.prog z = .ok (.agg #[.int .i64 a1, .int .i64 b1]) z := fun _ => by kernel_rfl
        have k2 := S3.lt.2.2.2
        go_wp2_with fail
        refine (C1.out _ _ _ S4 hle').mono ?_
        rintro e w5 ⟨rfl, hpost⟩
        go_wp2_with fail
        go_roundw
        case rel => exact ⟨2, by omega, rfl, Lp2.next (X := 1) (Y := 2) rfl rfl HG1 hm hle B4 hpost⟩
        case measure => simp [intOf]
      · obtain ⟨m, hm, hle, S3, B3⟩ := H2
        have hle' : m + 5 ^ 0 ≤ 1000 := by omega
        have k1 := S3.wk
        have S4 := S3.two (bl_alloc (Below.refl _ _) (.cells #[.int .i64 a2, .int .i64 b2] 49))
        have B4 := B3.alloc (.cells #[.int .i64 a2, .int .i64 b2] 49)
        have iq : ∀ z, (Instr.index 96 (.agg #[.int .i64 a0, .int .i64 b0, .int .i64 a1, .int .i64 b1, .int .i64 a2, .int .i64 b2, .int .i64 a3, .int .i64 b3]) (.int .i64 2)).run Try.prog z = .ok (.agg #[.int .i64 a2, .int .i64 b2]) z := fun _ => by kernel_rfl
        have k2 := S3.lt.2.2.2
        go_wp2_with fail
        refine (C2.out _ _ _ S4 hle').mono ?_
        rintro e w5 ⟨rfl, hpost⟩
        go_wp2_with fail
        go_roundw
        case rel => exact ⟨3, by omega, rfl, Lp2.next (X := 0) (Y := 3) rfl rfl HG2 hm hle B4 hpost⟩
        case measure => simp [intOf]
      · obtain ⟨m, hm, hle, S3, B3⟩ := H2
        have hle' : m + 5 ^ 0 ≤ 1000 := by omega
        have k1 := S3.wk
        have S4 := S3.two (bl_alloc (Below.refl _ _) (.cells #[.int .i64 a3, .int .i64 b3] 49))
        have B4 := B3.alloc (.cells #[.int .i64 a3, .int .i64 b3] 49)
        have iq : ∀ z, (Instr.index 96 (.agg #[.int .i64 a0, .int .i64 b0, .int .i64 a1, .int .i64 b1, .int .i64 a2, .int .i64 b2, .int .i64 a3, .int .i64 b3]) (.int .i64 3)).run Try.prog z = .ok (.agg #[.int .i64 a3, .int .i64 b3]) z := fun _ => by kernel_rfl
        have k2 := S3.lt.2.2.2
        go_wp2_with fail
        refine (C3.out _ _ _ S4 hle').mono ?_
        rintro e w5 ⟨rfl, hpost⟩
        go_wp2_with fail
        go_roundw
        case rel => exact ⟨4, by omega, rfl, Lp2.next (X := 1) (Y := 3) rfl rfl HG3 hm hle B4 hpost⟩
        case measure => simp [intOf]
      · obtain ⟨m, hm, hle, S3, B3⟩ := H2
        go_wp2
        go_end0
        exact ⟨rfl, ⟨m, rfl, by omega, S3⟩, B3⟩
end Go.Proofs.Ytnciemnlnijhfaa


/- Slices of cells that may be written: marks. -/
import Derived.Test.YtejkbjcmndnfeaaGreatCells
import Derived.Test.YtejkbjcmndnfeaaGreatCellApp
namespace Go.Proofs.YtejkbjcmndnfeaaGreat
open Go.RowKit

theorem Wr.of_ownC {w : World} {lo : Nat} {e : TypeId} {A : Option Addr} {size n c : Nat} {xs : List Value} (h : w.ownsRow lo e size (.slice A n c) n xs) : Wr w lo e A xs := by
  refine ⟨fun ad ha => ?_, fun hne => ?_⟩
  · subst ha; exact (h.lt ad.block rfl).1
  have hl : xs.length = n * size := h.1
  rcases h.2 with ⟨_, h0⟩ | ⟨g, cap, cur, hv, hg, hh, _, _, _, ht⟩
  · subst h0; exact absurd (List.eq_nil_of_length_eq_zero (by simpa using hl)) hne
  · have hA : A = some ⟨g, 0, none⟩ := by injection hv
    exact ⟨g, cur, hA, hh, by rw [hl]; exact ht⟩
theorem set_grown (w : World) (g k : Nat) (u : Value) : w.grownBy (w.setCell ⟨g, k, none⟩ u) (some g) :=
  ⟨rfl, rfl, rfl, by simp [World.setCell], fun i _ hn => Below.heap_setCell _ _ _ _ (fun e => hn (by simp [e]))⟩
/-- a new slice of cells that may be written -/
def NewC (ps : List Ce) (w : World) (e : Ending) (w' : World) : Prop :=
  ∃ A : Option Addr, e = .returned (.slice A ps.length ps.length) ∧ Wr w' w.heap.size 89 A (cellsV ps) ∧ Below w.heap.size w w'
/-- a slice of cells that may be read -/
def NewRdC (ps : List Ce) (w : World) (e : Ending) (w' : World) : Prop :=
  ∃ (A : Option Addr) (c : Nat), e = .returned (.slice A ps.length c) ∧ RdC w' A ps ∧ Below w.heap.size w w' ∧ ∀ ad, A = some ad → w.heap.size ≤ ad.block
theorem own_ltS {w : World} {base e size n c : Nat} {A : Option Addr} {xs : List Value} (h : w.ownsRow base e size (.slice A n c) n xs) : ∀ ad, A = some ad → ad.block < w.heap.size := by
  rintro ad rfl; exact (h.lt ad.block rfl).2
theorem OwnC.newRd {w0 w : World} {base : Nat} {v : Value} {ps : List Ce} (h : OwnC w base v ps) (hb : Below w0.heap.size w0 w) (hB : w0.heap.size ≤ base) : NewRdC ps w0 (.returned v) w := by
  obtain ⟨A, c, e, h'⟩ := id h; subst e
  exact ⟨A, c, rfl, h.rd, hb, fun ad ha => by subst ha; have := (h'.lt ad.block rfl).1; omega⟩
set_option maxHeartbeats 800000 in
theorem markCellS_any (A : Option Addr) (n c : Nat) (xs : List Value) (k : Int) (w : World) (lo : Nat) (h : Wr w lo 89 A xs) (hx : xs.length = n * 2) (hn : n ≤ 1000000000000) (k0 : 0 ≤ k) (k1 : k ≤ 1000000000000) :
    Calls Tryz.prog 88 #[.slice A n c, .int .i64 k] w fun e w' => e = .returned (.int .i64 (k + 2 * n)) ∧ Wr w' lo 89 A ((marks k (n * 2)).map (.int .i64)) ∧ w.grownBy w' (A.map (·.block)) := by
  have HX := Lib.hid hx
  clear hx
  go_enter Tryz.func88, Tryz.ntmps88
  go_wp2
  go_loopw [1, 5] (fun v i wr => ∃ j : Nat, j ≤ n ∧ i = .int .i64 j ∧ v = .int .i64 (k + 2 * j) ∧ Wr wr lo 89 A (marked k xs (j * 2)) ∧ w.grownBy wr (A.map (·.block))) (fun _ i _ => n - (intOf i).toNat)
  case atStart => exact ⟨0, Nat.zero_le _, rfl, by go_num, by rw [Nat.zero_mul, marked_zero]; exact h, World.grownBy.refl _ _⟩
  case round =>
    obtain ⟨j, hj, rfl, rfl, hw, hg⟩ := hrel
    by_cases hlt : j < n
    · have hl : (marked k xs (j * 2)).length = n * 2 := by rw [marked_len k xs (j * 2) (by rw [HX.out]; omega), HX.out]
      have hne : marked k xs (j * 2) ≠ [] := by intro e; rw [e] at hl; simp at hl; omega
      obtain ⟨g, rfl, hlo, hgs, hfr⟩ := hw.form hne
      have hf := hfr (j * 2)
      have hf2 := hfr (j * 2 + 1)
      obtain ⟨ad, e, hc⟩ := hw.rd.at_ (k := j * 2) (by rw [hl]; omega)
      obtain ⟨ad2, e2, hcc⟩ := hw.rd.at_ (k := j * 2 + 1) (by rw [hl]; omega)
      have e' : ad = ⟨g, 0, none⟩ := by injection e with e; exact e.symm
      have e2' : ad2 = ⟨g, 0, none⟩ := by injection e2 with e; exact e.symm
      subst e'; subst e2'
      rw [add_off, Nat.zero_add] at hc hcc
      obtain ⟨ov, hc2⟩ : ∃ ov, wr.cell? ⟨g, j * 2, none⟩ = some ov := ⟨_, hc⟩
      obtain ⟨ov2, hc3⟩ : ∃ ov, wr.cell? ⟨g, j * 2 + 1, none⟩ = some ov := ⟨_, hcc⟩
      have HJ := Lib.hid (show j * 2 + 1 < xs.length by rw [HX.out]; omega)
      have HM1 := Lib.hid (marked_step k xs (j * 2) (by rw [HX.out]; omega))
      have HM2 := Lib.hid (marked_step k xs (j * 2 + 1) (by rw [HX.out]; omega))
      clear hfr e e2 hne hc hcc hl
      go_wp2
      refine ⟨⟨j + 1, by omega, by go_num, by go_num, ?_, ?_⟩, by simp [intOf]; omega⟩
      · have h1 := (hw.store (j * 2) (.int .i64 (k + (j * 2 : Nat)))).store (j * 2 + 1) (.int .i64 (k + (j * 2 + 1 : Nat)))
        rw [HM1.out, HM2.out] at h1
        have e1 : k + ((j * 2 : Nat) : Int) = k + 2 * (j : Int) := by omega
        have e2 : k + ((j * 2 + 1 : Nat) : Int) = k + 2 * (j : Int) + 1 := by omega
        rw [e1, e2] at h1
        rw [show (j + 1) * 2 = j * 2 + 1 + 1 by omega]
        exact h1
      · exact grownBy_trans' (grownBy_trans' hg (set_grown _ g _ _)) (set_grown _ g _ _)
    · go_wp2
      go_ret
      have hk2 : j = n := by omega
      subst hk2
      refine ⟨rfl, ?_, hg⟩
      have := marked_all k xs
      rw [HX.out] at this
      rw [← this]; exact hw
end Go.Proofs.YtejkbjcmndnfeaaGreat

/- Both CutTwo lead to the same list. -/
import Derived.Test.YthkpiacanfajbaaCutSNo
import Derived.Test.YthkpiacanfajbaaCutD
namespace Go.Proofs.Ythkpiacanfajbaa

theorem cut_same (W T a b : Int) : cutSOf W T a b = cutOf W T a b := by
  unfold cutSOf cutOf
  by_cases h : cutOk W T a b = true
  · rw [if_pos h, if_pos h]
    unfold cutOk at h
    simp only [Bool.and_eq_true] at h
    obtain ⟨hr, ha, hb, ho⟩ := h
    obtain ⟨w2, w6, t2, t6, hwt, Wn, Tn, n, rfl, rfl, -⟩ := cut_facts hr
    unfold inB at ha hb
    simp at ha hb
    exact (cut_eq (by omega) (by omega) hr (by omega) (by omega) (by omega) (by omega) ho).symm
  · rw [if_neg h, if_neg h]
theorem cutOf_len (W T a b : Int) : (cutOf W T a b).length ≤ 24 := by
  unfold cutOf
  by_cases h : cutOk W T a b = true
  · rw [if_pos h, cutI_len]
    unfold cutOk at h
    simp only [Bool.and_eq_true] at h
    obtain ⟨w2, w6, t2, t6, hwt, Wn, Tn, n, rfl, rfl, -, -, hl, -, -, -, n24⟩ := cut_facts h.1
    simp only [Int.toNat_natCast]
    omega
  · rw [if_neg h]; simp
end Go.Proofs.Ythkpiacanfajbaa

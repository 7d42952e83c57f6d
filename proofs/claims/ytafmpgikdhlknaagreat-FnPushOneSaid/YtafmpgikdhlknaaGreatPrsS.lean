
/- The reference's labels of parts, plainly: rounds in place, both of two neighbours at once. -/
import Derived.Test.YtafmpgikdhlknaaGreatPrsN
namespace Go.Proofs.YtafmpgikdhlknaaGreat
open Go.RowKit

def sp1 (W T : Int) (L : List Int) (c : Nat) (d : Int) : List Int :=
  if 0 ≤ stepZ W T c d ∧ 0 ≤ L.getD c (-1) ∧ 0 ≤ L.getD (stepZ W T c d).toNat (-1) then (L.set c (min (L.getD c (-1)) (L.getD (stepZ W T c d).toNat (-1)))).set (stepZ W T c d).toNat (min (L.getD c (-1)) (L.getD (stepZ W T c d).toNat (-1))) else L
def spR (W T : Int) (L : List Int) : Nat → List Int
  | 0 => L
  | c + 1 => sp1 W T (sp1 W T (spR W T L c) c 3) c 4
def spN (W T : Int) (bs : List Bool) : Nat → List Int
  | 0 => lb0 bs
  | r + 1 => spR W T (spN W T bs r) bs.length
def spE (W T : Int) (bs : List Bool) : List Int := spN W T bs bs.length
section
variable {W T : Int} {bs : List Bool} {L M : List Int}
theorem LbI.set {c s : Nat} (h : LbI W T bs L M) (hc : cellP bs c) (hs : cellP bs s) (hadj : c = s ∨ adjW W T bs.length c s) (hm : M.getD s (-1) ≤ M.getD c (-1)) : LbI W T bs L (M.set c (M.getD s (-1))) := by
  have hmc : c < M.length := by rw [h.g.len]; exact cellP_lt hc
  have h0 := h.g.on s hs
  refine ⟨⟨by rw [List.length_set]; exact h.g.len, fun e he => ?_, fun e he => ?_⟩, fun e he => ?_⟩
  · rw [getD_set1]
    by_cases hce : c = e
    · subst hce; exact absurd hc he
    · rw [if_neg (fun x => hce x.1)]; exact h.g.off e he
  · rw [getD_set1]
    by_cases hce : c = e
    · rw [if_pos ⟨hce, hmc⟩]; omega
    · rw [if_neg (fun x => hce x.1)]; exact h.g.on e he
  · rw [getD_set1]
    by_cases hce : c = e
    · subst hce
      rw [if_pos ⟨rfl, hmc⟩]
      obtain ⟨a1, -⟩ := h.on c he
      obtain ⟨-, d2, b2, b3, b4⟩ := h.on s hs
      refine ⟨by omega, d2, b2, ?_, b4⟩
      rcases hadj with rfl | hadj
      · exact b3
      · exact .step hs hadj b3
    · rw [if_neg (fun x => hce x.1)]; exact h.on e he
theorem sp1_ok (hf : FldG W T bs.length) (h : LbI W T bs L M) {c : Nat} (hc : c < bs.length) {d : Int} (hd : 1 ≤ d ∧ d ≤ 4) :
    LbI W T bs L (sp1 W T M c d) ∧ (∀ e, (sp1 W T M c d).getD e (-1) ≤ M.getD e (-1)) ∧ (cellP bs c → ∀ b : Nat, stepZ W T c d = b → cellP bs b → (sp1 W T M c d).getD c (-1) ≤ L.getD b (-1) ∧ (sp1 W T M c d).getD b (-1) ≤ L.getD c (-1)) := by
  unfold sp1
  split
  · rename_i hh
    obtain ⟨h1, h2, h3⟩ := hh
    obtain ⟨s, hs⟩ := Int.eq_ofNat_of_zero_le h1
    rw [hs, Int.toNat_natCast] at h3 ⊢
    have hcc : cellP bs c := Classical.byContradiction fun hn => by have := h.g.off c hn; omega
    have hcs : cellP bs s := Classical.byContradiction fun hn => by have := h.g.off s hn; omega
    have hsl := cellP_lt hcs
    have hadj : adjW W T bs.length c s := ⟨hc, hsl, d, hd, hs⟩
    have hadj' := adjW_symm hf _ _ hadj
    have hml := h.g.len
    have hne : c ≠ s := fun e => by
      subst e
      obtain ⟨d', dx, dy, hd', -, e1, e2⟩ := adjW_xy hf hadj
      unfold IsDir at hd'; omega
    have hlc := (h.on c hcc).1
    have hls := (h.on s hcs).1
    have gA : ∀ e, ((M.set c (min (M.getD c (-1)) (M.getD s (-1)))).set s (min (M.getD c (-1)) (M.getD s (-1)))).getD e (-1) = if e = s ∨ e = c then min (M.getD c (-1)) (M.getD s (-1)) else M.getD e (-1) := fun e => by
      rw [getD_set1, getD_set1, List.length_set]
      by_cases h5 : s = e
      · rw [if_pos ⟨h5, by omega⟩, if_pos (.inl h5.symm)]
      · rw [if_neg (fun x => h5 x.1)]
        by_cases h6 : c = e
        · rw [if_pos ⟨h6, by omega⟩, if_pos (.inr h6.symm)]
        · rw [if_neg (fun x => h6 x.1), if_neg (by omega)]
    refine ⟨?_, fun e => ?_, fun _ b hb hcb => ?_⟩
    · rcases Int.le_total (M.getD c (-1)) (M.getD s (-1)) with hle | hle
      · rw [Int.min_eq_left hle]
        have i1 := h.set hcc hcc (.inl rfl) (Int.le_refl _)
        have e1 : (M.set c (M.getD c (-1))).getD c (-1) = M.getD c (-1) := by rw [getD_set1, if_pos ⟨rfl, by omega⟩]
        have e2 : (M.set c (M.getD c (-1))).getD s (-1) = M.getD s (-1) := by rw [getD_set1, if_neg (fun x => hne x.1)]
        have i2 := i1.set hcs hcc (.inr hadj') (by rw [e1, e2]; exact hle)
        rw [e1] at i2; exact i2
      · rw [Int.min_eq_right hle]
        have i1 := h.set hcc hcs (.inr hadj) hle
        have e1 : (M.set c (M.getD s (-1))).getD s (-1) = M.getD s (-1) := by rw [getD_set1, if_neg (fun x => hne x.1)]
        have i2 := i1.set hcs hcs (.inl rfl) (Int.le_refl _)
        rw [e1] at i2; exact i2
    · rw [gA]
      split
      · rename_i hx
        rcases hx with rfl | rfl <;> omega
      · exact Int.le_refl _
    · obtain rfl : s = b := by omega
      rw [gA, gA, if_pos (.inr rfl), if_pos (.inl rfl)]
      omega
  · rename_i hh
    refine ⟨h, fun e => Int.le_refl _, fun hcc b hb hcb => ?_⟩
    exact absurd ⟨by omega, h.g.on c hcc, by rw [hb, Int.toNat_natCast]; exact h.g.on b hcb⟩ hh
theorem spR_ok (hf : FldG W T bs.length) (hL : LbG bs L) : ∀ k, k ≤ bs.length →
    LbI W T bs L (spR W T L k) ∧ (∀ c, c < k → cellP bs c → ∀ (d : Int) (b : Nat), 3 ≤ d → d ≤ 4 → stepZ W T c d = b → cellP bs b → (spR W T L k).getD c (-1) ≤ L.getD b (-1) ∧ (spR W T L k).getD b (-1) ≤ L.getD c (-1))
  | 0, _ => ⟨hL.new, fun c hc => absurd hc (Nat.not_lt_zero c)⟩
  | k + 1, hk => by
    obtain ⟨a1, a2⟩ := spR_ok hf hL k (by omega)
    obtain ⟨b1, b2, b3⟩ := sp1_ok hf a1 (c := k) (by omega) (d := 3) (by omega)
    obtain ⟨c1, c2, c3⟩ := sp1_ok hf b1 (c := k) (by omega) (d := 4) (by omega)
    refine ⟨c1, fun c hc hcc d b h1 h2 hs hb => ?_⟩
    rcases Nat.lt_or_ge c k with hck | hck
    · obtain ⟨e1, e2⟩ := a2 c hck hcc d b h1 h2 hs hb
      exact ⟨Int.le_trans (c2 c) (Int.le_trans (b2 c) e1), Int.le_trans (c2 b) (Int.le_trans (b2 b) e2)⟩
    · obtain rfl : c = k := by omega
      rcases (show d = 3 ∨ d = 4 by omega) with rfl | rfl
      · obtain ⟨e1, e2⟩ := b3 hcc b hs hb
        exact ⟨Int.le_trans (c2 c) e1, Int.le_trans (c2 b) e2⟩
      · exact c3 hcc b hs hb
theorem spN_ok (hf : FldG W T bs.length) : ∀ r, LbG bs (spN W T bs r)
  | 0 => lb0_ok
  | r + 1 => (spR_ok hf (spN_ok hf r) bs.length (Nat.le_refl _)).1.g
theorem spN_round (hf : FldG W T bs.length) (r : Nat) : RoundL (cellP bs) (adjW W T bs.length) (fun c => (spN W T bs r).getD c (-1)) (fun c => (spN W T bs (r + 1)).getD c (-1)) := by
  intro c hc
  obtain ⟨h1, h2⟩ := spR_ok hf (spN_ok hf r) bs.length (Nat.le_refl _)
  obtain ⟨a1, a2⟩ := h1.on c hc
  refine ⟨a1, fun b hb hcb => ?_, a2⟩
  obtain ⟨d, dx, dy, hd, hs, e1, e2⟩ := adjW_xy hf hcb
  by_cases h3 : 3 ≤ d
  · exact (h2 c (cellP_lt hc) hc d b h3 (by unfold IsDir at hd; omega) hs hb).1
  · obtain ⟨hs', -⟩ := adjW_of hf hcb.2.1 hcb.1 (back_dir hd) (by omega) (by omega)
    exact (h2 b (cellP_lt hb) hb (backZ d) c (by unfold IsDir at hd; unfold backZ; omega) (by unfold IsDir at hd; unfold backZ; omega) hs' hc).2
theorem spE_root (hf : FldG W T bs.length) {c : Nat} (hc : cellP bs c) : (spE W T bs).getD c (-1) = c ↔ rootP W T bs c := by
  obtain ⟨⟨d, e, hd, hcd⟩, hl⟩ := label_end (L := fun r c => (spN W T bs r).getD c (-1)) (n := bs.length) (P := cellP bs) (adj := adjW W T bs.length) (fun x hx => cellP_lt hx) (fun c hc => by
    show (lb0 bs).getD c (-1) = c
    rw [lb0_get (cellP_lt hc), if_pos (by unfold cellP at hc; exact hc)]) (fun k _ => spN_round hf k) hc
  change (spE W T bs).getD c (-1) = d at e
  constructor
  · intro h
    refine ⟨hc, fun b hb => ?_⟩
    have := hl b hb
    change (spE W T bs).getD c (-1) ≤ b at this
    omega
  · intro h
    have h1 := h.2 d hcd
    have h2 := hl c (.refl _)
    change (spE W T bs).getD c (-1) ≤ c at h2
    omega
theorem spE_parts (hf : FldG W T bs.length) : (List.range bs.length).countP (fun c => (spE W T bs).getD c (-1) == (c : Int)) = prtN W T bs := by
  classical
  unfold prtN
  refine List.countP_congr fun c hc => ?_
  rw [beq_iff_eq, decide_eq_true_eq]
  by_cases hcc : cellP bs c
  · exact spE_root hf hcc
  · constructor
    · intro h
      have := (spN_ok hf bs.length).off c hcc
      change (spE W T bs).getD c (-1) = -1 at this
      omega
    · intro h; exact absurd h.1 hcc
theorem spR_len : ∀ k, (spR W T L k).length = L.length
  | 0 => rfl
  | k + 1 => by
    have : ∀ (M : List Int) c d, (sp1 W T M c d).length = M.length := fun M c d => by unfold sp1; split <;> simp
    show (sp1 W T (sp1 W T (spR W T L k) k 3) k 4).length = _
    rw [this, this, spR_len k]
end
end Go.Proofs.YtafmpgikdhlknaaGreat

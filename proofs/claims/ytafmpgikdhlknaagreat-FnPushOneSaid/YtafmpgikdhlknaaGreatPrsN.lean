
/- The program's labels of parts, plainly: rounds in place; what they end with. -/
import Derived.Test.YtafmpgikdhlknaaGreatShpN
namespace Go.Proofs.YtafmpgikdhlknaaGreat
open Go.RowKit

def lb1 (W T : Int) (L : List Int) (c : Nat) (d : Int) : List Int :=
  if 0 ≤ stepZ W T c d ∧ 0 ≤ L.getD c (-1) ∧ 0 ≤ L.getD (stepZ W T c d).toNat (-1) then L.set c (min (L.getD c (-1)) (L.getD (stepZ W T c d).toNat (-1))) else L
def lbD (W T : Int) (L : List Int) (c : Nat) : Nat → List Int
  | 0 => L
  | d + 1 => lb1 W T (lbD W T L c d) c ((d : Int) + 1)
def lbR (W T : Int) (L : List Int) : Nat → List Int
  | 0 => L
  | c + 1 => lbD W T (lbR W T L c) c 4
def lb0 (bs : List Bool) : List Int := (List.range bs.length).map fun k => if bs.getD k false then (k : Int) else -1
def lbN (W T : Int) (bs : List Bool) : Nat → List Int
  | 0 => lb0 bs
  | r + 1 => lbR W T (lbN W T bs r) bs.length
/-- the labels at the end -/
def lbE (W T : Int) (bs : List Bool) : List Int := lbN W T bs bs.length
theorem getD_set1 {L : List Int} {c e : Nat} {v : Int} : (L.set c v).getD e (-1) = if c = e ∧ c < L.length then v else L.getD e (-1) := by
  rw [List.getD_eq_getElem?_getD, List.getElem?_set]
  split
  · rename_i h
    subst h
    split
    · rename_i h
      rw [if_pos ⟨rfl, h⟩]; rfl
    · rename_i h
      rw [if_neg (fun e => h e.2), List.getD_eq_getElem?_getD, List.getElem?_eq_none (by omega)]
  · rename_i h
    rw [if_neg (fun e => h e.1), List.getD_eq_getElem?_getD]
/-- a list of labels: those of cells are not negative, the others are -1 -/
structure LbG (bs : List Bool) (L : List Int) : Prop where
  len : L.length = bs.length
  off : ∀ c, ¬ cellP bs c → L.getD c (-1) = -1
  on : ∀ c, cellP bs c → 0 ≤ L.getD c (-1)
/-- a round under way -/
structure LbI (W T : Int) (bs : List Bool) (L M : List Int) : Prop where
  g : LbG bs M
  on : ∀ c, cellP bs c → M.getD c (-1) ≤ L.getD c (-1) ∧ ∃ d, cellP bs d ∧ ConnR W T bs c d ∧ M.getD c (-1) = L.getD d (-1)
theorem LbG.new {W T : Int} {bs : List Bool} {L : List Int} (h : LbG bs L) : LbI W T bs L L := ⟨h, fun c hc => ⟨Int.le_refl _, c, hc, .refl _, rfl⟩⟩
section
variable {W T : Int} {bs : List Bool} {L M : List Int}
theorem lb1_ok (h : LbI W T bs L M) {c : Nat} (hc : c < bs.length) {d : Int} (hd : 1 ≤ d ∧ d ≤ 4) :
    LbI W T bs L (lb1 W T M c d) ∧ (∀ e, (lb1 W T M c d).getD e (-1) ≤ M.getD e (-1)) ∧ (cellP bs c → ∀ b : Nat, stepZ W T c d = b → cellP bs b → (lb1 W T M c d).getD c (-1) ≤ L.getD b (-1)) := by
  unfold lb1
  split
  · rename_i hh
    obtain ⟨h1, h2, h3⟩ := hh
    obtain ⟨s, hs⟩ := Int.eq_ofNat_of_zero_le h1
    rw [hs, Int.toNat_natCast] at h3 ⊢
    have hcc : cellP bs c := Classical.byContradiction fun hn => by have := h.g.off c hn; omega
    have hcs : cellP bs s := Classical.byContradiction fun hn => by have := h.g.off s hn; omega
    have hsl := cellP_lt hcs
    have hadj : adjW W T bs.length c s := ⟨hc, hsl, d, hd, hs⟩
    have hmc : c < M.length := by rw [h.g.len]; exact hc
    have hmin1 : min (M.getD c (-1)) (M.getD s (-1)) ≤ M.getD c (-1) := Int.min_le_left _ _
    have hmin2 : min (M.getD c (-1)) (M.getD s (-1)) ≤ M.getD s (-1) := Int.min_le_right _ _
    refine ⟨⟨⟨by rw [List.length_set]; exact h.g.len, fun e he => ?_, fun e he => ?_⟩, fun e he => ?_⟩, fun e => ?_, fun _ b hb hcb => ?_⟩
    · rw [getD_set1]
      by_cases hce : c = e
      · subst hce; exact absurd hcc he
      · rw [if_neg (fun x => hce x.1)]; exact h.g.off e he
    · rw [getD_set1]
      by_cases hce : c = e
      · rw [if_pos ⟨hce, hmc⟩]; omega
      · rw [if_neg (fun x => hce x.1)]; exact h.g.on e he
    · rw [getD_set1]
      by_cases hce : c = e
      · subst hce
        rw [if_pos ⟨rfl, hmc⟩]
        obtain ⟨a1, d1, a2, a3, a4⟩ := h.on c he
        refine ⟨by omega, ?_⟩
        rcases (show min (M.getD c (-1)) (M.getD s (-1)) = M.getD c (-1) ∨ min (M.getD c (-1)) (M.getD s (-1)) = M.getD s (-1) by omega) with hm | hm
        · rw [hm]; exact ⟨d1, a2, a3, a4⟩
        · obtain ⟨-, d2, b2, b3, b4⟩ := h.on s hcs
          rw [hm]
          exact ⟨d2, b2, .step hcs hadj b3, b4⟩
      · rw [if_neg (fun x => hce x.1)]; exact h.on e he
    · rw [getD_set1]
      split
      · rename_i hx; obtain ⟨rfl, -⟩ := hx; exact hmin1
      · exact Int.le_refl _
    · rw [getD_set1, if_pos ⟨rfl, hmc⟩]
      obtain rfl : s = b := by omega
      have := (h.on s hcb).1
      omega
  · rename_i hh
    refine ⟨h, fun e => Int.le_refl _, fun hcc b hb hcb => ?_⟩
    exact absurd ⟨by omega, h.g.on c hcc, by rw [hb, Int.toNat_natCast]; exact h.g.on b hcb⟩ hh
theorem lbD_ok (h : LbI W T bs L M) {c : Nat} (hc : c < bs.length) : ∀ k, k ≤ 4 →
    LbI W T bs L (lbD W T M c k) ∧ (∀ e, (lbD W T M c k).getD e (-1) ≤ M.getD e (-1)) ∧ (cellP bs c → ∀ (d : Int) (b : Nat), 1 ≤ d → d ≤ k → stepZ W T c d = b → cellP bs b → (lbD W T M c k).getD c (-1) ≤ L.getD b (-1))
  | 0, _ => ⟨h, fun e => Int.le_refl _, fun _ d b h1 h2 => by omega⟩
  | k + 1, hk => by
    obtain ⟨a1, a2, a3⟩ := lbD_ok h hc k (by omega)
    obtain ⟨b1, b2, b3⟩ := lb1_ok a1 hc (d := (k : Int) + 1) (by omega)
    refine ⟨b1, fun e => Int.le_trans (b2 e) (a2 e), fun hcc d b h1 h2 hs hb => ?_⟩
    by_cases hd : d ≤ k
    · exact Int.le_trans (b2 c) (a3 hcc d b h1 hd hs hb)
    · obtain rfl : d = (k : Int) + 1 := by omega
      exact b3 hcc b hs hb
theorem lbR_ok (hL : LbG bs L) : ∀ k, k ≤ bs.length →
    LbI W T bs L (lbR W T L k) ∧ (∀ c, c < k → cellP bs c → ∀ (d : Int) (b : Nat), 1 ≤ d → d ≤ 4 → stepZ W T c d = b → cellP bs b → (lbR W T L k).getD c (-1) ≤ L.getD b (-1))
  | 0, _ => ⟨hL.new, fun c hc => absurd hc (Nat.not_lt_zero c)⟩
  | k + 1, hk => by
    obtain ⟨a1, a2⟩ := lbR_ok hL k (by omega)
    obtain ⟨b1, b2, b3⟩ := lbD_ok a1 (c := k) (by omega) 4 (Nat.le_refl _)
    refine ⟨b1, fun c hc hcc d b h1 h2 hs hb => ?_⟩
    rcases Nat.lt_or_ge c k with hck | hck
    · exact Int.le_trans (b2 c) (a2 c hck hcc d b h1 h2 hs hb)
    · obtain rfl : c = k := by omega
      exact b3 hcc d b h1 h2 hs hb
theorem lb0_get {k : Nat} (hk : k < bs.length) : (lb0 bs).getD k (-1) = if bs.getD k false then (k : Int) else -1 := by
  unfold lb0
  rw [List.getD_eq_getElem?_getD, List.getElem?_map, List.getElem?_range hk]
  rfl
theorem lb0_ok : LbG bs (lb0 bs) := by
  refine ⟨by unfold lb0; simp, fun c hc => ?_, fun c hc => ?_⟩
  · rcases Nat.lt_or_ge c bs.length with h | h
    · rw [lb0_get h, if_neg (by unfold cellP at hc; exact hc)]
    · rw [List.getD_eq_getElem?_getD, List.getElem?_eq_none (by unfold lb0; simpa using h)]; rfl
  · rw [lb0_get (cellP_lt hc), if_pos (by unfold cellP at hc; exact hc)]
    omega
theorem lbN_ok : ∀ r, LbG bs (lbN W T bs r)
  | 0 => lb0_ok
  | r + 1 => (lbR_ok (lbN_ok r) bs.length (Nat.le_refl _)).1.g
theorem lbN_round (r : Nat) : RoundL (cellP bs) (adjW W T bs.length) (fun c => (lbN W T bs r).getD c (-1)) (fun c => (lbN W T bs (r + 1)).getD c (-1)) := by
  intro c hc
  obtain ⟨h1, h2⟩ := lbR_ok (lbN_ok r) bs.length (Nat.le_refl _)
  obtain ⟨a1, a2⟩ := h1.on c hc
  refine ⟨a1, fun b hb hcb => ?_, a2⟩
  obtain ⟨-, -, d, hd, hs⟩ := hcb
  exact h2 c (cellP_lt hc) hc d b hd.1 hd.2 hs hb
/-- in the end: the least cell that hangs together with it -/
theorem lbE_root {c : Nat} (hc : cellP bs c) : (lbE W T bs).getD c (-1) = c ↔ rootP W T bs c := by
  obtain ⟨⟨d, e, hd, hcd⟩, hl⟩ := label_end (L := fun r c => (lbN W T bs r).getD c (-1)) (n := bs.length) (P := cellP bs) (adj := adjW W T bs.length) (fun x hx => cellP_lt hx) (fun c hc => by
    show (lb0 bs).getD c (-1) = c
    rw [lb0_get (cellP_lt hc), if_pos (by unfold cellP at hc; exact hc)]) (fun k _ => lbN_round k) hc
  change (lbE W T bs).getD c (-1) = d at e
  constructor
  · intro h
    refine ⟨hc, fun b hb => ?_⟩
    have := hl b hb
    change (lbE W T bs).getD c (-1) ≤ b at this
    omega
  · intro h
    have h1 := h.2 d hcd
    have h2 := hl c (.refl _)
    change (lbE W T bs).getD c (-1) ≤ c at h2
    omega
/-- the places that bear their own number are as many as the parts -/
theorem lbE_parts : (List.range bs.length).countP (fun c => (lbE W T bs).getD c (-1) == (c : Int)) = prtN W T bs := by
  classical
  unfold prtN
  refine List.countP_congr fun c hc => ?_
  rw [beq_iff_eq, decide_eq_true_eq]
  by_cases hcc : cellP bs c
  · exact lbE_root hcc
  · constructor
    · intro h
      have := (lbN_ok (W := W) (T := T) bs.length).off c hcc
      change (lbE W T bs).getD c (-1) = -1 at this
      omega
    · intro h; exact absurd h.1 hcc
end
end Go.Proofs.YtafmpgikdhlknaaGreat

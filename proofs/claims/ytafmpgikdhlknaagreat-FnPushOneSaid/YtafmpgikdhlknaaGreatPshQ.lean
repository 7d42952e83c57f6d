
/- What is coupled, plainly: from the past, from a number on, and to how many tilings pushes lead. -/
import Derived.Test.YtafmpgikdhlknaaGreatPshN
namespace Go.Proofs.YtafmpgikdhlknaaGreat
open Go.RowKit

def psN (ps : List (Int × Bool)) : List (Nat × Bool) := ps.map fun p => (p.1.toNat, p.2)
noncomputable def psvB (W T : Int) (bs : List Bool) (ps : List (Int × Bool)) : Bool := simpB W T bs && decide (ps.length ≤ 128 ∧ ∀ p ∈ ps, 0 ≤ p.1 ∧ p.1 < ncN W T)
noncomputable def runLow (W T : Int) (bs : List Bool) (ps : List (Int × Bool)) : List Int := runL W T (lowT W T bs) (psN ps)
noncomputable def runHigh (W T : Int) (bs : List Bool) (ps : List (Int × Bool)) : List Int := runL W T (highT W T bs) (psN ps)
noncomputable def meetB (W T : Int) (bs : List Bool) (ps : List (Int × Bool)) : Bool := decide (runLow W T bs ps = runHigh W T bs ps)
noncomputable def coupB (W T : Int) (bs : List Bool) (ps : List (Int × Bool)) : Bool := psvB W T bs ps && (decide (tlsV W T bs ≠ []) && meetB W T bs ps)
/-- the first number up to m for which it holds -/
def findN (q : Nat → Bool) (m : Nat) : Option Nat := (List.range (m + 1)).find? q
theorem findN_some {q : Nat → Bool} {m n : Nat} (hn : n ≤ m) (h0 : ∀ j, j < n → q j = false) (h : q n = true) : findN q m = some n := by
  unfold findN
  rw [List.find?_range_eq_some]
  exact ⟨h, List.mem_range.2 (by omega), fun j hj => by rw [h0 j hj]; rfl⟩
theorem findN_none {q : Nat → Bool} {m : Nat} (h0 : ∀ j, j ≤ m → q j = false) : findN q m = none := by
  unfold findN
  rw [List.find?_range_eq_none]
  exact fun j hj => by rw [h0 j (by omega)]; rfl
theorem findN_spec {q : Nat → Bool} {m : Nat} : (∃ n, findN q m = some n ∧ n ≤ m ∧ q n = true ∧ ∀ j, j < n → q j = false) ∨ (findN q m = none ∧ ∀ j, j ≤ m → q j = false) := by
  cases h : findN q m with
  | none =>
    refine .inr ⟨rfl, fun j hj => ?_⟩
    unfold findN at h
    rw [List.find?_range_eq_none] at h
    simpa using h j (by omega)
  | some n =>
    unfold findN at h
    rw [List.find?_range_eq_some] at h
    obtain ⟨h1, h2, h3⟩ := h
    rw [List.mem_range] at h2
    exact .inl ⟨n, rfl, by omega, h1, fun j hj => by simpa using h3 j hj⟩
/-- the last n pushes -/
def sufP (ps : List (Int × Bool)) (n : Nat) : List (Int × Bool) := ps.drop (ps.length - n)
noncomputable def fromN (W T : Int) (bs : List Bool) (ps : List (Int × Bool)) : Option Nat := findN (fun n => coupB W T bs (sufP ps n)) ps.length
noncomputable def fromV (W T : Int) (bs : List Bool) (ps : List (Int × Bool)) : List Int × Int × Bool := if psvB W T bs ps = true then (match fromN W T bs ps with | some n => (runLow W T bs (sufP ps n), (n : Int), true) | none => ([], 0, false)) else ([], 0, false)
noncomputable def atV (W T : Int) (bs : List Bool) (ps : List (Int × Bool)) : Int := if (psvB W T bs ps && decide (tlsV W T bs ≠ [])) = true then (match findN (fun n => meetB W T bs (ps.take n)) ps.length with | some n => (n : Int) | none => -1) else -1
/-- each one once -/
def dedL : List (List Int) → List (List Int) → List (List Int)
  | m, [] => m
  | m, t :: ts => dedL (if t ∈ m then m else m ++ [t]) ts
noncomputable def manyV (W T : Int) (bs : List Bool) (ps : List (Int × Bool)) : Int := if psvB W T bs ps = true then ((dedL [] ((tlsV W T bs).map fun t => runL W T t (psN ps))).length : Int) else -1

theorem psv_iff {W T : Int} {bs : List Bool} {ps : List (Int × Bool)} : psvB W T bs ps = true ↔ simpB W T bs = true ∧ ps.length ≤ 128 ∧ ∀ p ∈ ps, 0 ≤ p.1 ∧ p.1 < ncN W T := by
  unfold psvB
  rw [Bool.and_eq_true, decide_eq_true_eq]
theorem psv_sub {W T : Int} {bs : List Bool} {ps qs : List (Int × Bool)} (h : psvB W T bs ps = true) (hl : qs.length ≤ ps.length) (hs : ∀ p ∈ qs, p ∈ ps) : psvB W T bs qs = true := by
  obtain ⟨h1, h2, h3⟩ := psv_iff.1 h
  exact psv_iff.2 ⟨h1, by omega, fun p hp => h3 p (hs p hp)⟩
theorem psv_suf {W T : Int} {bs : List Bool} {ps : List (Int × Bool)} (h : psvB W T bs ps = true) (n : Nat) : psvB W T bs (sufP ps n) = true :=
  psv_sub h (by unfold sufP; rw [List.length_drop]; omega) (fun p hp => List.mem_of_mem_drop hp)
theorem psv_take {W T : Int} {bs : List Bool} {ps : List (Int × Bool)} (h : psvB W T bs ps = true) (n : Nat) : psvB W T bs (ps.take n) = true :=
  psv_sub h (by rw [List.length_take]; omega) (fun p hp => List.mem_of_mem_take hp)
theorem psN_app (ps qs : List (Int × Bool)) : psN (ps ++ qs) = psN ps ++ psN qs := by unfold psN; rw [List.map_append]
/-- what is coupled stays so with further pushes -/
theorem meet_app {W T : Int} {bs : List Bool} {ps : List (Int × Bool)} (h : meetB W T bs ps = true) (qs : List (Int × Bool)) : meetB W T bs (ps ++ qs) = true := by
  unfold meetB runLow runHigh at *
  rw [decide_eq_true_eq] at *
  rw [psN_app, run_app, run_app, h]
/-- .. and all tilings are led to one -/
theorem meet_all {W T : Int} {bs : List Bool} (hs : simpB W T bs = true) (hne : tlsV W T bs ≠ []) {ps : List (Int × Bool)} (h : meetB W T bs ps = true) {L : List Int} (hL : tilingB W T bs L = true) : runL W T L (psN ps) = runLow W T bs ps := by
  unfold meetB at h
  rw [decide_eq_true_eq] at h
  exact coup_all hs hne h hL
theorem coup_iff {W T : Int} {bs : List Bool} {ps : List (Int × Bool)} : coupB W T bs ps = true ↔ psvB W T bs ps = true ∧ tlsV W T bs ≠ [] ∧ meetB W T bs ps = true := by
  unfold coupB
  rw [Bool.and_eq_true, Bool.and_eq_true, decide_eq_true_eq]
theorem suf_app (qs ps : List (Int × Bool)) {n : Nat} (hn : n ≤ ps.length) : sufP (qs ++ ps) n = sufP ps n := by
  unfold sufP
  rw [List.length_append, show qs.length + ps.length - n = qs.length + (ps.length - n) by omega, List.drop_append, List.drop_of_length_le (by omega), List.nil_append, show qs.length + (ps.length - n) - qs.length = ps.length - n by omega]
theorem suf_more (ps : List (Int × Bool)) {j n : Nat} (hj : j ≤ n) (hn : n ≤ ps.length) : sufP ps n = (ps.drop (ps.length - n)).take (n - j) ++ sufP ps j := by
  unfold sufP
  rw [show ps.length - j = (ps.length - n) + (n - j) by omega, ← List.drop_drop, List.take_append_drop]

/-! ### FnFromPast -/
/-- more pushes before do not matter -/
theorem meet_pre {W T : Int} {bs : List Bool} (hs : simpB W T bs = true) (hne : tlsV W T bs ≠ []) {ps : List (Int × Bool)} (h : meetB W T bs ps = true) (qs : List (Int × Bool)) {L : List Int} (hL : tilingB W T bs L = true) : runL W T L (psN (qs ++ ps)) = runLow W T bs ps := by
  rw [psN_app, run_app]
  exact meet_all hs hne h (run_til hs _ _ hL)
theorem from_ahead {W T : Int} {bs : List Bool} {ps qs : List (Int × Bool)} (h : (fromV W T bs ps).2.2 = true) (hv : psvB W T bs (qs ++ ps) = true) : fromV W T bs (qs ++ ps) = fromV W T bs ps := by
  have hp : psvB W T bs ps = true := psv_sub hv (by rw [List.length_append]; omega) (fun p hp => List.mem_append_right _ hp)
  unfold fromV at *
  rw [if_pos hp] at h
  rw [if_pos hv, if_pos hp]
  unfold fromN at *
  rcases findN_spec (q := fun n => coupB W T bs (sufP ps n)) (m := ps.length) with ⟨n, e, hn, h1, h2⟩ | ⟨e, -⟩
  · rw [e]
    rw [findN_some (q := fun n => coupB W T bs (sufP (qs ++ ps) n)) (n := n) (by rw [List.length_append]; omega) (fun j hj => by rw [suf_app qs ps (by omega)]; exact h2 j hj) (by rw [suf_app qs ps hn]; exact h1)]
    simp only
    rw [suf_app qs ps hn]
  · rw [e] at h; cases h
/-- what FromPast tells -/
theorem from_has {W T : Int} {bs : List Bool} {ps : List (Int × Bool)} : (fromV W T bs ps = ([], 0, false) ∧ coupB W T bs ps = false) ∨
    (psvB W T bs ps = true ∧ tlsV W T bs ≠ [] ∧ ∃ n : Nat, n ≤ ps.length ∧ fromV W T bs ps = (runLow W T bs (sufP ps n), (n : Int), true) ∧ coupB W T bs (sufP ps n) = true ∧ (∀ j, j < n → coupB W T bs (sufP ps j) = false) ∧
      ∀ L, tilingB W T bs L = true → runL W T L (psN ps) = runLow W T bs (sufP ps n)) := by
  by_cases hp : psvB W T bs ps = true
  · unfold fromV
    rw [if_pos hp]
    unfold fromN
    rcases findN_spec (q := fun n => coupB W T bs (sufP ps n)) (m := ps.length) with ⟨n, e, hn, h1, h2⟩ | ⟨e, h⟩
    · obtain ⟨c1, c2, c3⟩ := coup_iff.1 h1
      refine .inr ⟨hp, c2, n, hn, by rw [e], h1, h2, fun L hL => ?_⟩
      have := meet_pre (psv_iff.1 hp).1 c2 c3 (ps.take (ps.length - n)) hL
      unfold sufP at this
      rw [List.take_append_drop] at this
      exact this
    · refine .inl ⟨by rw [e], ?_⟩
      have := h ps.length (Nat.le_refl _)
      unfold sufP at this
      rw [Nat.sub_self, List.drop_zero] at this
      exact this
  · refine .inl ⟨by unfold fromV; rw [if_neg hp], ?_⟩
    rw [Bool.eq_false_iff]
    intro h
    exact hp (coup_iff.1 h).1

/-! ### FnCoupledAt -/
theorem at_has {W T : Int} {bs : List Bool} {ps : List (Int × Bool)} : (atV W T bs ps = -1 ∧ coupB W T bs ps = false) ∨
    (∃ n : Nat, n ≤ ps.length ∧ atV W T bs ps = n ∧ coupB W T bs (ps.take n) = true ∧ (0 < n → coupB W T bs (ps.take (n - 1)) = false) ∧ coupB W T bs ps = true) := by
  unfold atV
  by_cases hp : (psvB W T bs ps && decide (tlsV W T bs ≠ [])) = true
  · rw [if_pos hp]
    rw [Bool.and_eq_true, decide_eq_true_eq] at hp
    obtain ⟨hp, hne⟩ := hp
    rcases findN_spec (q := fun n => meetB W T bs (ps.take n)) (m := ps.length) with ⟨n, e, hn, h1, h2⟩ | ⟨e, h⟩
    · refine .inr ⟨n, hn, by rw [e], coup_iff.2 ⟨psv_take hp n, hne, h1⟩, fun h0 => ?_, coup_iff.2 ⟨hp, hne, ?_⟩⟩
      · rw [Bool.eq_false_iff]
        intro h
        have := (coup_iff.1 h).2.2
        rw [h2 (n - 1) (by omega)] at this
        cases this
      · have := meet_app h1 (ps.drop n)
        rw [List.take_append_drop] at this
        exact this
    · refine .inl ⟨by rw [e], ?_⟩
      rw [Bool.eq_false_iff]
      intro h'
      have h3 := (coup_iff.1 h').2.2
      have h4 := h ps.length (Nat.le_refl _)
      simp only [List.take_length] at h4
      rw [h4] at h3; cases h3
  · rw [if_neg hp]
    refine .inl ⟨rfl, ?_⟩
    rw [Bool.eq_false_iff]
    intro h
    obtain ⟨h1, h2, -⟩ := coup_iff.1 h
    exact hp (by rw [h1, decide_eq_true h2]; rfl)

/-! ### FnCoupled -/
theorem ded_mem : ∀ (ts m : List (List Int)) (x : List Int), x ∈ dedL m ts ↔ x ∈ m ∨ x ∈ ts
  | [], m, x => by unfold dedL; simp
  | t :: ts, m, x => by
    unfold dedL
    rw [ded_mem ts]
    split
    · rename_i h
      constructor
      · rintro (h1 | h1)
        · exact .inl h1
        · exact .inr (List.mem_cons_of_mem _ h1)
      · rintro (h1 | h1)
        · exact .inl h1
        · rcases List.mem_cons.1 h1 with rfl | h1
          · exact .inl h
          · exact .inr h1
    · rw [List.mem_append, List.mem_singleton, List.mem_cons]
      constructor
      · rintro ((h1 | h1) | h1)
        · exact .inl h1
        · exact .inr (.inl h1)
        · exact .inr (.inr h1)
      · rintro (h1 | h1 | h1)
        · exact .inl (.inl h1)
        · exact .inl (.inr h1)
        · exact .inr h1
theorem ded_nodup : ∀ (ts m : List (List Int)), m.Nodup → (dedL m ts).Nodup
  | [], m, h => h
  | t :: ts, m, h => by
    unfold dedL
    refine ded_nodup ts _ ?_
    split
    · exact h
    · rename_i hn
      rw [List.nodup_append]
      exact ⟨h, by simp, fun x hx y hy e => by rw [List.mem_singleton] at hy; subst hy; subst e; exact hn hx⟩
theorem ded_len : ∀ (ts m : List (List Int)), (dedL m ts).length ≤ m.length + ts.length
  | [], m => by unfold dedL; simp
  | t :: ts, m => by
    unfold dedL
    refine Nat.le_trans (ded_len ts _) ?_
    split <;> simp <;> omega
theorem one_iff {l : List (List Int)} (hn : l.Nodup) : l.length = 1 ↔ l ≠ [] ∧ ∀ a ∈ l, ∀ b ∈ l, a = b := by
  constructor
  · intro h
    obtain ⟨x, rfl⟩ := List.length_eq_one_iff.1 h
    refine ⟨by simp, fun a ha b hb => ?_⟩
    rw [List.mem_singleton] at ha hb
    rw [ha, hb]
  · rintro ⟨h1, h2⟩
    match l, hn, h1, h2 with
    | [a], _, _, _ => rfl
    | a :: b :: l, hn, _, h2 =>
      have := h2 a (by simp) b (by simp)
      subst this
      simp at hn
theorem coup_one {W T : Int} {bs : List Bool} {ps : List (Int × Bool)} : coupB W T bs ps = decide (manyV W T bs ps = 1) := by
  unfold manyV
  by_cases hp : psvB W T bs ps = true
  · rw [if_pos hp, Bool.eq_iff_iff, decide_eq_true_eq, coup_iff]
    obtain ⟨hs, -, -⟩ := psv_iff.1 hp
    have hv := (simp_iff.1 hs).1
    rw [show (((dedL [] ((tlsV W T bs).map fun t => runL W T t (psN ps))).length : Int) = 1) ↔ (dedL [] ((tlsV W T bs).map fun t => runL W T t (psN ps))).length = 1 by omega, one_iff (ded_nodup _ _ (by simp))]
    have hm : ∀ x, x ∈ dedL [] ((tlsV W T bs).map fun t => runL W T t (psN ps)) ↔ ∃ t, tilingB W T bs t = true ∧ runL W T t (psN ps) = x := fun x => by
      rw [ded_mem]
      simp only [List.not_mem_nil, false_or, List.mem_map]
      constructor
      · rintro ⟨t, h1, h2⟩; exact ⟨t, (tlsV_mem hv).1 h1, h2⟩
      · rintro ⟨t, h1, h2⟩; exact ⟨t, (tlsV_mem hv).2 h1, h2⟩
    constructor
    · rintro ⟨-, hne, h⟩
      have key : ∀ x, x ∈ dedL [] ((tlsV W T bs).map fun t => runL W T t (psN ps)) → x = runLow W T bs ps := fun x hx => by
        obtain ⟨t, h1, rfl⟩ := (hm x).1 hx
        exact meet_all hs hne h h1
      refine ⟨fun e => ?_, fun a ha b hb => by rw [key a ha, key b hb]⟩
      have := (hm (runLow W T bs ps)).2 ⟨_, (low_hgt hs hne).1, rfl⟩
      rw [e] at this; cases this
    · rintro ⟨h1, h2⟩
      have hne : tlsV W T bs ≠ [] := by
        obtain ⟨x, hx⟩ := List.exists_mem_of_ne_nil _ h1
        obtain ⟨t, h3, -⟩ := (hm x).1 hx
        exact List.ne_nil_of_mem ((tlsV_mem hv).2 h3)
      refine ⟨hp, hne, ?_⟩
      obtain ⟨a, b, -⟩ := low_hgt hs hne
      unfold meetB
      rw [decide_eq_true_eq]
      exact h2 _ ((hm _).2 ⟨_, a, rfl⟩) _ ((hm _).2 ⟨_, b, rfl⟩)
  · rw [if_neg hp, Bool.eq_iff_iff, coup_iff]
    constructor
    · intro h; exact absurd h.1 hp
    · intro h; simp at h
theorem coup_more {W T : Int} {bs : List Bool} {ps qs : List (Int × Bool)} (h : coupB W T bs ps = true) (hv : psvB W T bs (ps ++ qs) = true) : coupB W T bs (ps ++ qs) = true := by
  obtain ⟨-, h2, h3⟩ := coup_iff.1 h
  exact coup_iff.2 ⟨hv, h2, meet_app h3 qs⟩
end Go.Proofs.YtafmpgikdhlknaaGreat

/- A domino more on a way of changed dominoes (the reference's l7Better), plainly. -/
import Derived.Test.YtnciemnlnijhfaaMatchN
import Derived.Test.YtnciemnlnijhfaaLayN
import Derived.Test.YtnciemnlnijhfaaDark
import Derived.Test.YtnciemnlnijhfaaBesideN
namespace Go.Proofs.Ytnciemnlnijhfaa
open Go.RowKit

theorem dark_step {W T c : Int} (d : Int) (h1 : 1 ≤ W) (h2 : W ≤ 6) (h : 0 ≤ stepZ W T c d) : darkB W (stepZ W T c d) = !darkB W c := by
  have key : (stepZ W T c d % W + stepZ W T c d / W) % 2 = 1 - (c % W + c / W) % 2 := by
    unfold stepZ at h ⊢
    rcases (show W = 1 ∨ W = 2 ∨ W = 3 ∨ W = 4 ∨ W = 5 ∨ W = 6 from by omega) with rfl | rfl | rfl | rfl | rfl | rfl <;> (repeat (first | split at h | omega)) <;> simp_all <;> omega
  unfold darkB
  rw [key]
  have hq : (c % W + c / W) % 2 = 0 ∨ (c % W + c / W) % 2 = 1 := by omega
  rcases hq with hq | hq <;> rw [hq] <;> rfl
/-- places counted by what lies there -/
def cntX (q : Nat → Int → Bool) (L : List Int) (n : Nat) : Nat := (List.range n).countP fun k => q k (L.getD k 0)
theorem cntX_succ (q : Nat → Int → Bool) (L : List Int) (n : Nat) : cntX q L (n + 1) = cntX q L n + (if q n (L.getD n 0) = true then 1 else 0) := by
  unfold cntX; rw [List.range_succ, List.countP_append]; simp
theorem getD_set {α : Type} (l : List α) (d v : α) (i k : Nat) (hi : i < l.length) : (l.set i v).getD k d = if k = i then v else l.getD k d := by
  rw [List.getD_eq_getElem?_getD, List.getElem?_set]
  by_cases h : i = k
  · subst h; simp [hi]
  · rw [if_neg h, if_neg (fun e => h e.symm), List.getD_eq_getElem?_getD]
theorem cntX_set (q : Nat → Int → Bool) (L : List Int) (n i : Nat) (v : Int) (hi : i < n) (hn : n ≤ L.length) :
    cntX q (L.set i v) n + (if q i (L.getD i 0) = true then 1 else 0) = cntX q L n + (if q i v = true then 1 else 0) := by
  have h0 : ∀ m, m ≤ i → cntX q (L.set i v) m = cntX q L m := by
    intro m
    induction m with
    | zero => intro _; rfl
    | succ m ih =>
      intro hm
      rw [cntX_succ, cntX_succ, ih (by omega), getD_set L 0 v i m (by omega), if_neg (show ¬ m = i by omega)]
  have h1 : ∀ m, i < m → cntX q (L.set i v) m + (if q i (L.getD i 0) = true then 1 else 0) = cntX q L m + (if q i v = true then 1 else 0) := by
    intro m
    induction m with
    | zero => intro h; omega
    | succ m ih =>
      intro hm
      rcases Nat.lt_or_ge i m with h | h
      · have := ih h
        rw [cntX_succ, cntX_succ, getD_set L 0 v i m (by omega), if_neg (show ¬ m = i by omega)]
        omega
      · obtain rfl : m = i := by omega
        rw [cntX_succ, cntX_succ, h0 m (Nat.le_refl _), getD_set L 0 v m m (by omega), if_pos rfl]
        omega
  exact h1 n hi

/-- dominoes that fit -/
structure Lay (W T : Int) (bs : List Bool) (L : List Int) : Prop where
  len : L.length = bs.length
  ok : ∀ k, k < L.length → L.getD k 0 ≠ 0 → ∃ t : Nat, stepZ W T k (L.getD k 0) = t ∧ bs.getD k false = true ∧ bs.getD t false = true ∧ L.getD t 0 = backZ (L.getD k 0)
structure Fld (W T : Int) (bs : List Bool) : Prop where
  w1 : 1 ≤ W
  w6 : W ≤ 6
  t1 : 1 ≤ T
  t6 : T ≤ 6
  n : (bs.length : Int) = W * T
def betT (W T : Int) (bs : List Bool) (rec : List Int → Nat → List Bool → List Int × List Bool × Bool) (laid : List Int) (dark : Nat) : Nat → List Bool → List Int × List Bool × Bool
  | 0, seen => ([], seen, false)
  | j + 1, seen =>
    if stepZ W T dark (4 - (j : Int)) < 0 ∨ bs.getD (stepZ W T dark (4 - (j : Int))).toNat false = false ∨ seen.getD (stepZ W T dark (4 - (j : Int))).toNat false = true then betT W T bs rec laid dark j seen
    else if laid.getD (stepZ W T dark (4 - (j : Int))).toNat 0 = 0 then
      ((laid.set dark (4 - (j : Int))).set (stepZ W T dark (4 - (j : Int))).toNat (backZ (4 - (j : Int))), seen.set (stepZ W T dark (4 - (j : Int))).toNat true, true)
    else
      let other := (stepZ W T (stepZ W T dark (4 - (j : Int))) (laid.getD (stepZ W T dark (4 - (j : Int))).toNat 0)).toNat
      let r := rec (((laid.set other 0).set (stepZ W T dark (4 - (j : Int))).toNat (backZ (4 - (j : Int)))).set dark (4 - (j : Int))) other (seen.set (stepZ W T dark (4 - (j : Int))).toNat true)
      if r.2.2 = true then r else betT W T bs rec laid dark j r.2.1
def bet (W T : Int) (bs : List Bool) : Nat → List Int → Nat → List Bool → List Int × List Bool × Bool
  | 0, _, _, seen => ([], seen, false)
  | f + 1, laid, dark, seen => betT W T bs (bet W T bs f) laid dark 4 seen
def unseen (S : List Bool) : Nat := S.countP fun b => !b
theorem unseen_set (S : List Bool) (i : Nat) (hi : i < S.length) (h : S.getD i false = false) : unseen (S.set i true) + 1 = unseen S := by
  unfold unseen
  induction S generalizing i with
  | nil => simp at hi
  | cons b S ih =>
    cases i with
    | zero => simp at h; subst h; simp
    | succ i =>
      have := ih i (by simpa using hi) (by simpa using h)
      simp only [List.set_cons_succ, List.countP_cons]
      omega
theorem unseen_le (S S' : List Bool) (hl : S'.length = S.length) (h : ∀ l, S.getD l false = true → S'.getD l false = true) : unseen S' ≤ unseen S := by
  unfold unseen
  induction S generalizing S' with
  | nil => obtain rfl : S' = [] := List.eq_nil_of_length_eq_zero (by simpa using hl); exact Nat.le_refl _
  | cons b S ih =>
    cases S' with
    | nil => simp at hl
    | cons b' S' =>
      have h1 := ih S' (by simpa using hl) (fun l hl' => by simpa using h (l + 1) (by simpa using hl'))
      have h2 := h 0
      simp only [List.getD_cons_zero] at h2
      simp only [List.countP_cons]
      cases b <;> cases b' <;> simp_all <;> omega
/-- who owns a light cell -/
def ownL (W T : Int) (L : List Int) (l : Nat) : Option Nat :=
  if darkB W l = false ∧ L.getD l 0 ≠ 0 then some (stepZ W T l (L.getD l 0)).toNat else none
def adjL (W T : Int) (bs : List Bool) (d l : Nat) : Prop := ∃ way : Int, 1 ≤ way ∧ way ≤ 4 ∧ stepZ W T d way = l ∧ bs.getD l false = true
def isE (_ : Nat) (v : Int) : Bool := decide (v = 1 ∨ v = 2)
theorem isE_iff (k : Nat) (v : Int) : (isE k v = true) = (v = 1 ∨ v = 2) := by unfold isE; simp
def isLm (W : Int) (k : Nat) (v : Int) : Bool := !darkB W k && decide (v ≠ 0)
/-- a domino more, on a way -/
structure Grows (W T : Int) (bs : List Bool) (L : List Int) (c : Nat) (L' : List Int) : Prop where
  lay : Lay W T bs L'
  dark : ∀ d : Nat, darkB W d = true → (L'.getD d 0 ≠ 0 ↔ (L.getD d 0 ≠ 0 ∨ d = c))
  many : cntX isE L' bs.length = cntX isE L bs.length + 1
  light : cntX (isLm W) L' bs.length = cntX (isLm W) L bs.length + 1
structure Free (W T : Int) (bs : List Bool) (L : List Int) (c : Nat) : Prop where
  lay : Lay W T bs L
  c1 : c < bs.length
  cb : bs.getD c false = true
  cd : darkB W c = true
  c0 : L.getD c 0 = 0
theorem back_ne (d : Int) (h1 : 1 ≤ d) (h2 : d ≤ 4) : backZ d ≠ 0 ∧ d ≠ 0 ∧ ((backZ d = 1 ∨ backZ d = 2) ↔ ¬ (d = 1 ∨ d = 2)) ∧ backZ (backZ d) = d := by
  unfold backZ; omega
/-- where a step from a free dark cell leads -/
theorem step_info {W T : Int} {bs : List Bool} (hf : Fld W T bs) {c : Nat} (hc : c < bs.length) (hd : darkB W c = true) {way : Int} (hs : 0 ≤ stepZ W T c way) :
    ∃ l : Nat, stepZ W T c way = l ∧ l < bs.length ∧ darkB W l = false ∧ l ≠ c ∧ stepZ W T l (backZ way) = c ∧ 1 ≤ way ∧ way ≤ 4 := by
  obtain ⟨d1, d2⟩ := step_dir hs
  have h1 := hf.n
  have hb := step_bd (W := W) (T := T) (c := (c : Int)) way hf.w1 hf.w6 hf.t1 hf.t6 (by omega) (by omega)
  have hr := step_rev (W := W) (T := T) (c := (c : Int)) (d := way) hf.w1 hf.w6 hf.t1 hf.t6 (by omega) (by omega) d1 d2 hs
  have hk := dark_step (W := W) (T := T) (c := (c : Int)) way hf.w1 hf.w6 hs
  refine ⟨(stepZ W T c way).toNat, by omega, by omega, ?_, ?_, ?_, d1, d2⟩
  · rw [show (((stepZ W T c way).toNat : Nat) : Int) = stepZ W T c way by omega, hk, hd]; rfl
  · intro e
    have : stepZ W T c way = c := by omega
    rw [this, hd] at hk; simp at hk
  · rw [show (((stepZ W T c way).toNat : Nat) : Int) = stepZ W T c way by omega]; exact hr
theorem step_infoL {W T : Int} {bs : List Bool} (hf : Fld W T bs) {c : Nat} (hc : c < bs.length) (hd : darkB W c = false) {way : Int} (hs : 0 ≤ stepZ W T c way) :
    ∃ l : Nat, stepZ W T c way = l ∧ l < bs.length ∧ darkB W l = true ∧ l ≠ c ∧ stepZ W T l (backZ way) = c ∧ 1 ≤ way ∧ way ≤ 4 := by
  obtain ⟨d1, d2⟩ := step_dir hs
  have h1 := hf.n
  have hb := step_bd (W := W) (T := T) (c := (c : Int)) way hf.w1 hf.w6 hf.t1 hf.t6 (by omega) (by omega)
  have hr := step_rev (W := W) (T := T) (c := (c : Int)) (d := way) hf.w1 hf.w6 hf.t1 hf.t6 (by omega) (by omega) d1 d2 hs
  have hk := dark_step (W := W) (T := T) (c := (c : Int)) way hf.w1 hf.w6 hs
  refine ⟨(stepZ W T c way).toNat, by omega, by omega, ?_, ?_, ?_, d1, d2⟩
  · rw [show (((stepZ W T c way).toNat : Nat) : Int) = stepZ W T c way by omega, hk, hd]; rfl
  · intro e
    have : stepZ W T c way = c := by omega
    rw [this, hd] at hk; simp at hk
  · rw [show (((stepZ W T c way).toNat : Nat) : Int) = stepZ W T c way by omega]; exact hr
/-- a domino on two free cells -/
theorem grows_free {W T : Int} {bs : List Bool} (hf : Fld W T bs) {L : List Int} {c l : Nat} {way : Int} (h : Free W T bs L c) (hs : stepZ W T c way = l) (hb : bs.getD l false = true) (hl : L.getD l 0 = 0) :
    Grows W T bs L c ((L.set c way).set l (backZ way)) := by
  obtain ⟨l', e, l1, ld, lc, lr, d1, d2⟩ := step_info hf h.c1 h.cd (way := way) (by omega)
  obtain rfl : l' = l := by omega
  obtain ⟨b0, b1, b2, b3⟩ := back_ne way d1 d2
  have hlen := h.lay.len
  have hc1 := h.c1
  have hg : ∀ k, ((L.set c way).set l' (backZ way)).getD k 0 = if k = l' then backZ way else if k = c then way else L.getD k 0 := fun k => by
    rw [getD_set _ _ _ _ _ (by rw [List.length_set]; omega), getD_set _ _ _ _ _ (by omega)]
  refine ⟨⟨by simp [hlen], fun k hk => ?_⟩, fun d hd => ?_, ?_, ?_⟩
  · rw [hg]
    rw [List.length_set, List.length_set] at hk
    by_cases h1 : k = l'
    · subst h1
      rw [if_pos rfl]
      exact fun _ => ⟨c, lr, hb, h.cb, by rw [hg, if_neg (fun e => lc e.symm), if_pos rfl, b3]⟩
    · rw [if_neg h1]
      by_cases h2 : k = c
      · subst h2
        rw [if_pos rfl]
        exact fun _ => ⟨l', hs, h.cb, hb, by rw [hg, if_pos rfl]⟩
      · rw [if_neg h2]
        intro h3
        obtain ⟨t, t1, t2, t3, t4⟩ := h.lay.ok k (by omega) h3
        refine ⟨t, t1, t2, t3, ?_⟩
        have hd := step_dir (W := W) (T := T) (c := (k : Int)) (d := L.getD k 0) (by omega)
        have hbn := (back_ne _ hd.1 hd.2).1
        rw [hg, if_neg (fun e => by rw [e, hl] at t4; exact hbn t4.symm), if_neg (fun e => by rw [e, h.c0] at t4; exact hbn t4.symm), t4]
  · rw [hg]
    by_cases h1 : d = l'
    · subst h1; rw [ld] at hd; cases hd
    · rw [if_neg h1]
      by_cases h2 : d = c
      · rw [if_pos h2]; simp [h2, b1]
      · rw [if_neg h2]; simp [h2]
  · have e1 := cntX_set isE L bs.length c way h.c1 (by omega)
    have e2 := cntX_set isE (L.set c way) bs.length l' (backZ way) l1 (by rw [List.length_set]; omega)
    rw [getD_set _ _ _ _ _ (by omega), if_neg lc, hl] at e2
    rw [h.c0] at e1
    simp only [isE_iff] at e1 e2
    rw [if_neg (show ¬ ((0 : Int) = 1 ∨ (0 : Int) = 2) by omega)] at e1 e2
    by_cases hw : way = 1 ∨ way = 2
    · rw [if_pos hw] at e1; rw [if_neg (fun x => b2.1 x hw)] at e2; omega
    · rw [if_neg hw] at e1; rw [if_pos (b2.2 hw)] at e2; omega
  · have e1 := cntX_set (isLm W) L bs.length c way h.c1 (by omega)
    have e2 := cntX_set (isLm W) (L.set c way) bs.length l' (backZ way) l1 (by rw [List.length_set]; omega)
    rw [getD_set _ _ _ _ _ (by omega), if_neg lc, hl] at e2
    rw [h.c0] at e1
    simp [isLm, h.cd, ld, b0] at e1 e2
    omega
/-- the domino of a light cell laid anew -/
theorem free_next {W T : Int} {bs : List Bool} (hf : Fld W T bs) {L : List Int} {c l : Nat} {way : Int} (h : Free W T bs L c) (hs : stepZ W T c way = l) (hb : bs.getD l false = true) (hl : L.getD l 0 ≠ 0) :
    ∃ o : Nat, stepZ W T l (L.getD l 0) = o ∧ o ≠ c ∧ o < bs.length ∧ darkB W o = true ∧ L.getD o 0 ≠ 0 ∧ Free W T bs (((L.set o 0).set l (backZ way)).set c way) o ∧
    (∀ k, (((L.set o 0).set l (backZ way)).set c way).getD k 0 = if k = c then way else if k = l then backZ way else if k = o then 0 else L.getD k 0) ∧
    cntX isE (((L.set o 0).set l (backZ way)).set c way) bs.length = cntX isE L bs.length ∧ cntX (isLm W) (((L.set o 0).set l (backZ way)).set c way) bs.length = cntX (isLm W) L bs.length := by
  obtain ⟨l', e, l1, ld, lc, lr, d1, d2⟩ := step_info hf h.c1 h.cd (way := way) (by omega)
  obtain rfl : l' = l := by omega
  obtain ⟨b0, b1, b2, b3⟩ := back_ne way d1 d2
  have hlen := h.lay.len
  have hc1 := h.c1
  obtain ⟨o, o1, o2, o3, o4⟩ := h.lay.ok l' (by omega) hl
  obtain ⟨o', e', oo1, od, ol, orr, v1, v2⟩ := step_infoL hf l1 ld (way := L.getD l' 0) (by omega)
  obtain rfl : o' = o := by omega
  obtain ⟨c0, c1, c2, c3⟩ := back_ne (L.getD l' 0) v1 v2
  have hoc : o' ≠ c := fun e => by rw [e, h.c0] at o4; exact c0 o4.symm
  have hg : ∀ k, (((L.set o' 0).set l' (backZ way)).set c way).getD k 0 = if k = c then way else if k = l' then backZ way else if k = o' then 0 else L.getD k 0 := fun k => by
    rw [getD_set _ _ _ _ _ (by rw [List.length_set, List.length_set]; omega), getD_set _ _ _ _ _ (by rw [List.length_set]; omega), getD_set _ _ _ _ _ (by omega)]
  refine ⟨o', o1, hoc, oo1, od, by rw [o4]; exact c0, ⟨⟨by simp [hlen], fun k hk => ?_⟩, oo1, o3, od, ?_⟩, hg, ?_, ?_⟩
  · rw [hg]
    simp only [List.length_set] at hk
    by_cases h2 : k = c
    · subst h2
      rw [if_pos rfl]
      exact fun _ => ⟨l', hs, h.cb, hb, by rw [hg, if_neg lc, if_pos rfl]⟩
    · rw [if_neg h2]
      by_cases h1 : k = l'
      · subst h1
        rw [if_pos rfl]
        exact fun _ => ⟨c, lr, hb, h.cb, by rw [hg, if_pos rfl, b3]⟩
      · rw [if_neg h1]
        by_cases h4 : k = o'
        · rw [if_pos h4]; exact fun x => absurd rfl x
        · rw [if_neg h4]
          intro h3
          obtain ⟨t, t1, t2, t3, t4⟩ := h.lay.ok k (by omega) h3
          have hd := step_dir (W := W) (T := T) (c := (k : Int)) (d := L.getD k 0) (by omega)
          have hbn := back_ne _ hd.1 hd.2
          have hrev := step_rev (W := W) (T := T) (c := (k : Int)) (d := L.getD k 0) hf.w1 hf.w6 hf.t1 hf.t6 (by omega) (by have := hf.n; omega) hd.1 hd.2 (by omega)
          rw [t1] at hrev
          refine ⟨t, t1, t2, t3, ?_⟩
          rw [hg, if_neg (fun e => by rw [e, h.c0] at t4; exact hbn.1 t4.symm), if_neg (fun e => ?_), if_neg (fun e => ?_), t4]
          · rw [← t4, e, o4, orr] at hrev; omega
          · rw [← t4, e, o1] at hrev; omega
  · rw [hg, if_neg hoc, if_neg (fun e => ol e), if_pos rfl]
  · have e1 := cntX_set isE L bs.length o' 0 oo1 (by omega)
    have e2 := cntX_set isE (L.set o' 0) bs.length l' (backZ way) l1 (by rw [List.length_set]; omega)
    have e3 := cntX_set isE ((L.set o' 0).set l' (backZ way)) bs.length c way h.c1 (by rw [List.length_set, List.length_set]; omega)
    rw [getD_set L 0 0 o' l' (by omega), if_neg (show ¬ l' = o' from fun e => ol e.symm)] at e2
    rw [getD_set (L.set o' 0) 0 (backZ way) l' c (by rw [List.length_set]; omega), if_neg (show ¬ c = l' from fun e => lc e.symm), getD_set L 0 0 o' c (by omega), if_neg (show ¬ c = o' from fun e => hoc e.symm), h.c0] at e3
    rw [o4] at e1
    generalize L.getD l' 0 = v at *
    simp only [isE_iff] at e1 e2 e3
    rw [if_neg (show ¬ ((0 : Int) = 1 ∨ (0 : Int) = 2) by omega)] at e1 e3
    by_cases hw : way = 1 ∨ way = 2
    · rw [if_pos hw] at e3
      rw [if_neg (fun x => b2.1 x hw)] at e2
      by_cases hv : v = 1 ∨ v = 2
      · rw [if_pos hv] at e2; rw [if_neg (fun x => c2.1 x hv)] at e1; omega
      · rw [if_neg hv] at e2; rw [if_pos (c2.2 hv)] at e1; omega
    · rw [if_neg hw] at e3
      rw [if_pos (b2.2 hw)] at e2
      by_cases hv : v = 1 ∨ v = 2
      · rw [if_pos hv] at e2; rw [if_neg (fun x => c2.1 x hv)] at e1; omega
      · rw [if_neg hv] at e2; rw [if_pos (c2.2 hv)] at e1; omega
  · have e1 := cntX_set (isLm W) L bs.length o' 0 oo1 (by omega)
    have e2 := cntX_set (isLm W) (L.set o' 0) bs.length l' (backZ way) l1 (by rw [List.length_set]; omega)
    have e3 := cntX_set (isLm W) ((L.set o' 0).set l' (backZ way)) bs.length c way h.c1 (by rw [List.length_set, List.length_set]; omega)
    rw [getD_set L 0 0 o' l' (by omega), if_neg (show ¬ l' = o' from fun e => ol e.symm)] at e2
    rw [o4] at e1
    generalize L.getD l' 0 = v at *
    simp [isLm, h.cd, ld, od, b0, hl] at e1 e2 e3
    omega

theorem betT_skip {W T : Int} {bs : List Bool} {rec : List Int → Nat → List Bool → List Int × List Bool × Bool} {laid : List Int} {dark : Nat} {seen : List Bool} {j : Nat} (h : stepZ W T dark (4 - (j : Int)) < 0 ∨ bs.getD (stepZ W T dark (4 - (j : Int))).toNat false = false ∨ seen.getD (stepZ W T dark (4 - (j : Int))).toNat false = true) : betT W T bs rec laid dark (j + 1) seen = betT W T bs rec laid dark j seen := by
  show (if _ then _ else _) = _
  rw [if_pos h]
theorem betT_free {W T : Int} {bs : List Bool} {rec : List Int → Nat → List Bool → List Int × List Bool × Bool} {laid : List Int} {dark : Nat} {seen : List Bool} {j l : Nat} (hs : stepZ W T dark (4 - (j : Int)) = l) (hb : bs.getD l false = true) (hn : seen.getD l false = false) (hl : laid.getD l 0 = 0) :
    betT W T bs rec laid dark (j + 1) seen = ((laid.set dark (4 - (j : Int))).set l (backZ (4 - (j : Int))), seen.set l true, true) := by
  show (if _ then _ else _) = _
  rw [hs, if_neg (by rintro (h | h | h); omega; (rw [Int.toNat_natCast, hb] at h; cases h); (rw [Int.toNat_natCast, hn] at h; cases h)), if_pos (by simpa using hl)]
  simp
theorem betT_rec {W T : Int} {bs : List Bool} {rec : List Int → Nat → List Bool → List Int × List Bool × Bool} {laid : List Int} {dark : Nat} {seen : List Bool} {j l o : Nat} (hs : stepZ W T dark (4 - (j : Int)) = l) (hb : bs.getD l false = true) (hn : seen.getD l false = false) (hl : laid.getD l 0 ≠ 0) (ho : stepZ W T l (laid.getD l 0) = o) :
    betT W T bs rec laid dark (j + 1) seen = (if (rec (((laid.set o 0).set l (backZ (4 - (j : Int)))).set dark (4 - (j : Int))) o (seen.set l true)).2.2 = true then rec (((laid.set o 0).set l (backZ (4 - (j : Int)))).set dark (4 - (j : Int))) o (seen.set l true) else betT W T bs rec laid dark j (rec (((laid.set o 0).set l (backZ (4 - (j : Int)))).set dark (4 - (j : Int))) o (seen.set l true)).2.1) := by
  show (if _ then _ else _) = _
  rw [hs, if_neg (by rintro (h | h | h); omega; (rw [Int.toNat_natCast, hb] at h; cases h); (rw [Int.toNat_natCast, hn] at h; cases h)), if_neg (by simpa using hl)]
  simp only [Int.toNat_natCast, ho]
/-- the three ways on -/
theorem bet_cases {W T : Int} {bs : List Bool} (hf : Fld W T bs) {L : List Int} {c : Nat} (h : Free W T bs L c) (seen : List Bool) (j : Nat) :
    (stepZ W T c (4 - (j : Int)) < 0 ∨ bs.getD (stepZ W T c (4 - (j : Int))).toNat false = false ∨ seen.getD (stepZ W T c (4 - (j : Int))).toNat false = true) ∨
    ∃ l : Nat, stepZ W T c (4 - (j : Int)) = l ∧ l < bs.length ∧ darkB W l = false ∧ bs.getD l false = true ∧ seen.getD l false = false ∧ (L.getD l 0 = 0 ∨
      (L.getD l 0 ≠ 0 ∧ ∃ o : Nat, stepZ W T l (L.getD l 0) = o ∧ o ≠ c ∧ o < bs.length ∧ darkB W o = true ∧ L.getD o 0 ≠ 0 ∧ Free W T bs (((L.set o 0).set l (backZ (4 - (j : Int)))).set c (4 - (j : Int))) o ∧
        (∀ k, (((L.set o 0).set l (backZ (4 - (j : Int)))).set c (4 - (j : Int))).getD k 0 = if k = c then (4 - (j : Int)) else if k = l then backZ (4 - (j : Int)) else if k = o then 0 else L.getD k 0) ∧
        cntX isE (((L.set o 0).set l (backZ (4 - (j : Int)))).set c (4 - (j : Int))) bs.length = cntX isE L bs.length ∧ cntX (isLm W) (((L.set o 0).set l (backZ (4 - (j : Int)))).set c (4 - (j : Int))) bs.length = cntX (isLm W) L bs.length)) := by
  by_cases h1 : stepZ W T c (4 - (j : Int)) < 0 ∨ bs.getD (stepZ W T c (4 - (j : Int))).toNat false = false ∨ seen.getD (stepZ W T c (4 - (j : Int))).toNat false = true
  · exact .inl h1
  · obtain ⟨l, e, l1, ld, lc, lr, d1, d2⟩ := step_info hf h.c1 h.cd (way := 4 - (j : Int)) (by omega)
    rw [e] at h1
    simp only [Int.toNat_natCast, not_or, Bool.not_eq_false, Bool.not_eq_true] at h1
    refine .inr ⟨l, e, l1, ld, h1.2.1, h1.2.2, ?_⟩
    by_cases hl : L.getD l 0 = 0
    · exact .inl hl
    · exact .inr ⟨hl, free_next hf h e h1.2.1 hl⟩
/-- a way on makes a domino more -/
theorem bet_grows {W T : Int} {bs : List Bool} (hf : Fld W T bs) : ∀ (f : Nat) (L : List Int) (c : Nat) (seen : List Bool), Free W T bs L c → (bet W T bs f L c seen).2.2 = true → Grows W T bs L c (bet W T bs f L c seen).1
  | 0, L, c, seen, h, hr => by cases hr
  | f + 1, L, c, seen, h, hr => by
    have key : ∀ (j : Nat) (seen : List Bool), j ≤ 4 → (betT W T bs (bet W T bs f) L c j seen).2.2 = true → Grows W T bs L c (betT W T bs (bet W T bs f) L c j seen).1 := by
      intro j
      induction j with
      | zero => intro seen _ hr; cases hr
      | succ j ih =>
        intro seen hj hr
        rcases bet_cases hf h seen j with h1 | ⟨l, e, l1, ld, hb, hn, hl | ⟨hl, o, o1, oc, o2, od, o3, o4, o5, o6, o7⟩⟩
        · rw [betT_skip h1] at hr ⊢; exact ih seen (by omega) hr
        · rw [betT_free e hb hn hl] at hr ⊢; exact grows_free hf h e hb hl
        · rw [betT_rec e hb hn hl o1] at hr ⊢
          by_cases hr2 : (bet W T bs f (((L.set o 0).set l (backZ (4 - (j : Int)))).set c (4 - (j : Int))) o (seen.set l true)).2.2 = true
          · rw [if_pos hr2] at hr ⊢
            have g := bet_grows hf f _ o _ o4 hr2
            refine ⟨g.lay, fun d hd => ?_, by rw [g.many, o6], by rw [g.light, o7]⟩
            rw [g.dark d hd, o5]
            by_cases h1 : d = c
            · simp [h1]; omega
            · rw [if_neg h1, if_neg (fun e => by rw [e, ld] at hd; cases hd)]
              by_cases h2 : d = o
              · exact ⟨fun _ => .inl (h2 ▸ o3), fun _ => .inr h2⟩
              · rw [if_neg h2]; simp [h1, h2]
          · rw [if_neg hr2] at hr ⊢; exact ih _ (by omega) hr
    exact key 4 seen (Nat.le_refl _) hr
/-- where no way leads on, all that was reached is taken -/
structure Stuck (W T : Int) (bs : List Bool) (L : List Int) (c j : Nat) (seen S : List Bool) : Prop where
  len : S.length = seen.length
  sub : ∀ l, seen.getD l false = true → S.getD l false = true
  near : ∀ (way : Int) (l : Nat), 5 - (j : Int) ≤ way → way ≤ 4 → stepZ W T c way = l → bs.getD l false = true → S.getD l false = true
  new : ∀ l, S.getD l false = true → seen.getD l false = false → darkB W l = false ∧ L.getD l 0 ≠ 0 ∧ ∃ o : Nat, stepZ W T l (L.getD l 0) = o ∧ ∀ (way : Int) (l' : Nat), 1 ≤ way → way ≤ 4 → stepZ W T o way = l' → bs.getD l' false = true → S.getD l' false = true
theorem bet_stuck {W T : Int} {bs : List Bool} (hf : Fld W T bs) : ∀ (f : Nat) (L : List Int) (c : Nat) (seen : List Bool), Free W T bs L c → seen.length = bs.length → unseen seen < f → (bet W T bs f L c seen).2.2 = false → Stuck W T bs L c 4 seen (bet W T bs f L c seen).2.1
  | 0, L, c, seen, h, _, hu, hr => by omega
  | f + 1, L, c, seen, h, hsl, hu, hr => by
    have key : ∀ (j : Nat) (seen : List Bool), j ≤ 4 → seen.length = bs.length → unseen seen < f + 1 → (betT W T bs (bet W T bs f) L c j seen).2.2 = false → Stuck W T bs L c j seen (betT W T bs (bet W T bs f) L c j seen).2.1 := by
      intro j
      induction j with
      | zero => intro seen _ _ _ hr; exact ⟨rfl, fun l h => h, fun way l h1 h2 => by omega, fun l h1 h2 => by rw [show (betT W T bs (bet W T bs f) L c 0 seen).2.1 = seen from rfl, h2] at h1; cases h1⟩
      | succ j ih =>
        intro seen hj hsl hu hr
        rcases bet_cases hf h seen j with h1 | ⟨l, e, l1, ld, hb, hn, hl | ⟨hl, o, o1, oc, o2, od, o3, o4, o5, o6, o7⟩⟩
        · rw [betT_skip h1] at hr ⊢
          have k := ih seen (by omega) hsl hu hr
          refine ⟨k.len, k.sub, fun way l h2 h3 h4 h5 => ?_, k.new⟩
          rcases (show way = 4 - (j : Int) ∨ 5 - (j : Int) ≤ way from by omega) with h6 | h6
          · subst h6
            rw [h4] at h1
            simp only [Int.toNat_natCast] at h1
            rcases h1 with h1 | h1 | h1
            · omega
            · rw [h5] at h1; cases h1
            · exact k.sub l h1
          · exact k.near way l h6 h3 h4 h5
        · rw [betT_free e hb hn hl] at hr; cases hr
        · have hus := unseen_set seen l (by omega) hn
          rw [betT_rec e hb hn hl o1] at hr ⊢
          by_cases hr2 : (bet W T bs f (((L.set o 0).set l (backZ (4 - (j : Int)))).set c (4 - (j : Int))) o (seen.set l true)).2.2 = true
          · rw [if_pos hr2] at hr; rw [hr2] at hr; cases hr
          · rw [if_neg hr2] at hr ⊢
            have g := bet_stuck hf f _ o (seen.set l true) o4 (by simpa using hsl) (by omega) (by simpa using hr2)
            generalize (bet W T bs f (((L.set o 0).set l (backZ (4 - (j : Int)))).set c (4 - (j : Int))) o (seen.set l true)).2.1 = S1 at *
            have hset : ∀ k, (seen.set l true).getD k false = if k = l then true else seen.getD k false := fun k => getD_set seen false true l k (by omega)
            have hl1 : S1.getD l false = true := g.sub l (by rw [hset, if_pos rfl])
            have hlen : S1.length = bs.length := by rw [g.len, List.length_set, hsl]
            have hsub : ∀ k, seen.getD k false = true → S1.getD k false = true := fun k hk => g.sub k (by rw [hset, hk]; simp)
            have hle := unseen_le seen S1 (by omega) hsub
            have k := ih S1 (by omega) hlen (by omega) hr
            refine ⟨by rw [k.len]; omega, fun x hx => k.sub x (hsub x hx), fun way x h2 h3 h4 h5 => ?_, fun x h2 h3 => ?_⟩
            · rcases (show way = 4 - (j : Int) ∨ 5 - (j : Int) ≤ way from by omega) with h6 | h6
              · subst h6
                rw [e] at h4
                obtain rfl : l = x := by omega
                exact k.sub _ hl1
              · exact k.near way x h6 h3 h4 h5
            · cases hx : S1.getD x false with
              | false => exact k.new x h2 hx
              | true =>
                by_cases hxl : x = l
                · subst hxl
                  exact ⟨ld, hl, o, o1, fun way l' w1 w2 w3 w4 => k.sub l' (g.near way l' (by omega) w2 w3 w4)⟩
                · obtain ⟨n1, n2, o', n3, n4⟩ := g.new x hx (by rw [hset, if_neg hxl]; exact h3)
                  have hxc : x ≠ c := fun e => by rw [e, h.cd] at n1; cases n1
                  have hxo : x ≠ o := fun e => by rw [e, od] at n1; cases n1
                  rw [o5, if_neg hxc, if_neg hxl, if_neg hxo] at n2 n3
                  exact ⟨n1, n2, o', n3, fun way l' w1 w2 w3 w4 => k.sub l' (n4 way l' w1 w2 w3 w4)⟩
    exact key 4 seen (Nat.le_refl _) hsl hu hr

/-- what a round does, by the number of its way -/
theorem bet_round {W T : Int} {bs : List Bool} (hf : Fld W T bs) {L : List Int} {c : Nat} (h : Free W T bs L c) (rec : List Int → Nat → List Bool → List Int × List Bool × Bool) (S : List Bool) (hS : S.length = bs.length) (k : Nat) (k1 : 1 ≤ k) (k4 : k ≤ 4) :
    (stepZ W T c k < 0 ∧ betT W T bs rec L c (5 - k) S = betT W T bs rec L c (4 - k) S) ∨
    ∃ l : Nat, stepZ W T c k = l ∧ l < bs.length ∧ l < L.length ∧ l < S.length ∧ l ≠ c ∧
      ((bs.getD l false = false ∧ betT W T bs rec L c (5 - k) S = betT W T bs rec L c (4 - k) S) ∨
       (bs.getD l false = true ∧ ((S.getD l false = true ∧ betT W T bs rec L c (5 - k) S = betT W T bs rec L c (4 - k) S) ∨
        (S.getD l false = false ∧
         ((L.getD l 0 = 0 ∧ betT W T bs rec L c (5 - k) S = ((L.set c k).set l (backZ k), S.set l true, true)) ∨
          (L.getD l 0 ≠ 0 ∧ ∃ o : Nat, stepZ W T l (L.getD l 0) = o ∧ o ≠ c ∧ o < bs.length ∧ Free W T bs (((L.set o 0).set l (backZ k)).set c k) o ∧ unseen (S.set l true) + 1 = unseen S ∧
            betT W T bs rec L c (5 - k) S = (if (rec (((L.set o 0).set l (backZ k)).set c k) o (S.set l true)).2.2 = true then rec (((L.set o 0).set l (backZ k)).set c k) o (S.set l true) else betT W T bs rec L c (4 - k) (rec (((L.set o 0).set l (backZ k)).set c k) o (S.set l true)).2.1))))))) := by
  have e : (4 - ((4 - k : Nat) : Int)) = k := by omega
  have e5 : 5 - k = (4 - k) + 1 := by omega
  have hl := h.lay.len
  rcases Int.lt_or_le (stepZ W T c k) 0 with h0 | h0
  · exact .inl ⟨h0, by rw [e5, betT_skip (.inl (by rw [e]; exact h0))]⟩
  · obtain ⟨l, s, l1, ld, lc, lr, d1, d2⟩ := step_info hf h.c1 h.cd (way := (k : Int)) h0
    refine .inr ⟨l, s, l1, by omega, by omega, lc, ?_⟩
    cases hb : bs.getD l false with
    | false => exact .inl ⟨rfl, by rw [e5, betT_skip (.inr (.inl (by rw [e, s, Int.toNat_natCast]; exact hb)))]⟩
    | true =>
      refine .inr ⟨rfl, ?_⟩
      cases hn : S.getD l false with
      | true => exact .inl ⟨rfl, by rw [e5, betT_skip (.inr (.inr (by rw [e, s, Int.toNat_natCast]; exact hn)))]⟩
      | false =>
        refine .inr ⟨rfl, ?_⟩
        have s' : stepZ W T c (4 - ((4 - k : Nat) : Int)) = l := by rw [e]; exact s
        by_cases hz : L.getD l 0 = 0
        · refine .inl ⟨hz, ?_⟩
          rw [e5, betT_free s' hb hn hz, e]
        · obtain ⟨o, o1, oc, o2, od, o3, o4, o5, o6, o7⟩ := free_next hf h s hb hz
          refine .inr ⟨hz, o, o1, oc, o2, o4, unseen_set S l (by omega) hn, ?_⟩
          rw [e5, betT_rec s' hb hn hz o1, e]
end Go.Proofs.Ytnciemnlnijhfaa

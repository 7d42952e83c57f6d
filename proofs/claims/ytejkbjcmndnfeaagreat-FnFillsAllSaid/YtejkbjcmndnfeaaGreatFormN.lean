
/- Forms of pieces, plainly: lists of cells compared, put in order without doubles; the eight turns and mirrors. -/
import Derived.Test.YtejkbjcmndnfeaaGreatMoveL
namespace Go.Proofs.YtejkbjcmndnfeaaGreat
open Go.Sort

/-! ### Lists of cells in order -/
/-- cell by cell -/
def cmpF : List Ce → List Ce → Int
  | [], [] => 0
  | [], _ :: _ => -1
  | _ :: _, [] => 1
  | a :: l, b :: m => if cmpC a b = 0 then cmpF l m else cmpC a b
def ltL : List Ce → List Ce → Bool
  | [], [] => false
  | [], _ :: _ => true
  | _ :: _, [] => false
  | a :: l, b :: m => ltC a b || (decide (a = b) && ltL l m)
theorem cmpC_lt (a b : Ce) : cmpC a b < 0 ↔ ltC a b = true := by
  have := ltC_eq a b
  unfold ltOf at this
  rw [← this]; simp
theorem cmpC_zero (a b : Ce) : cmpC a b = 0 ↔ a = b := by
  obtain ⟨a1, a2⟩ := a
  obtain ⟨b1, b2⟩ := b
  unfold cmpC Lib.compareInt
  simp only [Prod.mk.injEq]
  repeat' split
  all_goals omega
theorem ltOf_cmpF (x y : List Ce) : ltOf cmpF x y = ltL x y := by
  induction x generalizing y with
  | nil => cases y <;> simp [ltOf, cmpF, ltL]
  | cons a l ih =>
    cases y with
    | nil => simp [ltOf, cmpF, ltL]
    | cons b m =>
      have h := ih m
      unfold ltOf at h ⊢
      unfold cmpF ltL
      by_cases hab : a = b
      · subst hab
        have e0 : cmpC a a = 0 := (cmpC_zero a a).2 rfl
        have e1 : ltC a a = false := by rw [← ltC_eq]; exact swoC.irrefl a
        rw [if_pos e0, h, e1]; simp
      · have e0 : ¬ cmpC a b = 0 := fun hh => hab ((cmpC_zero a b).1 hh)
        rw [if_neg e0, decide_eq_false hab, Bool.false_and, Bool.or_false]
        rw [Bool.eq_iff_iff, decide_eq_true_eq]
        exact cmpC_lt a b
theorem cmpF_zero (x y : List Ce) : cmpF x y = 0 ↔ x = y := by
  induction x generalizing y with
  | nil => cases y <;> simp [cmpF]
  | cons a l ih =>
    cases y with
    | nil => simp [cmpF]
    | cons b m =>
      unfold cmpF
      by_cases hab : a = b
      · subst hab
        rw [if_pos ((cmpC_zero a a).2 rfl), ih m]; simp
      · have e0 : ¬ cmpC a b = 0 := fun hh => hab ((cmpC_zero a b).1 hh)
        rw [if_neg e0]
        simp [e0, hab]
theorem ltL_irrefl (x : List Ce) : ltL x x = false := by
  induction x with
  | nil => rfl
  | cons a l ih => unfold ltL; rw [ih, show ltC a a = false by rw [← ltC_eq]; exact swoC.irrefl a]; simp
theorem ltC_trans {a b c : Ce} (h1 : ltC a b = true) (h2 : ltC b c = true) : ltC a c = true := by
  rw [← ltC_eq] at *; exact swoC.trans a b c h1 h2
theorem ltL_trans {x y z : List Ce} (h1 : ltL x y = true) (h2 : ltL y z = true) : ltL x z = true := by
  induction x generalizing y z with
  | nil =>
    cases y with
    | nil => exact h2
    | cons b m => cases z with
      | nil => simp [ltL] at h2
      | cons c n => rfl
  | cons a l ih =>
    cases y with
    | nil => simp [ltL] at h1
    | cons b m => cases z with
      | nil => simp [ltL] at h2
      | cons c n =>
        simp only [ltL, Bool.or_eq_true, Bool.and_eq_true, decide_eq_true_eq] at *
        rcases h1 with h1 | ⟨rfl, h1⟩
        · rcases h2 with h2 | ⟨rfl, h2⟩
          · exact .inl (ltC_trans h1 h2)
          · exact .inl h1
        · rcases h2 with h2 | ⟨rfl, h2⟩
          · exact .inl h2
          · exact .inr ⟨rfl, ih h1 h2⟩
theorem ltL_total {x y : List Ce} (h1 : ltL x y = false) (h2 : ltL y x = false) : x = y := by
  induction x generalizing y with
  | nil => cases y with
    | nil => rfl
    | cons b m => simp [ltL] at h1
  | cons a l ih =>
    cases y with
    | nil => simp [ltL] at h2
    | cons b m =>
      simp only [ltL, Bool.or_eq_false_iff, Bool.and_eq_false_iff, decide_eq_false_iff_not] at h1 h2
      have hab : a = b := totC a b (by rw [ltC_eq]; exact h1.1) (by rw [ltC_eq]; exact h2.1)
      subst hab
      have k1 : ltL l m = false := h1.2.resolve_left (fun h => h rfl)
      have k2 : ltL m l = false := h2.2.resolve_left (fun h => h rfl)
      rw [ih k1 k2]
theorem swoF : SWO (ltOf cmpF) where
  irrefl x := by rw [ltOf_cmpF]; exact ltL_irrefl x
  trans x y z h1 h2 := by rw [ltOf_cmpF] at *; exact ltL_trans h1 h2
  ntrans x y z h1 h2 := by
    rw [ltOf_cmpF] at *
    cases h : ltL x z with
    | false => rfl
    | true =>
      cases h3 : ltL y x with
      | true => exact absurd (ltL_trans h3 h) (by rw [h2]; simp)
      | false => rw [ltL_total h1 h3] at h; rw [h] at h2; cases h2
theorem totF (x y : List Ce) (h1 : ltOf cmpF x y = false) (h2 : ltOf cmpF y x = false) : x = y := by
  rw [ltOf_cmpF] at *; exact ltL_total h1 h2
/-- lists of lists in order, none twice -/
def Inc (L : List (List Ce)) : Prop := L.Pairwise fun x y => ltL x y = true
theorem inc_unique : ∀ {L M : List (List Ce)}, Inc L → Inc M → (∀ x, x ∈ L ↔ x ∈ M) → L = M
  | [], [], _, _, _ => rfl
  | [], b :: m, _, _, h => absurd ((h b).2 (by simp)) (by simp)
  | a :: l, [], _, _, h => absurd ((h a).1 (by simp)) (by simp)
  | a :: l, b :: m, hL, hM, h => by
    obtain ⟨l1, l2⟩ := List.pairwise_cons.1 hL
    obtain ⟨m1, m2⟩ := List.pairwise_cons.1 hM
    have hab : a = b := by
      rcases List.mem_cons.1 ((h a).1 (by simp)) with h1 | h1
      · exact h1
      · rcases List.mem_cons.1 ((h b).2 (by simp)) with h2 | h2
        · exact h2.symm
        · have k1 := m1 a h1
          have k2 := l1 b h2
          have := ltL_trans k1 k2
          rw [ltL_irrefl] at this; cases this
    subst hab
    rw [inc_unique l2 m2 (fun x => ?_)]
    constructor
    · intro hx
      rcases List.mem_cons.1 ((h x).1 (List.mem_cons_of_mem _ hx)) with h1 | h1
      · subst h1; have := l1 x hx; rw [ltL_irrefl] at this; cases this
      · exact h1
    · intro hx
      rcases List.mem_cons.1 ((h x).2 (List.mem_cons_of_mem _ hx)) with h1 | h1
      · subst h1; have := m1 x hx; rw [ltL_irrefl] at this; cases this
      · exact h1
theorem Inc.nodup {L : List (List Ce)} (h : Inc L) : L.Nodup :=
  h.imp (fun {a b} hab e => by subst e; rw [ltL_irrefl] at hab; cases hab)
/-- one more put in its place -/
def insF (x : List Ce) : List (List Ce) → List (List Ce)
  | [] => [x]
  | y :: l => if ltL y x = true then y :: insF x l else if y = x then y :: l else x :: y :: l
theorem insF_mem (x : List Ce) (L : List (List Ce)) (z : List Ce) : z ∈ insF x L ↔ z = x ∨ z ∈ L := by
  induction L with
  | nil => simp [insF]
  | cons y l ih =>
    unfold insF
    split
    · rw [List.mem_cons, ih, List.mem_cons]
      constructor
      · rintro (h | h | h)
        · exact .inr (.inl h)
        · exact .inl h
        · exact .inr (.inr h)
      · rintro (h | h | h)
        · exact .inr (.inl h)
        · exact .inl h
        · exact .inr (.inr h)
    · split
      · rename_i h; subst h; simp
      · simp
theorem insF_inc {x : List Ce} {L : List (List Ce)} (h : Inc L) : Inc (insF x L) := by
  induction L with
  | nil => simp [insF, Inc]
  | cons y l ih =>
    obtain ⟨h1, h2⟩ := List.pairwise_cons.1 h
    unfold insF
    split
    · rename_i hyx
      refine List.pairwise_cons.2 ⟨fun z hz => ?_, ih h2⟩
      rcases (insF_mem x l z).1 hz with h3 | h3
      · subst h3; exact hyx
      · exact h1 z h3
    · rename_i hyx
      split
      · exact h
      · rename_i hne
        have hxy : ltL x y = true := by
          cases hc : ltL x y with
          | true => rfl
          | false => exact absurd (ltL_total (by simpa using hyx) hc) hne
        refine List.pairwise_cons.2 ⟨fun z hz => ?_, h⟩
        rcases List.mem_cons.1 hz with h3 | h3
        · subst h3; exact hxy
        · exact ltL_trans hxy (h1 z h3)
/-- the place at which it is put -/
def PlaceF (x : List Ce) (L : List (List Ce)) (k : Nat) : Prop := ∀ j (h : j < L.length), j < k → ltL L[j] x = true
theorem insF_at {x : List Ce} {L : List (List Ce)} {k : Nat} (hk : k ≤ L.length) (hp : PlaceF x L k) :
    (∀ h : k < L.length, ltL L[k] x = false → L[k] = x → insF x L = L) ∧ (∀ h : k < L.length, ltL L[k] x = false → L[k] ≠ x → insF x L = L.take k ++ [x] ++ L.drop k) ∧ (k = L.length → insF x L = L.take k ++ [x] ++ L.drop k) := by
  induction L generalizing k with
  | nil =>
    obtain rfl : k = 0 := by simpa using hk
    exact ⟨fun h => by simp at h, fun h => by simp at h, fun _ => rfl⟩
  | cons y l ih =>
    cases k with
    | zero =>
      refine ⟨fun h h1 h2 => ?_, fun h h1 h2 => ?_, fun h => by simp at h⟩
      · simp only [List.getElem_cons_zero] at h1 h2
        unfold insF; rw [h1, if_neg (by simp), if_pos h2]
      · simp only [List.getElem_cons_zero] at h1 h2
        unfold insF; rw [h1, if_neg (by simp), if_neg h2]; simp
    | succ k =>
      have h0 : ltL y x = true := hp 0 (by simp) (by omega)
      have hi := ih (k := k) (by simpa using hk) (fun j hj hjk => by have := hp (j + 1) (by simpa using hj) (by omega); simpa using this)
      refine ⟨fun h h1 h2 => ?_, fun h h1 h2 => ?_, fun h => ?_⟩
      · unfold insF; rw [if_pos h0]
        rw [hi.1 (by simpa using h) (by simpa using h1) (by simpa using h2)]
      · unfold insF; rw [if_pos h0]
        rw [hi.2.1 (by simpa using h) (by simpa using h1) (by simpa using h2)]; simp
      · unfold insF; rw [if_pos h0]
        rw [hi.2.2 (by simpa using h)]; simp
/-- all of a list put in order -/
def incOf (F : List (List Ce)) : List (List Ce) := F.foldl (fun L x => insF x L) []
theorem incOf_go (F : List (List Ce)) (L : List (List Ce)) (h : Inc L) : Inc (F.foldl (fun L x => insF x L) L) ∧ ∀ z, z ∈ F.foldl (fun L x => insF x L) L ↔ z ∈ L ∨ z ∈ F := by
  induction F generalizing L with
  | nil => exact ⟨h, fun z => by simp⟩
  | cons a F ih =>
    obtain ⟨h1, h2⟩ := ih (insF a L) (insF_inc h)
    refine ⟨h1, fun z => ?_⟩
    rw [List.foldl_cons, h2, insF_mem, List.mem_cons]
    constructor
    · rintro ((h | h) | h)
      · exact .inr (.inl h)
      · exact .inl h
      · exact .inr (.inr h)
    · rintro (h | h | h)
      · exact .inl (.inr h)
      · exact .inl (.inl h)
      · exact .inr h
theorem incOf_inc (F : List (List Ce)) : Inc (incOf F) := (incOf_go F [] (by simp [Inc])).1
theorem incOf_mem (F : List (List Ce)) (z : List Ce) : z ∈ incOf F ↔ z ∈ F := by
  have := (incOf_go F [] (by simp [Inc])).2 z
  unfold incOf
  rw [this]; simp
theorem incOf_snoc (F : List (List Ce)) (x : List Ce) : incOf (F ++ [x]) = insF x (incOf F) := by unfold incOf; rw [List.foldl_append]; rfl
theorem incOf_eq {F G : List (List Ce)} (h : ∀ x, x ∈ F ↔ x ∈ G) : incOf F = incOf G :=
  inc_unique (incOf_inc F) (incOf_inc G) (fun x => by rw [incOf_mem, incOf_mem, h])
/-- neighbours that are equal left out -/
def comp : List (List Ce) → List (List Ce)
  | [] => []
  | [x] => [x]
  | x :: y :: l => if x = y then comp (y :: l) else x :: comp (y :: l)
theorem comp_mem (L : List (List Ce)) (z : List Ce) : z ∈ comp L ↔ z ∈ L := by
  match L with
  | [] => simp [comp]
  | [x] => simp [comp]
  | x :: y :: l =>
    unfold comp
    split
    · rename_i h
      subst h
      rw [comp_mem]; simp
    · rw [List.mem_cons, comp_mem]; simp
theorem comp_inc {L : List (List Ce)} (h : L.Pairwise fun x y => ltL y x = false) : Inc (comp L) := by
  match L, h with
  | [], _ => simp [comp, Inc]
  | [x], _ => simp [comp, Inc]
  | x :: y :: l, h =>
    obtain ⟨h1, h2⟩ := List.pairwise_cons.1 h
    have ih := comp_inc h2
    unfold comp
    split
    · exact ih
    · rename_i hne
      refine List.pairwise_cons.2 ⟨fun z hz => ?_, ih⟩
      have hz' := (comp_mem _ _).1 hz
      have hxy : ltL x y = true := by
        cases hc : ltL x y with
        | true => rfl
        | false => exact absurd (ltL_total hc (h1 y (by simp))) hne
      rcases List.mem_cons.1 hz' with h3 | h3
      · subst h3; exact hxy
      · have h4 := (List.pairwise_cons.1 h2).1 z h3
        cases hc : ltL x z with
        | true => rfl
        | false =>
          have : x = z := ltL_total hc (h1 z (by simp [h3]))
          subst this
          rw [hxy] at h4; cases h4
/-- what is in order, doubles left out -/
theorem comp_incOf {S F : List (List Ce)} (h : S.Pairwise fun x y => ltL y x = false) (hp : S.Perm F) : comp S = incOf F :=
  inc_unique (comp_inc h) (incOf_inc F) (fun x => by rw [comp_mem, incOf_mem]; exact hp.mem_iff)
theorem comp_snoc (L : List (List Ce)) (x y : List Ce) : comp (L ++ [x, y]) = if x = y then comp (L ++ [x]) else comp (L ++ [x]) ++ [y] := by
  match L with
  | [] =>
    show comp [x, y] = if x = y then comp [x] else comp [x] ++ [y]
    simp only [comp]
    by_cases h : x = y <;> simp [h]
  | [a] =>
    show comp (a :: x :: [y]) = if x = y then comp (a :: [x]) else comp (a :: [x]) ++ [y]
    simp only [comp]
    by_cases h1 : a = x <;> by_cases h2 : x = y <;> simp [h1, h2]
  | a :: b :: l =>
    have ih := comp_snoc (b :: l) x y
    show comp (a :: b :: (l ++ [x, y])) = if x = y then comp (a :: b :: (l ++ [x])) else comp (a :: b :: (l ++ [x])) ++ [y]
    rw [comp, comp]
    rw [show b :: (l ++ [x, y]) = b :: l ++ [x, y] from rfl, show b :: (l ++ [x]) = b :: l ++ [x] from rfl, ih]
    by_cases h1 : a = b <;> by_cases h2 : x = y <;> simp [h1, h2]
theorem comp_take (S : List (List Ce)) {m : Nat} (h0 : 1 ≤ m) (h : m < S.length) :
    comp (S.take (m + 1)) = if S[m - 1] = S[m] then comp (S.take m) else comp (S.take m) ++ [S[m]] := by
  have e1 : S.take m = S.take (m - 1) ++ [S[m - 1]] := by
    have := take_one_more S (m - 1) (by omega)
    rwa [show m - 1 + 1 = m by omega] at this
  have e2 : S.take (m + 1) = S.take (m - 1) ++ [S[m - 1], S[m]] := by
    rw [take_one_more S m h, e1, List.append_assoc]; rfl
  rw [e2, comp_snoc, ← e1]
theorem comp_len_le (L : List (List Ce)) : (comp L).length ≤ L.length := by
  match L with
  | [] => simp [comp]
  | [x] => simp [comp]
  | x :: y :: l =>
    have := comp_len_le (y :: l)
    unfold comp
    split
    · simp at *; omega
    · simp at *; omega

/-! ### The eight forms -/
def fmC (g : Ce → Ce) (ps : List Ce) : List Ce := mvd (ps.map g)
/-- turned n times -/
def turnN : Nat → Ce → Ce
  | 0, c => c
  | n + 1, c => turnC (turnN n c)
def turnFlip (n : Nat) (c : Ce) : Ce := turnN n (flipC c)
def flipTurn (n : Nat) (c : Ce) : Ce := flipC (turnN n c)
/-- what the reference lists -/
def formsF (ps : List Ce) : List (List Ce) := (List.range 4).map (fun n => fmC (turnN n) ps) ++ (List.range 4).map (fun n => fmC (turnFlip n) ps)
/-- what the program lists -/
def formsG (ps : List Ce) : List (List Ce) := (List.range 4).flatMap fun n => [fmC (turnN n) ps, fmC (flipTurn n) ps]
theorem flipTurn_eq (c : Ce) : flipTurn 0 c = turnFlip 0 c ∧ flipTurn 1 c = turnFlip 3 c ∧ flipTurn 2 c = turnFlip 2 c ∧ flipTurn 3 c = turnFlip 1 c := by
  obtain ⟨x, y⟩ := c
  simp [flipTurn, turnFlip, turnN, turnC, flipC]
theorem forms_same (ps : List Ce) (x : List Ce) : x ∈ formsG ps ↔ x ∈ formsF ps := by
  have e0 : flipTurn 0 = turnFlip 0 := funext fun c => (flipTurn_eq c).1
  have e1 : flipTurn 1 = turnFlip 3 := funext fun c => (flipTurn_eq c).2.1
  have e2 : flipTurn 2 = turnFlip 2 := funext fun c => (flipTurn_eq c).2.2.1
  have e3 : flipTurn 3 = turnFlip 1 := funext fun c => (flipTurn_eq c).2.2.2
  have hG : formsG ps = [fmC (turnN 0) ps, fmC (flipTurn 0) ps, fmC (turnN 1) ps, fmC (flipTurn 1) ps, fmC (turnN 2) ps, fmC (flipTurn 2) ps, fmC (turnN 3) ps, fmC (flipTurn 3) ps] := rfl
  have hF : formsF ps = [fmC (turnN 0) ps, fmC (turnN 1) ps, fmC (turnN 2) ps, fmC (turnN 3) ps, fmC (turnFlip 0) ps, fmC (turnFlip 1) ps, fmC (turnFlip 2) ps, fmC (turnFlip 3) ps] := rfl
  rw [hG, hF, e0, e1, e2, e3]
  simp only [List.mem_cons, List.not_mem_nil, or_false]
  constructor
  · rintro (h | h | h | h | h | h | h | h) <;> simp [h]
  · rintro (h | h | h | h | h | h | h | h) <;> simp [h]
/-- the forms of a piece; none of another list -/
noncomputable def formsV (ps : List Ce) : List (List Ce) := if pieceB ps = true then incOf (formsF ps) else []
theorem formsV_ok {ps : List Ce} (h : PieceOk ps) : formsV ps = incOf (formsF ps) := by unfold formsV; rw [if_pos (pieceB_t h)]
theorem formsV_no {ps : List Ce} (h : pieceB ps = false) : formsV ps = [] := by unfold formsV; rw [h]; rfl
theorem formsV_len_le (ps : List Ce) : (formsV ps).length ≤ 8 := by
  unfold formsV
  split
  · have hle : ∀ (F L : List (List Ce)), (F.foldl (fun L x => insF x L) L).length ≤ L.length + F.length := by
      intro F
      induction F with
      | nil => intro L; simp
      | cons a F ih =>
        intro L
        have h1 := ih (insF a L)
        have h2 : (insF a L).length ≤ L.length + 1 := by
          clear h1 ih
          induction L with
          | nil => simp [insF]
          | cons y l ih =>
            unfold insF
            split
            · simp; omega
            · split <;> simp
        rw [List.foldl_cons, List.length_cons]; omega
    have := hle (formsF ps) []
    have e : (formsF ps).length = 8 := rfl
    unfold incOf
    simp at this ⊢
    omega
  · simp
theorem formsF_len {ps x : List Ce} (h : x ∈ formsF ps) : x.length = ps.length := by
  have hF : formsF ps = [fmC (turnN 0) ps, fmC (turnN 1) ps, fmC (turnN 2) ps, fmC (turnN 3) ps, fmC (turnFlip 0) ps, fmC (turnFlip 1) ps, fmC (turnFlip 2) ps, fmC (turnFlip 3) ps] := rfl
  rw [hF] at h
  simp only [List.mem_cons, List.not_mem_nil, or_false] at h
  rcases h with rfl | rfl | rfl | rfl | rfl | rfl | rfl | rfl <;> (unfold fmC; rw [mvd_len, List.length_map])
theorem formsV_each {ps x : List Ce} (h : x ∈ formsV ps) : x.length = ps.length ∧ pieceB ps = true := by
  unfold formsV at h
  split at h
  · rename_i hp; exact ⟨formsF_len ((incOf_mem _ _).1 h), hp⟩
  · simp at h
theorem formsV_pos {ps : List Ce} (h : PieceOk ps) : 0 < (formsV ps).length := by
  rw [formsV_ok h]
  have : fmC (turnN 0) ps ∈ incOf (formsF ps) := (incOf_mem _ _).2 (by simp [formsF, List.range, List.range.loop])
  exact List.length_pos_of_mem this
/-- the first form -/
noncomputable def firstV (ps : List Ce) : List Ce := (formsV ps).headD []
theorem lin_turnN (n : Nat) (m c : Ce) : turnN n (subC m c) = subC (turnN n m) (turnN n c) := by
  induction n with
  | zero => rfl
  | succ n ih => unfold turnN; rw [ih, lin_turn]
theorem lin_turnFlip (n : Nat) (m c : Ce) : turnFlip n (subC m c) = subC (turnFlip n m) (turnFlip n c) := by
  unfold turnFlip; rw [lin_flip, lin_turnN]
/-- turned again -/
theorem turn_fm {ps : List Ce} {g : Ce → Ce} (hg : PieceOk (ps.map g)) : mvdV turnC (fmC g ps) = fmC (fun c => turnC (g c)) ps := by
  unfold fmC
  rw [mvdV_ok turnC (ok_mvd hg), mvd_map hg.ne turnC lin_turn, List.map_map]; rfl
theorem flip_fm {ps : List Ce} {g : Ce → Ce} (hg : PieceOk (ps.map g)) : mvdV flipC (fmC g ps) = fmC (fun c => flipC (g c)) ps := by
  unfold fmC
  rw [mvdV_ok flipC (ok_mvd hg), mvd_map hg.ne flipC lin_flip, List.map_map]; rfl
theorem ok_turnN {ps : List Ce} (h : PieceOk ps) (n : Nat) : PieceOk (ps.map (turnN n)) := by
  induction n with
  | zero => rw [show turnN 0 = id from rfl, List.map_id]; exact h
  | succ n ih =>
    have := ok_turn ih
    rw [List.map_map] at this
    exact this
theorem ok_turnFlip {ps : List Ce} (h : PieceOk ps) (n : Nat) : PieceOk (ps.map (turnFlip n)) := by
  have := ok_turnN (ok_flip h) n
  rw [List.map_map] at this
  exact this
theorem ok_fm {ps : List Ce} {g : Ce → Ce} (hg : PieceOk (ps.map g)) : PieceOk (fmC g ps) := ok_mvd hg
/-- the n-th of the reference's walk -/
def walkF (ps : List Ce) (n : Nat) : List Ce := if n < 4 then fmC (turnN n) ps else fmC (turnFlip (n - 4)) ps
theorem walkF_ok {ps : List Ce} (h : PieceOk ps) (n : Nat) : PieceOk (walkF ps n) := by
  unfold walkF
  split
  · exact ok_fm (ok_turnN h n)
  · exact ok_fm (ok_turnFlip h _)
theorem walkF_zero {ps : List Ce} (h : PieceOk ps) : mvdV stayC ps = walkF ps 0 := by
  rw [mvdV_ok stayC h]; rfl
theorem walkF_step {ps : List Ce} (h : PieceOk ps) {n : Nat} (hn : n ≠ 3) : mvdV turnC (walkF ps n) = walkF ps (n + 1) := by
  unfold walkF
  by_cases h4 : n < 4
  · rw [if_pos h4, if_pos (by omega), turn_fm (ok_turnN h n)]; rfl
  · rw [if_neg h4, if_neg (by omega), turn_fm (ok_turnFlip h _), show n + 1 - 4 = (n - 4) + 1 by omega]; rfl
theorem walkF_flip {ps : List Ce} (h : PieceOk ps) : mvdV flipC (mvdV turnC (walkF ps 3)) = walkF ps 4 := by
  have e : walkF ps 3 = fmC (turnN 3) ps := rfl
  rw [e, turn_fm (ok_turnN h 3), flip_fm (g := fun c => turnC (turnN 3 c)) (ok_turnN h 4)]
  show fmC _ ps = fmC (turnFlip 0) ps
  congr 1
  funext c
  simp [turnFlip, turnN, turnC, flipC]
theorem walkF_list (ps : List Ce) : (List.range 8).map (walkF ps) = formsF ps := rfl
end Go.Proofs.YtejkbjcmndnfeaaGreat


/- Flips and pushes, plainly: what they do to heights; what is coupled. -/
import Derived.Test.YtafmpgikdhlknaaGreatHtlN
import Derived.Test.YtafmpgikdhlknaaGreatTlsN
namespace Go.Proofs.YtafmpgikdhlknaaGreat
open Go.RowKit

/-! ### A flip changes one height -/
def flipD (D : Int → Int → Int) (x y a b c d : Int) : Int → Int → Int := fun u v =>
  if u = x - 1 ∧ v = y - 1 then a else if u = x ∧ v = y - 1 then b else if u = x - 1 ∧ v = y then c else if u = x ∧ v = y then d else D u v
theorem flat_sq {R : Int → Int → Bool} {D : Int → Int → Int} (ht : IsTil R D) {x y : Int} (h : Flat D x y) : Sq R x y := by
  obtain ⟨a, b⟩ := h
  have a' := (til_3 ht (x := x) (y := y - 1)).1 a
  have b' := (til_3 ht (x := x) (y := y)).1 b
  exact ⟨til_mem ht (by omega), til_mem ht (by omega), til_mem ht (by omega), til_mem ht (by omega)⟩
theorem upri_sq {R : Int → Int → Bool} {D : Int → Int → Int} (ht : IsTil R D) {x y : Int} (h : Upri D x y) : Sq R x y := by
  obtain ⟨a, b⟩ := h
  have a' := (til_4 ht (x := x - 1) (y := y)).1 a
  have b' := (til_4 ht (x := x) (y := y)).1 b
  exact ⟨til_mem ht (by omega), til_mem ht (by omega), til_mem ht (by omega), til_mem ht (by omega)⟩
/-- a height changed -/
def bumpH (h : Int → Int → Int) (x y d : Int) : Int → Int → Int := fun u v => if u = x ∧ v = y then h u v + d else h u v
theorem bump_eq (h : Int → Int → Int) (x y d : Int) : bumpH h x y d x y = h x y + d := by unfold bumpH; rw [if_pos ⟨rfl, rfl⟩]
theorem bump_ne {h : Int → Int → Int} {x y d u v : Int} (hn : ¬ (u = x ∧ v = y)) : bumpH h x y d u v = h u v := by unfold bumpH; rw [if_neg hn]
/-- the rise of a flip -/
theorem bump_push {R : Int → Int → Bool} {D h : Int → Int → Int} (ht : IsTil R D) (hh : IsHgt R D h) {x y : Int} :
    (Flat D x y → bumpH h x y (4 * rho x y) = pushH R h x y (decide (rho x y = 1))) ∧ (Upri D x y → bumpH h x y (-4 * rho x y) = pushH R h x y (decide (rho x y = -1))) := by
  have hro := rho_or x y
  have k : ∀ (up : Bool) (d : Int), pushBy R h x y up = d → bumpH h x y d = pushH R h x y up := fun up d e => by
    funext u v
    unfold bumpH pushH
    rw [e]
  refine ⟨fun hf => ?_, fun hf => ?_⟩
  · have hs := flat_sq ht hf
    obtain ⟨a, b⟩ := flip_h ht hh hs
    refine k _ _ ?_
    unfold pushBy
    rw [if_pos hs]
    rcases hro with e | e
    · rw [if_pos (by rw [e]; rfl), if_pos (a.2 (.inl ⟨e, hf⟩)), e]; rfl
    · rw [if_neg (by rw [e]; decide), if_pos (b.2 (.inl ⟨e, hf⟩)), e]; rfl
  · have hs := upri_sq ht hf
    obtain ⟨a, b⟩ := flip_h ht hh hs
    refine k _ _ ?_
    unfold pushBy
    rw [if_pos hs]
    rcases hro with e | e
    · rw [if_neg (by rw [e]; decide), if_pos (b.2 (.inr ⟨e, hf⟩)), e]; rfl
    · rw [if_pos (by rw [e]; rfl), if_pos (a.2 (.inr ⟨e, hf⟩)), e]; rfl
/-- a direction told by the heights of the corners -/
theorem dirH_is {R : Int → Int → Bool} {h : Int → Int → Int} (ho : HgtOk R h) {x y : Int} (hr : R x y = true) :
    (h (x + 1) (y + 1) - h (x + 1) y = -3 * rho x y → dirH R h x y = 1) ∧ (h (x + 1) (y + 1) - h x (y + 1) = 3 * rho x y → dirH R h x y = 2) ∧
    (h x (y + 1) - h x y = 3 * rho x y → dirH R h x y = 3) ∧ (h (x + 1) y - h x y = -3 * rho x y → dirH R h x y = 4) := by
  have hro := rho_or x y
  rcases dirH_cases ho hr with ⟨e, _, b1, b2, b3, b4⟩ | ⟨e, _, b1, b2, b3, b4⟩ | ⟨e, _, b1, b2, b3, b4⟩ | ⟨e, _, b1, b2, b3, b4⟩ <;>
    exact ⟨fun _ => by omega, fun _ => by omega, fun _ => by omega, fun _ => by omega⟩
theorem dirH_same {R : Int → Int → Bool} {h h' : Int → Int → Int} {x y : Int} (e1 : h' x y = h x y) (e2 : h' (x + 1) y = h (x + 1) y) (e3 : h' x (y + 1) = h x (y + 1)) (e4 : h' (x + 1) (y + 1) = h (x + 1) (y + 1)) : dirH R h' x y = dirH R h x y := by
  unfold dirH; rw [e1, e2, e3, e4]
theorem flip_dir {R : Int → Int → Bool} {D h : Int → Int → Int} (ht : IsTil R D) (hh : IsHgt R D h) {x y d a b c e : Int} 
    (h1 : ∀ (g : Int → Int → Int), g = bumpH h x y d → dirH R g (x - 1) (y - 1) = a ∧ dirH R g x (y - 1) = b ∧ dirH R g (x - 1) y = c ∧ dirH R g x y = e) : ∀ u v, dirH R (bumpH h x y d) u v = flipD D x y a b c e u v := by
  intro u v
  obtain ⟨k1, k2, k3, k4⟩ := h1 _ rfl
  unfold flipD
  by_cases q1 : u = x - 1 ∧ v = y - 1
  · rw [if_pos q1, q1.1, q1.2]; exact k1
  · rw [if_neg q1]
    by_cases q2 : u = x ∧ v = y - 1
    · rw [if_pos q2, q2.1, q2.2]; exact k2
    · rw [if_neg q2]
      by_cases q3 : u = x - 1 ∧ v = y
      · rw [if_pos q3, q3.1, q3.2]; exact k3
      · rw [if_neg q3]
        by_cases q4 : u = x ∧ v = y
        · rw [if_pos q4, q4.1, q4.2]; exact k4
        · rw [if_neg q4, ← dirH_eq ht hh u v]
          exact dirH_same (bump_ne (by omega)) (bump_ne (by omega)) (bump_ne (by omega)) (bump_ne (by omega))
set_option maxHeartbeats 1000000 in
/-- flat dominoes turned upright -/
theorem flat_flip {R : Int → Int → Bool} {D h : Int → Int → Int} (ht : IsTil R D) (hh : IsHgt R D h) {x y : Int} (hF : Flat D x y) :
    HgtOk R (bumpH h x y (4 * rho x y)) ∧ ∀ u v, dirH R (bumpH h x y (4 * rho x y)) u v = flipD D x y 2 2 4 4 u v := by
  have hro := rho_or x y
  have ho : HgtOk R (bumpH h x y (4 * rho x y)) := by
    rw [(bump_push ht hh).1 hF]; exact push_ok (hh.ok ht) _ _ _
  have hs := flat_sq ht hF
  refine ⟨ho, flip_dir ht hh fun g hg => ?_⟩
  have hO := hh.ok ht
  obtain ⟨a, b⟩ := hF
  have a' := (til_3 ht (x := x) (y := y - 1)).1 a
  have b' := (til_3 ht (x := x) (y := y)).1 b
  obtain ⟨s1, s2, s3, s4⟩ := hs
  have e3 := rho_x' x y
  have e4 := rho_y' x y
  have e34 := rho_x' x (y - 1)
  rw [← hg] at ho
  have g0 : g x y = h x y + 4 * rho x y := by rw [hg, bump_eq]
  have gn : ∀ u v, ¬ (u = x ∧ v = y) → g u v = h u v := fun u v hn => by rw [hg, bump_ne hn]
  have q1 := dirH_is ho s4
  have q2 := dirH_is ho s3
  have q3 := dirH_is ho s2
  have q4 := dirH_is ho s1
  have c1 := dirH_cases hO s4
  have c2 := dirH_cases hO s3
  have c3 := dirH_cases hO s2
  have c4 := dirH_cases hO s1
  rw [dirH_eq ht hh] at c1 c2 c3 c4
  simp only [show x - 1 + 1 = x by omega, show y - 1 + 1 = y by omega] at *
  rw [gn x (y - 1) (by omega), g0, gn (x - 1) y (by omega)] at q1
  rw [gn (x + 1) (y - 1) (by omega), gn (x + 1) y (by omega), g0, gn x (y - 1) (by omega)] at q2
  rw [gn x (y + 1) (by omega), gn (x - 1) (y + 1) (by omega), g0, gn (x - 1) y (by omega)] at q3
  rw [gn (x + 1) (y + 1) (by omega), gn (x + 1) y (by omega), gn x (y + 1) (by omega), g0] at q4
  refine ⟨q1.2.1 (by omega), q2.2.1 (by omega), q3.2.2.2 (by omega), q4.2.2.2 (by omega)⟩
set_option maxHeartbeats 1000000 in
/-- upright dominoes turned flat -/
theorem upri_flip {R : Int → Int → Bool} {D h : Int → Int → Int} (ht : IsTil R D) (hh : IsHgt R D h) {x y : Int} (hF : Upri D x y) :
    HgtOk R (bumpH h x y (-4 * rho x y)) ∧ ∀ u v, dirH R (bumpH h x y (-4 * rho x y)) u v = flipD D x y 1 3 1 3 u v := by
  have hro := rho_or x y
  have ho : HgtOk R (bumpH h x y (-4 * rho x y)) := by
    rw [(bump_push ht hh).2 hF]; exact push_ok (hh.ok ht) _ _ _
  have hs := upri_sq ht hF
  refine ⟨ho, flip_dir ht hh fun g hg => ?_⟩
  have hO := hh.ok ht
  obtain ⟨a, b⟩ := hF
  have a' := (til_4 ht (x := x - 1) (y := y)).1 a
  have b' := (til_4 ht (x := x) (y := y)).1 b
  obtain ⟨s1, s2, s3, s4⟩ := hs
  have e3 := rho_x' x y
  have e4 := rho_y' x y
  have e34 := rho_x' x (y - 1)
  rw [← hg] at ho
  have g0 : g x y = h x y + -4 * rho x y := by rw [hg, bump_eq]
  have gn : ∀ u v, ¬ (u = x ∧ v = y) → g u v = h u v := fun u v hn => by rw [hg, bump_ne hn]
  have q1 := dirH_is ho s4
  have q2 := dirH_is ho s3
  have q3 := dirH_is ho s2
  have q4 := dirH_is ho s1
  have c1 := dirH_cases hO s4
  have c2 := dirH_cases hO s3
  have c3 := dirH_cases hO s2
  have c4 := dirH_cases hO s1
  rw [dirH_eq ht hh] at c1 c2 c3 c4
  simp only [show x - 1 + 1 = x by omega, show y - 1 + 1 = y by omega] at *
  rw [gn x (y - 1) (by omega), g0, gn (x - 1) y (by omega)] at q1
  rw [gn (x + 1) (y - 1) (by omega), gn (x + 1) y (by omega), g0, gn x (y - 1) (by omega)] at q2
  rw [gn x (y + 1) (by omega), gn (x - 1) (y + 1) (by omega), g0, gn (x - 1) y (by omega)] at q3
  rw [gn (x + 1) (y + 1) (by omega), gn (x + 1) y (by omega), gn x (y + 1) (by omega), g0] at q4
  refine ⟨q1.1 (by omega), q2.2.2.1 (by omega), q3.1 (by omega), q4.2.2.1 (by omega)⟩

/-! ### Flips of lists -/
def vX (W : Int) (v : Nat) : Int := (v : Int) % (W + 1)
def vY (W : Int) (v : Nat) : Int := (v : Int) / (W + 1)
/-- the cell in the south-west of a corner -/
def vA (W : Int) (v : Nat) : Int := (vY W v - 1) * W + (vX W v - 1)
def innK (W T : Int) (v : Nat) : Prop := 1 ≤ vX W v ∧ vX W v ≤ W - 1 ∧ 1 ≤ vY W v ∧ vY W v ≤ T - 1
instance (W T : Int) (v : Nat) : Decidable (innK W T v) := by unfold innK; infer_instance
def flatB (W T : Int) (L : List Int) (v : Nat) : Bool := decide (innK W T v) && (decide (L.getD (vA W v).toNat 0 = 1) && decide (L.getD (vA W v + W).toNat 0 = 1))
def uprB (W T : Int) (L : List Int) (v : Nat) : Bool := decide (innK W T v) && (decide (L.getD (vA W v).toNat 0 = 2) && decide (L.getD (vA W v + 1).toNat 0 = 2))
def set4 (W : Int) (L : List Int) (v : Nat) (a b c d : Int) : List Int := (((L.set (vA W v).toNat a).set (vA W v + 1).toNat b).set (vA W v + W).toNat c).set (vA W v + W + 1).toNat d
def flipL (W T : Int) (L : List Int) (v : Nat) : List Int := if flatB W T L v = true then set4 W L v 2 2 4 4 else if uprB W T L v = true then set4 W L v 1 3 1 3 else L
def riseZ (W T : Int) (L : List Int) (v : Nat) : Int := if flatB W T L v = true then 4 * rho (vX W v) (vY W v) else if uprB W T L v = true then -4 * rho (vX W v) (vY W v) else 0
def pushL (W T : Int) (L : List Int) (p : Nat × Bool) : List Int := if (0 < riseZ W T L p.1 ∧ p.2 = true) ∨ (riseZ W T L p.1 < 0 ∧ p.2 = false) then flipL W T L p.1 else L
def runL (W T : Int) (L : List Int) (ps : List (Nat × Bool)) : List Int := ps.foldl (pushL W T) L
/-- the four cells around a corner -/
theorem around {W T : Int} {n : Nat} (hf : FldG W T n) {v : Nat} (h : innK W T v) : ∃ a b c d : Nat, vA W v = a ∧ vA W v + 1 = b ∧ vA W v + W = c ∧ vA W v + W + 1 = d ∧ a < n ∧ b < n ∧ c < n ∧ d < n ∧
    ((a : Int) % W = vX W v - 1 ∧ (a : Int) / W = vY W v - 1) ∧ ((b : Int) % W = vX W v ∧ (b : Int) / W = vY W v - 1) ∧ ((c : Int) % W = vX W v - 1 ∧ (c : Int) / W = vY W v) ∧ ((d : Int) % W = vX W v ∧ (d : Int) / W = vY W v) := by
  obtain ⟨h1, h2, h3, h4⟩ := h
  obtain ⟨a, ea, ha, a1, a2⟩ := hf.at_ (x := vX W v - 1) (y := vY W v - 1) (by omega) (by omega) (by omega) (by omega)
  obtain ⟨b, eb, hb, b1, b2⟩ := hf.at_ (x := vX W v) (y := vY W v - 1) (by omega) (by omega) (by omega) (by omega)
  obtain ⟨c, ec, hc, c1, c2⟩ := hf.at_ (x := vX W v - 1) (y := vY W v) (by omega) (by omega) (by omega) (by omega)
  obtain ⟨d, ed, hd, d1, d2⟩ := hf.at_ (x := vX W v) (y := vY W v) (by omega) (by omega) (by omega) (by omega)
  have e : (vY W v - 1) * W = vY W v * W - W := by rw [Int.sub_mul, Int.one_mul]
  exact ⟨a, b, c, d, by unfold vA; omega, by unfold vA; omega, by unfold vA; omega, by unfold vA; omega, ha, hb, hc, hd, ⟨a1, a2⟩, ⟨b1, b2⟩, ⟨c1, c2⟩, ⟨d1, d2⟩⟩
theorem flatB_iff {W T : Int} {n : Nat} (hf : FldG W T n) {L : List Int} {v : Nat} : flatB W T L v = true ↔ innK W T v ∧ Flat (dirL W T L) (vX W v) (vY W v) := by
  unfold flatB
  rw [Bool.and_eq_true, Bool.and_eq_true, decide_eq_true_eq, decide_eq_true_eq, decide_eq_true_eq]
  refine and_congr_right fun h => ?_
  obtain ⟨a, b, c, d, ea, eb, ec, ed, ha, hb, hc, hd, ⟨a1, a2⟩, ⟨b1, b2⟩, ⟨c1, c2⟩, -⟩ := around hf h
  unfold Flat
  rw [ec, ea, ← a1, ← a2, dir_k hf ha, a1, ← c1, ← c2, dir_k hf hc, Int.toNat_natCast, Int.toNat_natCast]
theorem uprB_iff {W T : Int} {n : Nat} (hf : FldG W T n) {L : List Int} {v : Nat} : uprB W T L v = true ↔ innK W T v ∧ Upri (dirL W T L) (vX W v) (vY W v) := by
  unfold uprB
  rw [Bool.and_eq_true, Bool.and_eq_true, decide_eq_true_eq, decide_eq_true_eq, decide_eq_true_eq]
  refine and_congr_right fun h => ?_
  obtain ⟨a, b, c, d, ea, eb, ec, ed, ha, hb, hc, hd, ⟨a1, a2⟩, ⟨b1, b2⟩, ⟨c1, c2⟩, -⟩ := around hf h
  unfold Upri
  rw [eb, ea, ← a1, ← a2, dir_k hf ha, a2, ← b1, ← b2, dir_k hf hb, Int.toNat_natCast, Int.toNat_natCast]
theorem set4_len (W : Int) (L : List Int) (v : Nat) (a b c d : Int) : (set4 W L v a b c d).length = L.length := by unfold set4; simp
theorem set4_dir {W T : Int} {n : Nat} (hf : FldG W T n) {L : List Int} (hl : L.length = n) {v : Nat} (h : innK W T v) (p q r s : Int) (x y : Int) : dirL W T (set4 W L v p q r s) x y = flipD (dirL W T L) (vX W v) (vY W v) p q r s x y := by
  obtain ⟨a, b, c, d, ea, eb, ec, ed, ha, hb, hc, hd, ⟨a1, a2⟩, ⟨b1, b2⟩, ⟨c1, c2⟩, ⟨d1, d2⟩⟩ := around hf h
  obtain ⟨i1, i2, i3, i4⟩ := h
  by_cases hin : inF W T x y
  · obtain ⟨k, -, hk, e1, e2⟩ := hf.at_ hin.1 hin.2.1 hin.2.2.1 hin.2.2.2
    rw [← e1, ← e2, dir_k hf hk]
    unfold set4 flipD
    rw [dir_k hf hk]
    rw [ed, ec, eb, ea, Int.toNat_natCast, Int.toNat_natCast, Int.toNat_natCast, Int.toNat_natCast, getD_setI (by simp; omega), getD_setI (by simp; omega), getD_setI (by simp; omega), getD_setI (by omega)]
    have ka : k = a ↔ ((k : Int) % W = vX W v - 1 ∧ (k : Int) / W = vY W v - 1) := ⟨fun e => by subst e; exact ⟨a1, a2⟩, fun e => hf.inj hk ha (by omega) (by omega)⟩
    have kb : k = b ↔ ((k : Int) % W = vX W v ∧ (k : Int) / W = vY W v - 1) := ⟨fun e => by subst e; exact ⟨b1, b2⟩, fun e => hf.inj hk hb (by omega) (by omega)⟩
    have kc : k = c ↔ ((k : Int) % W = vX W v - 1 ∧ (k : Int) / W = vY W v) := ⟨fun e => by subst e; exact ⟨c1, c2⟩, fun e => hf.inj hk hc (by omega) (by omega)⟩
    have kd : k = d ↔ ((k : Int) % W = vX W v ∧ (k : Int) / W = vY W v) := ⟨fun e => by subst e; exact ⟨d1, d2⟩, fun e => hf.inj hk hd (by omega) (by omega)⟩
    by_cases q1 : k = a
    · rw [if_pos (ka.1 q1), if_neg (by rw [kd]; have := ka.1 q1; omega), if_neg (by rw [kc]; have := ka.1 q1; omega), if_neg (by rw [kb]; have := ka.1 q1; omega), if_pos q1]
    · rw [if_neg (fun e => q1 (ka.2 e))]
      by_cases q2 : k = b
      · rw [if_pos (kb.1 q2), if_neg (by rw [kd]; have := kb.1 q2; omega), if_neg (by rw [kc]; have := kb.1 q2; omega), if_pos q2]
      · rw [if_neg (fun e => q2 (kb.2 e))]
        by_cases q3 : k = c
        · rw [if_pos (kc.1 q3), if_neg (by rw [kd]; have := kc.1 q3; omega), if_pos q3]
        · rw [if_neg (fun e => q3 (kc.2 e))]
          by_cases q4 : k = d
          · rw [if_pos (kd.1 q4), if_pos q4]
          · rw [if_neg (fun e => q4 (kd.2 e)), if_neg q4, if_neg q3, if_neg q2, if_neg q1]
  · rw [dir_out hin]
    unfold flipD
    unfold inF at hin
    rw [if_neg (by omega), if_neg (by omega), if_neg (by omega), if_neg (by omega), dir_out (by unfold inF; exact hin)]
theorem flip_len (W T : Int) (L : List Int) (v : Nat) : (flipL W T L v).length = L.length := by
  unfold flipL
  split
  · exact set4_len _ _ _ _ _ _ _
  · split
    · exact set4_len _ _ _ _ _ _ _
    · rfl
/-- a flip is a tiling whose heights differ at the corner alone -/
theorem flip_hgt {W T : Int} {bs : List Bool} (hs : simpB W T bs = true) {L : List Int} (h : tilingB W T bs L = true) {v : Nat} (hb : flatB W T L v = true ∨ uprB W T L v = true) :
    tilingB W T bs (flipL W T L v) = true ∧ Sq (atQ W T bs) (vX W v) (vY W v) ∧ (∀ x y, Cor (atQ W T bs) x y → hL W T (hgtV W T bs (flipL W T L v)) x y = bumpH (hL W T (hgtV W T bs L)) (vX W v) (vY W v) (riseZ W T L v) x y) := by
  obtain ⟨hv, hl, ht⟩ := tiling_til h
  have hf := valid_fld hv
  obtain ⟨hg, hh⟩ := hgtV_spec hs ht
  obtain ⟨d, D', hd, hsq, hin, hok, hD⟩ : ∃ (d : Int) (D' : Int → Int → Int), riseZ W T L v = d ∧ Sq (atQ W T bs) (vX W v) (vY W v) ∧ (∀ u w, dirL W T (flipL W T L v) u w = D' u w) ∧ HgtOk (atQ W T bs) (bumpH (hL W T (hgtV W T bs L)) (vX W v) (vY W v) d) ∧ (∀ u w, dirH (atQ W T bs) (bumpH (hL W T (hgtV W T bs L)) (vX W v) (vY W v) d) u w = D' u w) := by
    cases hb1 : flatB W T L v with
    | true =>
      obtain ⟨i, F⟩ := (flatB_iff hf).1 hb1
      obtain ⟨o1, o2⟩ := flat_flip ht hh F
      refine ⟨_, _, by unfold riseZ; rw [if_pos hb1], flat_sq ht F, fun u w => ?_, o1, o2⟩
      unfold flipL
      rw [if_pos hb1]
      exact set4_dir hf hl i 2 2 4 4 u w
    | false =>
      have hb2 : uprB W T L v = true := by
        rcases hb with e | e
        · rw [hb1] at e; cases e
        · exact e
      obtain ⟨i, F⟩ := (uprB_iff hf).1 hb2
      obtain ⟨o1, o2⟩ := upri_flip ht hh F
      refine ⟨_, _, by unfold riseZ; rw [if_neg (by rw [hb1]; decide), if_pos hb2], upri_sq ht F, fun u w => ?_, o1, o2⟩
      unfold flipL
      rw [if_neg (by rw [hb1]; decide), if_pos hb2]
      exact set4_dir hf hl i 1 3 1 3 u w
  have hdd : ∀ u w, dirL W T (flipL W T L v) u w = dirH (atQ W T bs) (bumpH (hL W T (hgtV W T bs L)) (vX W v) (vY W v) d) u w := fun u w => by rw [hin, hD]
  have ht' : IsTil (atQ W T bs) (dirL W T (flipL W T L v)) := til_congr hdd (dirH_til hok)
  refine ⟨til_tiling hv (by rw [flip_len, hl]) ht', hsq, ?_⟩
  -- the first corner is no inner one
  have h0 : ¬ (x0K W bs = vX W v ∧ y0K W bs = vY W v) := by
    rintro ⟨e1, e2⟩
    obtain ⟨-, hp, -⟩ := simp_iff.1 hs
    obtain ⟨hm, -⟩ := fst_all hf hp
    obtain ⟨-, -, -, s4⟩ := hsq
    obtain ⟨k, hk, k1, k2, hb⟩ := at_ex hf s4
    have hle := fst_le hb
    have := hf.le (cellP_lt hm) hk hle
    unfold x0K at e1
    unfold y0K at e2
    omega
  have hg' : GoodH W T bs (mkH W T bs (bumpH (hL W T (hgtV W T bs L)) (vX W v) (vY W v) d)) := mkH_good hs hok (by rw [bump_ne h0]; exact hg.zero)
  have hh' : IsHgt (atQ W T bs) (dirL W T (flipL W T L v)) (hL W T (mkH W T bs (bumpH (hL W T (hgtV W T bs L)) (vX W v) (vY W v) d))) := isHgt_congr (fun x y hc => mkH_cor hf hc) (hgt_congrD hdd (dirH_hgt hok))
  intro x y hc
  rw [hgtV_uni hs hg' hh', mkH_cor hf hc, hd]
/-- what is pushed is a tiling, and its heights are pushed -/
theorem push_hgt {W T : Int} {bs : List Bool} (hs : simpB W T bs = true) {L : List Int} (h : tilingB W T bs L = true) (p : Nat × Bool) :
    tilingB W T bs (pushL W T L p) = true ∧ (∀ x y, Cor (atQ W T bs) x y → hL W T (hgtV W T bs (pushL W T L p)) x y = pushH (atQ W T bs) (hL W T (hgtV W T bs L)) (vX W p.1) (vY W p.1) p.2 x y) := by
  obtain ⟨v, up⟩ := p
  obtain ⟨hv, hl, ht⟩ := tiling_til h
  have hf := valid_fld hv
  obtain ⟨hg, hh⟩ := hgtV_spec hs ht
  have hro := rho_or (vX W v) (vY W v)
  have hst := fun hsq => flip_h ht hh (x := vX W v) (y := vY W v) hsq
  have inn : Sq (atQ W T bs) (vX W v) (vY W v) → innK W T v := fun ⟨s1, _, _, s4⟩ => by
    have := at_in s1
    have := at_in s4
    unfold inF at *
    unfold innK; omega
  unfold pushL
  simp only
  by_cases hc : (0 < riseZ W T L v ∧ up = true) ∨ (riseZ W T L v < 0 ∧ up = false)
  · rw [if_pos hc]
    have hb : flatB W T L v = true ∨ uprB W T L v = true := by
      refine Classical.byContradiction fun hn => ?_
      rw [not_or] at hn
      have : riseZ W T L v = 0 := by unfold riseZ; rw [if_neg hn.1, if_neg hn.2]
      omega
    obtain ⟨k1, k2, k3⟩ := flip_hgt hs h hb
    refine ⟨k1, fun x y hcor => ?_⟩
    rw [k3 x y hcor]
    obtain ⟨b1, b2⟩ := bump_push ht hh (x := vX W v) (y := vY W v)
    cases hb1 : flatB W T L v with
    | true =>
      have hr : riseZ W T L v = 4 * rho (vX W v) (vY W v) := by unfold riseZ; rw [if_pos hb1]
      rw [hr] at hc ⊢
      rw [b1 ((flatB_iff hf).1 hb1).2]
      congr 1
      rcases hro with e | e
      · rw [e]; rcases hc with ⟨_, h⟩ | ⟨h, _⟩
        · rw [h]; rfl
        · omega
      · rw [e]; rcases hc with ⟨h, _⟩ | ⟨_, h⟩
        · omega
        · rw [h]; rfl
    | false =>
      have hb2 : uprB W T L v = true := by
        rcases hb with e | e
        · rw [hb1] at e; cases e
        · exact e
      have hr : riseZ W T L v = -4 * rho (vX W v) (vY W v) := by unfold riseZ; rw [if_neg (by rw [hb1]; decide), if_pos hb2]
      rw [hr] at hc ⊢
      rw [b2 ((uprB_iff hf).1 hb2).2]
      congr 1
      rcases hro with e | e
      · rw [e]; rcases hc with ⟨h, _⟩ | ⟨_, h⟩
        · omega
        · rw [h]; rfl
      · rw [e]; rcases hc with ⟨_, h⟩ | ⟨h, _⟩
        · rw [h]; rfl
        · omega
  · rw [if_neg hc]
    refine ⟨h, fun x y hcor => ?_⟩
    have e0 : pushBy (atQ W T bs) (hL W T (hgtV W T bs L)) (vX W v) (vY W v) up = 0 := by
      rcases pushBy_or (atQ W T bs) (hL W T (hgtV W T bs L)) (vX W v) (vY W v) up with e | ⟨-, hu, hsq, hm⟩ | ⟨-, hu, hsq, hm⟩
      · exact e
      · exfalso
        apply hc
        rcases (hst hsq).1.1 hm with ⟨e, F⟩ | ⟨e, F⟩
        · refine .inl ⟨?_, hu⟩
          unfold riseZ
          rw [if_pos ((flatB_iff hf).2 ⟨inn hsq, F⟩), e]; decide
        · refine .inl ⟨?_, hu⟩
          have hnf : ¬ flatB W T L v = true := fun h => by
            have h1 := ((flatB_iff hf).1 h).2
            unfold Flat at h1; unfold Upri at F; omega
          unfold riseZ
          rw [if_neg hnf, if_pos ((uprB_iff hf).2 ⟨inn hsq, F⟩), e]; decide
      · exfalso
        apply hc
        rcases (hst hsq).2.1 hm with ⟨e, F⟩ | ⟨e, F⟩
        · refine .inr ⟨?_, hu⟩
          unfold riseZ
          rw [if_pos ((flatB_iff hf).2 ⟨inn hsq, F⟩), e]; decide
        · refine .inr ⟨?_, hu⟩
          have hnf : ¬ flatB W T L v = true := fun h => by
            have h1 := ((flatB_iff hf).1 h).2
            unfold Flat at h1; unfold Upri at F; omega
          unfold riseZ
          rw [if_neg hnf, if_pos ((uprB_iff hf).2 ⟨inn hsq, F⟩), e]; decide
    unfold pushH
    rw [e0, Int.add_zero, ite_self]
theorem run_til {W T : Int} {bs : List Bool} (hs : simpB W T bs = true) : ∀ (ps : List (Nat × Bool)) (L : List Int), tilingB W T bs L = true → tilingB W T bs (runL W T L ps) = true
  | [], _, h => h
  | p :: ps, L, h => run_til hs ps (pushL W T L p) (push_hgt hs h p).1
theorem push_le {W T : Int} {bs : List Bool} (hs : simpB W T bs = true) {L M : List Int} (h : tilingB W T bs L = true) (k : tilingB W T bs M = true) (hle : leH W T bs (hgtV W T bs L) (hgtV W T bs M)) (p : Nat × Bool) : leH W T bs (hgtV W T bs (pushL W T L p)) (hgtV W T bs (pushL W T M p)) := by
  intro x y hc
  rw [(push_hgt hs h p).2 x y hc, (push_hgt hs k p).2 x y hc]
  exact push_mono (hgtV_good hs h).ok (hgtV_good hs k).ok (good_mod hs (hgtV_good hs h) (hgtV_good hs k)) hle _ _ _ x y hc
theorem run_le {W T : Int} {bs : List Bool} (hs : simpB W T bs = true) : ∀ (ps : List (Nat × Bool)) (L M : List Int), tilingB W T bs L = true → tilingB W T bs M = true → leH W T bs (hgtV W T bs L) (hgtV W T bs M) → leH W T bs (hgtV W T bs (runL W T L ps)) (hgtV W T bs (runL W T M ps))
  | [], _, _, _, _, h => h
  | p :: ps, _, _, h, k, hle => run_le hs ps _ _ (push_hgt hs h p).1 (push_hgt hs k p).1 (push_le hs h k hle p)
theorem run_app (W T : Int) (L : List Int) (ps qs : List (Nat × Bool)) : runL W T L (ps ++ qs) = runL W T (runL W T L ps) qs := by unfold runL; rw [List.foldl_append]
/-- a second push in the same direction changes nothing -/
theorem push_two {W T : Int} {bs : List Bool} (hs : simpB W T bs = true) {L : List Int} (h : tilingB W T bs L = true) (p : Nat × Bool) : pushL W T (pushL W T L p) p = pushL W T L p := by
  obtain ⟨k1, k2⟩ := push_hgt hs h p
  obtain ⟨k3, k4⟩ := push_hgt hs k1 p
  have hf := valid_fld (simp_iff.1 hs).1
  refine hgt_inj hs k3 k1 ((hgtV_good hs k3).ext hf (hgtV_good hs k1) fun x y hc => ?_)
  have e := push_twice (hgtV_good hs h).ok (vX W p.1) (vY W p.1) p.2
  rw [k4 x y hc]
  -- the pushed heights are those that pushH says, at all corners
  have hcong : ∀ (g g' : Int → Int → Int), (∀ a b, Cor (atQ W T bs) a b → g a b = g' a b) → ∀ a b, Cor (atQ W T bs) a b → pushH (atQ W T bs) g (vX W p.1) (vY W p.1) p.2 a b = pushH (atQ W T bs) g' (vX W p.1) (vY W p.1) p.2 a b := fun g g' hgg a b hab => by
    have hby : pushBy (atQ W T bs) g (vX W p.1) (vY W p.1) p.2 = pushBy (atQ W T bs) g' (vX W p.1) (vY W p.1) p.2 := by
      unfold pushBy
      by_cases hsq : Sq (atQ W T bs) (vX W p.1) (vY W p.1)
      · rw [if_pos hsq, if_pos hsq]
        obtain ⟨s1, s2, s3, s4⟩ := hsq
        have c1 := cor_cell s1
        have c2 := cor_cell s2
        have c3 := cor_cell s3
        have e1 := hgg _ _ c1.1
        have e2 := hgg _ _ c1.2.1
        have e3 := hgg _ _ c1.2.2.1
        have e4 := hgg _ _ c2.1
        have e5 := hgg _ _ c3.1
        have hmin : LoMin g (vX W p.1) (vY W p.1) ↔ LoMin g' (vX W p.1) (vY W p.1) := by unfold LoMin; rw [e1, e2, e3, e4, e5]
        have hmax : LoMax g (vX W p.1) (vY W p.1) ↔ LoMax g' (vX W p.1) (vY W p.1) := by unfold LoMax; rw [e1, e2, e3, e4, e5]
        simp only [hmin, hmax]
      · rw [if_neg hsq, if_neg hsq]
    unfold pushH
    rw [hby, hgg a b hab]
  rw [hcong _ _ k2 x y hc, e, ← k2 x y hc]
/-- one up never leads below, one down never above -/
theorem push_dir {W T : Int} {bs : List Bool} (hs : simpB W T bs = true) {L : List Int} (h : tilingB W T bs L = true) (v : Nat) : leH W T bs (hgtV W T bs L) (hgtV W T bs (pushL W T L (v, true))) ∧ leH W T bs (hgtV W T bs (pushL W T L (v, false))) (hgtV W T bs L) := by
  refine ⟨fun x y hc => ?_, fun x y hc => ?_⟩
  · rw [(push_hgt hs h (v, true)).2 x y hc]
    unfold pushH
    have := pushBy_or (atQ W T bs) (hL W T (hgtV W T bs L)) (vX W v) (vY W v) true
    simp only
    split
    · simp only [Bool.true_eq_false, false_and, and_false, or_false] at this
      omega
    · omega
  · rw [(push_hgt hs h (v, false)).2 x y hc]
    unfold pushH
    have := pushBy_or (atQ W T bs) (hL W T (hgtV W T bs L)) (vX W v) (vY W v) false
    simp only
    split
    · simp only [Bool.false_eq_true, false_and, and_false, false_or] at this
      omega
    · omega

/-! ### The lowest and the highest tiling; what is coupled -/
noncomputable def lowT (W T : Int) (bs : List Bool) : List Int := tilH W T bs (foldH min W T bs (hgtV W T bs ((tlsV W T bs).headD [])) (tlsV W T bs))
noncomputable def highT (W T : Int) (bs : List Bool) : List Int := tilH W T bs (foldH max W T bs (hgtV W T bs ((tlsV W T bs).headD [])) (tlsV W T bs))
theorem head_mem {α : Type} {l : List α} {d : α} (h : l ≠ []) : l.headD d ∈ l := by
  cases l with
  | nil => exact absurd rfl h
  | cons a l => simp
theorem low_hgt {W T : Int} {bs : List Bool} (hs : simpB W T bs = true) (hne : tlsV W T bs ≠ []) :
    tilingB W T bs (lowT W T bs) = true ∧ tilingB W T bs (highT W T bs) = true ∧ ∀ L, tilingB W T bs L = true → leH W T bs (hgtV W T bs (lowT W T bs)) (hgtV W T bs L) ∧ leH W T bs (hgtV W T bs L) (hgtV W T bs (highT W T bs)) := by
  have hv := (simp_iff.1 hs).1
  have hall : ∀ t ∈ tlsV W T bs, tilingB W T bs t = true := fun t ht => (tlsV_mem hv).1 ht
  have h0 := hgtV_good hs (hall _ (head_mem (d := []) hne))
  have g1 := fold_good hs (f := min) (fun a b ha hb => good_min hs ha hb) _ _ h0 hall
  have g2 := fold_good hs (f := max) (fun a b ha hb => good_max hs ha hb) _ _ h0 hall
  obtain ⟨-, l1⟩ := fold_min_le hs _ _ h0 hall
  obtain ⟨-, l2⟩ := fold_max_le hs _ _ h0 hall
  refine ⟨tilH_til hs g1, tilH_til hs g2, fun L hL => ?_⟩
  have hm := (tlsV_mem hv).2 hL
  refine ⟨?_, ?_⟩
  · unfold lowT; rw [hgt_tilH hs g1]; exact l1 L hm
  · unfold highT; rw [hgt_tilH hs g2]; exact l2 L hm
/-- pushes that lead the lowest and the highest tiling to one lead all to it -/
theorem coup_all {W T : Int} {bs : List Bool} (hs : simpB W T bs = true) (hne : tlsV W T bs ≠ []) {ps : List (Nat × Bool)} (h : runL W T (lowT W T bs) ps = runL W T (highT W T bs) ps) {L : List Int} (hL : tilingB W T bs L = true) : runL W T L ps = runL W T (lowT W T bs) ps := by
  obtain ⟨h1, h2, h3⟩ := low_hgt hs hne
  obtain ⟨h4, h5⟩ := h3 L hL
  have a := run_le hs ps _ _ h1 hL h4
  have b := run_le hs ps _ _ hL h2 h5
  rw [← h] at b
  have t1 := run_til hs ps _ h1
  have t2 := run_til hs ps _ hL
  exact hgt_inj hs t2 t1 (leH.anti (valid_fld (simp_iff.1 hs).1) (hgtV_good hs t2) (hgtV_good hs t1) b a)
end Go.Proofs.YtafmpgikdhlknaaGreat

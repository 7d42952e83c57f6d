
/- Contracts: RegionBox, the program's and the reference's, for all sides. -/
import Derived.Test.YtafmpgikdhlknaaGreatAlive
import Derived.Test.YtafmpgikdhlknaaGreatMemE
namespace Go.Proofs.YtafmpgikdhlknaaGreat
open Go.RowKit

/-- The slice value v owns the truths xs, in blocks from base on. -/
def OwnB (w : World) (base : Nat) (v : Value) (xs : List Bool) : Prop :=
  ∃ (A : Option Addr) (c : Nat), v = .slice A xs.length c ∧ w.ownsRow base 4 1 v xs.length (xs.map .bool)
theorem OwnB.nil (w : World) (base : Nat) : OwnB w base (.slice none 0 0) [] := ⟨none, 0, rfl, World.ownsRow_nil _ _ _ _⟩
theorem OwnB.below {w w' : World} {base B : Nat} {v : Value} {xs : List Bool} (h : OwnB w base v xs) (hb : Below B w w') (hB : w.heap.size ≤ B) : OwnB w' base v xs := by
  obtain ⟨A, c, e, h⟩ := h; exact ⟨A, c, e, own_below h hb hB⟩
theorem OwnB.belo {w w' : World} {base : Nat} {v : Value} {xs : List Bool} (h : OwnB w base v xs) (hb : Below w.heap.size w w') : OwnB w' base v xs := h.below hb (Nat.le_refl _)
theorem OwnB.set {w : World} {base : Nat} {v : Value} {xs : List Bool} (h : OwnB w base v xs) {a : Addr} (ha : a.block < base) (u : Value) : OwnB (w.setCell a u) base v xs := by
  obtain ⟨A, c, e, h⟩ := h; exact ⟨A, c, e, ownsRow_setCell_below h ha u⟩
theorem OwnB.grown {w w' : World} {base g : Nat} {v : Value} {xs : List Bool} (h : OwnB w base v xs) (hg : w.grownBy w' (some g)) (hlt : g < base) : OwnB w' base v xs := by
  obtain ⟨A, c, e, h⟩ := h
  refine ⟨A, c, e, h.kept hg ?_⟩
  rcases h.2 with ⟨h', _⟩ | ⟨g', cap', cur, h', hb, _⟩
  · left; rw [h']; rfl
  · right; rw [h']; intro e2; simp [Value.ownBlock] at e2; omega
theorem OwnB.base {w : World} {base base' : Nat} {v : Value} {xs : List Bool} (h : OwnB w base v xs) (hB : base' ≤ base) : OwnB w base' v xs := by
  obtain ⟨A, c, e, h⟩ := h; exact ⟨A, c, e, own_base h hB⟩
section
variable {ops : Array Oper} {rest : List Oper} {o : Oper} {a : Act} {Q : Exit → Act → World → Prop}
theorem app_bool (w : World) (hgd : o.guard = none) (s x : Operand) (ho : o.op = .call { callee := .builtin .append, args := #[s, x], argTypes := #[23, 23] })
    (base : Nat) (v : Value) (xs : List Bool) (hs : a.eval s = v) (hown : OwnB w base v xs) (u : Bool) (hx : a.eval x = .slice (some ⟨w.heap.size, 0, none⟩) 1 1) (hn : xs.length ≤ 1000000000000) (hbase : base ≤ w.heap.size)
    (h : ∀ (A' : Option Addr) (c' : Nat) (w' : World), OwnB w' base (.slice A' (xs.length + 1) c') (xs ++ [u]) → (w.alloc (.cells #[.bool u] 4)).grownBy w' v.ownBlock → wpList Tryz.prog ops Q rest (a.put o.dst (.slice A' (xs.length + 1) c')) w') :
    wpList Tryz.prog ops Q (o :: rest) a (w.alloc (.cells #[.bool u] 4)) := by
  obtain ⟨i0, hi, hz0, hz1, hz2⟩ := info_parts Tryz.infoB
  obtain ⟨A, c, e, hown⟩ := hown
  refine wpList_append_own _ hgd s x 23 ho base 4 i0 (.bool false) 1 1 Tryz.underlying23 hi hz0 hz1 hz2 rfl (by decide) v _ _ hs (hown.alloc _) ⟨w.heap.size, 0, none⟩ 1 1 [.bool u] hx rfl ?_ ?_ ?_ ?_ ?_ ?_
  · intro j y hj
    match j, hj with
    | 0, hj => simp at hj; subst hj; simp [Addr.add]
  · intro y hy; simp at hy; subst hy; rfl
  · unfold maxLen; omega
  · omega
  · simp; omega
  · intro v' w' h1 h2 _
    have e1 : xs.map Value.bool ++ [.bool u] = (xs ++ [u]).map .bool := by simp
    rw [e1] at h1
    obtain ⟨g, cap, rfl, _, _⟩ := h1.form (by omega)
    refine h _ _ w' ⟨_, _, by simp; exact ⟨rfl, rfl⟩, ?_⟩ h2
    have e2 : (xs ++ [u]).length = xs.length + 1 := by simp
    rw [e2]; exact h1
theorem appB_below {w w' : World} {base B : Nat} {v : Value} {xs : List Bool} {u : Value} {t : TypeId} {w0 : World} (hB : Below B w0 w) (hBb : B ≤ base) (hbase : base ≤ w.heap.size) (hown : OwnB w base v xs) (hg : (w.alloc (.cells #[u] t)).grownBy w' v.ownBlock) : Below B w0 w' := by
  refine (hB.alloc (by omega) _).grown hg (by simp; omega) (fun k hk => ?_)
  obtain ⟨A, c, e, h⟩ := hown
  have := (h.lt k hk).1
  omega
end
/-- the box of given sides, or the region of none -/
def boxW (W T : Int) : Int := if boxOk W T = true then W else 0
def boxT (W T : Int) : Int := if boxOk W T = true then T else 0
def boxB (W T : Int) : List Bool := if boxOk W T = true then List.replicate (W * T).toNat true else []
theorem box_ok {W T : Int} (h1 : 1 ≤ W) (h2 : W ≤ 6) (h3 : 1 ≤ T) (h4 : T ≤ 6) (h5 : W * T ≤ 24) : boxOk W T = true := by unfold boxOk; simp; omega
theorem box_no {W T : Int} (h : ¬ ((1 ≤ W ∧ W ≤ 6) ∧ (1 ≤ T ∧ T ≤ 6) ∧ W * T ≤ 24)) : boxOk W T = false := by unfold boxOk; exact decide_eq_false h
theorem boxV_ok {W T : Int} (h : boxOk W T = true) : boxW W T = W ∧ boxT W T = T ∧ boxB W T = List.replicate (W * T).toNat true := by unfold boxW boxT boxB; rw [if_pos h, if_pos h, if_pos h]; exact ⟨rfl, rfl, rfl⟩
theorem boxV_no {W T : Int} (h : boxOk W T = false) : boxW W T = 0 ∧ boxT W T = 0 ∧ boxB W T = [] := by unfold boxW boxT boxB; simp [h]
theorem newRW_zero (w : World) : NewRW 0 0 [] w (.returned (.agg #[.int .i64 0, .int .i64 0, .slice none 0 0])) (w.alloc (.cells #[.int .i64 0, .int .i64 0, .slice none 0 0] 25)) :=
  ⟨none, 0, rfl, Wr.none_ _ _ _, bl_alloc (Below.refl _ _) _⟩
set_option maxRecDepth 100000 in
set_option maxHeartbeats 1000000 in
theorem iRegionBox_no (W T : Int) (w : World) (h : ¬ ((1 ≤ W ∧ W ≤ 6) ∧ (1 ≤ T ∧ T ≤ 6) ∧ W * T ≤ 24)) : Calls Tryz.prog 32 #[.int .i64 W, .int .i64 T] w (NewRW 0 0 [] w) := by
  obtain ⟨g0, g1, g2, f0, f1, f2⟩ := blk3 (heap_alloc_new w (.cells #[.int .i64 0, .int .i64 0, .slice none 0 0] 25))
  have HE := Lib.hid (newRW_zero w)
  by_cases h1 : 1 ≤ W ∧ W ≤ 6
  · obtain ⟨a1, a2⟩ := h1
    by_cases h2 : 1 ≤ T ∧ T ≤ 6
    · obtain ⟨b1, b2⟩ := h2
      obtain ⟨m1, m2⟩ := mul_bd a1 a2 b1 b2
      have h3 : 24 < W * T := by
        rcases Int.lt_or_le 24 (W * T) with h3 | h3
        · exact h3
        · exact absurd ⟨⟨a1, a2⟩, ⟨b1, b2⟩, h3⟩ h
      clear h
      go_enter Tryz.func32, Tryz.ntmps32
      go_wp2_with (first | (go_at_call 42; refine (in_t _ _ _ _ (by omega) (by omega)).mono ?_; rintro e w' ⟨rfl, rfl⟩))
      refine bodyPost_ret (v := .agg #[.int .i64 0, .int .i64 0, .slice none 0 0]) (by simp [results, Tryz.results32, go_sem]) rfl ?_
      exact HE.out
    · have h2' : T < 1 ∨ 6 < T := by omega
      clear h h2
      go_enter Tryz.func32, Tryz.ntmps32
      go_wp2_with (first | (go_at_call 42; refine (in_t _ _ _ _ (by omega) (by omega)).mono ?_; rintro e w' ⟨rfl, rfl⟩) | (go_at_call 42; refine (in_f _ _ _ _ (by omega)).mono ?_; rintro e w' ⟨rfl, rfl⟩))
      refine bodyPost_ret (v := .agg #[.int .i64 0, .int .i64 0, .slice none 0 0]) (by simp [results, Tryz.results32, go_sem]) rfl ?_
      exact HE.out
  · have h1' : W < 1 ∨ 6 < W := by omega
    clear h h1
    go_enter Tryz.func32, Tryz.ntmps32
    go_wp2_with (first | (go_at_call 42; refine (in_f _ _ _ _ (by omega)).mono ?_; rintro e w' ⟨rfl, rfl⟩))
    refine bodyPost_ret (v := .agg #[.int .i64 0, .int .i64 0, .slice none 0 0]) (by simp [results, Tryz.results32, go_sem]) rfl ?_
    exact HE.out
theorem iRegionBox_any (W T : Int) (w : World) : Calls Tryz.prog 32 #[.int .i64 W, .int .i64 T] w (NewRW (boxW W T) (boxT W T) (boxB W T) w) := by
  by_cases h : (1 ≤ W ∧ W ≤ 6) ∧ (1 ≤ T ∧ T ≤ 6) ∧ W * T ≤ 24
  · obtain ⟨⟨a1, a2⟩, ⟨b1, b2⟩, h3⟩ := h
    obtain ⟨e1, e2, e3⟩ := boxV_ok (box_ok a1 a2 b1 b2 h3)
    rw [e1, e2, e3]
    have := mul_bd a1 a2 b1 b2
    exact iRegionBox_ok W T _ w a1 a2 b1 b2 (by omega) h3
  · obtain ⟨e1, e2, e3⟩ := boxV_no (box_no h)
    rw [e1, e2, e3]
    exact iRegionBox_no W T w h
set_option maxRecDepth 100000 in
set_option maxHeartbeats 1000000 in
theorem sRegionBox_no (W T : Int) (w : World) (h : ¬ ((1 ≤ W ∧ W ≤ 6) ∧ (1 ≤ T ∧ T ≤ 6) ∧ W * T ≤ 24)) : Calls Tryz.prog 63 #[.int .i64 W, .int .i64 T] w (NewRW 0 0 [] w) := by
  obtain ⟨g0, g1, g2, f0, f1, f2⟩ := blk3 (heap_alloc_new w (.cells #[.int .i64 0, .int .i64 0, .slice none 0 0] 25))
  have HE := Lib.hid (newRW_zero w)
  by_cases h1 : 1 ≤ W ∧ W ≤ 6
  · obtain ⟨a1, a2⟩ := h1
    by_cases h2 : 1 ≤ T ∧ T ≤ 6
    · obtain ⟨b1, b2⟩ := h2
      obtain ⟨m1, m2⟩ := mul_bd a1 a2 b1 b2
      have h3 : 24 < W * T := by
        rcases Int.lt_or_le 24 (W * T) with h3 | h3
        · exact h3
        · exact absurd ⟨⟨a1, a2⟩, ⟨b1, b2⟩, h3⟩ h
      clear h
      go_enter Tryz.func63, Tryz.ntmps63
      go_wp2_with (first | (go_at_call 71; refine (l1in_t _ _ _ _ (by omega) (by omega)).mono ?_; rintro e w' ⟨rfl, rfl⟩))
      refine bodyPost_ret (v := .agg #[.int .i64 0, .int .i64 0, .slice none 0 0]) (by simp [results, Tryz.results63, go_sem]) rfl ?_
      exact HE.out
    · have h2' : T < 1 ∨ 6 < T := by omega
      clear h h2
      go_enter Tryz.func63, Tryz.ntmps63
      go_wp2_with (first | (go_at_call 71; refine (l1in_t _ _ _ _ (by omega) (by omega)).mono ?_; rintro e w' ⟨rfl, rfl⟩) | (go_at_call 71; refine (l1in_f _ _ _ _ (by omega)).mono ?_; rintro e w' ⟨rfl, rfl⟩))
      refine bodyPost_ret (v := .agg #[.int .i64 0, .int .i64 0, .slice none 0 0]) (by simp [results, Tryz.results63, go_sem]) rfl ?_
      exact HE.out
  · have h1' : W < 1 ∨ 6 < W := by omega
    clear h h1
    go_enter Tryz.func63, Tryz.ntmps63
    go_wp2_with (first | (go_at_call 71; refine (l1in_f _ _ _ _ (by omega)).mono ?_; rintro e w' ⟨rfl, rfl⟩))
    refine bodyPost_ret (v := .agg #[.int .i64 0, .int .i64 0, .slice none 0 0]) (by simp [results, Tryz.results63, go_sem]) rfl ?_
    exact HE.out
set_option maxRecDepth 100000 in
set_option maxHeartbeats 2000000 in
theorem sRegionBox_ok (W T : Int) (n : Nat) (w : World) (h1 : 1 ≤ W) (h2 : W ≤ 6) (h3 : 1 ≤ T) (h4 : T ≤ 6) (hn : W * T = (n : Int)) (h5 : W * T ≤ 24) :
    Calls Tryz.prog 63 #[.int .i64 W, .int .i64 T] w (NewRW W T (List.replicate n true) w) := by
  obtain ⟨m1, m2⟩ := mul_bd h1 h2 h3 h4
  have hn24 : n ≤ 24 := by omega
  have HN := Lib.hid hn
  clear hn
  have hdec : decide (24 < W * T) = false := by simp; omega
  go_enter Tryz.func63, Tryz.ntmps63
  go_wp2_with (first | (go_at_call 71; refine (l1in_t _ _ _ _ (by omega) (by omega)).mono ?_; rintro e w' ⟨rfl, rfl⟩))
  clear hdec
  have K0 := (((Below.refl w.heap.size w).alloc (Nat.le_refl _) (.cells #[.int .i64 0, .int .i64 0, .slice none 0 0] 25))).alloc (by simp) (.cells #[.int .i64 W, .int .i64 T, .slice none 0 0] 25)
  have K1 : ((w.alloc (.cells #[.int .i64 0, .int .i64 0, .slice none 0 0] 25)).alloc (.cells #[.int .i64 W, .int .i64 T, .slice none 0 0] 25)).heap[w.heap.size + 1]? = some (.cells #[.int .i64 W, .int .i64 T, .slice none 0 0] 25 (0, 0)) := by
    have := heap_alloc_new (w.alloc (.cells #[.int .i64 0, .int .i64 0, .slice none 0 0] 25)) (.cells #[.int .i64 W, .int .i64 T, .slice none 0 0] 25)
    simpa using this
  have K2 : ((w.alloc (.cells #[.int .i64 0, .int .i64 0, .slice none 0 0] 25)).alloc (.cells #[.int .i64 W, .int .i64 T, .slice none 0 0] 25)).heap[w.heap.size]? = some (.cells #[.int .i64 0, .int .i64 0, .slice none 0 0] 25 (0, 0)) :=
    (((Below.refl _ _).alloc (Nat.le_refl _) _).block w.heap.size (by simp)).trans (heap_alloc_new w _)
  have K3 : w.heap.size + 2 ≤ ((w.alloc (.cells #[.int .i64 0, .int .i64 0, .slice none 0 0] 25)).alloc (.cells #[.int .i64 W, .int .i64 T, .slice none 0 0] 25)).heap.size := by simp
  generalize (w.alloc (.cells #[.int .i64 0, .int .i64 0, .slice none 0 0] 25)).alloc (.cells #[.int .i64 W, .int .i64 T, .slice none 0 0] 25) = wq at *
  go_loopw [6] (fun i wr => ∃ (k : Nat) (v : Value) (xs : List Bool), k ≤ n ∧ i = .int .i64 k ∧ Hid (xs = List.replicate k true) ∧ OwnB wr (w.heap.size + 2) v xs ∧ wr.heap[w.heap.size + 1]? = some (.cells #[.int .i64 W, .int .i64 T, v] 25 (0, 0)) ∧ wr.heap[w.heap.size]? = some (.cells #[.int .i64 0, .int .i64 0, .slice none 0 0] 25 (0, 0)) ∧ Below w.heap.size w wr ∧ w.heap.size + 2 ≤ wr.heap.size) (fun i _ => n - (intOf i).toNat)
  case atStart => exact ⟨0, _, [], Nat.zero_le _, rfl, Lib.hid rfl, OwnB.nil _ _, K1, K2, K0, K3⟩
  case round =>
    clear K0 K1 K2 K3
    obtain ⟨k, v, xs, hk, rfl, HX, hown, K1, K2, K0, K3⟩ := hrel
    have H1 := Lib.hid K1
    have H2 := Lib.hid K2
    obtain ⟨A, c, rfl, hown'⟩ := id hown
    obtain ⟨y0, y1, y2, z0, z1, z2⟩ := blk3 K1
    clear hown' K1 K2
    by_cases hlt : k < n
    · have hlt2 : (k : Int) < W * T := by have := HN.out; omega
      have hxl : xs.length ≤ 1000000000000 := by rw [HX.out]; simp; omega
      go_wp2_with (at_builtin; refine app_bool _ rfl _ _ rfl (w.heap.size + 2) _ _ rfl hown true rfl hxl K3 ?_; intro A' c' w3 hown3 hg3; have b3 := appB_below (Below.refl (w.heap.size + 2) wr) (Nat.le_refl _) K3 hown hg3; have T1 := Lib.hid ((b3.block _ (by omega)).trans H1.out); obtain ⟨p0, p1, p2, q0, q1, q2⟩ := blk3 T1.out)
      go_roundw
      case rel =>
        have s3 := b3.size
        refine ⟨k + 1, _, xs ++ [true], by omega, by go_num, Lib.hid (by rw [HX.out, List.replicate_succ']), hown3.set (by simp) _, ?_, ?_, (K0.trans (b3.mono (by omega))).setCell (by simp) _, by simp [World.setCell]; omega⟩
        · rw [heap_setCell_same w3 _ 2 _ _ _ T1.out]
          simp
        · rw [Below.heap_setCell _ _ _ _ (by simp), (b3.block _ (by omega)), H2.out]
      case measure => simp [intOf]; omega
    · have hge : ¬ ((k : Int) < W * T) := by have := HN.out; omega
      obtain ⟨g0, g1, g2, f0, f1, f2⟩ := blk3 H2.out
      obtain rfl : k = n := by omega
      have HXl := Lib.hid (show xs.length = k by rw [HX.out]; simp)
      go_wp2
      refine bodyPost_ret (v := .agg #[.int .i64 W, .int .i64 T, .slice A xs.length c]) (by simp [results, Tryz.results63, go_sem, g0, g1, g2]) rfl ?_
      rw [← HX.out]
      refine ⟨A, c, rfl, ?_, ((K0.setCell (Nat.le_refl _) _).setCell (Nat.le_refl _) _).setCell (Nat.le_refl _) _⟩
      obtain ⟨A2, c2, e2, hw⟩ := ((hown.set (a := ⟨w.heap.size, 0, none⟩) (by simp) (.int .i64 W)).set (a := ⟨w.heap.size, 1, none⟩) (by simp) (.int .i64 T)).set (a := ⟨w.heap.size, 2, none⟩) (by simp) (.slice A xs.length c)
      exact (Wr.of_own hw).lower (by omega)
theorem sRegionBox_any (W T : Int) (w : World) : Calls Tryz.prog 63 #[.int .i64 W, .int .i64 T] w (NewRW (boxW W T) (boxT W T) (boxB W T) w) := by
  by_cases h : (1 ≤ W ∧ W ≤ 6) ∧ (1 ≤ T ∧ T ≤ 6) ∧ W * T ≤ 24
  · obtain ⟨⟨a1, a2⟩, ⟨b1, b2⟩, h3⟩ := h
    obtain ⟨e1, e2, e3⟩ := boxV_ok (box_ok a1 a2 b1 b2 h3)
    rw [e1, e2, e3]
    have := mul_bd a1 a2 b1 b2
    exact sRegionBox_ok W T _ w a1 a2 b1 b2 (by omega) h3
  · obtain ⟨e1, e2, e3⟩ := boxV_no (box_no h)
    rw [e1, e2, e3]
    exact sRegionBox_no W T w h
end Go.Proofs.YtafmpgikdhlknaaGreat


/- Contracts: whether a place belongs to a region; copies of lists of numbers. -/
import Derived.Test.YtafmpgikdhlknaaGreatMemE
import Derived.Test.YtafmpgikdhlknaaGreatColour
import Derived.StillTailTactics
namespace Go.Proofs.YtafmpgikdhlknaaGreat
open Go.RowKit

def atQ (W T : Int) (bs : List Bool) (x y : Int) : Bool := decide (0 ≤ x ∧ x ≤ W - 1 ∧ 0 ≤ y ∧ y ≤ T - 1) && bs.getD (y * W + x).toNat false
theorem atQ_f {W T : Int} {bs : List Bool} {x y : Int} (h : ¬ (0 ≤ x ∧ x ≤ W - 1 ∧ 0 ≤ y ∧ y ≤ T - 1)) : atQ W T bs x y = false := by unfold atQ; rw [decide_eq_false h]; rfl
theorem atQ_t {W T : Int} {bs : List Bool} {x y : Int} {k : Nat} (h : 0 ≤ x ∧ x ≤ W - 1 ∧ 0 ≤ y ∧ y ≤ T - 1) (hk : y * W + x = k) (hkn : k < bs.length) : atQ W T bs x y = bs[k] := by
  unfold atQ; rw [decide_eq_true h, hk, Int.toNat_natCast, List.getD_eq_getElem?_getD, List.getElem?_eq_getElem hkn]; rfl
theorem at_idx {W T x y : Int} {n : Nat} (hw : 1 ≤ W) (hn : (n : Int) = W * T) (h : 0 ≤ x ∧ x ≤ W - 1 ∧ 0 ≤ y ∧ y ≤ T - 1) : ∃ k : Nat, y * W + x = k ∧ k < n := by
  obtain ⟨hx, hx', hy, hy'⟩ := h
  have h0 : 0 ≤ y * W := Int.mul_nonneg hy (by omega)
  obtain ⟨k, hk⟩ := Int.eq_ofNat_of_zero_le (show 0 ≤ y * W + x by omega)
  refine ⟨k, hk, ?_⟩
  have h1 : (y + 1) * W ≤ T * W := Int.mul_le_mul_of_nonneg_right (by omega) (by omega)
  rw [Int.add_mul, Int.one_mul] at h1
  rw [Int.mul_comm] at hn
  omega
set_option maxRecDepth 100000 in
set_option maxHeartbeats 1000000 in
theorem iAt_any (W T : Int) (A : Option Addr) (c : Nat) (bs : List Bool) (x y : Int) (w : World) (hr : Rd w A (bs.map .bool)) (h1 : 1 ≤ W) (h2 : W ≤ 6) (h3 : 1 ≤ T) (h4 : T ≤ 6) (hn : (bs.length : Int) = W * T) (hx : -1000 ≤ x ∧ x ≤ 1000) (hy : -1000 ≤ y ∧ y ≤ 1000) :
    Calls Tryz.prog 117 #[.agg #[.int .i64 W, .int .i64 T, .slice A bs.length c], .int .i64 x, .int .i64 y] w fun e w' => e = .returned (.bool (atQ W T bs x y)) ∧ Below w.heap.size w w' := by
  have X0 := C3.new w (.int .i64 W) (.int .i64 T) (.slice A bs.length c) 25
  have B0 := bl_alloc (Below.refl w.heap.size w) (.cells #[.int .i64 W, .int .i64 T, .slice A bs.length c] 25)
  obtain ⟨x0, x1, x2⟩ := id X0
  obtain ⟨hx1, hx2⟩ := hx
  obtain ⟨hy1, hy2⟩ := hy
  have HN := Lib.hid hn
  have h36 : bs.length ≤ 36 := by have := mul_bd h1 h2 h3 h4; omega
  clear hn
  by_cases hxin : 0 ≤ x ∧ x ≤ W - 1
  · by_cases hyin : 0 ≤ y ∧ y ≤ T - 1
    · obtain ⟨k, hk, hkn⟩ := at_idx h1 HN.out ⟨hxin.1, hxin.2, hyin.1, hyin.2⟩
      have HV := Lib.hid (atQ_t ⟨hxin.1, hxin.2, hyin.1, hyin.2⟩ hk hkn)
      obtain ⟨b, off, rfl, cb⟩ := (hr.alloc (.cells #[.int .i64 W, .int .i64 T, .slice A bs.length c] 25)).atEM hkn
      obtain ⟨v, hv⟩ : ∃ v, bs[k] = v := ⟨_, rfl⟩
      rw [hv] at cb HV
      clear hv
      have m0 : 0 ≤ y * W := Int.mul_nonneg hyin.1 (by omega)
      have wm : IntKind.i64.wrap (y * W) = y * W := IntWalk.i64_in _ (by omega)
      have wa : IntKind.i64.wrap (y * W + x) = (k : Int) := by rw [hk]; exact IntWalk.i64_in _ (by omega)
      have kI : (k : Int) < (bs.length : Int) := by omega
      obtain ⟨p1, p2⟩ := hxin
      obtain ⟨p3, p4⟩ := hyin
      clear hk
      go_enter Tryz.func117, Tryz.ntmps117
      go_wp2_with (go_at_call 42; first | ((with_reducible refine (in_t x _ _ _ p1 p2).mono ?_); rintro e w' ⟨rfl, rfl⟩) | ((with_reducible refine (in_t y _ _ _ p3 p4).mono ?_); rintro e w' ⟨rfl, rfl⟩))
      go_ret
      exact ⟨ret_b HV.out.symm, B0⟩
    · have HV := Lib.hid (atQ_f (W := W) (T := T) (bs := bs) (x := x) (y := y) (fun h => hyin ⟨h.2.2.1, h.2.2.2⟩))
      have hyo : y < 0 ∨ T - 1 < y := by omega
      obtain ⟨p1, p2⟩ := hxin
      go_enter Tryz.func117, Tryz.ntmps117
      go_wp2_with (go_at_call 42; first | ((with_reducible refine (in_t x _ _ _ p1 p2).mono ?_); rintro e w' ⟨rfl, rfl⟩) | ((with_reducible refine (in_f y _ _ _ hyo).mono ?_); rintro e w' ⟨rfl, rfl⟩))
      go_ret
      exact ⟨ret_b HV.out.symm, B0⟩
  · have HV := Lib.hid (atQ_f (W := W) (T := T) (bs := bs) (x := x) (y := y) (fun h => hxin ⟨h.1, h.2.1⟩))
    have hxo : x < 0 ∨ W - 1 < x := by omega
    go_enter Tryz.func117, Tryz.ntmps117
    go_wp2_with (go_at_call 42; refine (in_f x _ _ _ hxo).mono ?_; rintro e w' ⟨rfl, rfl⟩)
    go_ret
    exact ⟨ret_b HV.out.symm, B0⟩
set_option maxRecDepth 100000 in
set_option maxHeartbeats 1000000 in
theorem cloneI0_any (ad : Addr) (n c : Nat) (ns : List Int) (w : World) (hr : Rd w (some ad) (ns.map (.int .i64))) (hl : ns.length = n) (h0 : 0 < n) (hn : n ≤ 1000000) :
    Calls Tryz.prog 111 #[.slice (some ad) n c] w fun e w' => ∃ (A' : Option Addr) (c' : Nat), e = .returned (.slice A' n c') ∧ OwnI w' w.heap.size (.slice A' n c') ns ∧ n ≤ c' ∧ Below w.heap.size w w' := by
  obtain ⟨i0, hi, hz0, hz1, hz2⟩ := info_parts Tryz.infoI
  have HZ := Lib.hid (And.intro hz0 (And.intro hz1 hz2))
  have HL := Lib.hid hl
  have hnil : ∀ w, (binOp .eql 29 (.slice (some ad) n c) (.slice none 0 0)).run Tryz.prog w = .ok (.bool false) w := fun w => Lib.run_eql_slice_nil w 29 3 _ _ _ _ _ Tryz.underlying29
  have hown0 : (w.alloc (.cells #[] 3)).ownsRow w.heap.size 3 1 (.slice (some ⟨w.heap.size, 0, none⟩) 0 0) 0 [] := World.ownsRow_lit w #[] 0 (Nat.le_refl _) (by simp) (by simp)
  obtain ⟨ad', e', hcell⟩ := (hr.alloc (.cells #[] 3)) (by intro e; have := congrArg List.length e; simp at this; rw [this] at hl; simp at hl; omega)
  have HC := Lib.hid (show ∀ j y, (ns.map (Value.int .i64))[j]? = some y → (w.alloc (.cells #[] 3)).cell? (ad.add j) = some y from fun j y hy => by injection e' with e'; rw [e']; exact hcell j y hy)
  clear hcell e' hr hz0 hz1 hz2 hl
  go_enter Tryz.func111, Tryz.ntmps111
  go_wp2_with (at_builtin; refine wpList_append_own _ rfl _ _ 29 rfl w.heap.size 3 i0 (.int .i64 0) 1 8 Tryz.underlying29 hi HZ.out.1 HZ.out.2.1 HZ.out.2.2 rfl (by decide) _ _ _ rfl hown0 ad n c (ns.map (.int .i64)) rfl (by simp; exact HL.out) HC.out (by intro y hy; obtain ⟨b, _, rfl⟩ := List.mem_map.1 hy; rfl) (by unfold maxLen; omega) (by omega) (by simp) ?_; intro v3 w3 hown3 hg3 _)
  simp only [Nat.zero_add, List.nil_append] at hown3
  obtain ⟨g, cap, rfl, hg, hlt⟩ := hown3.form h0
  go_ret
  refine ⟨_, _, rfl, ⟨_, _, by rw [HL.out], by rw [HL.out]; exact hown3⟩, ?_, ?_⟩
  · rcases hown3.2 with ⟨e, e2⟩ | ⟨g, cap, cur, e, _, _, h3, _⟩
    · omega
    · injection e with _ _ e3; omega
  · exact ((Below.refl w.heap.size w).alloc (Nat.le_refl _) _).grown hg3 (by simp) (fun k hk => by have h2 : some w.heap.size = some k := hk; injection h2 with h2; omega)
set_option maxHeartbeats 1000000 in
theorem clipI_any (A : Option Addr) (n c : Nat) (w : World) (h : n ≤ c) :
    Calls Tryz.prog 110 #[.slice A n c] w fun e w' => e = .returned (.slice A n n) ∧ w = w' := by
  go_enter Tryz.func110, Tryz.ntmps110
  go_wp2
  go_ret
  exact ⟨rfl, rfl⟩
/-- a copy of a list of numbers, that may be written -/
def NewWI (ns : List Int) (n : Nat) (w : World) (e : Ending) (w' : World) : Prop := ∃ g : Nat, e = .returned (.slice (some ⟨g, 0, none⟩) n n) ∧ Wr w' w.heap.size 3 (some ⟨g, 0, none⟩) (ns.map (.int .i64)) ∧ w.heap.size ≤ g ∧ g < w'.heap.size ∧ Below w.heap.size w w'
set_option maxHeartbeats 1000000 in
theorem cloneI_any (ad : Addr) (n c : Nat) (ns : List Int) (w : World) (hr : Rd w (some ad) (ns.map (.int .i64))) (hl : ns.length = n) (h0 : 0 < n) (hn : n ≤ 1000000) :
    Calls Tryz.prog 77 #[.slice (some ad) n c] w (NewWI ns n w) := by
  have HC := Lib.hid (cloneI0_any ad n c ns w hr hl h0 hn)
  have HL := Lib.hid hl
  clear hl
  go_enter Tryz.func77, Tryz.ntmps77
  go_wp2_with fail
  refine HC.out.mono ?_
  rintro e w1 ⟨A', c', rfl, hown, hc, hb⟩
  go_wp2_with (go_at_call 110; refine (clipI_any _ _ _ _ hc).mono ?_; rintro e w' ⟨rfl, rfl⟩)
  go_ret
  obtain ⟨A2, c2, e2, hw⟩ := hown
  injection e2 with e3 e4 e5
  subst e3
  rw [← e4] at hw
  have hw' := Wr.of_own hw
  obtain ⟨g, rfl, h5, h6, -⟩ := hw'.form (by intro e; have := congrArg List.length e; simp at this; rw [this] at e4; simp at e4; omega)
  exact ⟨g, rfl, hw', h5, h6, hb⟩
end Go.Proofs.YtafmpgikdhlknaaGreat

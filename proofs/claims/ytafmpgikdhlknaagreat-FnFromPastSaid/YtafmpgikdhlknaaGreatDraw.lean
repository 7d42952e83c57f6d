
/- Contracts: the reader of codes, which the draws use. -/
import Derived.Test.YtafmpgikdhlknaaGreatApp
import Derived.Test.YtafmpgikdhlknaaGreatColour
import Derived.Laws.BitsAllLaws
import Derived.Laws.BitsLemmas
import Derived.Deep.QuietTactic
import Derived.BigQuiet
namespace Go.Proofs.YtafmpgikdhlknaaGreat
open Go.RowKit

theorem ofInt_i64 (a : Nat) (ha : a < 9223372036854775808) : (BitVec.ofInt 64 (a : Int)).toNat = a := by
  rw [BitVec.ofInt_natCast, BitVec.toNat_ofNat]; exact Nat.mod_eq_of_lt (by omega)
theorem i64_xor_nat (a b : Nat) (ha : a < 9223372036854775808) (hb : b < 9223372036854775808) : bits .xor .i64 (a : Int) (b : Int) = ((a ^^^ b : Nat) : Int) := by
  have hx : a ^^^ b < 2 ^ 63 := Nat.xor_lt_two_pow (by omega) (by omega)
  show IntKind.i64.wrap ((BitVec.ofInt 64 (a : Int) ^^^ BitVec.ofInt 64 (b : Int)).toNat : Int) = _
  rw [BitVec.toNat_xor, ofInt_i64 a ha, ofInt_i64 b hb, IntKind.wrap_i64]
  omega
theorem xor_nonneg (x : Int) (h0 : 0 ≤ x) (h1 : x ≤ 1000000000000) : 0 ≤ bits .xor .i64 x (x / 64) ∧ bits .xor .i64 x (x / 64) ≤ 9223372036854775807 := by
  obtain ⟨n, rfl⟩ := Int.eq_ofNat_of_zero_le h0
  have e : ((n : Int) / 64) = ((n / 64 : Nat) : Int) := by omega
  rw [e, i64_xor_nat n (n / 64) (by omega) (by omega)]
  have : n ^^^ (n / 64) < 2 ^ 63 := Nat.xor_lt_two_pow (by omega) (by omega)
  omega

/-- The reader lies at block g: it reads the bytes, p of them are behind. -/
def RdS (w : World) (g : Nat) (A : Option Addr) (c : Nat) (bytes : List Int) (p : Nat) : Prop :=
  w.heap[g]? = some (.cells #[.slice A bytes.length c, .int .i64 p] 79 (0, 0)) ∧ Rd w A (bytes.map (.int .u8)) ∧ (bytes ≠ [] → ∀ ad, A = some ad → ad.block ≠ g) ∧ bytes.length ≤ 2000 ∧ ∀ x ∈ bytes, 0 ≤ x ∧ x ≤ 255
/-- a number below n, or 0 -/
def Below0 (n r : Int) : Prop := 0 ≤ r ∧ (r < n ∨ r = 0)
/-- what pick leaves -/
def Picked (n : Int) (w : World) (g : Nat) (A : Option Addr) (c : Nat) (bytes : List Int) (p : Nat) (e : Ending) (w' : World) : Prop :=
  ∃ r : Int, e = .returned (.int .i64 r) ∧ Below0 n r ∧ RdS w' g A c bytes p ∧ w.grownBy w' (some g)

theorem RdS.cells {w : World} {g : Nat} {A : Option Addr} {c : Nat} {bytes : List Int} {p : Nat} (h : RdS w g A c bytes p) :
    w.cell? ⟨g, 0, none⟩ = some (.slice A bytes.length c) ∧ w.cell? ⟨g, 1, none⟩ = some (.int .i64 p) ∧ w.frozen? ⟨g, 1, none⟩ = false := by
  refine ⟨cell_of_row w g 0 _ _ _ h.1, cell_of_row w g 1 _ _ _ h.1, frozen_of_row w g 1 _ _ h.1⟩
theorem RdS.next {w : World} {g : Nat} {A : Option Addr} {c : Nat} {bytes : List Int} {p : Nat} (h : RdS w g A c bytes p) : RdS (w.setCell ⟨g, 1, none⟩ (.int .i64 ((p : Int) + 1))) g A c bytes (p + 1) ∧ w.grownBy (w.setCell ⟨g, 1, none⟩ (.int .i64 ((p : Int) + 1))) (some g) := by
  have hg : w.grownBy (w.setCell ⟨g, 1, none⟩ (.int .i64 ((p : Int) + 1))) (some g) := ⟨rfl, rfl, rfl, by simp [World.setCell], fun i hi hn => Below.heap_setCell _ _ _ _ (fun e => hn (by simp [e]))⟩
  refine ⟨⟨?_, h.2.1.grownBelow hg (fun hne ad ha e => h.2.2.1 (by simpa using hne) ad ha (by simpa using e)), h.2.2.1, h.2.2.2⟩, hg⟩
  rw [heap_setCell_same w g 1 _ _ _ h.1]
  simp

set_option maxHeartbeats 1000000 in
theorem pick_any (n : Int) (w : World) (g : Nat) (A : Option Addr) (c : Nat) (bytes : List Int) (p : Nat) (h : RdS w g A c bytes p) (hp : p ≤ 1000000000) (hnl : n ≤ 9223372036854775807) :
    Calls Tryz.prog 45 #[.pointer (some ⟨g, 0, none⟩), .int .i64 n] w (Picked n w g A c bytes (p + 1)) := by
  obtain ⟨c0, c1, f1⟩ := h.cells
  obtain ⟨hS, hG⟩ := h.next
  have hlb := h.2.2.2.1
  by_cases hn : n < 1
  · go_enter Tryz.func45, Tryz.ntmps45
    go_wp2
    go_ret
    exact ⟨0, rfl, ⟨by omega, .inr rfl⟩, hS, hG⟩
  · by_cases hl : bytes.length = 0
    · have hb : ((bytes.length : Int) == 0) = true := by simp [hl]
      clear hl
      go_enter Tryz.func45, Tryz.ntmps45
      go_wp2
      go_ret
      exact ⟨0, rfl, ⟨by omega, .inr rfl⟩, hS, hG⟩
    · have hb : ((bytes.length : Int) == 0) = false := by rw [beq_eq_false_iff_ne]; omega
      have hl1 : 0 < bytes.length := by omega
      by_cases hlt : p < bytes.length
      · obtain ⟨ad, rfl, hc⟩ := hS.2.1.atM hlt
        have hx := h.2.2.2.2 bytes[p] (List.getElem_mem hlt)
        generalize bytes[p] = x at hc hx
        obtain ⟨x0, x1⟩ := hx
        go_enter Tryz.func45, Tryz.ntmps45
        go_wp2
        go_ret
        exact ⟨_, rfl, ⟨Int.emod_nonneg _ (by omega), .inl (Int.emod_lt_of_pos _ (by omega))⟩, hS, hG⟩
      · obtain ⟨ad, rfl, hc1⟩ := hS.2.1.atM (k := p % bytes.length) (Nat.mod_lt _ hl1)
        obtain ⟨_, h', hc2⟩ := hS.2.1.atM (k := (p * 7 + 3) % bytes.length) (Nat.mod_lt _ hl1)
        obtain rfl := Option.some.inj h'
        have hx1 := h.2.2.2.2 _ (List.getElem_mem (Nat.mod_lt p hl1))
        have hx2 := h.2.2.2.2 _ (List.getElem_mem (Nat.mod_lt (p * 7 + 3) hl1))
        generalize bytes[p % bytes.length]'(Nat.mod_lt _ hl1) = x at hc1 hx1
        generalize bytes[(p * 7 + 3) % bytes.length]'(Nat.mod_lt _ hl1) = y at hc2 hx2
        obtain ⟨x0, x1⟩ := hx1
        obtain ⟨y0, y1⟩ := hx2
        clear h'
        obtain ⟨q1, hq1⟩ : ∃ q, p % bytes.length = q := ⟨_, rfl⟩
        obtain ⟨q2, hq2⟩ : ∃ q, (p * 7 + 3) % bytes.length = q := ⟨_, rfl⟩
        have l1 : (q1 : Int) < (bytes.length : Int) := by have := Nat.mod_lt p hl1; omega
        have l2 : (q2 : Int) < (bytes.length : Int) := by have := Nat.mod_lt (p * 7 + 3) hl1; omega
        have d0 : 0 ≤ (p : Int) / (bytes.length : Int) := Int.ediv_nonneg (by omega) (by omega)
        have d1 : (p : Int) / (bytes.length : Int) ≤ p := Int.ediv_le_self _ (by omega)
        have t1 : (p : Int).tmod (bytes.length : Int) = (q1 : Int) := by rw [Int.tmod_eq_emod_of_nonneg (by omega), ← hq1]; omega
        have t2 : ((p : Int) * 7 + 3).tmod (bytes.length : Int) = (q2 : Int) := by rw [Int.tmod_eq_emod_of_nonneg (by omega), ← hq2, Int.natCast_emod]; rfl
        have t3 : (p : Int).tdiv (bytes.length : Int) = (p : Int) / (bytes.length : Int) := Int.tdiv_eq_ediv_of_nonneg (by omega)
        rw [hq1] at hc1
        rw [hq2] at hc2
        generalize (p : Int) / (bytes.length : Int) = d at d0 d1 t3
        clear hq1 hq2
        have e1 : IntKind.i64.wrap (q1 : Int) = q1 := IntWalk.i64_in _ (by omega)
        have e2 : IntKind.i64.wrap ((p : Int) * 7) = (p : Int) * 7 := IntWalk.i64_in _ (by omega)
        have e3 : IntKind.i64.wrap ((p : Int) * 7 + 3) = (p : Int) * 7 + 3 := IntWalk.i64_in _ (by omega)
        have e4 : IntKind.i64.wrap (q2 : Int) = q2 := IntWalk.i64_in _ (by omega)
        have e5 : IntKind.i64.wrap x = x := IntWalk.i64_in _ (by omega)
        have e6 : IntKind.i64.wrap y = y := IntWalk.i64_in _ (by omega)
        have e7 : IntKind.i64.wrap (x * 131) = x * 131 := IntWalk.i64_in _ (by omega)
        have e8 : IntKind.i64.wrap (y * 1117) = y * 1117 := IntWalk.i64_in _ (by omega)
        have e9 : IntKind.i64.wrap (x * 131 + y * 1117) = x * 131 + y * 1117 := IntWalk.i64_in _ (by omega)
        have e10 : IntKind.i64.wrap ((p : Int) * 29) = (p : Int) * 29 := IntWalk.i64_in _ (by omega)
        have e11 : IntKind.i64.wrap (x * 131 + y * 1117 + (p : Int) * 29) = x * 131 + y * 1117 + (p : Int) * 29 := IntWalk.i64_in _ (by omega)
        have e12 : IntKind.i64.wrap d = d := IntWalk.i64_in _ (by omega)
        have e13 : IntKind.i64.wrap (d * 53) = d * 53 := IntWalk.i64_in _ (by omega)
        have e14 : IntKind.i64.wrap (x * 131 + y * 1117 + (p : Int) * 29 + d * 53) = x * 131 + y * 1117 + (p : Int) * 29 + d * 53 := IntWalk.i64_in _ (by omega)
        obtain ⟨z0, z1⟩ := xor_nonneg (x * 131 + y * 1117 + (p : Int) * 29 + d * 53) (by omega) (by omega)
        go_enter Tryz.func45, Tryz.ntmps45
        go_wp2_with fail
        go_quiet (fail)
        clear t1 t2 t3 e1 e2 e3 e4 e5 e6 e7 e8 e9 e10 e11 e12 e13 e14
        generalize hX : x * 131 + y * 1117 + (p : Int) * 29 + d * 53 = X at z0 z1 ⊢
        have X0 : 0 ≤ X := by omega
        have X1 : X ≤ 1000000000000 := by omega
        clear hX
        generalize hZ : bits .xor .i64 X (X / 64) = Z at z0 z1
        go_wp2
        go_ret
        exact ⟨_, rfl, ⟨Int.emod_nonneg _ (by omega), .inl (Int.emod_lt_of_pos _ (by omega))⟩, hS, hG.os, hG.tape, hG.output, hG.size, hG.block⟩

/-- a reader is open, made by the call that began at w0 -/
def Opn (w0 : World) (g : Nat) (A : Option Addr) (c : Nat) (bytes : List Int) (p : Nat) (w : World) : Prop := RdS w g A c bytes p ∧ w0.heap.size ≤ g ∧ Below w0.heap.size w0 w
def Opened (w0 : World) (e : Ending) (w : World) : Prop := ∃ g A c bytes, e = .returned (.pointer (some ⟨g, 0, none⟩)) ∧ Opn w0 g A c bytes 0 w
theorem Opn.lt {w0 : World} {g : Nat} {A : Option Addr} {c : Nat} {bytes : List Int} {p : Nat} {w : World} (h : Opn w0 g A c bytes p w) : g < w.heap.size := by
  rcases Nat.lt_or_ge g w.heap.size with h1 | h1
  · exact h1
  · have := h.1.1; rw [Array.getElem?_eq_none h1] at this; cases this
theorem Opn.pick {w0 : World} {g : Nat} {A : Option Addr} {c : Nat} {bytes : List Int} {p p' : Nat} {w w' : World} (h : Opn w0 g A c bytes p w) (hs : RdS w' g A c bytes p') (hg : w.grownBy w' (some g)) : Opn w0 g A c bytes p' w' :=
  ⟨hs, h.2.1, h.2.2.grown hg h.2.2.size (fun k hk => by injection hk with hk; have := h.2.1; omega)⟩
theorem RdS.below {w w' : World} {g : Nat} {A : Option Addr} {c : Nat} {bytes : List Int} {p : Nat} (h : RdS w g A c bytes p) (hg : g < w.heap.size) (hb : Below w.heap.size w w') : RdS w' g A c bytes p :=
  ⟨by rw [hb.block g hg]; exact h.1, h.2.1.belo hb, h.2.2⟩
theorem Opn.belo {w0 : World} {g : Nat} {A : Option Addr} {c : Nat} {bytes : List Int} {p : Nat} {w w' : World} (h : Opn w0 g A c bytes p w) (hb : Below w.heap.size w w') : Opn w0 g A c bytes p w' :=
  ⟨h.1.below h.lt hb, h.2.1, bl_go h.2.2 hb⟩

theorem opn_new {w : World} {A : Option Addr} {c : Nat} {bs : List Int} (hr : Rd w A (bs.map (.int .u8))) (hw : ∀ x ∈ bs, 0 ≤ x ∧ x ≤ 255) (hl : bs.length ≤ 2000) :
    Opn w w.heap.size A c bs 0 (w.alloc (.cells #[.slice A bs.length c, .int .i64 0] 79)) := by
  refine ⟨⟨heap_alloc_new w _, hr.alloc _, fun hne ad ha e => ?_, hl, hw⟩, Nat.le_refl _, bl_alloc (Below.refl _ _) _⟩
  have := hr.lt ha (by simpa using hne); omega

set_option maxHeartbeats 1000000 in
theorem open_any (A : Option Addr) (c : Nat) (bs : List Int) (w : World) (hr : Rd w A (bs.map (.int .u8))) (hw : ∀ x ∈ bs, 0 ≤ x ∧ x ≤ 255) (hn : bs.length ≤ 1048576) (hcap : bs.length ≤ c) :
    Calls Tryz.prog 23 #[.slice A bs.length c] w (Opened w) := by
  by_cases hl : bs.length ≤ 2000
  · have H := opn_new (c := c) hr hw hl
    go_enter Tryz.func23, Tryz.ntmps23
    go_wp2
    go_ret
    exact ⟨_, _, _, _, rfl, H⟩
  · have hr2 : Rd w A ((bs.take 2000).map (.int .u8)) := fun hne => by
      obtain ⟨ad, ha, hc⟩ := hr (by intro e; simp at e; subst e; simp at hl)
      refine ⟨ad, ha, fun j u hu => hc j u ?_⟩
      rw [List.map_take] at hu
      rw [List.getElem?_take] at hu
      split at hu
      · exact hu
      · cases hu
    have hlen : (bs.take 2000).length = 2000 := by rw [List.length_take]; omega
    have H := opn_new (c := c) hr2 (fun x hx => hw x (List.mem_of_mem_take hx)) (by omega)
    rw [hlen] at H
    go_enter Tryz.func23, Tryz.ntmps23
    go_wp2
    go_ret
    exact ⟨_, _, _, _, rfl, H⟩
end Go.Proofs.YtafmpgikdhlknaaGreat

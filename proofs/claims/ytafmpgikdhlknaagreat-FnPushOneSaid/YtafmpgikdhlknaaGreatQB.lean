
/- FnPushOne: joined from Draw, DrawReg, DrawTil, PickV, DrawSome. -/
import Derived.Test.YtafmpgikdhlknaaGreatApp
import Derived.Test.YtafmpgikdhlknaaGreatColour
import Derived.Laws.BitsAllLaws
import Derived.Laws.BitsLemmas
import Derived.Deep.QuietTactic
import Derived.BigQuiet
import Derived.Test.YtafmpgikdhlknaaGreatBoxes
import Derived.Test.YtafmpgikdhlknaaGreatGb
import Derived.Deep.RegionLaw
import Derived.Test.YtafmpgikdhlknaaGreatLayS
import Derived.Test.YtafmpgikdhlknaaGreatCellApp
/- Contracts: the reader of codes, which the draws use. -/
namespace Go.Proofs.YtafmpgikdhlknaaGreat
open Go.RowKit

theorem ofInt_i64 (a : Nat) (ha : a < 9223372036854775808) : (BitVec.ofInt 64 (a : Int)).toNat = a := by
  rw [BitVec.ofInt_natCast, BitVec.toNat_ofNat]; exact Nat.mod_eq_of_lt (by omega)
theorem i64_xor_nat (a b : Nat) (ha : a < 9223372036854775808) (hb : b < 9223372036854775808) : bits .xor .i64 (a : Int) (b : Int) = ((a ^^^ b : Nat) : Int) := by
  have hx : a ^^^ b < 2 ^ 63 := Nat.xor_lt_two_pow (by omega) (by omega)
  show IntKind.i64.wrap ((BitVec.ofInt 64 (a : Int) ^^^ BitVec.ofInt 64 (b : Int)).toNat : Int) = _
  rw [BitVec.toNat_xor, ofInt_i64 a ha, ofInt_i64 b hb, IntKind.wrap_i64]
  omega
theorem xor_nonneg (x : Int) (h0 : 0 ≤ x) (h1 : x ≤ 1000000000000) : 0 ≤ bits .xor .i64 x (x / 64) ∧ bits .xor .i64 x (x / 64) ≤ 9223372036854775807 := by
  obtain ⟨n, rfl⟩ := Int.eq_ofNat_of_zero_le h0
  have e : ((n : Int) / 64) = ((n / 64 : Nat) : Int) := by omega
  rw [e, i64_xor_nat n (n / 64) (by omega) (by omega)]
  have : n ^^^ (n / 64) < 2 ^ 63 := Nat.xor_lt_two_pow (by omega) (by omega)
  omega

/-- The reader lies at block g: it reads the bytes, p of them are behind. -/
def RdS (w : World) (g : Nat) (A : Option Addr) (c : Nat) (bytes : List Int) (p : Nat) : Prop :=
  w.heap[g]? = some (.cells #[.slice A bytes.length c, .int .i64 p] 79 (0, 0)) ∧ Rd w A (bytes.map (.int .u8)) ∧ (bytes ≠ [] → ∀ ad, A = some ad → ad.block ≠ g) ∧ bytes.length ≤ 2000 ∧ ∀ x ∈ bytes, 0 ≤ x ∧ x ≤ 255
/-- a number below n, or 0 -/
def Below0 (n r : Int) : Prop := 0 ≤ r ∧ (r < n ∨ r = 0)
/-- what pick leaves -/
def Picked (n : Int) (w : World) (g : Nat) (A : Option Addr) (c : Nat) (bytes : List Int) (p : Nat) (e : Ending) (w' : World) : Prop :=
  ∃ r : Int, e = .returned (.int .i64 r) ∧ Below0 n r ∧ RdS w' g A c bytes p ∧ w.grownBy w' (some g)

theorem RdS.cells {w : World} {g : Nat} {A : Option Addr} {c : Nat} {bytes : List Int} {p : Nat} (h : RdS w g A c bytes p) :
    w.cell? ⟨g, 0, none⟩ = some (.slice A bytes.length c) ∧ w.cell? ⟨g, 1, none⟩ = some (.int .i64 p) ∧ w.frozen? ⟨g, 1, none⟩ = false := by
  refine ⟨cell_of_row w g 0 _ _ _ h.1, cell_of_row w g 1 _ _ _ h.1, frozen_of_row w g 1 _ _ h.1⟩
theorem RdS.next {w : World} {g : Nat} {A : Option Addr} {c : Nat} {bytes : List Int} {p : Nat} (h : RdS w g A c bytes p) : RdS (w.setCell ⟨g, 1, none⟩ (.int .i64 ((p : Int) + 1))) g A c bytes (p + 1) ∧ w.grownBy (w.setCell ⟨g, 1, none⟩ (.int .i64 ((p : Int) + 1))) (some g) := by
  have hg : w.grownBy (w.setCell ⟨g, 1, none⟩ (.int .i64 ((p : Int) + 1))) (some g) := ⟨rfl, rfl, rfl, by simp [World.setCell], fun i hi hn => Below.heap_setCell _ _ _ _ (fun e => hn (by simp [e]))⟩
  refine ⟨⟨?_, h.2.1.grownBelow hg (fun hne ad ha e => h.2.2.1 (by simpa using hne) ad ha (by simpa using e)), h.2.2.1, h.2.2.2⟩, hg⟩
  rw [heap_setCell_same w g 1 _ _ _ h.1]
  simp

set_option maxHeartbeats 1000000 in
theorem pick_any (n : Int) (w : World) (g : Nat) (A : Option Addr) (c : Nat) (bytes : List Int) (p : Nat) (h : RdS w g A c bytes p) (hp : p ≤ 1000000000) (hnl : n ≤ 9223372036854775807) :
    Calls Tryz.prog 45 #[.pointer (some ⟨g, 0, none⟩), .int .i64 n] w (Picked n w g A c bytes (p + 1)) := by
  obtain ⟨c0, c1, f1⟩ := h.cells
  obtain ⟨hS, hG⟩ := h.next
  have hlb := h.2.2.2.1
  by_cases hn : n < 1
  · go_enter Tryz.func45, Tryz.ntmps45
    go_wp2
    go_ret
    exact ⟨0, rfl, ⟨by omega, .inr rfl⟩, hS, hG⟩
  · by_cases hl : bytes.length = 0
    · have hb : ((bytes.length : Int) == 0) = true := by simp [hl]
      clear hl
      go_enter Tryz.func45, Tryz.ntmps45
      go_wp2
      go_ret
      exact ⟨0, rfl, ⟨by omega, .inr rfl⟩, hS, hG⟩
    · have hb : ((bytes.length : Int) == 0) = false := by rw [beq_eq_false_iff_ne]; omega
      have hl1 : 0 < bytes.length := by omega
      by_cases hlt : p < bytes.length
      · obtain ⟨ad, rfl, hc⟩ := hS.2.1.atM hlt
        have hx := h.2.2.2.2 bytes[p] (List.getElem_mem hlt)
        generalize bytes[p] = x at hc hx
        obtain ⟨x0, x1⟩ := hx
        go_enter Tryz.func45, Tryz.ntmps45
        go_wp2
        go_ret
        exact ⟨_, rfl, ⟨Int.emod_nonneg _ (by omega), .inl (Int.emod_lt_of_pos _ (by omega))⟩, hS, hG⟩
      · obtain ⟨ad, rfl, hc1⟩ := hS.2.1.atM (k := p % bytes.length) (Nat.mod_lt _ hl1)
        obtain ⟨_, h', hc2⟩ := hS.2.1.atM (k := (p * 7 + 3) % bytes.length) (Nat.mod_lt _ hl1)
        obtain rfl := Option.some.inj h'
        have hx1 := h.2.2.2.2 _ (List.getElem_mem (Nat.mod_lt p hl1))
        have hx2 := h.2.2.2.2 _ (List.getElem_mem (Nat.mod_lt (p * 7 + 3) hl1))
        generalize bytes[p % bytes.length]'(Nat.mod_lt _ hl1) = x at hc1 hx1
        generalize bytes[(p * 7 + 3) % bytes.length]'(Nat.mod_lt _ hl1) = y at hc2 hx2
        obtain ⟨x0, x1⟩ := hx1
        obtain ⟨y0, y1⟩ := hx2
        clear h'
        obtain ⟨q1, hq1⟩ : ∃ q, p % bytes.length = q := ⟨_, rfl⟩
        obtain ⟨q2, hq2⟩ : ∃ q, (p * 7 + 3) % bytes.length = q := ⟨_, rfl⟩
        have l1 : (q1 : Int) < (bytes.length : Int) := by have := Nat.mod_lt p hl1; omega
        have l2 : (q2 : Int) < (bytes.length : Int) := by have := Nat.mod_lt (p * 7 + 3) hl1; omega
        have d0 : 0 ≤ (p : Int) / (bytes.length : Int) := Int.ediv_nonneg (by omega) (by omega)
        have d1 : (p : Int) / (bytes.length : Int) ≤ p := Int.ediv_le_self _ (by omega)
        have t1 : (p : Int).tmod (bytes.length : Int) = (q1 : Int) := by rw [Int.tmod_eq_emod_of_nonneg (by omega), ← hq1]; omega
        have t2 : ((p : Int) * 7 + 3).tmod (bytes.length : Int) = (q2 : Int) := by rw [Int.tmod_eq_emod_of_nonneg (by omega), ← hq2, Int.natCast_emod]; rfl
        have t3 : (p : Int).tdiv (bytes.length : Int) = (p : Int) / (bytes.length : Int) := Int.tdiv_eq_ediv_of_nonneg (by omega)
        rw [hq1] at hc1
        rw [hq2] at hc2
        generalize (p : Int) / (bytes.length : Int) = d at d0 d1 t3
        clear hq1 hq2
        have e1 : IntKind.i64.wrap (q1 : Int) = q1 := IntWalk.i64_in _ (by omega)
        have e2 : IntKind.i64.wrap ((p : Int) * 7) = (p : Int) * 7 := IntWalk.i64_in _ (by omega)
        have e3 : IntKind.i64.wrap ((p : Int) * 7 + 3) = (p : Int) * 7 + 3 := IntWalk.i64_in _ (by omega)
        have e4 : IntKind.i64.wrap (q2 : Int) = q2 := IntWalk.i64_in _ (by omega)
        have e5 : IntKind.i64.wrap x = x := IntWalk.i64_in _ (by omega)
        have e6 : IntKind.i64.wrap y = y := IntWalk.i64_in _ (by omega)
        have e7 : IntKind.i64.wrap (x * 131) = x * 131 := IntWalk.i64_in _ (by omega)
        have e8 : IntKind.i64.wrap (y * 1117) = y * 1117 := IntWalk.i64_in _ (by omega)
        have e9 : IntKind.i64.wrap (x * 131 + y * 1117) = x * 131 + y * 1117 := IntWalk.i64_in _ (by omega)
        have e10 : IntKind.i64.wrap ((p : Int) * 29) = (p : Int) * 29 := IntWalk.i64_in _ (by omega)
        have e11 : IntKind.i64.wrap (x * 131 + y * 1117 + (p : Int) * 29) = x * 131 + y * 1117 + (p : Int) * 29 := IntWalk.i64_in _ (by omega)
        have e12 : IntKind.i64.wrap d = d := IntWalk.i64_in _ (by omega)
        have e13 : IntKind.i64.wrap (d * 53) = d * 53 := IntWalk.i64_in _ (by omega)
        have e14 : IntKind.i64.wrap (x * 131 + y * 1117 + (p : Int) * 29 + d * 53) = x * 131 + y * 1117 + (p : Int) * 29 + d * 53 := IntWalk.i64_in _ (by omega)
        obtain ⟨z0, z1⟩ := xor_nonneg (x * 131 + y * 1117 + (p : Int) * 29 + d * 53) (by omega) (by omega)
        go_enter Tryz.func45, Tryz.ntmps45
        go_wp2_with fail
        go_quiet (fail)
        clear t1 t2 t3 e1 e2 e3 e4 e5 e6 e7 e8 e9 e10 e11 e12 e13 e14
        generalize hX : x * 131 + y * 1117 + (p : Int) * 29 + d * 53 = X at z0 z1 ⊢
        have X0 : 0 ≤ X := by omega
        have X1 : X ≤ 1000000000000 := by omega
        clear hX
        generalize hZ : bits .xor .i64 X (X / 64) = Z at z0 z1
        go_wp2
        go_ret
        exact ⟨_, rfl, ⟨Int.emod_nonneg _ (by omega), .inl (Int.emod_lt_of_pos _ (by omega))⟩, hS, hG.os, hG.tape, hG.output, hG.size, hG.block⟩

/-- a reader is open, made by the call that began at w0 -/
def Opn (w0 : World) (g : Nat) (A : Option Addr) (c : Nat) (bytes : List Int) (p : Nat) (w : World) : Prop := RdS w g A c bytes p ∧ w0.heap.size ≤ g ∧ Below w0.heap.size w0 w
def Opened (w0 : World) (e : Ending) (w : World) : Prop := ∃ g A c bytes, e = .returned (.pointer (some ⟨g, 0, none⟩)) ∧ Opn w0 g A c bytes 0 w
theorem Opn.lt {w0 : World} {g : Nat} {A : Option Addr} {c : Nat} {bytes : List Int} {p : Nat} {w : World} (h : Opn w0 g A c bytes p w) : g < w.heap.size := by
  rcases Nat.lt_or_ge g w.heap.size with h1 | h1
  · exact h1
  · have := h.1.1; rw [Array.getElem?_eq_none h1] at this; cases this
theorem Opn.pick {w0 : World} {g : Nat} {A : Option Addr} {c : Nat} {bytes : List Int} {p p' : Nat} {w w' : World} (h : Opn w0 g A c bytes p w) (hs : RdS w' g A c bytes p') (hg : w.grownBy w' (some g)) : Opn w0 g A c bytes p' w' :=
  ⟨hs, h.2.1, h.2.2.grown hg h.2.2.size (fun k hk => by injection hk with hk; have := h.2.1; omega)⟩
theorem RdS.below {w w' : World} {g : Nat} {A : Option Addr} {c : Nat} {bytes : List Int} {p : Nat} (h : RdS w g A c bytes p) (hg : g < w.heap.size) (hb : Below w.heap.size w w') : RdS w' g A c bytes p :=
  ⟨by rw [hb.block g hg]; exact h.1, h.2.1.belo hb, h.2.2⟩
theorem Opn.belo {w0 : World} {g : Nat} {A : Option Addr} {c : Nat} {bytes : List Int} {p : Nat} {w w' : World} (h : Opn w0 g A c bytes p w) (hb : Below w.heap.size w w') : Opn w0 g A c bytes p w' :=
  ⟨h.1.below h.lt hb, h.2.1, bl_go h.2.2 hb⟩

theorem opn_new {w : World} {A : Option Addr} {c : Nat} {bs : List Int} (hr : Rd w A (bs.map (.int .u8))) (hw : ∀ x ∈ bs, 0 ≤ x ∧ x ≤ 255) (hl : bs.length ≤ 2000) :
    Opn w w.heap.size A c bs 0 (w.alloc (.cells #[.slice A bs.length c, .int .i64 0] 79)) := by
  refine ⟨⟨heap_alloc_new w _, hr.alloc _, fun hne ad ha e => ?_, hl, hw⟩, Nat.le_refl _, bl_alloc (Below.refl _ _) _⟩
  have := hr.lt ha (by simpa using hne); omega

set_option maxHeartbeats 1000000 in
theorem open_any (A : Option Addr) (c : Nat) (bs : List Int) (w : World) (hr : Rd w A (bs.map (.int .u8))) (hw : ∀ x ∈ bs, 0 ≤ x ∧ x ≤ 255) (hn : bs.length ≤ 1048576) (hcap : bs.length ≤ c) :
    Calls Tryz.prog 23 #[.slice A bs.length c] w (Opened w) := by
  by_cases hl : bs.length ≤ 2000
  · have H := opn_new (c := c) hr hw hl
    go_enter Tryz.func23, Tryz.ntmps23
    go_wp2
    go_ret
    exact ⟨_, _, _, _, rfl, H⟩
  · have hr2 : Rd w A ((bs.take 2000).map (.int .u8)) := fun hne => by
      obtain ⟨ad, ha, hc⟩ := hr (by intro e; simp at e; subst e; simp at hl)
      refine ⟨ad, ha, fun j u hu => hc j u ?_⟩
      rw [List.map_take] at hu
      rw [List.getElem?_take] at hu
      split at hu
      · exact hu
      · cases hu
    have hlen : (bs.take 2000).length = 2000 := by rw [List.length_take]; omega
    have H := opn_new (c := c) hr2 (fun x hx => hw x (List.mem_of_mem_take hx)) (by omega)
    rw [hlen] at H
    go_enter Tryz.func23, Tryz.ntmps23
    go_wp2
    go_ret
    exact ⟨_, _, _, _, rfl, H⟩
end Go.Proofs.YtafmpgikdhlknaaGreat

/- Contracts: the draws of truths and of regions. -/
namespace Go.Proofs.YtafmpgikdhlknaaGreat
open Go.RowKit

section
set_option maxRecDepth 100000
variable {ops : Array Oper} {rest : List Oper} {o : Oper} {a : Act} {Q : Exit → Act → World → Prop}
theorem step_app_bool {K : Act → World → Prop} {E : Prop} (W : World) (hgd : o.guard = none) (s x : Operand) (ho : o.op = .call { callee := .builtin .append, args := #[s, x], argTypes := #[23, 23] })
    (base : Nat) (v : Value) (xs : List Bool) (hs : a.eval s = v) (hown : OwnB W base v xs) (u : Bool) (H : Nat) (hx : a.eval x = .slice (some ⟨H, 0, none⟩) 1 1) (hc : W.cell? ⟨H, 0, none⟩ = some (.bool u)) (hn : xs.length ≤ 1000000000000) (hbase : base ≤ W.heap.size)
    (h : ∀ (v' : Value) (w' : World), OwnB w' base v' (xs ++ [u]) → Below base W w' → K (a.put o.dst v') w') :
    if Region.wanted o (yielded ops a.tmps) = true then Oper.wp Tryz.prog o a W K Q else E := by
  obtain ⟨i0, hi, hz0, hz1, hz2⟩ := info_parts Tryz.infoB
  obtain ⟨A, c, e, hown⟩ := hown
  refine step_append_lies _ hgd s x 23 ho base 4 i0 (.bool false) 1 1 Tryz.underlying23 hi hz0 hz1 hz2 rfl (by decide) v _ _ hs hown ⟨H, 0, none⟩ 1 1 [.bool u] hx rfl ?_ ?_ (by decide) ?_ ?_ ?_ _ rfl ?_
  · intro j y hj
    match j, hj with
    | 0, hj => simp at hj; subst hj; simpa [Addr.add] using hc
  · intro y hy; simp at hy; subst hy; rfl
  · unfold maxLen; omega
  · omega
  · exact hbase
  · intro g cap w' h1 h2 h3 _
    have e1 : xs.map Value.bool ++ [.bool u] = (xs ++ [u]).map .bool := by simp
    rw [e1] at h1
    refine h _ w' ⟨_, _, by simp; exact ⟨rfl, rfl⟩, ?_⟩ ((Below.refl base W).grown h2 hbase (fun k hk => (hown.lt k hk).1))
    have e2 : (xs ++ [u]).length = xs.length + 1 := by simp
    rw [e2]; exact h1
end
/-- a truth is handed back -/
def SomeBit (g : Nat) (A : Option Addr) (c : Nat) (bytes : List Int) (p : Nat) (w : World) (e : Ending) (w' : World) : Prop :=
  ∃ (b : Bool) (p' : Nat), e = .returned (.bool b) ∧ RdS w' g A c bytes p' ∧ p' ≤ p + 1 ∧ w.grownBy w' (some g)
set_option maxHeartbeats 1000000 in
theorem odd_any (n : Int) (w : World) (g : Nat) (A : Option Addr) (c : Nat) (bytes : List Int) (p : Nat) (h : RdS w g A c bytes p) (hp : p ≤ 1000000000) (hn0 : 0 ≤ n) (hn : n ≤ 1000) :
    Calls Tryz.prog 64 #[.pointer (some ⟨g, 0, none⟩), .int .i64 n] w (SomeBit g A c bytes p w) := by
  by_cases h0 : n = 0
  · subst h0
    go_enter Tryz.func64, Tryz.ntmps64
    go_wp2
    go_ret
    exact ⟨false, p, rfl, h, by omega, World.grownBy.refl _ _⟩
  · have h1 : 0 < n := by omega
    clear h0
    go_enter Tryz.func64, Tryz.ntmps64
    go_wp2_with fail
    refine (pick_any n _ g A c bytes p h hp (by omega)).mono ?_
    rintro e w2 ⟨r, rfl, -, S2, G2⟩
    go_wp2
    go_ret
    exact ⟨_, p + 1, rfl, S2, by omega, G2⟩
/-- a region is handed back; the reader has gone on -/
def SomeReg (g : Nat) (A : Option Addr) (c : Nat) (bytes : List Int) (p more : Nat) (w : World) (e : Ending) (w' : World) : Prop :=
  ∃ (W T : Int) (bs : List Bool) (B : Option Addr) (k p' : Nat), e = .returned (.agg #[.int .i64 W, .int .i64 T, .slice B bs.length k]) ∧ Rd w' B (bs.map .bool) ∧ bs.length ≤ 37 ∧ RdS w' g A c bytes p' ∧ p' ≤ p + more ∧ w.grownBy w' (some g) ∧ (∀ ad, B = some ad → w.heap.size ≤ ad.block)
/-- a region under way: its box at bx, the list its own -/
structure RegI (w : World) (g bx : Nat) (A : Option Addr) (c : Nat) (bytes : List Int) (W T : Int) (q : Nat) (xs : List Bool) (v : Value) (wr : World) : Prop where
  own : OwnB wr (bx + 1) v xs
  box : wr.heap[bx]? = some (.cells #[.int .i64 W, .int .i64 T, v] 25 (0, 0))
  res : wr.heap[w.heap.size]? = some (.cells #[.int .i64 0, .int .i64 0, .slice none 0 0] 25 (0, 0))
  rds : RdS wr g A c bytes q
  ha : bytes ≠ [] → ∀ ad, A = some ad → ad.block < w.heap.size
  gb : w.grownBy wr (some g)
  hg : g < w.heap.size
  hb : w.heap.size < bx
theorem heap_lt {w : World} {b : Nat} {o : Obj} (h : w.heap[b]? = some o) : b < w.heap.size := by
  rcases Nat.lt_or_ge b w.heap.size with h1 | h1
  · exact h1
  · rw [Array.getElem?_eq_none h1] at h; cases h
section
variable {w wr w' : World} {g bx : Nat} {A : Option Addr} {c : Nat} {bytes : List Int} {W T : Int} {q : Nat} {xs : List Bool} {v : Value}
theorem RegI.pick (h : RegI w g bx A c bytes W T q xs v wr) {q' : Nat} (S : RdS w' g A c bytes q') (G : wr.grownBy w' (some g)) : RegI w g bx A c bytes W T q' xs v w' :=
  ⟨h.own.grown G (by have := h.hg; have := h.hb; omega), (G.block bx (heap_lt h.box) (by have := h.hg; have := h.hb; simp; omega)).trans h.box, (G.block _ (heap_lt h.res) (by have := h.hg; simp; omega)).trans h.res, S, h.ha, grownBy_trans' h.gb G, h.hg, h.hb⟩
theorem RegI.below (h : RegI w g bx A c bytes W T q xs v wr) (hb : Below wr.heap.size wr w') : RegI w g bx A c bytes W T q xs v w' :=
  ⟨h.own.belo hb, (hb.block bx (heap_lt h.box)).trans h.box, (hb.block _ (heap_lt h.res)).trans h.res, h.rds.below (heap_lt h.rds.1) hb, h.ha, gb_below h.gb hb, h.hg, h.hb⟩
/-- a cell of the box is written -/
theorem RegI.put (h : RegI w g bx A c bytes W T q xs v wr) {W' T' : Int} {v' u : Value} {ys : List Bool} {i : Nat} (own : OwnB w' (bx + 1) v' ys) (hb : Below (bx + 1) wr w')
    (he : (#[.int .i64 W, .int .i64 T, v] : Array Value).setIfInBounds i u = #[.int .i64 W', .int .i64 T', v']) :
    RegI w g bx A c bytes W' T' q ys v' (w'.setCell ⟨bx, i, none⟩ u) := by
  have hgb := h.hg
  have hbb := h.hb
  have e := (hb.block bx (by omega)).trans h.box
  have hk : ∀ j, j < bx + 1 → j ≠ bx → (w'.setCell ⟨bx, i, none⟩ u).heap[j]? = wr.heap[j]? := fun j hi hne => by
    rw [Below.heap_setCell _ _ _ _ (by simpa using hne)]; exact hb.block j hi
  refine ⟨own.set (by simp) _, ?_, (hk _ (by omega) (by omega)).trans h.res, ?_, h.ha, ?_, h.hg, h.hb⟩
  · rw [heap_setCell_same w' bx i _ _ _ e, he]
  · obtain ⟨r1, r2, r3, r4⟩ := h.rds
    refine ⟨(hk g (by omega) (by omega)).trans r1, fun hne => ?_, r3, r4⟩
    obtain ⟨ad, ha, hc⟩ := r2 hne
    have hlt := h.ha (by simpa using hne) ad ha
    refine ⟨ad, ha, fun j u hu => ?_⟩
    have hab : (ad.add j).block = ad.block := by unfold Addr.add; split <;> rfl
    have e1 := hk ad.block (by omega) (by omega)
    rw [← hab] at e1
    exact (World.cell?_of_block (a := ad.add j) e1).trans (hc j u hu)
  · exact ⟨hb.os.trans h.gb.os, hb.tape.trans h.gb.tape, hb.output.trans h.gb.output, by have := h.gb.size; have := hb.size; simp [World.setCell]; omega, fun i hi hn => by
      rw [Below.heap_setCell _ _ _ _ (by simp; omega)]; exact (hb.block i (by omega)).trans (h.gb.block i hi hn)⟩
/-- one truth more -/
theorem RegI.app (h : RegI w g bx A c bytes W T q xs v wr) {v' : Value} {ys : List Bool} (own : OwnB w' (bx + 1) v' ys) (hb : Below (bx + 1) wr w') :
    RegI w g bx A c bytes W T q ys v' (w'.setCell ⟨bx, 2, none⟩ v') := h.put own hb (by simp)
theorem RegI.tall (h : RegI w g bx A c bytes W T q xs v wr) (U : Int) : RegI w g bx A c bytes W U q xs v (wr.setCell ⟨bx, 1, none⟩ (.int .i64 U)) := h.put h.own (Below.refl _ _) (by simp)
theorem RegI.six (h : RegI w g bx A c bytes W T q xs v wr) : RegI w g bx A c bytes 6 6 q [] (.slice none 0 0) (((wr.setCell ⟨bx, 0, none⟩ (.int .i64 6)).setCell ⟨bx, 1, none⟩ (.int .i64 6)).setCell ⟨bx, 2, none⟩ (.slice none 0 0)) := by
  have h1 : RegI w g bx A c bytes 6 T q xs v (wr.setCell ⟨bx, 0, none⟩ (.int .i64 6)) := h.put h.own (Below.refl _ _) (by simp)
  have h2 := h1.tall 6
  exact h2.put (OwnB.nil _ _) (Below.refl _ _) (by simp)
theorem RegI.new (K : w.grownBy wr (some g)) (P : wr.heap[w.heap.size]? = some (.cells #[.int .i64 0, .int .i64 0, .slice none 0 0] 25 (0, 0))) (S : RdS wr g A c bytes q) (hA : bytes ≠ [] → ∀ ad, A = some ad → ad.block < w.heap.size) (hg : g < w.heap.size) (W T : Int) :
    RegI w g wr.heap.size A c bytes W T q [] (.slice none 0 0) (wr.alloc (.cells #[.int .i64 W, .int .i64 T, .slice none 0 0] 25)) :=
  ⟨OwnB.nil _ _, heap_alloc_new _ _, ((bl_alloc (Below.refl _ _) _).block _ (heap_lt P)).trans P, S.below (heap_lt S.1) (bl_alloc (Below.refl _ _) _), hA, gb_below K (bl_alloc (Below.refl _ _) _), hg, heap_lt P⟩
theorem RegI.cells (h : RegI w g bx A c bytes W T q xs v wr) : bx < wr.heap.size ∧ wr.cell? ⟨bx, 0, none⟩ = some (.int .i64 W) ∧ wr.cell? ⟨bx, 1, none⟩ = some (.int .i64 T) ∧ wr.cell? ⟨bx, 2, none⟩ = some v ∧ wr.frozen? ⟨bx, 2, none⟩ = false := by
  obtain ⟨a, b, c, d, e, f⟩ := blk3 h.box
  exact ⟨heap_lt h.box, a, b, c, f⟩
theorem reg_set {i : Nat} {u : Value} (o : OwnB wr (bx + 1) v xs) (r : RdS wr g A c bytes q) (k : w.grownBy wr (some g)) (ha : bytes ≠ [] → ∀ ad, A = some ad → ad.block < w.heap.size) (hg : g < w.heap.size) (hb : w.heap.size < bx) :
    OwnB (wr.setCell ⟨w.heap.size, i, none⟩ u) (bx + 1) v xs ∧ RdS (wr.setCell ⟨w.heap.size, i, none⟩ u) g A c bytes q ∧ w.grownBy (wr.setCell ⟨w.heap.size, i, none⟩ u) (some g) := by
  have hk : ∀ j, j < w.heap.size → (wr.setCell ⟨w.heap.size, i, none⟩ u).heap[j]? = wr.heap[j]? := fun j hi => Below.heap_setCell _ _ _ _ (by simp; omega)
  refine ⟨o.set (by simp; omega) _, ?_, ⟨k.os, k.tape, k.output, by have := k.size; simp [World.setCell]; omega, fun j hi hn => (hk j hi).trans (k.block j hi hn)⟩⟩
  obtain ⟨r1, r2, r3, r4⟩ := r
  refine ⟨(hk g hg).trans r1, fun hne => ?_, r3, r4⟩
  obtain ⟨ad, h1, hc⟩ := r2 hne
  have hlt := ha (by simpa using hne) ad h1
  refine ⟨ad, h1, fun j u hu => ?_⟩
  have hab : (ad.add j).block = ad.block := by unfold Addr.add; split <;> rfl
  have e1 := hk ad.block (by omega)
  rw [← hab] at e1
  exact (World.cell?_of_block (a := ad.add j) e1).trans (hc j u hu)
/-- it is handed back -/
theorem RegI.done (h : RegI w g bx A c bytes W T q xs v wr) {W' T' : Int} {ys : List Bool} {B : Option Addr} {k p more : Nat} (own : OwnB wr (bx + 1) (.slice B ys.length k) ys) (hn : ys.length ≤ 37) (hq : q ≤ p + more) :
    SomeReg g A c bytes p more w (.returned (.agg #[.int .i64 W', .int .i64 T', .slice B ys.length k])) (((wr.setCell ⟨w.heap.size, 0, none⟩ (.int .i64 W')).setCell ⟨w.heap.size, 1, none⟩ (.int .i64 T')).setCell ⟨w.heap.size, 2, none⟩ (.slice B ys.length k)) := by
  obtain ⟨o1, r1, k1⟩ := reg_set (i := 0) (u := .int .i64 W') own h.rds h.gb h.ha h.hg h.hb
  obtain ⟨o2, r2, k2⟩ := reg_set (i := 1) (u := .int .i64 T') o1 r1 k1 h.ha h.hg h.hb
  obtain ⟨o3, r3, k3⟩ := reg_set (i := 2) (u := .slice B ys.length k) o2 r2 k2 h.ha h.hg h.hb
  have hb := h.hb
  obtain ⟨A', c', e, o⟩ := id o3
  injection e with e1 e2 e3
  subst e1; subst e3
  exact ⟨W', T', ys, _, _, q, rfl, Rd.own o, hn, r3, hq, k3, fun ad ha => by subst ha; have := (o.lt ad.block rfl).1; omega⟩
end
set_option maxRecDepth 100000 in
set_option maxHeartbeats 2000000 in
theorem region_any (n : Int) (w : World) (g : Nat) (A : Option Addr) (c : Nat) (bytes : List Int) (p : Nat) (h : RdS w g A c bytes p) (hp : p ≤ 100000) (hn0 : 0 ≤ n) (hn : n ≤ 1000) :
    Calls Tryz.prog 65 #[.pointer (some ⟨g, 0, none⟩), .int .i64 n] w (SomeReg g A c bytes p 30 w) := by
  have hg := heap_lt h.1
  have hA : bytes ≠ [] → ∀ ad, A = some ad → ad.block < w.heap.size := by
    intro hne ad ha
    obtain ⟨ad', ha', hc⟩ := h.2.1 (by simpa using hne)
    obtain rfl := Option.some.inj (ha.symm.trans ha')
    obtain ⟨x, ys, rfl⟩ := List.exists_cons_of_ne_nil hne
    have := World.block_lt_of_cell? w _ (hc 0 _ rfl)
    simpa [Addr.add] using this
  have h0 := h.below hg (bl_alloc (Below.refl _ _) (.cells #[.int .i64 0, .int .i64 0, .slice none 0 0] 25))
  have P0 := heap_alloc_new w (.cells #[.int .i64 0, .int .i64 0, .slice none 0 0] 25)
  have K0 : w.grownBy (w.alloc (.cells #[.int .i64 0, .int .i64 0, .slice none 0 0] 25)) (some g) := gb_below (World.grownBy.refl _ _) (bl_alloc (Below.refl _ _) _)
  have z0 : w.heap.size < (w.alloc (.cells #[.int .i64 0, .int .i64 0, .slice none 0 0] 25)).heap.size := by simp
  go_enter Tryz.func65, Tryz.ntmps65
  go_wp2_with fail
  refine (pick_any 6 _ g A c bytes p h0 (by omega) (by omega)).mono ?_
  rintro e w1 ⟨r1, rfl, hr1, S1, G1⟩
  have hr1' : 0 ≤ r1 ∧ r1 ≤ 5 := by unfold Below0 at hr1; omega
  clear hr1
  obtain ⟨a1, a2⟩ := hr1'
  have K1 := grownBy_trans' K0 G1
  have P1 := (G1.block _ z0 (by simp; omega)).trans P0
  have z1 := heap_lt P1
  go_wp2_with fail
  refine (pick_any 6 _ g A c bytes _ S1 (by omega) (by omega)).mono ?_
  rintro e w2 ⟨r2, rfl, hr2, S2, G2⟩
  have hr2' : 0 ≤ r2 ∧ r2 ≤ 5 := by unfold Below0 at hr2; omega
  clear hr2
  obtain ⟨b1, b2⟩ := hr2'
  have K2 := grownBy_trans' K1 G2
  have P2 := (G2.block _ z1 (by simp; omega)).trans P1
  have z2 := heap_lt P2
  have M := mul_bd (W := 1 + r1) (T := 1 + r2) (by omega) (by omega) (by omega) (by omega)
  obtain ⟨m1, m2⟩ := M
  by_cases hbig : 24 < (1 + r1) * (1 + r2)
  focus
    have hW : (1 + r1) * (24 / (1 + r1)) ≤ 24 ∧ 1 ≤ 24 / (1 + r1) ∧ 24 / (1 + r1) ≤ 24 := by
      rcases (show r1 = 0 ∨ r1 = 1 ∨ r1 = 2 ∨ r1 = 3 ∨ r1 = 4 ∨ r1 = 5 from by omega) with rfl | rfl | rfl | rfl | rfl | rfl <;> decide
    have H1 := RegI.new K2 P2 S2 hA hg (1 + r1) (24 / (1 + r1))
    go_wp2_with fail
    generalize w2.alloc (.cells #[.int .i64 (1 + r1), .int .i64 (24 / (1 + r1)), .slice none 0 0] 25) = wq at *
    generalize 24 / (1 + r1) = T at *
  rotate_left
  focus
    have hW : (1 + r1) * (1 + r2) ≤ 24 ∧ 1 ≤ 1 + r2 ∧ 1 + r2 ≤ 24 := by omega
    have H1 := RegI.new K2 P2 S2 hA hg (1 + r1) (1 + r2)
    have hd : decide (24 < (1 + r1) * (1 + r2)) = false := decide_eq_false hbig
    go_wp2_with fail
    generalize w2.alloc (.cells #[.int .i64 (1 + r1), .int .i64 (1 + r2), .slice none 0 0] 25) = wq at *
    generalize 1 + r2 = T at *
  all_goals (
      generalize hWe : 1 + r1 = W at *
      obtain ⟨N, hN⟩ := Int.eq_ofNat_of_zero_le (show 0 ≤ W * T from Int.mul_nonneg (by omega) (by omega))
      have HN := Lib.hid hN
      have hN24 : N ≤ 24 := by omega
      clear hN
      refine (pick_any 8 _ g A c bytes _ H1.rds (by omega) (by omega)).mono ?_
      rintro e w3 ⟨r3, rfl, hr3, S3, G3⟩
      have H3 := H1.pick S3 G3
      have hr3' : 0 ≤ r3 ∧ r3 ≤ 7 := by unfold Below0 at hr3; omega
      clear hr3 H1
      obtain ⟨c1, c2⟩ := hr3'
      go_wp2_with fail
      generalize w2.heap.size = bx at *
      go_loopw [7] (fun i wr => ∃ (k q : Nat) (xs : List Bool) (v : Value), k ≤ N ∧ i = .int .i64 k ∧ Hid (xs.length = k) ∧ q ≤ p + 3 + k ∧ RegI w g bx A c bytes W T q xs v wr) (fun i _ => N - (intOf i).toNat)
      case atStart => exact ⟨0, _, [], _, Nat.zero_le _, rfl, Lib.hid rfl, by omega, H3⟩
      case round =>
        clear H3
        obtain ⟨k, q, xs, v, hk, rfl, HX, hq, HR⟩ := hrel
        obtain ⟨zb, y0, y1, y2, f2⟩ := HR.cells
        by_cases hlt : k < N
        · have hlt2 : (k : Int) < W * T := by have := HN.out; omega
          have hxl : xs.length ≤ 1000000000000 := by rw [HX.out]; omega
          go_wp2_with fail
          go_region_law (first
            | (refine step_app_bool _ rfl _ _ rfl (bx + 1) _ xs rfl (H5 _).own _ _ rfl (cell_of_row _ _ 0 _ _ _ (heap_alloc_new _ _)) hxl (by simp; omega) ?_
               intro v4 w5 o4 b4
               obtain ⟨A4, c4, rfl, -⟩ := id o4
               simp only [List.length_append, List.length_cons, List.length_nil, Nat.zero_add] at o4
               have T4 := (b4.block bx (by omega)).trans (H5 _).box
               have H6 := (H5 _).app o4 b4
               obtain ⟨u0, u1, u2, g0, g1, g2⟩ := blk3 T4)
            | (go_simp
               go_at_call 45
               refine (pick_any 10 wr.drew g A c bytes q HR.rds (by omega) (by omega)).mono ?_
               rintro e w4 ⟨r4, rfl, hr4, S4, G4⟩
               have G5 : wr.grownBy w4 (some g) := ⟨G4.os, G4.tape, G4.output, G4.size, G4.block⟩
               have H4 := HR.pick S4 G5
               have H5 := fun (o : Obj) => H4.below (bl_alloc (Below.refl _ _) o)
               obtain ⟨zb4, x0, x1, x2, x3⟩ := H4.cells))
          all_goals (
            go_wp2
            go_roundw
            case rel => refine ⟨k + 1, q + 1, xs ++ [_], _, by omega, by go_num, Lib.hid (by simp [HX.out]), by omega, H6⟩
            case measure => simp [intOf]; omega)
        · have hge : ¬ ((k : Int) < W * T) := by have := HN.out; omega
          have hxl : xs.length ≤ 24 := by rw [HX.out]; omega
          have hWT0 : 0 ≤ W * T := by have := HN.out; omega
          go_wp2_with fail
          refine (odd_any n _ g A c bytes q HR.rds (by omega) hn0 hn).mono ?_
          rintro e w6 ⟨b, q', rfl, S6, hq6, G6⟩
          have H6 := HR.pick S6 G6
          have hq7 : q' ≤ p + 29 := by omega
          obtain ⟨A6, c6, rfl, -⟩ := id H6.own
          obtain ⟨zc, x0, x1, x2, x3⟩ := H6.cells
          clear y0 y1 y2 f2 zb HR HX hq hq6 hge
          cases b with
          | false =>
            obtain ⟨s0, s1, s2, t0, t1, t2⟩ := blk3 H6.res
            go_wp2_with fail
            refine bodyPost_ret (v := .agg #[.int .i64 W, .int .i64 T, .slice A6 xs.length c6]) (by simp [results, Tryz.results65, go_sem, s0, s1, s2]) rfl ?_
            exact H6.done H6.own (by omega) (by omega)
          | true =>
            go_wp2_with fail
            refine (pick_any 3 _ g A c bytes q' H6.rds (by omega) (by omega)).mono ?_
            rintro e w7 ⟨r7, rfl, hr7, S7, G7⟩
            have H7 := H6.pick S7 G7
            obtain ⟨zd, v0, v1, v2, v3⟩ := H7.cells
            clear x0 x1 x2 x3 zc H6
            have hr7' : r7 = 0 ∨ r7 = 1 ∨ r7 = 2 := by unfold Below0 at hr7; omega
            clear hr7
            obtain ⟨s0, s1, s2, t0, t1, t2⟩ := blk3 H7.res
            have n1 : w.heap.size ≠ bx := by omega
            have n2 : bx ≠ w.heap.size := by omega
            rcases hr7' with rfl | rfl | rfl
            · go_wp2_with (at_builtin; refine app_bool _ rfl _ _ rfl (bx + 1) _ _ rfl H7.own true rfl (by omega) (by omega) ?_; intro A8 c8 w8 o8 g8; have b8 := appB_below (Below.refl (bx + 1) w7) (Nat.le_refl _) (by omega) H7.own g8; have H8 := H7.app o8 b8; obtain ⟨p0, p1, p2, p3, p4, p5⟩ := blk3 ((b8.block bx (by omega)).trans H7.box); obtain ⟨i0, i1, i2, j0, j1, j2⟩ := blk3 ((b8.block w.heap.size (by omega)).trans H7.res))
              refine bodyPost_ret (v := .agg #[.int .i64 W, .int .i64 T, .slice A8 (xs.length + 1) c8]) (by simp [results, Tryz.results65, go_sem, i0, i1, i2]) rfl ?_
              have e : (xs ++ [true]).length = xs.length + 1 := by simp
              have HD := H8.done (W' := W) (T' := T) (ys := xs ++ [true]) (B := A8) (k := c8) (p := p) (more := 30) (by rw [e]; exact H8.own) (by rw [e]; omega) (by omega)
              rw [e] at HD
              exact HD
            · go_wp2_with fail
              refine bodyPost_ret (v := .agg #[.int .i64 0, .int .i64 0, .slice none 0 0]) (by simp [results, Tryz.results65, go_sem, s0, s1, s2]) rfl ?_
              exact H7.done (ys := []) (OwnB.nil _ _) (by simp) (by omega)
            · have H8 := H7.six
              obtain ⟨-, -, -, p3, p4, p5⟩ := blk3 H7.box
              go_wp2_with fail
              clear H7 p3 p4 p5 zd v0 v1 v2 v3 s0 s1 s2 t0 t1 t2
              obtain ⟨wo, hwo⟩ : ∃ wo : World, wo = wr := ⟨_, rfl⟩
              subst hwo
              go_loopw [8] (fun i wr => ∃ (k : Nat) (xs : List Bool) (v : Value), k ≤ 36 ∧ i = .int .i64 k ∧ Hid (xs.length = k) ∧ RegI w g bx A c bytes 6 6 (q' + 1) xs v wr) (fun i _ => 36 - (intOf i).toNat)
              case atStart => exact ⟨0, [], _, Nat.zero_le _, rfl, Lib.hid rfl, H8⟩
              case round =>
                clear H8
                obtain ⟨k, xs, v, hk, rfl, HX, HR⟩ := hrel
                obtain ⟨zb, y0, y1, y2, f2⟩ := HR.cells
                obtain ⟨s0, s1, s2, t0, t1, t2⟩ := blk3 HR.res
                obtain ⟨A9, c9, rfl, -⟩ := id HR.own
                by_cases hlt : k < 36
                · have hxl : xs.length ≤ 1000000000000 := by rw [HX.out]; omega
                  go_wp2_with (at_builtin; refine app_bool _ rfl _ _ rfl (bx + 1) _ _ rfl HR.own true rfl (by omega) (by omega) ?_; intro A8 c8 w8 o8 g8; have b8 := appB_below (Below.refl (bx + 1) wr) (Nat.le_refl _) (by omega) HR.own g8; have H8 := HR.app o8 b8; obtain ⟨p0, p1, p2, p3, p4, p5⟩ := blk3 ((b8.block bx (by omega)).trans HR.box))
                  go_roundw
                  case rel => exact ⟨k + 1, xs ++ [true], _, by omega, by go_num, Lib.hid (by simp [HX.out]), H8⟩
                  case measure => simp [intOf]; omega
                · have hxl : xs.length ≤ 36 := by rw [HX.out]; omega
                  go_wp2_with fail
                  refine bodyPost_ret (v := .agg #[.int .i64 6, .int .i64 6, .slice A9 xs.length c9]) (by simp [results, Tryz.results65, go_sem, s0, s1, s2]) rfl ?_
                  exact HR.done HR.own (by omega) (by omega))
end Go.Proofs.YtafmpgikdhlknaaGreat

/- Contract: the draw of a region that is often tiled (l20Tiled). -/
namespace Go.Proofs.YtafmpgikdhlknaaGreat
open Go.RowKit

/-- the state of l20Tiled: the reader, the region's box and its truths, the list that is laid -/
structure Til (w : World) (g bx : Nat) (A : Option Addr) (c : Nat) (bytes : List Int) (q : Nat) (W T : Int) (B : Option Addr) (kb : Nat) (bs : List Bool) (L : List Int) (D : Option Addr) (wr : World) : Prop where
  rds : RdS wr g A c bytes q
  box : C3 wr bx (.int .i64 W) (.int .i64 T) (.slice B bs.length kb)
  rd : Rd wr B (bs.map .bool)
  lay : Rd wr D (L.map (.int .i64))
  res : wr.heap[w.heap.size]? = some (.cells #[.int .i64 0, .int .i64 0, .slice none 0 0] 25 (0, 0))
  gb : w.grownBy wr (some g)
  hg : g < w.heap.size
  hb : w.heap.size < bx
  hB : ∀ ad, B = some ad → w.heap.size < ad.block
  hD : ∀ ad, D = some ad → w.heap.size ≤ ad.block
  ha : bytes ≠ [] → ∀ ad, A = some ad → ad.block < w.heap.size
section
variable {w wr w' : World} {g bx : Nat} {A : Option Addr} {c : Nat} {bytes : List Int} {q : Nat} {W T : Int} {B : Option Addr} {kb : Nat} {bs : List Bool} {L : List Int} {D : Option Addr}
theorem Til.pick (h : Til w g bx A c bytes q W T B kb bs L D wr) {q' : Nat} (S : RdS w' g A c bytes q') (G : wr.grownBy w' (some g)) : Til w g bx A c bytes q' W T B kb bs L D w' :=
  ⟨S, h.box.gb G (by have := h.hg; have := h.hb; omega), h.rd.grownBelow G (fun _ ad hh => by have := h.hB ad hh; have := h.hg; simp; omega), h.lay.grownBelow G (fun _ ad hh => by have := h.hD ad hh; have := h.hg; simp; omega),
   (G.block _ (heap_lt h.res) (by have := h.hg; simp; omega)).trans h.res, grownBy_trans' h.gb G, h.hg, h.hb, h.hB, h.hD, h.ha⟩
theorem Til.below (h : Til w g bx A c bytes q W T B kb bs L D wr) (hb : Below wr.heap.size wr w') : Til w g bx A c bytes q W T B kb bs L D w' :=
  ⟨h.rds.below (heap_lt h.rds.1) hb, h.box.belo hb, h.rd.belo hb, h.lay.belo hb, (hb.block _ (heap_lt h.res)).trans h.res, gb_below h.gb hb, h.hg, h.hb, h.hB, h.hD, h.ha⟩
theorem Til.relay (h : Til w g bx A c bytes q W T B kb bs L D wr) {L' : List Int} {D' : Option Addr} (r : Rd wr D' (L'.map (.int .i64))) (hD : ∀ ad, D' = some ad → w.heap.size ≤ ad.block) : Til w g bx A c bytes q W T B kb bs L' D' wr :=
  ⟨h.rds, h.box, h.rd, r, h.res, h.gb, h.hg, h.hb, h.hB, hD, h.ha⟩
/-- it is handed back -/
theorem Til.done (h : Til w g bx A c bytes q W T B kb bs L D wr) {p more : Nat} (hn : bs.length ≤ 37) (hq : q ≤ p + more) :
    SomeReg g A c bytes p more w (.returned (.agg #[.int .i64 W, .int .i64 T, .slice B bs.length kb])) (((wr.setCell ⟨w.heap.size, 0, none⟩ (.int .i64 W)).setCell ⟨w.heap.size, 1, none⟩ (.int .i64 T)).setCell ⟨w.heap.size, 2, none⟩ (.slice B bs.length kb)) := by
  obtain ⟨o1, r1, k1⟩ := reg_set (i := 0) (u := .int .i64 W) (OwnB.nil wr (bx + 1)) h.rds h.gb h.ha h.hg h.hb
  obtain ⟨o2, r2, k2⟩ := reg_set (i := 1) (u := .int .i64 T) o1 r1 k1 h.ha h.hg h.hb
  obtain ⟨o3, r3, k3⟩ := reg_set (i := 2) (u := .slice B bs.length kb) o2 r2 k2 h.ha h.hg h.hb
  refine ⟨W, T, bs, _, _, q, rfl, fun hne => ?_, hn, r3, hq, k3, fun ad ha => by have := h.hB ad ha; omega⟩
  obtain ⟨ad, h1, hc⟩ := h.rd hne
  have hlt := h.hB ad h1
  refine ⟨ad, h1, fun j u hu => ?_⟩
  have hab : (ad.add j).block = ad.block := by unfold Addr.add; split <;> rfl
  have hne2 : ∀ i, (⟨w.heap.size, i, none⟩ : Addr) ≠ ad.add j := fun i e => by
    have e2 := congrArg Addr.block e; rw [hab] at e2; simp at e2; omega
  rw [World.cell?_setCell_other _ _ _ _ (hne2 2), World.cell?_setCell_other _ _ _ _ (hne2 1), World.cell?_setCell_other _ _ _ _ (hne2 0)]
  exact hc j u hu
end
theorem Rd.keepW {w w' : World} {b2 i : Nat} {u : Value} {D : Option Addr} {xs : List Value} (h : Rd w D xs) (hlt : ∀ ad, D = some ad → ad.block < b2) (hb : Below (b2 + 1) w w') : Rd (w'.setCell ⟨b2, i, none⟩ u) D xs := fun hne => by
  obtain ⟨ad, h1, hc⟩ := h hne
  have hl := hlt ad h1
  refine ⟨ad, h1, fun j y hy => ?_⟩
  have hab : (ad.add j).block = ad.block := by unfold Addr.add; split <;> rfl
  have hne2 : (⟨b2, i, none⟩ : Addr) ≠ ad.add j := fun e => by
    have e2 := congrArg Addr.block e; rw [hab] at e2; simp at e2; omega
  rw [World.cell?_setCell_other _ _ _ _ hne2, hb.cell (p := ad.add j) (by omega)]
  exact hc j y hy
/-- one of the four ways -/
theorem way_cell (w : World) (rn : Nat) (h : rn ≤ 3) : ∃ d : Int, (w.alloc (.cells #[.int .i64 1, .int .i64 2, .int .i64 3, .int .i64 4] 3)).cell? ⟨w.heap.size, rn, none⟩ = some (.int .i64 d) ∧ 1 ≤ d ∧ d ≤ 4 := by
  rcases (show rn = 0 ∨ rn = 1 ∨ rn = 2 ∨ rn = 3 from by omega) with rfl | rfl | rfl | rfl
  · exact ⟨1, cell_of_row _ _ _ _ _ _ (heap_alloc_new w _), by omega, by omega⟩
  · exact ⟨2, cell_of_row _ _ _ _ _ _ (heap_alloc_new w _), by omega, by omega⟩
  · exact ⟨3, cell_of_row _ _ _ _ _ _ (heap_alloc_new w _), by omega, by omega⟩
  · exact ⟨4, cell_of_row _ _ _ _ _ _ (heap_alloc_new w _), by omega, by omega⟩
set_option maxRecDepth 100000 in
set_option maxHeartbeats 4000000 in
theorem tiled_any (n : Int) (w : World) (g : Nat) (A : Option Addr) (c : Nat) (bytes : List Int) (p : Nat) (h : RdS w g A c bytes p) (hp : p ≤ 50000) (hn0 : 0 ≤ n) (hn : n ≤ 1000) :
    Calls Tryz.prog 119 #[.pointer (some ⟨g, 0, none⟩), .int .i64 n] w (SomeReg g A c bytes p 80 w) := by
  have hg := heap_lt h.1
  have hA : bytes ≠ [] → ∀ ad, A = some ad → ad.block < w.heap.size := by
    intro hne ad ha
    obtain ⟨ad', ha', hc⟩ := h.2.1 (by simpa using hne)
    obtain rfl := Option.some.inj (ha.symm.trans ha')
    obtain ⟨x, ys, rfl⟩ := List.exists_cons_of_ne_nil hne
    have := World.block_lt_of_cell? w _ (hc 0 _ rfl)
    simpa [Addr.add] using this
  have h0 := h.below hg (bl_alloc (Below.refl _ _) (.cells #[.int .i64 0, .int .i64 0, .slice none 0 0] 25))
  have P0 := heap_alloc_new w (.cells #[.int .i64 0, .int .i64 0, .slice none 0 0] 25)
  have K0 : w.grownBy (w.alloc (.cells #[.int .i64 0, .int .i64 0, .slice none 0 0] 25)) (some g) := gb_below (World.grownBy.refl _ _) (bl_alloc (Below.refl _ _) _)
  have z0 : w.heap.size < (w.alloc (.cells #[.int .i64 0, .int .i64 0, .slice none 0 0] 25)).heap.size := by simp
  go_enter Tryz.func119, Tryz.ntmps119
  go_wp2_with fail
  refine (region_any n _ g A c bytes p h0 (by omega) hn0 hn).mono ?_
  rintro e w1 ⟨W, T, bs, B, kb, q, rfl, hrd, hl37, S1, hq, G1, hB⟩
  have hB' : ∀ ad, B = some ad → w.heap.size < ad.block := fun ad ha => by have := hB ad ha; omega
  have K1 := grownBy_trans' K0 G1
  have P1 := (G1.block _ z0 (by simp; omega)).trans P0
  have z1 := heap_lt P1
  have HT : Til w g w1.heap.size A c bytes q W T B kb bs [] none (w1.alloc (.cells #[.int .i64 W, .int .i64 T, .slice B bs.length kb] 25)) :=
    ⟨S1.below (heap_lt S1.1) (bl_alloc (Below.refl _ _) _), C3.new _ _ _ _ _, hrd.belo (bl_alloc (Below.refl _ _) _), Rd.nil _ _, ((bl_alloc (Below.refl _ _) _).block _ z1).trans P1, gb_below K1 (bl_alloc (Below.refl _ _) _), hg, z1, hB', (fun ad ha => by cases ha), hA⟩
  clear hB K1 P1 S1 hrd G1 P0 K0 h0 z0
  have hmx : bs.length ≤ maxLen := by unfold maxLen; omega
  go_wp2_with fail
  refine (sRegionValid_any W T B kb bs _ HT.rd hmx).mono ?_
  rintro e w2 ⟨rfl, b2⟩
  have H2 := HT.below b2
  clear HT b2
  generalize w1.heap.size = bx at *
  obtain ⟨x0, x1, x2⟩ := id H2.box
  obtain ⟨s0, s1, s2, t0, t1, t2⟩ := blk3 H2.res
  have n1 : w.heap.size ≠ bx := by omega
  have n2 : bx ≠ w.heap.size := by omega
  have CL := Lib.hid (fun z (R : Rd z B (bs.map .bool)) => sLaidBare_any W T B kb bs z R hmx)
  cases hv : validB W T bs with
  | false =>
    clear hv
    go_wp2_with fail
    refine bodyPost_ret (v := .agg #[.int .i64 W, .int .i64 T, .slice B bs.length kb]) (by simp [results, Tryz.results119, go_sem, s0, s1, s2]) rfl ?_
    exact H2.done hl37 (by omega)
  | true =>
    have hl36 := (valid_len hv).2.2.2.2.1
    have hl1 : 1 ≤ bs.length := by
      obtain ⟨h1, h2, h3, h4, h5, h6⟩ := valid_len hv
      have := (mul_bd h1 h2 h3 h4).1
      omega
    go_wp2_with fail
    refine (CL.out _ H2.rd).mono ?_
    rintro e w3 ⟨D0, c0, rfl, r3, b3, hD3⟩
    have z2 := heap_lt H2.res
    have H3 := (H2.below b3).relay r3 (fun ad ha => by have := hD3 ad ha; omega)
    obtain ⟨N, hN⟩ : ∃ N, bs.length = N := ⟨_, rfl⟩
    have HB := Lib.hid (show (bareL W T bs).length = N by unfold bareL; rw [if_pos hv]; simp [hN])
    have HN := Lib.hid hN
    have hN36 : N ≤ 36 := by omega
    have hN1 : 1 ≤ N := by omega
    generalize bareL W T bs = L0 at *
    clear hv H2 b3 x0 x1 x2 s0 s1 s2 t0 t1 t2 r3 hD3 z2 CL hN
    go_wp2_with fail
    go_loopw [6, 7] (fun v i wr => ∃ (k q' c6 : Nat) (L : List Int) (D : Option Addr), k ≤ N ∧ i = .int .i64 k ∧ v = .slice D L.length c6 ∧ Hid (L.length = N) ∧ q' ≤ q + k ∧ Til w g bx A c bytes q' W T B kb bs L D wr) (fun _ i _ => N - (intOf i).toNat)
    case atStart => exact ⟨0, q, _, L0, _, Nat.zero_le _, rfl, rfl, HB, by omega, H3⟩
    case round =>
      clear H3 HB
      obtain ⟨k, q', c6, L, D, hk, rfl, rfl, HL, hq', HR⟩ := hrel
      obtain ⟨y0, y1, y2⟩ := id HR.box
      have zb := HR.box.lt
      have hLm : L.length ≤ maxLen := by rw [HL.out]; unfold maxLen; omega
      by_cases hlt : k < N
      · have hlt2 : (k : Int) < (L.length : Int) := by rw [HL.out]; omega
        go_wp2_with fail
        go_region_law (first
          | (go_simp
             go_at_call 45
             refine (pick_any 4 wr.drew g A c bytes q' HR.rds (by omega) (by omega)).mono ?_
             rintro e w4 ⟨r4, rfl, hr4, S4, G4⟩
             have G5 : wr.grownBy w4 (some g) := ⟨G4.os, G4.tape, G4.output, G4.size, G4.block⟩
             have H4 := HR.pick S4 G5
             have H5 := H4.below (bl_alloc (Below.refl _ _) (.cells #[.int .i64 1, .int .i64 2, .int .i64 3, .int .i64 4] 3))
             obtain ⟨rn, rfl, hrn⟩ : ∃ rn : Nat, r4 = rn ∧ rn ≤ 3 := ⟨r4.toNat, by unfold Below0 at hr4; omega, by unfold Below0 at hr4; omega⟩
             clear hr4
             have hrn4 : (rn : Int) < 4 := by omega
             obtain ⟨d, hd, d1, d2⟩ := way_cell w4 rn hrn
             obtain ⟨x0, x1, x2⟩ := id H4.box
             have zb4 := H4.box.lt)
          | (go_simp
             go_at_call 45
             refine (pick_any 4 (wr.drew.alloc (.cells #[.int .i64 1, .int .i64 2, .int .i64 3, .int .i64 4] 3)) g A c bytes q' (HR.below (bl_alloc (Below.refl _ _) (.cells #[.int .i64 1, .int .i64 2, .int .i64 3, .int .i64 4] 3))).rds (by omega) (by omega)).mono ?_
             rintro e w4 ⟨r4, rfl, hr4, S4, G4⟩
             have G5 : (wr.alloc (.cells #[.int .i64 1, .int .i64 2, .int .i64 3, .int .i64 4] 3)).grownBy w4 (some g) := ⟨G4.os, G4.tape, G4.output, G4.size, G4.block⟩
             have H5 := (HR.below (bl_alloc (Below.refl _ _) (.cells #[.int .i64 1, .int .i64 2, .int .i64 3, .int .i64 4] 3))).pick S4 G5
             obtain ⟨rn, rfl, hrn⟩ : ∃ rn : Nat, r4 = rn ∧ rn ≤ 3 := ⟨r4.toNat, by unfold Below0 at hr4; omega, by unfold Below0 at hr4; omega⟩
             clear hr4
             have hrn4 : (rn : Int) < 4 := by omega
             obtain ⟨d, hd0, d1, d2⟩ := way_cell wr rn hrn
             have hd := gb_cell G5 (by have := heap_lt HR.rds.1; simp; omega) hd0
             obtain ⟨x0, x1, x2⟩ := id H5.box
             have zb4 := H5.box.lt)
          | (go_simp
             go_at_call 121
             refine (sLayOne_any W T k d B D kb c6 bs L _ H5.rd H5.lay hmx hLm (by omega) (by omega)).mono ?_
             rintro e w5 ⟨L5, D5, c5, ok, rfl, r5, hl5, b5, hD5⟩))
        all_goals (
          have z5 := heap_lt H5.res
          have H6 := H5.below b5
          have H7 := H6.relay r5 (fun ad ha => by have := hD5 ad ha; omega)
          cases ok with
          | true =>
            have HL5 := Lib.hid ((hl5 rfl).trans HL.out)
            clear hl5
            go_wp2
            go_roundw
            case rel => exact ⟨k + 1, q' + 1, c5, L5, D5, by omega, by go_num, rfl, HL5, by omega, H7⟩
            case measure => simp [intOf]; omega
          | false =>
            clear hl5
            go_wp2
            go_roundw
            case rel => exact ⟨k + 1, q' + 1, c6, L, D, by omega, by go_num, rfl, HL, by omega, H6⟩
            case measure => simp [intOf]; omega)
      · have hge : ¬ ((k : Int) < (L.length : Int)) := by rw [HL.out]; omega
        have hq2 : q' ≤ p + 70 := by omega
        go_wp2_with fail
        clear y0 y1 y2 zb hge hlt
        obtain ⟨wo, hwo⟩ : ∃ wo : World, wo = wr := ⟨_, rfl⟩
        subst hwo
        go_loopw [6, 10] (fun v i wr => ∃ (k c6 : Nat) (L : List Int) (D : Option Addr), k ≤ N ∧ i = .int .i64 k ∧ v = .slice D L.length c6 ∧ Hid (L.length = N) ∧ Til w g bx A c bytes q' W T B kb bs L D wr) (fun _ i _ => N - (intOf i).toNat)
        case atStart => exact ⟨0, _, L, _, Nat.zero_le _, rfl, rfl, HL, HR⟩
        case round =>
          clear HR HL hLm
          obtain ⟨k2, c6, L, D, hk2, rfl, rfl, HL, HR⟩ := hrel
          have hLm : L.length ≤ maxLen := by rw [HL.out]; unfold maxLen; omega
          by_cases hlt : k2 < N
          · have hlt2 : (k2 : Int) < (L.length : Int) := by rw [HL.out]; omega
            go_wp2_with fail
            obtain ⟨wo, hwo⟩ : ∃ wo : World, wo = wr := ⟨_, rfl⟩
            subst hwo
            go_loopw [6, 11] (fun v i wr => ∃ (m c6 : Nat) (L : List Int) (D : Option Addr), m ≤ 2 ∧ i = .int .i64 ((m : Int) + 1) ∧ v = .slice D L.length c6 ∧ Hid (L.length = N) ∧ Til w g bx A c bytes q' W T B kb bs L D wr) (fun _ i _ => 3 - (intOf i).toNat)
            case atStart => exact ⟨0, _, L, _, by omega, rfl, rfl, HL, HR⟩
            case round =>
              clear HR HL hLm hlt2
              obtain ⟨m, c6, L, D, hm, rfl, rfl, HL, HR⟩ := hrel
              have hLm : L.length ≤ maxLen := by rw [HL.out]; unfold maxLen; omega
              obtain ⟨y0, y1, y2⟩ := id HR.box
              by_cases hm2 : m < 2
              · have hm3 : (m : Int) + 1 ≤ 2 := by omega
                go_wp2_with fail
                refine (sLayOne_any W T k2 (m + 1) B D kb c6 bs L _ HR.rd HR.lay hmx hLm (by omega) (by omega)).mono ?_
                rintro e w5 ⟨L5, D5, c5, ok, rfl, r5, hl5, b5, hD5⟩
                have z5 := heap_lt HR.res
                have H6 := HR.below b5
                have H7 := H6.relay r5 (fun ad ha => by have := hD5 ad ha; omega)
                cases ok with
                | true =>
                  have HL5 := Lib.hid ((hl5 rfl).trans HL.out)
                  clear hl5
                  go_wp2
                  go_roundw
                  case rel => exact ⟨m + 1, c5, L5, D5, by omega, by go_num, rfl, HL5, H7⟩
                  case measure => simp [intOf]; omega
                | false =>
                  clear hl5
                  go_wp2
                  go_roundw
                  case rel => exact ⟨m + 1, c6, L, D, by omega, by go_num, rfl, HL, H6⟩
                  case measure => simp [intOf]; omega
              · have hm3 : ¬ ((m : Int) + 1 ≤ 2) := by omega
                go_wp2
                go_roundw
                case rel => exact ⟨k2 + 1, c6, L, D, by omega, by go_num, rfl, HL, HR⟩
                case measure => simp [intOf]; omega
          · have hge : ¬ ((k2 : Int) < (L.length : Int)) := by rw [HL.out]; omega
            obtain ⟨y0, y1, y2⟩ := id HR.box
            go_wp2_with fail
            clear y0 y1 y2 hge hlt
            obtain ⟨b, off, rfl, hb0⟩ := HR.lay.atEM (k := 0) (by rw [HL.out]; omega)
            have hbl : b < wr.heap.size := by have := World.block_lt_of_cell? _ _ hb0; simpa [Addr.add] using this
            have G0 := RegI.new HR.gb HR.res HR.rds hA hg W T
            have R0 := HR.lay.alloc (.cells #[.int .i64 W, .int .i64 T, .slice none 0 0] 25)
            generalize hb2 : wr.heap.size = b2 at *
            generalize wr.alloc (.cells #[.int .i64 W, .int .i64 T, .slice none 0 0] 25) = wp at *
            clear HR hb0
            obtain ⟨wo, hwo⟩ : ∃ wo : World, wo = wr := ⟨_, rfl⟩
            subst hwo
            go_loopw [15] (fun i wr => ∃ (k : Nat) (xs : List Bool) (v : Value), k ≤ N ∧ i = .int .i64 k ∧ Hid (xs.length = k) ∧ RegI w g b2 A c bytes W T q' xs v wr ∧ Rd wr (some ⟨b, off, none⟩) (L.map (.int .i64))) (fun i _ => N - (intOf i).toNat)
            case atStart => exact ⟨0, [], _, Nat.zero_le _, rfl, Lib.hid rfl, G0, R0⟩
            case round =>
              clear G0 R0
              obtain ⟨j, xs, v, hj, rfl, HX, HR, RL⟩ := hrel
              obtain ⟨zb, y0, y1, y2, f2⟩ := HR.cells
              obtain ⟨s0, s1, s2, t0, t1, t2⟩ := blk3 HR.res
              obtain ⟨A9, c9, rfl, -⟩ := id HR.own
              by_cases hlt : j < N
              · have hlt2 : (j : Int) < (L.length : Int) := by rw [HL.out]; omega
                have hxl : xs.length ≤ 1000000000000 := by rw [HX.out]; omega
                have hjl : j < L.length := by rw [HL.out]; omega
                have cl := RL.cellEM hjl
                have zbl : b < wr.heap.size := by omega
                generalize L[j] = u at cl
                have H5 := fun o => HR.below (bl_alloc (Below.refl wr.heap.size wr).drew o)
                go_wp2_with fail
                go_region_law (first
                  | (refine step_app_bool _ rfl _ _ rfl (b2 + 1) _ xs rfl (H5 _).own _ _ rfl (cell_of_row _ _ 0 _ _ _ (heap_alloc_new _ _)) hxl (by simp; omega) ?_
                     intro v4 w5 o4 b4
                     obtain ⟨A4, c4, rfl, -⟩ := id o4
                     simp only [List.length_append, List.length_cons, List.length_nil, Nat.zero_add] at o4
                     have T4 := (b4.block b2 (by omega)).trans (H5 _).box
                     have H6 := (H5 _).app o4 b4
                     have RL6 := Rd.keepW (i := 2) (u := .slice A4 (xs.length + 1) c4) (RL.drew.alloc _) (fun ad ha => by injection ha with ha; subst ha; exact hbl) b4
                     obtain ⟨u0, u1, u2, g0, g1, g2⟩ := blk3 T4))
                all_goals (
                  go_wp2
                  go_roundw
                  case rel => refine ⟨j + 1, xs ++ [_], _, by omega, by go_num, Lib.hid (by simp [HX.out]), H6, RL6⟩
                  case measure => simp [intOf]; omega)
              · have hge : ¬ ((j : Int) < (L.length : Int)) := by rw [HL.out]; omega
                have hxl : xs.length ≤ 36 := by rw [HX.out]; omega
                go_wp2_with fail
                refine bodyPost_ret (v := .agg #[.int .i64 W, .int .i64 T, .slice A9 xs.length c9]) (by simp [results, Tryz.results119, go_sem, s0, s1, s2]) rfl ?_
                exact HR.done HR.own (by omega) (by omega)
end Go.Proofs.YtafmpgikdhlknaaGreat

/- Contract: pick, with the number that it hands back; some list of cells (l20Piece). -/
namespace Go.Proofs.YtafmpgikdhlknaaGreat
open Go.RowKit

/-- what pick hands back -/
def pickV (n : Int) (bytes : List Int) (p : Nat) : Int :=
  if n < 1 ∨ bytes.length = 0 then 0
  else if p < bytes.length then bytes.getD p 0 % n
  else bits .xor .i64 (bytes.getD (p % bytes.length) 0 * 131 + bytes.getD ((p * 7 + 3) % bytes.length) 0 * 1117 + (p : Int) * 29 + (p : Int) / (bytes.length : Int) * 53) ((bytes.getD (p % bytes.length) 0 * 131 + bytes.getD ((p * 7 + 3) % bytes.length) 0 * 1117 + (p : Int) * 29 + (p : Int) / (bytes.length : Int) * 53) / 64) % n
def PickedV (n : Int) (w : World) (g : Nat) (A : Option Addr) (c : Nat) (bytes : List Int) (p : Nat) (e : Ending) (w' : World) : Prop :=
  e = .returned (.int .i64 (pickV n bytes p)) ∧ RdS w' g A c bytes (p + 1) ∧ w.grownBy w' (some g)
theorem pickV_bd {n : Int} (bytes : List Int) (p : Nat) (h : 1 ≤ n) : 0 ≤ pickV n bytes p ∧ pickV n bytes p < n := by
  unfold pickV
  split
  · omega
  · split
    · exact ⟨Int.emod_nonneg _ (by omega), Int.emod_lt_of_pos _ (by omega)⟩
    · exact ⟨Int.emod_nonneg _ (by omega), Int.emod_lt_of_pos _ (by omega)⟩
set_option maxHeartbeats 1000000 in
theorem pickV_any (n : Int) (w : World) (g : Nat) (A : Option Addr) (c : Nat) (bytes : List Int) (p : Nat) (h : RdS w g A c bytes p) (hp : p ≤ 1000000000) (hnl : n ≤ 9223372036854775807) :
    Calls Tryz.prog 45 #[.pointer (some ⟨g, 0, none⟩), .int .i64 n] w (PickedV n w g A c bytes p) := by
  obtain ⟨c0, c1, f1⟩ := h.cells
  obtain ⟨hS, hG⟩ := h.next
  have hlb := h.2.2.2.1
  by_cases hn : n < 1
  · have HV := Lib.hid (show 0 = pickV n bytes p by unfold pickV; rw [if_pos (.inl hn)])
    go_enter Tryz.func45, Tryz.ntmps45
    go_wp2
    go_ret
    exact ⟨ret_i HV.out, hS, hG⟩
  · by_cases hl : bytes.length = 0
    · have hb : ((bytes.length : Int) == 0) = true := by simp [hl]
      have HV := Lib.hid (show 0 = pickV n bytes p by unfold pickV; rw [if_pos (.inr hl)])
      clear hl
      go_enter Tryz.func45, Tryz.ntmps45
      go_wp2
      go_ret
      exact ⟨ret_i HV.out, hS, hG⟩
    · have hb : ((bytes.length : Int) == 0) = false := by rw [beq_eq_false_iff_ne]; omega
      have hl1 : 0 < bytes.length := by omega
      by_cases hlt : p < bytes.length
      · obtain ⟨ad, rfl, hc⟩ := hS.2.1.atM hlt
        have hx := h.2.2.2.2 bytes[p] (List.getElem_mem hlt)
        have HV := Lib.hid (show bytes[p] % n = pickV n bytes p by
          unfold pickV; rw [if_neg (by omega), if_pos hlt]; simp [List.getD_eq_getElem?_getD, List.getElem?_eq_getElem hlt])
        generalize bytes[p] = x at hc hx HV
        obtain ⟨x0, x1⟩ := hx
        go_enter Tryz.func45, Tryz.ntmps45
        go_wp2
        go_ret
        exact ⟨ret_i HV.out, hS, hG⟩
      · obtain ⟨ad, rfl, hc1⟩ := hS.2.1.atM (k := p % bytes.length) (Nat.mod_lt _ hl1)
        obtain ⟨_, h', hc2⟩ := hS.2.1.atM (k := (p * 7 + 3) % bytes.length) (Nat.mod_lt _ hl1)
        obtain rfl := Option.some.inj h'
        have hx1 := h.2.2.2.2 _ (List.getElem_mem (Nat.mod_lt p hl1))
        have hx2 := h.2.2.2.2 _ (List.getElem_mem (Nat.mod_lt (p * 7 + 3) hl1))
        have HV := Lib.hid (show (bits .xor .i64 (bytes[p % bytes.length]'(Nat.mod_lt _ hl1) * 131 + bytes[(p * 7 + 3) % bytes.length]'(Nat.mod_lt _ hl1) * 1117 + (p : Int) * 29 + (p : Int) / (bytes.length : Int) * 53) ((bytes[p % bytes.length]'(Nat.mod_lt _ hl1) * 131 + bytes[(p * 7 + 3) % bytes.length]'(Nat.mod_lt _ hl1) * 1117 + (p : Int) * 29 + (p : Int) / (bytes.length : Int) * 53) / 64)) % n = pickV n bytes p by
          unfold pickV
          rw [if_neg (by omega), if_neg hlt]
          simp only [List.getD_eq_getElem?_getD, List.getElem?_eq_getElem (Nat.mod_lt p hl1), List.getElem?_eq_getElem (Nat.mod_lt (p * 7 + 3) hl1), Option.getD_some])
        generalize bytes[p % bytes.length]'(Nat.mod_lt _ hl1) = x at hc1 hx1 HV
        generalize bytes[(p * 7 + 3) % bytes.length]'(Nat.mod_lt _ hl1) = y at hc2 hx2 HV
        obtain ⟨x0, x1⟩ := hx1
        obtain ⟨y0, y1⟩ := hx2
        clear h'
        obtain ⟨q1, hq1⟩ : ∃ q, p % bytes.length = q := ⟨_, rfl⟩
        obtain ⟨q2, hq2⟩ : ∃ q, (p * 7 + 3) % bytes.length = q := ⟨_, rfl⟩
        have l1 : (q1 : Int) < (bytes.length : Int) := by have := Nat.mod_lt p hl1; omega
        have l2 : (q2 : Int) < (bytes.length : Int) := by have := Nat.mod_lt (p * 7 + 3) hl1; omega
        have d0 : 0 ≤ (p : Int) / (bytes.length : Int) := Int.ediv_nonneg (by omega) (by omega)
        have d1 : (p : Int) / (bytes.length : Int) ≤ p := Int.ediv_le_self _ (by omega)
        have t1 : (p : Int).tmod (bytes.length : Int) = (q1 : Int) := by rw [Int.tmod_eq_emod_of_nonneg (by omega), ← hq1]; omega
        have t2 : ((p : Int) * 7 + 3).tmod (bytes.length : Int) = (q2 : Int) := by rw [Int.tmod_eq_emod_of_nonneg (by omega), ← hq2, Int.natCast_emod]; rfl
        have t3 : (p : Int).tdiv (bytes.length : Int) = (p : Int) / (bytes.length : Int) := Int.tdiv_eq_ediv_of_nonneg (by omega)
        rw [hq1] at hc1
        rw [hq2] at hc2
        generalize (p : Int) / (bytes.length : Int) = d at d0 d1 t3 HV
        clear hq1 hq2
        have e1 : IntKind.i64.wrap (q1 : Int) = q1 := IntWalk.i64_in _ (by omega)
        have e2 : IntKind.i64.wrap ((p : Int) * 7) = (p : Int) * 7 := IntWalk.i64_in _ (by omega)
        have e3 : IntKind.i64.wrap ((p : Int) * 7 + 3) = (p : Int) * 7 + 3 := IntWalk.i64_in _ (by omega)
        have e4 : IntKind.i64.wrap (q2 : Int) = q2 := IntWalk.i64_in _ (by omega)
        have e5 : IntKind.i64.wrap x = x := IntWalk.i64_in _ (by omega)
        have e6 : IntKind.i64.wrap y = y := IntWalk.i64_in _ (by omega)
        have e7 : IntKind.i64.wrap (x * 131) = x * 131 := IntWalk.i64_in _ (by omega)
        have e8 : IntKind.i64.wrap (y * 1117) = y * 1117 := IntWalk.i64_in _ (by omega)
        have e9 : IntKind.i64.wrap (x * 131 + y * 1117) = x * 131 + y * 1117 := IntWalk.i64_in _ (by omega)
        have e10 : IntKind.i64.wrap ((p : Int) * 29) = (p : Int) * 29 := IntWalk.i64_in _ (by omega)
        have e11 : IntKind.i64.wrap (x * 131 + y * 1117 + (p : Int) * 29) = x * 131 + y * 1117 + (p : Int) * 29 := IntWalk.i64_in _ (by omega)
        have e12 : IntKind.i64.wrap d = d := IntWalk.i64_in _ (by omega)
        have e13 : IntKind.i64.wrap (d * 53) = d * 53 := IntWalk.i64_in _ (by omega)
        have e14 : IntKind.i64.wrap (x * 131 + y * 1117 + (p : Int) * 29 + d * 53) = x * 131 + y * 1117 + (p : Int) * 29 + d * 53 := IntWalk.i64_in _ (by omega)
        obtain ⟨z0, z1⟩ := xor_nonneg (x * 131 + y * 1117 + (p : Int) * 29 + d * 53) (by omega) (by omega)
        go_enter Tryz.func45, Tryz.ntmps45
        go_wp2_with fail
        go_quiet (fail)
        clear t1 t2 t3 e1 e2 e3 e4 e5 e6 e7 e8 e9 e10 e11 e12 e13 e14
        generalize hX : x * 131 + y * 1117 + (p : Int) * 29 + d * 53 = X at z0 z1 HV ⊢
        have X0 : 0 ≤ X := by omega
        have X1 : X ≤ 1000000000000 := by omega
        clear hX
        generalize hZ : bits .xor .i64 X (X / 64) = Z at z0 z1 HV
        go_wp2
        go_ret
        exact ⟨ret_i HV.out, hS, hG.os, hG.tape, hG.output, hG.size, hG.block⟩
end Go.Proofs.YtafmpgikdhlknaaGreat

/- Contract: the draw of a region that is often tiled or a box (l20Some). Written by wip/gen_some.py. -/
namespace Go.Proofs.YtafmpgikdhlknaaGreat
open Go.RowKit

/-- the state of l20Some -/
structure Rs (w : World) (g : Nat) (A : Option Addr) (c : Nat) (bytes : List Int) (q : Nat) (wr : World) : Prop where
  rds : RdS wr g A c bytes q
  res : wr.heap[w.heap.size]? = some (.cells #[.int .i64 0, .int .i64 0, .slice none 0 0] 25 (0, 0))
  gb : w.grownBy wr (some g)
  hg : g < w.heap.size
  ha : bytes ≠ [] → ∀ ad, A = some ad → ad.block < w.heap.size
section
variable {w wr w' : World} {g : Nat} {A : Option Addr} {c : Nat} {bytes : List Int} {q : Nat}
theorem Rs.pick (h : Rs w g A c bytes q wr) {q' : Nat} (S : RdS w' g A c bytes q') (G : wr.grownBy w' (some g)) : Rs w g A c bytes q' w' :=
  ⟨S, (G.block _ (heap_lt h.res) (by have := h.hg; simp; omega)).trans h.res, grownBy_trans' h.gb G, h.hg, h.ha⟩
theorem Rs.below (h : Rs w g A c bytes q wr) (hb : Below wr.heap.size wr w') : Rs w g A c bytes q w' :=
  ⟨h.rds.below (heap_lt h.rds.1) hb, (hb.block _ (heap_lt h.res)).trans h.res, gb_below h.gb hb, h.hg, h.ha⟩
theorem Rs.drew (h : Rs w g A c bytes q wr) : Rs w g A c bytes q wr.drew := ⟨h.rds, h.res, gb_drew h.gb, h.hg, h.ha⟩
theorem Rs.alloc (h : Rs w g A c bytes q wr) (o : Obj) : Rs w g A c bytes q (wr.alloc o) := h.below (bl_alloc (Below.refl _ _) o)
theorem Rs.done (h : Rs w g A c bytes q wr) {p more : Nat} {W T : Int} {B : Option Addr} {kb : Nat} {bs : List Bool} (hr : Rd wr B (bs.map .bool)) (hB : ∀ ad, B = some ad → w.heap.size < ad.block) (hn : bs.length ≤ 37) (hq : q ≤ p + more) :
    SomeReg g A c bytes p more w (.returned (.agg #[.int .i64 W, .int .i64 T, .slice B bs.length kb])) (((wr.setCell ⟨w.heap.size, 0, none⟩ (.int .i64 W)).setCell ⟨w.heap.size, 1, none⟩ (.int .i64 T)).setCell ⟨w.heap.size, 2, none⟩ (.slice B bs.length kb)) := by
  obtain ⟨o1, r1, k1⟩ := reg_set (bx := w.heap.size + 1) (i := 0) (u := .int .i64 W) (OwnB.nil wr _) h.rds h.gb h.ha h.hg (by omega)
  obtain ⟨o2, r2, k2⟩ := reg_set (i := 1) (u := .int .i64 T) o1 r1 k1 h.ha h.hg (by omega)
  obtain ⟨o3, r3, k3⟩ := reg_set (i := 2) (u := .slice B bs.length kb) o2 r2 k2 h.ha h.hg (by omega)
  refine ⟨W, T, bs, _, _, q, rfl, fun hne => ?_, hn, r3, hq, k3, fun ad ha => by have := hB ad ha; omega⟩
  obtain ⟨ad, h1, hc⟩ := hr hne
  have hlt := hB ad h1
  refine ⟨ad, h1, fun j u hu => ?_⟩
  have hab : (ad.add j).block = ad.block := by unfold Addr.add; split <;> rfl
  have hne2 : ∀ i, (⟨w.heap.size, i, none⟩ : Addr) ≠ ad.add j := fun i e => by
    have e2 := congrArg Addr.block e; rw [hab] at e2; simp at e2; omega
  rw [World.cell?_setCell_other _ _ _ _ (hne2 2), World.cell?_setCell_other _ _ _ _ (hne2 1), World.cell?_setCell_other _ _ _ _ (hne2 0)]
  exact hc j u hu
end
theorem arr5 (rn : Nat) (h : rn ≤ 4) : ∃ d : Int, (∀ w : World, (w.alloc (.cells #[.int .i64 2, .int .i64 3, .int .i64 4, .int .i64 4, .int .i64 6] 3)).cell? ⟨w.heap.size, rn, none⟩ = some (.int .i64 d)) ∧ 2 ≤ d ∧ d ≤ 6 := by
  rcases (show rn = 0 ∨ rn = 1 ∨ rn = 2 ∨ rn = 3 ∨ rn = 4 from by omega) with rfl | rfl | rfl | rfl | rfl
  · exact ⟨2, fun w => cell_of_row _ _ _ _ _ _ (heap_alloc_new w _), by omega, by omega⟩
  · exact ⟨3, fun w => cell_of_row _ _ _ _ _ _ (heap_alloc_new w _), by omega, by omega⟩
  · exact ⟨4, fun w => cell_of_row _ _ _ _ _ _ (heap_alloc_new w _), by omega, by omega⟩
  · exact ⟨4, fun w => cell_of_row _ _ _ _ _ _ (heap_alloc_new w _), by omega, by omega⟩
  · exact ⟨6, fun w => cell_of_row _ _ _ _ _ _ (heap_alloc_new w _), by omega, by omega⟩
theorem arr3 (rn : Nat) (h : rn ≤ 2) : ∃ d : Int, (∀ w : World, (w.alloc (.cells #[.int .i64 2, .int .i64 3, .int .i64 4] 3)).cell? ⟨w.heap.size, rn, none⟩ = some (.int .i64 d)) ∧ 2 ≤ d ∧ d ≤ 4 := by
  rcases (show rn = 0 ∨ rn = 1 ∨ rn = 2 from by omega) with rfl | rfl | rfl
  · exact ⟨2, fun w => cell_of_row _ _ _ _ _ _ (heap_alloc_new w _), by omega, by omega⟩
  · exact ⟨3, fun w => cell_of_row _ _ _ _ _ _ (heap_alloc_new w _), by omega, by omega⟩
  · exact ⟨4, fun w => cell_of_row _ _ _ _ _ _ (heap_alloc_new w _), by omega, by omega⟩
theorem box_len (W T : Int) : (boxB W T).length ≤ 24 := by
  unfold boxB
  split
  · rename_i h
    unfold boxOk at h; simp at h
    simp; omega
  · simp
theorem cell_al {w : World} {a : Addr} {v : Value} (h : w.cell? a = some v) (o : Obj) : (w.alloc o).cell? a = some v := by
  rw [World.cell?_alloc_lt w o a (World.block_lt_of_cell? w _ h)]; exact h
set_option maxRecDepth 100000 in
set_option maxHeartbeats 8000000 in
theorem some_any (n : Int) (w : World) (g : Nat) (A : Option Addr) (c : Nat) (bytes : List Int) (p : Nat) (h : RdS w g A c bytes p) (hp : p ≤ 40000) (hn0 : 0 ≤ n) (hn : n ≤ 1000) :
    Calls Tryz.prog 83 #[.pointer (some ⟨g, 0, none⟩), .int .i64 n] w (SomeReg g A c bytes p 90 w) := by
  have hg := heap_lt h.1
  have hA : bytes ≠ [] → ∀ ad, A = some ad → ad.block < w.heap.size := by
    intro hne ad ha
    obtain ⟨ad', ha', hc⟩ := h.2.1 (by simpa using hne)
    obtain rfl := Option.some.inj (ha.symm.trans ha')
    obtain ⟨x, ys, rfl⟩ := List.exists_cons_of_ne_nil hne
    have := World.block_lt_of_cell? w _ (hc 0 _ rfl)
    simpa [Addr.add] using this
  have H0 : Rs w g A c bytes p (w.alloc (.cells #[.int .i64 0, .int .i64 0, .slice none 0 0] 25)) :=
    ⟨h.below hg (bl_alloc (Below.refl _ _) _), heap_alloc_new w _, gb_below (World.grownBy.refl _ _) (bl_alloc (Below.refl _ _) _), hg, hA⟩
  go_enter Tryz.func83, Tryz.ntmps83
  go_wp2_with fail
  refine (pick_any 4 _ g A c bytes p H0.rds (by omega) (by omega)).mono ?_
  rintro e w1 ⟨r, rfl, hr, S1, G1⟩
  have H1 := H0.pick S1 G1
  have hr' : r = 0 ∨ r = 1 ∨ r = 2 ∨ r = 3 := by unfold Below0 at hr; omega
  clear hr H0
  have hreg : ∀ z, RdS z g A c bytes (p + 1) → Calls Tryz.prog 65 #[.pointer (some ⟨g, 0, none⟩), .int .i64 n] z (SomeReg g A c bytes (p + 1) 30 z) := fun z R => region_any n z g A c bytes (p + 1) R (by omega) hn0 hn
  have htil : ∀ z, RdS z g A c bytes (p + 1) → Calls Tryz.prog 119 #[.pointer (some ⟨g, 0, none⟩), .int .i64 n] z (SomeReg g A c bytes (p + 1) 80 z) := fun z R => tiled_any n z g A c bytes (p + 1) R (by omega) hn0 hn
  have HREG := Lib.hid hreg
  have HTIL := Lib.hid htil
  clear hreg htil
  rcases hr' with rfl | rfl | rfl | rfl
  · obtain ⟨rn1, e1, h1⟩ : ∃ rn : Nat, pickV 5 bytes (p + 1) = rn ∧ rn ≤ 4 := by
      have := pickV_bd (n := 5) bytes (p + 1) (by omega)
      exact ⟨(pickV 5 bytes (p + 1)).toNat, by omega, by omega⟩
    obtain ⟨rn2, e2, h2⟩ : ∃ rn : Nat, pickV 3 bytes (p + 1 + 1) = rn ∧ rn ≤ 2 := by
      have := pickV_bd (n := 3) bytes (p + 1 + 1) (by omega)
      exact ⟨(pickV 3 bytes (p + 1 + 1)).toNat, by omega, by omega⟩
    have p5 : ∀ z, RdS z g A c bytes (p + 1) → Calls Tryz.prog 45 #[.pointer (some ⟨g, 0, none⟩), .int .i64 5] z fun e w' => e = .returned (.int .i64 rn1) ∧ RdS w' g A c bytes (p + 1 + 1) ∧ z.grownBy w' (some g) := fun z R => by
      have := pickV_any 5 z g A c bytes (p + 1) R (by omega) (by omega)
      unfold PickedV at this; rw [e1] at this; exact this
    have p3 : ∀ z, RdS z g A c bytes (p + 1 + 1) → Calls Tryz.prog 45 #[.pointer (some ⟨g, 0, none⟩), .int .i64 3] z fun e w' => e = .returned (.int .i64 rn2) ∧ RdS w' g A c bytes (p + 1 + 1 + 1) ∧ z.grownBy w' (some g) := fun z R => by
      have := pickV_any 3 z g A c bytes (p + 1 + 1) R (by omega) (by omega)
      unfold PickedV at this; rw [e2] at this; exact this
    have P5 := Lib.hid p5
    have P3 := Lib.hid p3
    obtain ⟨d5, f5, a1, a2⟩ := arr5 rn1 h1
    obtain ⟨d3, f3, a3, a4⟩ := arr3 rn2 h2
    have F5 := Lib.hid f5
    have F3 := Lib.hid f3
    have SZ := Lib.hid (show ∀ (z : World) (o : Obj), (z.alloc o).heap.size = z.heap.size + 1 from fun z o => by simp)
    clear p5 p3 f5 f3 e1 e2
    have hr1 : (rn1 : Int) < 5 := by omega
    have hr2 : (rn2 : Int) < 3 := by omega
    have q0 : g < w1.heap.size := heap_lt H1.rds.1
    have q1 : g ≠ w1.heap.size := by omega
    have E5a : (w1.alloc (.cells #[.int .i64 2, .int .i64 3, .int .i64 4, .int .i64 4, .int .i64 6] 3)).cell? ⟨w1.heap.size, rn1, none⟩ = some (.int .i64 d5) := F5.out w1
    have E3a : (w1.alloc (.cells #[.int .i64 2, .int .i64 3, .int .i64 4] 3)).cell? ⟨w1.heap.size, rn2, none⟩ = some (.int .i64 d3) := F3.out w1
    have E5b : ((w1.alloc (.cells #[.int .i64 2, .int .i64 3, .int .i64 4] 3)).alloc (.cells #[.int .i64 2, .int .i64 3, .int .i64 4, .int .i64 4, .int .i64 6] 3)).cell? ⟨w1.heap.size + 1, rn1, none⟩ = some (.int .i64 d5) := by have := F5.out (w1.alloc (.cells #[.int .i64 2, .int .i64 3, .int .i64 4] 3)); rw [SZ.out] at this; exact this
    have E3b : ((w1.alloc (.cells #[.int .i64 2, .int .i64 3, .int .i64 4, .int .i64 4, .int .i64 6] 3)).alloc (.cells #[.int .i64 2, .int .i64 3, .int .i64 4] 3)).cell? ⟨w1.heap.size + 1, rn2, none⟩ = some (.int .i64 d3) := by have := F3.out (w1.alloc (.cells #[.int .i64 2, .int .i64 3, .int .i64 4, .int .i64 4, .int .i64 6] 3)); rw [SZ.out] at this; exact this
    go_wp2_with fail
    go_region_law? (
      go_simp
      first
        | (go_at_call 45
           first
             | (with_reducible refine (P5.out w1.drew H1.drew.rds).mono ?_
                rintro e w4 ⟨rfl, S4, G4⟩
                have H4 := H1.drew.pick S4 G4
                have q4 : g < w4.heap.size := by have := heap_lt H4.rds.1; exact this
                have q5 : g ≠ w4.heap.size := by omega
                have E5c := F5.out w4
                have E3c := F3.out w4
                have E5g := cell_al E5c (.cells #[.int .i64 2, .int .i64 3, .int .i64 4] 3)
                have E3g := cell_al E3c (.cells #[.int .i64 2, .int .i64 3, .int .i64 4, .int .i64 4, .int .i64 6] 3)
                try have F5r := cell_al F5p (.cells #[.int .i64 2, .int .i64 3, .int .i64 4] 3)
                try have F3r := cell_al F3p (.cells #[.int .i64 2, .int .i64 3, .int .i64 4, .int .i64 4, .int .i64 6] 3)
                have E5d := F5.out (w4.alloc (.cells #[.int .i64 2, .int .i64 3, .int .i64 4] 3))
                have E3d := F3.out (w4.alloc (.cells #[.int .i64 2, .int .i64 3, .int .i64 4, .int .i64 4, .int .i64 6] 3))
                rw [SZ.out] at E5d
                rw [SZ.out] at E3d)
             | (with_reducible refine (P5.out (w1.alloc (.cells #[.int .i64 2, .int .i64 3, .int .i64 4, .int .i64 4, .int .i64 6] 3)).drew (H1.alloc (.cells #[.int .i64 2, .int .i64 3, .int .i64 4, .int .i64 4, .int .i64 6] 3)).drew.rds).mono ?_
                rintro e w4 ⟨rfl, S4, G4⟩
                have H4 := (H1.alloc (.cells #[.int .i64 2, .int .i64 3, .int .i64 4, .int .i64 4, .int .i64 6] 3)).drew.pick S4 G4
                have q4 : g < w4.heap.size := by have := heap_lt H4.rds.1; exact this
                have q5 : g ≠ w4.heap.size := by omega
                have F5p := gb_cell G4 (by omega) E5a
                have zF5p := World.block_lt_of_cell? _ _ F5p
                dsimp only at zF5p
                have E5c := F5.out w4
                have E3c := F3.out w4
                have E5g := cell_al E5c (.cells #[.int .i64 2, .int .i64 3, .int .i64 4] 3)
                have E3g := cell_al E3c (.cells #[.int .i64 2, .int .i64 3, .int .i64 4, .int .i64 4, .int .i64 6] 3)
                try have F5r := cell_al F5p (.cells #[.int .i64 2, .int .i64 3, .int .i64 4] 3)
                try have F3r := cell_al F3p (.cells #[.int .i64 2, .int .i64 3, .int .i64 4, .int .i64 4, .int .i64 6] 3)
                have E5d := F5.out (w4.alloc (.cells #[.int .i64 2, .int .i64 3, .int .i64 4] 3))
                have E3d := F3.out (w4.alloc (.cells #[.int .i64 2, .int .i64 3, .int .i64 4, .int .i64 4, .int .i64 6] 3))
                rw [SZ.out] at E5d
                rw [SZ.out] at E3d)
             | (with_reducible refine (P5.out (w1.alloc (.cells #[.int .i64 2, .int .i64 3, .int .i64 4] 3)).drew (H1.alloc (.cells #[.int .i64 2, .int .i64 3, .int .i64 4] 3)).drew.rds).mono ?_
                rintro e w4 ⟨rfl, S4, G4⟩
                have H4 := (H1.alloc (.cells #[.int .i64 2, .int .i64 3, .int .i64 4] 3)).drew.pick S4 G4
                have q4 : g < w4.heap.size := by have := heap_lt H4.rds.1; exact this
                have q5 : g ≠ w4.heap.size := by omega
                have F3p := gb_cell G4 (by omega) E3a
                have zF3p := World.block_lt_of_cell? _ _ F3p
                dsimp only at zF3p
                have E5c := F5.out w4
                have E3c := F3.out w4
                have E5g := cell_al E5c (.cells #[.int .i64 2, .int .i64 3, .int .i64 4] 3)
                have E3g := cell_al E3c (.cells #[.int .i64 2, .int .i64 3, .int .i64 4, .int .i64 4, .int .i64 6] 3)
                try have F5r := cell_al F5p (.cells #[.int .i64 2, .int .i64 3, .int .i64 4] 3)
                try have F3r := cell_al F3p (.cells #[.int .i64 2, .int .i64 3, .int .i64 4, .int .i64 4, .int .i64 6] 3)
                have E5d := F5.out (w4.alloc (.cells #[.int .i64 2, .int .i64 3, .int .i64 4] 3))
                have E3d := F3.out (w4.alloc (.cells #[.int .i64 2, .int .i64 3, .int .i64 4, .int .i64 4, .int .i64 6] 3))
                rw [SZ.out] at E5d
                rw [SZ.out] at E3d)
             | (with_reducible refine (P5.out ((w1.alloc (.cells #[.int .i64 2, .int .i64 3, .int .i64 4, .int .i64 4, .int .i64 6] 3)).alloc (.cells #[.int .i64 2, .int .i64 3, .int .i64 4] 3)).drew ((H1.alloc (.cells #[.int .i64 2, .int .i64 3, .int .i64 4, .int .i64 4, .int .i64 6] 3)).alloc (.cells #[.int .i64 2, .int .i64 3, .int .i64 4] 3)).drew.rds).mono ?_
                rintro e w4 ⟨rfl, S4, G4⟩
                have H4 := ((H1.alloc (.cells #[.int .i64 2, .int .i64 3, .int .i64 4, .int .i64 4, .int .i64 6] 3)).alloc (.cells #[.int .i64 2, .int .i64 3, .int .i64 4] 3)).drew.pick S4 G4
                have q4 : g < w4.heap.size := by have := heap_lt H4.rds.1; exact this
                have q5 : g ≠ w4.heap.size := by omega
                have F5p := gb_cell G4 (by omega) (cell_al E5a (.cells #[.int .i64 2, .int .i64 3, .int .i64 4] 3))
                have zF5p := World.block_lt_of_cell? _ _ F5p
                dsimp only at zF5p
                have F3p := gb_cell G4 (by omega) E3b
                have zF3p := World.block_lt_of_cell? _ _ F3p
                dsimp only at zF3p
                have E5c := F5.out w4
                have E3c := F3.out w4
                have E5g := cell_al E5c (.cells #[.int .i64 2, .int .i64 3, .int .i64 4] 3)
                have E3g := cell_al E3c (.cells #[.int .i64 2, .int .i64 3, .int .i64 4, .int .i64 4, .int .i64 6] 3)
                try have F5r := cell_al F5p (.cells #[.int .i64 2, .int .i64 3, .int .i64 4] 3)
                try have F3r := cell_al F3p (.cells #[.int .i64 2, .int .i64 3, .int .i64 4, .int .i64 4, .int .i64 6] 3)
                have E5d := F5.out (w4.alloc (.cells #[.int .i64 2, .int .i64 3, .int .i64 4] 3))
                have E3d := F3.out (w4.alloc (.cells #[.int .i64 2, .int .i64 3, .int .i64 4, .int .i64 4, .int .i64 6] 3))
                rw [SZ.out] at E5d
                rw [SZ.out] at E3d)
             | (with_reducible refine (P5.out ((w1.alloc (.cells #[.int .i64 2, .int .i64 3, .int .i64 4] 3)).alloc (.cells #[.int .i64 2, .int .i64 3, .int .i64 4, .int .i64 4, .int .i64 6] 3)).drew ((H1.alloc (.cells #[.int .i64 2, .int .i64 3, .int .i64 4] 3)).alloc (.cells #[.int .i64 2, .int .i64 3, .int .i64 4, .int .i64 4, .int .i64 6] 3)).drew.rds).mono ?_
                rintro e w4 ⟨rfl, S4, G4⟩
                have H4 := ((H1.alloc (.cells #[.int .i64 2, .int .i64 3, .int .i64 4] 3)).alloc (.cells #[.int .i64 2, .int .i64 3, .int .i64 4, .int .i64 4, .int .i64 6] 3)).drew.pick S4 G4
                have q4 : g < w4.heap.size := by have := heap_lt H4.rds.1; exact this
                have q5 : g ≠ w4.heap.size := by omega
                have F3p := gb_cell G4 (by omega) (cell_al E3a (.cells #[.int .i64 2, .int .i64 3, .int .i64 4, .int .i64 4, .int .i64 6] 3))
                have zF3p := World.block_lt_of_cell? _ _ F3p
                dsimp only at zF3p
                have F5p := gb_cell G4 (by omega) E5b
                have zF5p := World.block_lt_of_cell? _ _ F5p
                dsimp only at zF5p
                have E5c := F5.out w4
                have E3c := F3.out w4
                have E5g := cell_al E5c (.cells #[.int .i64 2, .int .i64 3, .int .i64 4] 3)
                have E3g := cell_al E3c (.cells #[.int .i64 2, .int .i64 3, .int .i64 4, .int .i64 4, .int .i64 6] 3)
                try have F5r := cell_al F5p (.cells #[.int .i64 2, .int .i64 3, .int .i64 4] 3)
                try have F3r := cell_al F3p (.cells #[.int .i64 2, .int .i64 3, .int .i64 4, .int .i64 4, .int .i64 6] 3)
                have E5d := F5.out (w4.alloc (.cells #[.int .i64 2, .int .i64 3, .int .i64 4] 3))
                have E3d := F3.out (w4.alloc (.cells #[.int .i64 2, .int .i64 3, .int .i64 4, .int .i64 4, .int .i64 6] 3))
                rw [SZ.out] at E5d
                rw [SZ.out] at E3d)
             | (with_reducible refine (P3.out w4 H4.rds).mono ?_
                rintro e w6 ⟨rfl, S6, G6⟩
                have H6 := H4.pick S6 G6
                try (have F5q := gb_cell G6 (by omega) F5p
                     have zF5q := World.block_lt_of_cell? _ _ F5q
                     dsimp only at zF5q)
                try (have F3q := gb_cell G6 (by omega) F3p
                     have zF3q := World.block_lt_of_cell? _ _ F3q
                     dsimp only at zF3q)
                have E5e := F5.out w6
                have E3e := F3.out w6
                have E5h := cell_al E5e (.cells #[.int .i64 2, .int .i64 3, .int .i64 4] 3)
                have E3h := cell_al E3e (.cells #[.int .i64 2, .int .i64 3, .int .i64 4, .int .i64 4, .int .i64 6] 3)
                try have F5s := cell_al F5q (.cells #[.int .i64 2, .int .i64 3, .int .i64 4] 3)
                try have F3s := cell_al F3q (.cells #[.int .i64 2, .int .i64 3, .int .i64 4, .int .i64 4, .int .i64 6] 3)
                have E5f := F5.out (w6.alloc (.cells #[.int .i64 2, .int .i64 3, .int .i64 4] 3))
                have E3f := F3.out (w6.alloc (.cells #[.int .i64 2, .int .i64 3, .int .i64 4, .int .i64 4, .int .i64 6] 3))
                rw [SZ.out] at E5f
                rw [SZ.out] at E3f)
             | (with_reducible refine (P3.out (w4.alloc (.cells #[.int .i64 2, .int .i64 3, .int .i64 4, .int .i64 4, .int .i64 6] 3)) (H4.alloc (.cells #[.int .i64 2, .int .i64 3, .int .i64 4, .int .i64 4, .int .i64 6] 3)).rds).mono ?_
                rintro e w6 ⟨rfl, S6, G6⟩
                have H6 := (H4.alloc (.cells #[.int .i64 2, .int .i64 3, .int .i64 4, .int .i64 4, .int .i64 6] 3)).pick S6 G6
                try (have F5q := gb_cell G6 (by omega) E5c
                     have zF5q := World.block_lt_of_cell? _ _ F5q
                     dsimp only at zF5q)
                try (have F3q := gb_cell G6 (by omega) (cell_al F3p (.cells #[.int .i64 2, .int .i64 3, .int .i64 4, .int .i64 4, .int .i64 6] 3))
                     have zF3q := World.block_lt_of_cell? _ _ F3q
                     dsimp only at zF3q)
                have E5e := F5.out w6
                have E3e := F3.out w6
                have E5h := cell_al E5e (.cells #[.int .i64 2, .int .i64 3, .int .i64 4] 3)
                have E3h := cell_al E3e (.cells #[.int .i64 2, .int .i64 3, .int .i64 4, .int .i64 4, .int .i64 6] 3)
                try have F5s := cell_al F5q (.cells #[.int .i64 2, .int .i64 3, .int .i64 4] 3)
                try have F3s := cell_al F3q (.cells #[.int .i64 2, .int .i64 3, .int .i64 4, .int .i64 4, .int .i64 6] 3)
                have E5f := F5.out (w6.alloc (.cells #[.int .i64 2, .int .i64 3, .int .i64 4] 3))
                have E3f := F3.out (w6.alloc (.cells #[.int .i64 2, .int .i64 3, .int .i64 4, .int .i64 4, .int .i64 6] 3))
                rw [SZ.out] at E5f
                rw [SZ.out] at E3f)
             | (with_reducible refine (P3.out (w4.alloc (.cells #[.int .i64 2, .int .i64 3, .int .i64 4] 3)) (H4.alloc (.cells #[.int .i64 2, .int .i64 3, .int .i64 4] 3)).rds).mono ?_
                rintro e w6 ⟨rfl, S6, G6⟩
                have H6 := (H4.alloc (.cells #[.int .i64 2, .int .i64 3, .int .i64 4] 3)).pick S6 G6
                try (have F3q := gb_cell G6 (by omega) E3c
                     have zF3q := World.block_lt_of_cell? _ _ F3q
                     dsimp only at zF3q)
                try (have F5q := gb_cell G6 (by omega) (cell_al F5p (.cells #[.int .i64 2, .int .i64 3, .int .i64 4] 3))
                     have zF5q := World.block_lt_of_cell? _ _ F5q
                     dsimp only at zF5q)
                have E5e := F5.out w6
                have E3e := F3.out w6
                have E5h := cell_al E5e (.cells #[.int .i64 2, .int .i64 3, .int .i64 4] 3)
                have E3h := cell_al E3e (.cells #[.int .i64 2, .int .i64 3, .int .i64 4, .int .i64 4, .int .i64 6] 3)
                try have F5s := cell_al F5q (.cells #[.int .i64 2, .int .i64 3, .int .i64 4] 3)
                try have F3s := cell_al F3q (.cells #[.int .i64 2, .int .i64 3, .int .i64 4, .int .i64 4, .int .i64 6] 3)
                have E5f := F5.out (w6.alloc (.cells #[.int .i64 2, .int .i64 3, .int .i64 4] 3))
                have E3f := F3.out (w6.alloc (.cells #[.int .i64 2, .int .i64 3, .int .i64 4, .int .i64 4, .int .i64 6] 3))
                rw [SZ.out] at E5f
                rw [SZ.out] at E3f)
             | (with_reducible refine (P3.out ((w4.alloc (.cells #[.int .i64 2, .int .i64 3, .int .i64 4, .int .i64 4, .int .i64 6] 3)).alloc (.cells #[.int .i64 2, .int .i64 3, .int .i64 4] 3)) ((H4.alloc (.cells #[.int .i64 2, .int .i64 3, .int .i64 4, .int .i64 4, .int .i64 6] 3)).alloc (.cells #[.int .i64 2, .int .i64 3, .int .i64 4] 3)).rds).mono ?_
                rintro e w6 ⟨rfl, S6, G6⟩
                have H6 := ((H4.alloc (.cells #[.int .i64 2, .int .i64 3, .int .i64 4, .int .i64 4, .int .i64 6] 3)).alloc (.cells #[.int .i64 2, .int .i64 3, .int .i64 4] 3)).pick S6 G6
                try (have F5q := gb_cell G6 (by omega) (cell_al E5c (.cells #[.int .i64 2, .int .i64 3, .int .i64 4] 3))
                     have zF5q := World.block_lt_of_cell? _ _ F5q
                     dsimp only at zF5q)
                try (have F3q := gb_cell G6 (by omega) E3d
                     have zF3q := World.block_lt_of_cell? _ _ F3q
                     dsimp only at zF3q)
                have E5e := F5.out w6
                have E3e := F3.out w6
                have E5h := cell_al E5e (.cells #[.int .i64 2, .int .i64 3, .int .i64 4] 3)
                have E3h := cell_al E3e (.cells #[.int .i64 2, .int .i64 3, .int .i64 4, .int .i64 4, .int .i64 6] 3)
                try have F5s := cell_al F5q (.cells #[.int .i64 2, .int .i64 3, .int .i64 4] 3)
                try have F3s := cell_al F3q (.cells #[.int .i64 2, .int .i64 3, .int .i64 4, .int .i64 4, .int .i64 6] 3)
                have E5f := F5.out (w6.alloc (.cells #[.int .i64 2, .int .i64 3, .int .i64 4] 3))
                have E3f := F3.out (w6.alloc (.cells #[.int .i64 2, .int .i64 3, .int .i64 4, .int .i64 4, .int .i64 6] 3))
                rw [SZ.out] at E5f
                rw [SZ.out] at E3f)
             | (with_reducible refine (P3.out ((w4.alloc (.cells #[.int .i64 2, .int .i64 3, .int .i64 4] 3)).alloc (.cells #[.int .i64 2, .int .i64 3, .int .i64 4, .int .i64 4, .int .i64 6] 3)) ((H4.alloc (.cells #[.int .i64 2, .int .i64 3, .int .i64 4] 3)).alloc (.cells #[.int .i64 2, .int .i64 3, .int .i64 4, .int .i64 4, .int .i64 6] 3)).rds).mono ?_
                rintro e w6 ⟨rfl, S6, G6⟩
                have H6 := ((H4.alloc (.cells #[.int .i64 2, .int .i64 3, .int .i64 4] 3)).alloc (.cells #[.int .i64 2, .int .i64 3, .int .i64 4, .int .i64 4, .int .i64 6] 3)).pick S6 G6
                try (have F3q := gb_cell G6 (by omega) (cell_al E3c (.cells #[.int .i64 2, .int .i64 3, .int .i64 4, .int .i64 4, .int .i64 6] 3))
                     have zF3q := World.block_lt_of_cell? _ _ F3q
                     dsimp only at zF3q)
                try (have F5q := gb_cell G6 (by omega) E5d
                     have zF5q := World.block_lt_of_cell? _ _ F5q
                     dsimp only at zF5q)
                have E5e := F5.out w6
                have E3e := F3.out w6
                have E5h := cell_al E5e (.cells #[.int .i64 2, .int .i64 3, .int .i64 4] 3)
                have E3h := cell_al E3e (.cells #[.int .i64 2, .int .i64 3, .int .i64 4, .int .i64 4, .int .i64 6] 3)
                try have F5s := cell_al F5q (.cells #[.int .i64 2, .int .i64 3, .int .i64 4] 3)
                try have F3s := cell_al F3q (.cells #[.int .i64 2, .int .i64 3, .int .i64 4, .int .i64 4, .int .i64 6] 3)
                have E5f := F5.out (w6.alloc (.cells #[.int .i64 2, .int .i64 3, .int .i64 4] 3))
                have E3f := F3.out (w6.alloc (.cells #[.int .i64 2, .int .i64 3, .int .i64 4, .int .i64 4, .int .i64 6] 3))
                rw [SZ.out] at E5f
                rw [SZ.out] at E3f))
        | (go_at_call 63
           with_reducible refine (sRegionBox_any d5 d3 _).mono ?_
           rintro e w7 ⟨B, kb, rfl, o7, b7⟩
           have H7 : Rs w g A c bytes (p + 1 + 1 + 1) w7 := by first | exact H6.below b7 | exact (H6.alloc (.cells #[.int .i64 2, .int .i64 3, .int .i64 4, .int .i64 4, .int .i64 6] 3)).below b7 | exact (H6.alloc (.cells #[.int .i64 2, .int .i64 3, .int .i64 4] 3)).below b7 | exact ((H6.alloc (.cells #[.int .i64 2, .int .i64 3, .int .i64 4, .int .i64 4, .int .i64 6] 3)).alloc (.cells #[.int .i64 2, .int .i64 3, .int .i64 4] 3)).below b7 | exact ((H6.alloc (.cells #[.int .i64 2, .int .i64 3, .int .i64 4] 3)).alloc (.cells #[.int .i64 2, .int .i64 3, .int .i64 4, .int .i64 4, .int .i64 6] 3)).below b7
           have hB : ∀ ad, B = some ad → w.heap.size < ad.block := fun ad ha => by have t := o7.1 ad ha; have := heap_lt H6.res; (try simp at t); omega
           obtain ⟨s0, s1, s2, t0, t1, t2⟩ := blk3 H7.res))
    all_goals (
      go_wp2_with fail
      refine bodyPost_ret (v := .agg #[.int .i64 (boxW d5 d3), .int .i64 (boxT d5 d3), .slice B (boxB d5 d3).length kb]) (by simp [results, Tryz.results83, go_sem, s0, s1, s2]) rfl ?_
      exact H7.done o7.rd hB (by have := box_len d5 d3; omega) (by omega))
  · go_wp2_with fail
    refine (HREG.out _ H1.rds).mono ?_
    rintro e w2 ⟨W, T, bs, B, kb, q, rfl, hrd, hl37, S2, hq, G2, hB⟩
    have z1 := heap_lt H1.res
    have H2 := H1.pick S2 G2
    obtain ⟨s0, s1, s2, t0, t1, t2⟩ := blk3 H2.res
    have hB' : ∀ ad, B = some ad → w.heap.size < ad.block := fun ad ha => by have := hB ad ha; omega
    go_wp2_with fail
    refine bodyPost_ret (v := .agg #[.int .i64 W, .int .i64 T, .slice B bs.length kb]) (by simp [results, Tryz.results83, go_sem, s0, s1, s2]) rfl ?_
    exact H2.done hrd hB' hl37 (by omega)
  all_goals (
    go_wp2_with fail
    refine (HTIL.out _ H1.rds).mono ?_
    rintro e w2 ⟨W, T, bs, B, kb, q, rfl, hrd, hl37, S2, hq, G2, hB⟩
    have z1 := heap_lt H1.res
    have H2 := H1.pick S2 G2
    obtain ⟨s0, s1, s2, t0, t1, t2⟩ := blk3 H2.res
    have hB' : ∀ ad, B = some ad → w.heap.size < ad.block := fun ad ha => by have := hB ad ha; omega
    go_wp2_with fail
    refine bodyPost_ret (v := .agg #[.int .i64 W, .int .i64 T, .slice B bs.length kb]) (by simp [results, Tryz.results83, go_sem, s0, s1, s2]) rfl ?_
    exact H2.done hrd hB' hl37 (by omega))
end Go.Proofs.YtafmpgikdhlknaaGreat

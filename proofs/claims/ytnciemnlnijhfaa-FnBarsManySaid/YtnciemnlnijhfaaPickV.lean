/- Contract: pick, with the number that it hands back; some list of cells (l20Piece). -/
import Derived.Test.YtnciemnlnijhfaaDraw
import Derived.Test.YtnciemnlnijhfaaCellApp
import Derived.Test.YtnciemnlnijhfaaBoxes
import Derived.Test.YtnciemnlnijhfaaGb
namespace Go.Proofs.Ytnciemnlnijhfaa
open Go.RowKit

/-- what pick hands back -/
def pickV (n : Int) (bytes : List Int) (p : Nat) : Int :=
  if n < 1 ∨ bytes.length = 0 then 0
  else if p < bytes.length then bytes.getD p 0 % n
  else bits .xor .i64 (bytes.getD (p % bytes.length) 0 * 131 + bytes.getD ((p * 7 + 3) % bytes.length) 0 * 1117 + (p : Int) * 29 + (p : Int) / (bytes.length : Int) * 53) ((bytes.getD (p % bytes.length) 0 * 131 + bytes.getD ((p * 7 + 3) % bytes.length) 0 * 1117 + (p : Int) * 29 + (p : Int) / (bytes.length : Int) * 53) / 64) % n
def PickedV (n : Int) (w : World) (g : Nat) (A : Option Addr) (c : Nat) (bytes : List Int) (p : Nat) (e : Ending) (w' : World) : Prop :=
  e = .returned (.int .i64 (pickV n bytes p)) ∧ RdS w' g A c bytes (p + 1) ∧ w.grownBy w' (some g)
theorem pickV_bd {n : Int} (bytes : List Int) (p : Nat) (h : 1 ≤ n) : 0 ≤ pickV n bytes p ∧ pickV n bytes p < n := by
  unfold pickV
  split
  · omega
  · split
    · exact ⟨Int.emod_nonneg _ (by omega), Int.emod_lt_of_pos _ (by omega)⟩
    · exact ⟨Int.emod_nonneg _ (by omega), Int.emod_lt_of_pos _ (by omega)⟩
set_option maxHeartbeats 1000000 in
theorem pickV_any (n : Int) (w : World) (g : Nat) (A : Option Addr) (c : Nat) (bytes : List Int) (p : Nat) (h : RdS w g A c bytes p) (hp : p ≤ 1000000000) (hnl : n ≤ 9223372036854775807) :
    Calls Try.prog 85 #[.pointer (some ⟨g, 0, none⟩), .int .i64 n] w (PickedV n w g A c bytes p) := by
  obtain ⟨c0, c1, f1⟩ := h.cells
  obtain ⟨hS, hG⟩ := h.next
  have hlb := h.2.2.2.1
  by_cases hn : n < 1
  · have HV := Lib.hid (show 0 = pickV n bytes p by unfold pickV; rw [if_pos (.inl hn)])
    go_enter Try.func85, Try.ntmps85
    go_wp2
    go_ret
    exact ⟨ret_i HV.out, hS, hG⟩
  · by_cases hl : bytes.length = 0
    · have hb : ((bytes.length : Int) == 0) = true := by simp [hl]
      have HV := Lib.hid (show 0 = pickV n bytes p by unfold pickV; rw [if_pos (.inr hl)])
      clear hl
      go_enter Try.func85, Try.ntmps85
      go_wp2
      go_ret
      exact ⟨ret_i HV.out, hS, hG⟩
    · have hb : ((bytes.length : Int) == 0) = false := by rw [beq_eq_false_iff_ne]; omega
      have hl1 : 0 < bytes.length := by omega
      by_cases hlt : p < bytes.length
      · obtain ⟨ad, rfl, hc⟩ := hS.2.1.atM hlt
        have hx := h.2.2.2.2 bytes[p] (List.getElem_mem hlt)
        have HV := Lib.hid (show bytes[p] % n = pickV n bytes p by
          unfold pickV; rw [if_neg (by omega), if_pos hlt]; simp [List.getD_eq_getElem?_getD, List.getElem?_eq_getElem hlt])
        generalize bytes[p] = x at hc hx HV
        obtain ⟨x0, x1⟩ := hx
        go_enter Try.func85, Try.ntmps85
        go_wp2
        go_ret
        exact ⟨ret_i HV.out, hS, hG⟩
      · obtain ⟨ad, rfl, hc1⟩ := hS.2.1.atM (k := p % bytes.length) (Nat.mod_lt _ hl1)
        obtain ⟨_, h', hc2⟩ := hS.2.1.atM (k := (p * 7 + 3) % bytes.length) (Nat.mod_lt _ hl1)
        obtain rfl := Option.some.inj h'
        have hx1 := h.2.2.2.2 _ (List.getElem_mem (Nat.mod_lt p hl1))
        have hx2 := h.2.2.2.2 _ (List.getElem_mem (Nat.mod_lt (p * 7 + 3) hl1))
        have HV := Lib.hid (show (bits .xor .i64 (bytes[p % bytes.length]'(Nat.mod_lt _ hl1) * 131 + bytes[(p * 7 + 3) % bytes.length]'(Nat.mod_lt _ hl1) * 1117 + (p : Int) * 29 + (p : Int) / (bytes.length : Int) * 53) ((bytes[p % bytes.length]'(Nat.mod_lt _ hl1) * 131 + bytes[(p * 7 + 3) % bytes.length]'(Nat.mod_lt _ hl1) * 1117 + (p : Int) * 29 + (p : Int) / (bytes.length : Int) * 53) / 64)) % n = pickV n bytes p by
          unfold pickV
          rw [if_neg (by omega), if_neg hlt]
          simp only [List.getD_eq_getElem?_getD, List.getElem?_eq_getElem (Nat.mod_lt p hl1), List.getElem?_eq_getElem (Nat.mod_lt (p * 7 + 3) hl1), Option.getD_some])
        generalize bytes[p % bytes.length]'(Nat.mod_lt _ hl1) = x at hc1 hx1 HV
        generalize bytes[(p * 7 + 3) % bytes.length]'(Nat.mod_lt _ hl1) = y at hc2 hx2 HV
        obtain ⟨x0, x1⟩ := hx1
        obtain ⟨y0, y1⟩ := hx2
        clear h'
        obtain ⟨q1, hq1⟩ : ∃ q, p % bytes.length = q := ⟨_, rfl⟩
        obtain ⟨q2, hq2⟩ : ∃ q, (p * 7 + 3) % bytes.length = q := ⟨_, rfl⟩
        have l1 : (q1 : Int) < (bytes.length : Int) := by have := Nat.mod_lt p hl1; omega
        have l2 : (q2 : Int) < (bytes.length : Int) := by have := Nat.mod_lt (p * 7 + 3) hl1; omega
        have d0 : 0 ≤ (p : Int) / (bytes.length : Int) := Int.ediv_nonneg (by omega) (by omega)
        have d1 : (p : Int) / (bytes.length : Int) ≤ p := Int.ediv_le_self _ (by omega)
        have t1 : (p : Int).tmod (bytes.length : Int) = (q1 : Int) := by rw [Int.tmod_eq_emod_of_nonneg (by omega), ← hq1]; omega
        have t2 : ((p : Int) * 7 + 3).tmod (bytes.length : Int) = (q2 : Int) := by rw [Int.tmod_eq_emod_of_nonneg (by omega), ← hq2, Int.natCast_emod]; rfl
        have t3 : (p : Int).tdiv (bytes.length : Int) = (p : Int) / (bytes.length : Int) := Int.tdiv_eq_ediv_of_nonneg (by omega)
        rw [hq1] at hc1
        rw [hq2] at hc2
        generalize (p : Int) / (bytes.length : Int) = d at d0 d1 t3 HV
        clear hq1 hq2
        have e1 : IntKind.i64.wrap (q1 : Int) = q1 := IntWalk.i64_in _ (by omega)
        have e2 : IntKind.i64.wrap ((p : Int) * 7) = (p : Int) * 7 := IntWalk.i64_in _ (by omega)
        have e3 : IntKind.i64.wrap ((p : Int) * 7 + 3) = (p : Int) * 7 + 3 := IntWalk.i64_in _ (by omega)
        have e4 : IntKind.i64.wrap (q2 : Int) = q2 := IntWalk.i64_in _ (by omega)
        have e5 : IntKind.i64.wrap x = x := IntWalk.i64_in _ (by omega)
        have e6 : IntKind.i64.wrap y = y := IntWalk.i64_in _ (by omega)
        have e7 : IntKind.i64.wrap (x * 131) = x * 131 := IntWalk.i64_in _ (by omega)
        have e8 : IntKind.i64.wrap (y * 1117) = y * 1117 := IntWalk.i64_in _ (by omega)
        have e9 : IntKind.i64.wrap (x * 131 + y * 1117) = x * 131 + y * 1117 := IntWalk.i64_in _ (by omega)
        have e10 : IntKind.i64.wrap ((p : Int) * 29) = (p : Int) * 29 := IntWalk.i64_in _ (by omega)
        have e11 : IntKind.i64.wrap (x * 131 + y * 1117 + (p : Int) * 29) = x * 131 + y * 1117 + (p : Int) * 29 := IntWalk.i64_in _ (by omega)
        have e12 : IntKind.i64.wrap d = d := IntWalk.i64_in _ (by omega)
        have e13 : IntKind.i64.wrap (d * 53) = d * 53 := IntWalk.i64_in _ (by omega)
        have e14 : IntKind.i64.wrap (x * 131 + y * 1117 + (p : Int) * 29 + d * 53) = x * 131 + y * 1117 + (p : Int) * 29 + d * 53 := IntWalk.i64_in _ (by omega)
        obtain ⟨z0, z1⟩ := xor_nonneg (x * 131 + y * 1117 + (p : Int) * 29 + d * 53) (by omega) (by omega)
        go_enter Try.func85, Try.ntmps85
        go_wp2_with fail
        go_quiet (fail)
        clear t1 t2 t3 e1 e2 e3 e4 e5 e6 e7 e8 e9 e10 e11 e12 e13 e14
        generalize hX : x * 131 + y * 1117 + (p : Int) * 29 + d * 53 = X at z0 z1 HV ⊢
        have X0 : 0 ≤ X := by omega
        have X1 : X ≤ 1000000000000 := by omega
        clear hX
        generalize hZ : bits .xor .i64 X (X / 64) = Z at z0 z1 HV
        go_wp2
        go_ret
        exact ⟨ret_i HV.out, hS, hG.os, hG.tape, hG.output, hG.size, hG.block⟩
end Go.Proofs.Ytnciemnlnijhfaa


/- Contracts: lists of cells compared; equal or not. -/
import Derived.Test.YtejkbjcmndnfeaaGreatFormN
import Derived.Test.YtejkbjcmndnfeaaGreatMoveC
namespace Go.Proofs.YtejkbjcmndnfeaaGreat
open Go.RowKit Go.Sort

/-- draws and new blocks, no more -/
def Grw (w w' : World) : Prop := ∃ q os, w' = grow (w.drewN q) os
theorem Grw.refl (w : World) : Grw w w := ⟨0, #[], by rw [grow_empty]; rfl⟩
theorem Grw.alloc {w w1 : World} (h : Grw w w1) (o : Obj) : Grw w (w1.alloc o) := by
  obtain ⟨q, os, rfl⟩ := h
  exact ⟨q, os ++ #[o], by rw [alloc_eq_grow, grow_grow]⟩
theorem Grw.trans {w w1 w2 : World} (h : Grw w w1) (k : Grw w1 w2) : Grw w w2 := by
  obtain ⟨q, os, rfl⟩ := h
  obtain ⟨q2, os2, rfl⟩ := k
  refine ⟨q + q2, os ++ os2, ?_⟩
  show grow (grow ((w.drewN q).drewN q2) os) os2 = _
  rw [grow_grow, World.drewN_drewN]
theorem Grw.below {w w' : World} (h : Grw w w') : Below w.heap.size w w' := by
  obtain ⟨q, os, rfl⟩ := h
  refine ⟨rfl, rfl, rfl, ?_, fun k hk => ?_⟩
  · show w.heap.size ≤ (w.heap ++ os).size
    simp
  · show (w.heap ++ os)[k]? = w.heap[k]?
    rw [Array.getElem?_append_left hk]
theorem Grw.drewN {w w1 : World} (h : Grw w w1) (n : Nat) : Grw w (w1.drewN n) := h.trans ⟨n, #[], by rw [grow_empty]⟩
theorem cmpF_same : ∀ (k : Nat) (ps qs : List Ce), ps.length = qs.length → (∀ j (h : j < ps.length) (h2 : j < qs.length), j < k → ps[j] = qs[j]) → ∀ (h : k < ps.length) (h2 : k < qs.length), cmpC ps[k] qs[k] ≠ 0 → cmpF ps qs = cmpC ps[k] qs[k]
  | k, [], qs, _, _, h, _, _ => by simp at h
  | k, a :: l, [], _, _, _, h2, _ => by simp at h2
  | 0, a :: l, b :: m, _, _, _, _, hne => by
    simp only [List.getElem_cons_zero] at hne ⊢
    unfold cmpF
    rw [if_neg hne]
  | k + 1, a :: l, b :: m, hl, hs, h, h2, hne => by
    have h0 := hs 0 (by simp) (by simp) (by omega)
    simp only [List.getElem_cons_zero] at h0
    subst h0
    simp only [List.getElem_cons_succ] at hne ⊢
    unfold cmpF
    rw [if_pos ((cmpC_zero a a).2 rfl)]
    exact cmpF_same k l m (by simpa using hl) (fun j hj hj2 hjk => by have := hs (j + 1) (by simpa using hj) (by simpa using hj2) (by omega); simpa using this) (by simpa using h) (by simpa using h2) hne
theorem list_same {α : Type} {n : Nat} {ps qs : List α} (h1 : ps.length = n) (h2 : qs.length = n) (h : ∀ j (h : j < ps.length) (h2 : j < qs.length), j < n → ps[j] = qs[j]) : ps = qs :=
  List.ext_getElem (by omega) (fun j hj hj2 => h j hj hj2 (by omega))
set_option maxHeartbeats 1000000 in
theorem equalC_any (A A' : Option Addr) (c c' : Nat) (ps qs : List Ce) (w : World) (hr : RdC w A ps) (hr' : RdC w A' qs) (hn : ps.length ≤ 1000000) :
    Calls Tryz.prog 197 #[.slice A ps.length c, .slice A' qs.length c'] w fun e w' => e = .returned (.bool (decide (ps = qs))) ∧ ∃ q, w' = w.drewN q := by
  by_cases hl : ps.length = qs.length
  · obtain ⟨n, hp⟩ : ∃ n, ps.length = n := ⟨_, rfl⟩
    have HP := Lib.hid hp
    have HQ := Lib.hid (show qs.length = n by omega)
    rw [← hl, hp]
    rw [hp] at hn
    clear hp hl
    have hnn : ((n : Int) != (n : Int)) = false := by simp
    have hneq := fun W a b x y => neq_cell W a b x y
    go_enter Tryz.func197, Tryz.ntmps197
    go_wp2_with fail
    go_loopw [13] (fun i wr => ∃ k q : Nat, k ≤ n ∧ i = .int .i64 k ∧ Hid (∀ j (h : j < ps.length) (h2 : j < qs.length), j < k → ps[j] = qs[j]) ∧ wr = w.drewN q) (fun i _ => n - (intOf i).toNat)
    case atStart => exact ⟨0, 0, Nat.zero_le _, rfl, fun j h h2 h3 => by omega, rfl⟩
    case round =>
      obtain ⟨k, q, hk, rfl, HK, rfl⟩ := hrel
      by_cases hlt : k < n
      · have hkp : k < ps.length := by rw [HP.out]; exact hlt
        have hkq : k < qs.length := by rw [HQ.out]; exact hlt
        obtain ⟨b, off, rfl, c0, c1⟩ := RdC.at_ (w := w.drewN q) (Rd.drewN hr q) hkp
        obtain ⟨b', off', rfl, d0, d1⟩ := RdC.at_ (w := w.drewN q) (Rd.drewN hr' q) hkq
        obtain ⟨wq, hwq⟩ : ∃ wq, w.drewN q = wq := ⟨_, rfl⟩
        have HWQ := Lib.hid hwq
        rw [hwq] at c0 c1 d0 d1
        by_cases hc : ps[k] = qs[k]
        · have HC := Lib.hid hc
          rw [← hc] at d0 d1
          clear hc
          generalize ps[k] = z at c0 c1 d0 d1
          obtain ⟨x, y⟩ := z
          simp only at c0 c1 d0 d1
          have hqq : (x == x && y == y) = true := by simp
          rw [hwq]
          clear hwq
          go_wp2_with fail
          go_quiet (fail)
          go_wp2
          go_roundw
          case rel =>
            refine ⟨k + 1, _, by omega, by go_num, fun j h h2 h3 => ?_, by rw [← HWQ.out, World.drewN_drewN]⟩
            rcases Nat.lt_or_ge j k with h4 | h4
            · exact HK.out j h h2 h4
            · obtain rfl : j = k := by omega
              exact HC.out
          case measure => simp [intOf]; omega
        · have HF := Lib.hid (show decide (ps = qs) = false from decide_eq_false (fun e => hc (by simp only [e])))
          have hb : (ps[k].1 == qs[k].1 && ps[k].2 == qs[k].2) = false := by
            cases h : (ps[k].1 == qs[k].1 && ps[k].2 == qs[k].2) with
            | false => rfl
            | true => simp at h; exact absurd (Prod.ext h.1 h.2) hc
          clear hc
          generalize ps[k] = z at c0 c1 hb
          generalize qs[k] = z' at d0 d1 hb
          obtain ⟨x, y⟩ := z
          obtain ⟨x', y'⟩ := z'
          simp only at c0 c1 d0 d1 hb
          rw [hwq]
          clear hwq
          go_wp2_with fail
          go_quiet (fail)
          go_wp2
          go_ret
          exact ⟨ret_b HF.out.symm, _, by rw [← HWQ.out, World.drewN_drewN]⟩
      · have HT := Lib.hid (show decide (ps = qs) = true from decide_eq_true (list_same HP.out HQ.out (fun j h h2 h3 => HK.out j h h2 (by omega))))
        go_wp2_with fail
        go_ret
        exact ⟨ret_b HT.out.symm, q, rfl⟩
  · have HF := Lib.hid (show decide (ps = qs) = false from decide_eq_false (fun e => hl (by rw [e])))
    have hnn : ((ps.length : Int) != (qs.length : Int)) = true := by rw [bne_iff_ne]; omega
    clear hl
    go_enter Tryz.func197, Tryz.ntmps197
    go_wp2
    go_ret
    exact ⟨ret_b HF.out.symm, 0, rfl⟩
set_option maxHeartbeats 400000 in
theorem sameForm_any (A A' : Option Addr) (c c' : Nat) (ps qs : List Ce) (w : World) (hr : RdC w A ps) (hr' : RdC w A' qs) (hn : ps.length ≤ 1000000) :
    Calls Tryz.prog 139 #[.slice A ps.length c, .slice A' qs.length c'] w fun e w' => e = .returned (.bool (decide (ps = qs))) ∧ ∃ q, w' = w.drewN q := by
  go_enter Tryz.func139, Tryz.ntmps139
  go_wp2_with fail
  refine (equalC_any A A' c c' ps qs _ hr hr' hn).mono ?_
  rintro e w1 ⟨rfl, q, hq⟩
  have HQ := Lib.hid hq
  clear hq
  go_wp2
  go_ret
  exact ⟨rfl, q, HQ.out⟩
set_option maxHeartbeats 2000000 in
theorem compareF_any (A A' : Option Addr) (n c c' : Nat) (ps qs : List Ce) (w : World) (hr : RdC w A ps) (hr' : RdC w A' qs) (hp : ps.length = n) (hq : qs.length = n) (hn : n ≤ 1000000) :
    Calls Tryz.prog 202 #[.slice A n c, .slice A' n c', .func (.func 199) #[] #[]] w fun e w' => e = .returned (.int .i64 (cmpF ps qs)) ∧ Grw w w' := by
  have HP := Lib.hid hp
  have HQ := Lib.hid hq
  clear hp hq
  go_enter Tryz.func202, Tryz.ntmps202
  go_wp2_with fail
  go_loopw [13] (fun i wr => ∃ k : Nat, k ≤ n ∧ i = .int .i64 k ∧ Hid (∀ j (h : j < ps.length) (h2 : j < qs.length), j < k → ps[j] = qs[j]) ∧ Grw w wr) (fun i _ => n - (intOf i).toNat)
  case atStart => exact ⟨0, Nat.zero_le _, rfl, fun j h h2 h3 => by omega, Grw.refl _⟩
  case round =>
    obtain ⟨k, hk, rfl, HK, G1⟩ := hrel
    by_cases hlt : k < n
    · have hkp : k < ps.length := by rw [HP.out]; exact hlt
      have hkq : k < qs.length := by rw [HQ.out]; exact hlt
      obtain ⟨b, off, rfl, c0, c1⟩ := RdC.at_ (w := wr) (Rd.belo hr G1.below) hkp
      obtain ⟨b', off', rfl, d0, d1⟩ := RdC.at_ (w := wr) (Rd.belo hr' G1.below) hkq
      have HS := Lib.hid (fun hne => cmpF_same k ps qs (by rw [HP.out, HQ.out]) HK.out hkp hkq hne)
      obtain ⟨z, hz⟩ : ∃ z, ps[k] = z := ⟨_, rfl⟩
      obtain ⟨z', hz'⟩ : ∃ z, qs[k] = z := ⟨_, rfl⟩
      have HZ := Lib.hid hz
      have HZ' := Lib.hid hz'
      rw [hz] at c0 c1
      rw [hz'] at d0 d1
      clear hz hz'
      obtain ⟨x, y⟩ := z
      obtain ⟨x', y'⟩ := z'
      simp only at c0 c1 d0 d1
      have hkn : (k : Int) < (n : Int) := by omega
      have hbl : b' < wr.heap.size := by have := World.block_lt_of_cell? wr _ d0; simpa using this
      have hd0 : (wr.alloc (.cells #[.int .i64 x, .int .i64 y] 89)).cell? ⟨b', off' + k * 2, none⟩ = some (.int .i64 x') := (World.cell?_alloc_lt wr _ ⟨b', off' + k * 2, none⟩ hbl).trans d0
      have hd1 : (wr.alloc (.cells #[.int .i64 x, .int .i64 y] 89)).cell? ⟨b', off' + k * 2 + 1, none⟩ = some (.int .i64 y') := (World.cell?_alloc_lt wr _ ⟨b', off' + k * 2 + 1, none⟩ hbl).trans d1
      have G2 := (G1.alloc (.cells #[.int .i64 x, .int .i64 y] 89)).alloc (.cells #[.int .i64 x', .int .i64 y'] 89)
      have CC := Lib.hid (fun W => compareCells_any (x, y) (x', y') W)
      obtain ⟨r, hrr⟩ : ∃ r, cmpC (x, y) (x', y') = r := ⟨_, rfl⟩
      have HR := Lib.hid hrr
      rw [hrr] at CC
      clear hrr
      by_cases hr0 : r = 0
      · subst hr0
        go_wp2_with (go_at_call 199; refine (CC.out _).mono ?_; rintro e w3 ⟨rfl, g3⟩; have G3 : Grw _ w3 := g3; clear g3)
        go_roundw
        case rel =>
          refine ⟨k + 1, by omega, by go_num, fun j h h2 h3 => ?_, G2.trans G3⟩
          rcases Nat.lt_or_ge j k with h4 | h4
          · exact HK.out j h h2 h4
          · obtain rfl : j = k := by omega
            rw [HZ.out, HZ'.out]
            exact (cmpC_zero _ _).1 HR.out
        case measure => simp [intOf]; omega
      · have hr1 : (r != 0) = true := by simp [hr0]
        have HRR := Lib.hid (HS.out (by rw [HZ.out, HZ'.out, HR.out]; exact hr0))
        have HE : Hid (cmpF ps qs = r) := by show _ = _; rw [HRR.out, HZ.out, HZ'.out, HR.out]
        clear hr0
        go_wp2_with (go_at_call 199; refine (CC.out _).mono ?_; rintro e w3 ⟨rfl, g3⟩; have G3 : Grw _ w3 := g3; clear g3)
        go_ret
        exact ⟨ret_i HE.out.symm, G2.trans G3⟩
    · have HT := Lib.hid (show cmpF ps qs = 0 from (cmpF_zero ps qs).2 (list_same HP.out HQ.out (fun j h h2 h3 => HK.out j h h2 (by omega))))
      go_wp2_with fail
      go_ret
      exact ⟨ret_i HT.out.symm, G1⟩
set_option maxHeartbeats 400000 in
theorem compareForms_any (A A' : Option Addr) (n c c' : Nat) (ps qs : List Ce) (w : World) (hr : RdC w A ps) (hr' : RdC w A' qs) (hp : ps.length = n) (hq : qs.length = n) (hn : n ≤ 1000000) :
    Calls Tryz.prog 148 #[.slice A n c, .slice A' n c'] w fun e w' => e = .returned (.int .i64 (cmpF ps qs)) ∧ Grw w w' := by
  have CC := Lib.hid (compareF_any A A' n c c' ps qs w hr hr' hp hq hn)
  clear hp hq
  go_enter Tryz.func148, Tryz.ntmps148
  go_wp2_with fail
  refine CC.out.mono ?_
  rintro e w1 ⟨rfl, g1⟩
  have G1 : Grw w w1 := g1
  clear g1
  go_wp2
  go_ret
  exact ⟨rfl, G1⟩
end Go.Proofs.YtejkbjcmndnfeaaGreat

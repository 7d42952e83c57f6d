/- The walk of the law FnPieceValid. (steps written out by wip/regz.py) -/
import Derived.Test.YthkpiacanfajbaaDrawPiece
import Derived.Test.YthkpiacanfajbaaPieceV
import Derived.Test.YthkpiacanfajbaaPieceS
import Derived.Test.YthkpiacanfajbaaAlive
namespace Go.Proofs.Ythkpiacanfajbaa
open Go.RowKit

section
variable {o : Oper} {a : Act} {K : Act → World → Prop} {Q : Exit → Act → World → Prop}
theorem opw_cells (W : World) (s x : Operand) (ho : o.op = .call { callee := .builtin .append, args := #[s, x], argTypes := #[36, 36] })
    (base : Nat) (v : Value) (ps : List Ce) (hs : a.eval s = v) (hown : OwnC W base v ps) (B : Option Addr) (n c : Nat) (qs : List Ce) (hx : a.eval x = .slice B n c) (hq : RdC W B qs) (hl : qs.length = n) (hn0 : 0 < n) (m : Nat) (hm : m = ps.length + n) (hm2 : m ≤ 1000000000000) (hbase : base ≤ W.heap.size)
    (h : ∀ g cap w', OwnC w' base (.slice (some ⟨g, 0, none⟩) m cap) (ps ++ qs) → W.grownBy w' v.ownBlock → Below base W w' → K (a.put o.dst (.slice (some ⟨g, 0, none⟩) m cap)) w') : Oper.wp Try.prog o a W K Q := by
  obtain ⟨i0, hi, hz0, hz1, hz2⟩ := info_parts Try.infoC
  obtain ⟨A, c', e, hown⟩ := hown
  obtain ⟨ad, e2, hc⟩ := hq (by intro e; have := cellsV_len qs; rw [e] at this; simp at this; omega)
  subst e2
  refine wp_append_lies W s x 36 ho base 40 i0 (.agg #[.int .i64 0, .int .i64 0]) 2 16 Try.underlying36 hi hz0 hz1 hz2 rfl (by decide) v ps.length (cellsV ps) hs hown ad n c (cellsV qs) hx (by rw [cellsV_len, hl]) hc ?_ hn0 (by unfold maxLen; omega) (by omega) hbase _ rfl ?_
  · intro u hu
    unfold cellsV at hu
    obtain ⟨q, -, hu⟩ := List.mem_flatMap.1 hu
    simp at hu
    rcases hu with rfl | rfl <;> rfl
  · intro g cap w' h1 h2 h3 _
    subst hm
    refine h g cap w' ⟨_, _, by rw [List.length_append, hl], ?_⟩ h2 ((Below.refl base W).grown h2 hbase (fun k hk => (hown.lt k hk).1))
    rw [cellsV_append, List.length_append, hl]
    exact h1
end
theorem piece_nil : pieceB [] = false := pieceB_f (fun h => by have := h.1.1; simp at this)
theorem piece_one {ps : List Ce} (h : PieceOk ps) : pieceB (ps.take 1) = true := by
  refine pieceB_t ?_
  obtain ⟨⟨h1, -⟩, h2, -, -⟩ := h
  match ps, h1, h2 with
  | q :: l, h1, h2 =>
    refine ⟨by simp, fun c hc => ?_, by simp, fun c hc => ?_⟩
    · simp at hc; subst hc; exact h2 _ (by simp)
    · simp at hc; subst hc; exact .base
theorem piece_twice {ps : List Ce} {q : Ce} (h : q ∈ ps) : pieceB (ps ++ [q]) = false := by
  refine pieceB_f (fun hk => ?_)
  have := (List.nodup_append.1 hk.2.2.1).2.2 q h q (by simp)
  exact this rfl
theorem OwnC.nil0 {w : World} {base : Nat} (hb : base ≤ w.heap.size) : OwnC (w.alloc (.cells #[] 40)) base (.slice (some ⟨w.heap.size, 0, none⟩) 0 0) [] :=
  ⟨_, _, rfl, World.ownsRow_lit w #[] 0 hb (by unfold maxLen; omega) (by simp)⟩
set_option maxHeartbeats 800000 in
theorem drawPieceValid_any (A : Option Addr) (c : Nat) (bs : List Int) (w : World) (hr : Rd w A (bs.map (.int .u8))) (hw : ∀ x ∈ bs, 0 ≤ x ∧ x ≤ 255) (hn : bs.length ≤ 1048576) (hcap : bs.length ≤ c) :
    Calls Try.prog 19 #[.slice A bs.length c] w fun e w' => ∃ (B : Option Addr) (c' : Nat) (ps : List Ce), e = .returned (.slice B ps.length c') ∧ RdC w' B ps ∧ ps.length ≤ c' ∧ ps.length ≤ 7 ∧ NearC 10 ps ∧ Below w.heap.size w w' := by
  go_enter Try.func19, Try.ntmps19
  go_wp2_with fail
  refine (open_any A c bs _ hr hw hn hcap).mono ?_
  rintro e w1 ⟨g, A1, c1, by1, rfl, O1⟩
  go_wp2_with fail
  refine (piece_any g A1 c1 by1 0 6 3 _ O1.1 O1.lt (by omega) (by omega) (by omega)).mono ?_
  rintro e w2 ⟨B, c', ps, p', rfl, W2, h1, h2, h3, S2, -, G2⟩
  go_wp2
  go_ret
  exact ⟨B, c', ps, rfl, OwnC.rd W2, h1, h2, h3, (O1.pick S2 G2).2.2⟩
set_option maxRecDepth 100000 in
set_option maxHeartbeats 4000000 in
theorem fnPieceValid_walk {w0 : World} (A : Option Addr) (c : Nat) (bs : List Int) (hcap : bs.length ≤ c) (hm : bs.length ≤ maxLen) (hr : Rd w0 A (bs.map (.int .u8))) (hw : ∀ n ∈ bs, 0 ≤ n ∧ n ≤ 255) :
    Calls Try.prog 4 #[.slice A bs.length c] w0 fun e w' => e = .returned (.bool true) ∧ Below w0.heap.size w0 w' := by
  have HW := Lib.hid hw
  clear hw
  unfold maxLen at hm
  by_cases hn : bs.length ≤ 1048576
  · have hg : decide ((1048576 : Int) < (bs.length : Int)) = false := by simp; omega
    go_enter Try.func4, Try.ntmps4
    go_wp2_with fail
    refine (drawPieceValid_any A c bs _ hr HW.out hn hcap).mono ?_
    rintro e w1 ⟨B, k, ps, rfl, R1, hk, hl, -, B1⟩
    clear hg hn hm hr HW hcap
    have hmx : ps.length ≤ maxLen := by unfold maxLen; omega
    have CI := Lib.hid (fun (z : World) (R : RdC z B ps) => iPieceValid_any B k ps z R hmx hk)
    have CS := Lib.hid (fun (z : World) (R : RdC z B ps) => sPieceValid_any B k ps z R hmx hk)
    have CN : Hid (∀ z : World, Calls Try.prog 20 #[.slice none 0 0] z fun e w' => e = .returned (.bool false) ∧ Below z.heap.size z w') := fun z => by
      have := iPieceValid_any none 0 [] z (Rd.nil _ _) (by simp) (by simp)
      rw [piece_nil] at this
      exact this
    go_wp2_with fail
    refine (CI.out _ R1).mono ?_
    rintro e w2 ⟨rfl, b2⟩
    have R2 : RdC w2 B ps := Rd.belo R1 b2
    have B2 := bl_go B1 b2
    clear R1 B1 b2
    cases hv : pieceB ps with
    | true =>
      have hok : PieceOk ps := Classical.byContradiction fun hno => by rw [pieceB_f hno] at hv; cases hv
      have hl1 := hok.1.1
      obtain ⟨b, off, e1, c0, c1⟩ := RdC.at_ (w := w2) R2 (show 0 < ps.length by omega)
      subst e1
      obtain ⟨q0, hq0⟩ : ∃ q, ps[0] = q := ⟨_, rfl⟩
      have H2 := Lib.hid (piece_twice (show q0 ∈ ps by rw [← hq0]; exact List.getElem_mem _))
      have H1 := Lib.hid (piece_one hok)
      rw [hq0] at c0 c1
      simp only [Nat.zero_mul, Nat.add_zero] at c0 c1
      have C1 : Hid (∀ z : World, RdC z (some ⟨b, off, none⟩) ps → Calls Try.prog 20 #[.slice (some ⟨b, off, none⟩) 1 k] z fun e w' => e = .returned (.bool true) ∧ Below z.heap.size z w') := fun z R => by
        have := iPieceValid_any (some ⟨b, off, none⟩) k (ps.take 1) z (R.take 1) (by simp; omega) (by simp; omega)
        rw [H1.out, List.length_take, Nat.min_eq_left hl1] at this
        exact this
      have C2 : Hid (∀ (z : World) (g cap : Nat), OwnC z w2.heap.size (.slice (some ⟨g, 0, none⟩) (ps.length + 1) cap) (ps ++ [q0]) → Calls Try.prog 20 #[.slice (some ⟨g, 0, none⟩) (ps.length + 1) cap] z fun e w' => e = .returned (.bool false) ∧ Below z.heap.size z w') := fun z g cap W => by
        have := iPieceValid_any (some ⟨g, 0, none⟩) cap (ps ++ [q0]) z W.rd (by rw [List.length_append]; unfold maxLen; simp; omega) (by simpa using W.cap)
        rw [H2.out, List.length_append] at this
        exact this
      obtain ⟨x, y⟩ := q0
      simp only at c0 c1
      have HV := Lib.hid hv
      clear hv H1 H2 hq0 hok
      go_wp2_with (go_at_call 21; refine (CS.out _ R2).mono ?_; rintro e w3 ⟨rfl, b3⟩; rw [HV.out])
      have B3 := bl_go B2 b3
      have R3 : RdC w3 (some ⟨b, off, none⟩) ps := Rd.belo R2 b3
      have hbl : b < w2.heap.size := World.block_lt_of_cell? w2 ⟨b, off, none⟩ c0
      have KS := Lib.hid (fun (z : World) (hb : Below w2.heap.size w2 z) => And.intro ((hb.cell (p := ⟨b, off, none⟩) hbl).trans c0) ((hb.cell (p := ⟨b, off + 1, none⟩) hbl).trans c1))
      have KR := Lib.hid (fun (z : World) (hb : Below w2.heap.size w2 z) => (Rd.belo R2 hb : RdC z (some ⟨b, off, none⟩) ps))
      clear R3 R2 c0 c1
      have hb1 : (1 : Int) ≤ (k : Int) := by omega
      have hposN : 0 < ps.length := by omega
      refine region_anyZ (fun z => z.cell? ⟨b, off, none⟩ = some (.int .i64 x) ∧ z.cell? ⟨b, off + 1, none⟩ = some (.int .i64 y)) 26 (by kernel_rfl) ?_
      have bd : Below w2.heap.size w2 w3.drew := below_drewN' b3 1
      have B3 := below_drewN' B3 1
      change Below w0.heap.size w0 w3.drew at B3
      generalize w3.drew = wd at *
      clear b3
      have hS0 := KS.out _ bd
      refine anyZ_all [0] (by kernel_rfl) (by simp) (fun i hi => ?_)
      simp only [List.mem_cons, List.not_mem_nil, or_false] at hi
      subst hi
      refine wpOp_by 0 rfl (fun K hK => ?_)
      go_simp
      refine (CN.out _).mono ?_
      rintro e w4 ⟨rfl, b4⟩
      have bd4 := bl_go bd b4
      have hS4 := KS.out _ bd4
      have B4 := bl_go B3 b4
      clear bd b4 B3 hS0
      refine hK.out _ _ ⟨.inr hS4, ?_⟩
      clear hK K
      try simp only [Act.put, List.setIfInBounds_toArray, List.set_cons_zero, List.set_cons_succ]
      refine anyZ_take 1 (v := ?_) rfl (by kernel_rfl) (by kernel_rfl) (by kernel_rfl) (by kernel_rfl) (fun _ _ _ h => h) (by rfl) (fun w hSw => ?_) (by assumption) ?_
      rotate_left
      · obtain ⟨hs0, hs1⟩ := hSw; go_simp; try with_reducible rfl
      try simp only [Act.put, List.setIfInBounds_toArray, List.set_cons_zero, List.set_cons_succ]
      refine anyZ_take 2 (v := ?_) rfl (by kernel_rfl) (by kernel_rfl) (by kernel_rfl) (by kernel_rfl) (fun _ _ _ h => h) (by rfl) (fun w hSw => ?_) (by assumption) ?_
      rotate_left
      · obtain ⟨hs0, hs1⟩ := hSw; go_simp; try with_reducible rfl
      try simp only [Act.put, List.setIfInBounds_toArray, List.set_cons_zero, List.set_cons_succ]
      refine anyZ_take 3 (v := ?_) rfl (by kernel_rfl) (by kernel_rfl) (by kernel_rfl) (by kernel_rfl) (fun _ _ _ h => h) (by rfl) (fun w hSw => ?_) (by assumption) ?_
      rotate_left
      · obtain ⟨hs0, hs1⟩ := hSw; go_simp; try with_reducible rfl
      try simp only [Act.put, List.setIfInBounds_toArray, List.set_cons_zero, List.set_cons_succ]
      refine anyZ_take 4 (v := ?_) rfl (by kernel_rfl) (by kernel_rfl) (by kernel_rfl) (by kernel_rfl) (fun _ _ _ h => h) (by rfl) (fun w hSw => ?_) (by assumption) ?_
      rotate_left
      · obtain ⟨hs0, hs1⟩ := hSw; go_simp; try with_reducible rfl
      try simp only [Act.put, List.setIfInBounds_toArray, List.set_cons_zero, List.set_cons_succ]
      refine anyZ_take 5 (v := ?_) rfl (by kernel_rfl) (by kernel_rfl) (by kernel_rfl) (by kernel_rfl) (fun _ _ _ h => h) (by rfl) (fun w hSw => ?_) (by assumption) ?_
      rotate_left
      · obtain ⟨hs0, hs1⟩ := hSw; go_simp; try with_reducible rfl
      try simp only [Act.put, List.setIfInBounds_toArray, List.set_cons_zero, List.set_cons_succ]
      refine anyZ_take 6 (v := ?_) rfl (by kernel_rfl) (by kernel_rfl) (by kernel_rfl) (by kernel_rfl) (fun _ _ _ h => h) (by rfl) (fun w hSw => ?_) (by assumption) ?_
      rotate_left
      · obtain ⟨hs0, hs1⟩ := hSw; go_simp; try with_reducible rfl
      try simp only [Act.put, List.setIfInBounds_toArray, List.set_cons_zero, List.set_cons_succ]
      refine anyZ_take 7 (v := ?_) rfl (by kernel_rfl) (by kernel_rfl) (by kernel_rfl) (by kernel_rfl) (fun _ _ _ h => h) (by rfl) (fun w hSw => ?_) (by assumption) ?_
      rotate_left
      · obtain ⟨hs0, hs1⟩ := hSw; go_simp; try with_reducible rfl
      try simp only [Act.put, List.setIfInBounds_toArray, List.set_cons_zero, List.set_cons_succ]
      refine anyZ_all [8] (by kernel_rfl) (by simp) (fun i hi => ?_)
      simp only [List.mem_cons, List.not_mem_nil, or_false] at hi
      subst hi
      refine wpOp_by 8 rfl (fun K hK => ?_)
      go_simp
      refine (C1.out _ (KR.out _ bd4)).mono ?_
      rintro e w5 ⟨rfl, b5⟩
      have bd5 := bl_go bd4 b5
      have hS5 := KS.out _ bd5
      have B5 := bl_go B4 b5
      clear bd4 b5 B4 hS4
      refine hK.out _ _ ⟨.inr hS5, ?_⟩
      clear hK K
      try simp only [Act.put, List.setIfInBounds_toArray, List.set_cons_zero, List.set_cons_succ]
      refine anyZ_take 9 (v := ?_) rfl (by kernel_rfl) (by kernel_rfl) (by kernel_rfl) (by kernel_rfl) (fun _ _ _ h => h) (by rfl) (fun w hSw => ?_) (by assumption) ?_
      rotate_left
      · obtain ⟨hs0, hs1⟩ := hSw; go_simp; try with_reducible rfl
      try simp only [Act.put, List.setIfInBounds_toArray, List.set_cons_zero, List.set_cons_succ]
      refine anyZ_take 11 (v := ?_) rfl (by kernel_rfl) (by kernel_rfl) (by kernel_rfl) (by kernel_rfl) (fun _ _ _ h => h) (by rfl) (fun w hSw => ?_) (by assumption) ?_
      rotate_left
      · obtain ⟨hs0, hs1⟩ := hSw; go_simp; try with_reducible rfl
      try simp only [Act.put, List.setIfInBounds_toArray, List.set_cons_zero, List.set_cons_succ]
      refine anyZ_take 13 (v := ?_) rfl (by kernel_rfl) (by kernel_rfl) (by kernel_rfl) (by kernel_rfl) (fun _ _ _ h => h) (by rfl) (fun w hSw => ?_) (by assumption) ?_
      rotate_left
      · obtain ⟨hs0, hs1⟩ := hSw; go_simp; try with_reducible rfl
      try simp only [Act.put, List.setIfInBounds_toArray, List.set_cons_zero, List.set_cons_succ]
      refine anyZ_take 14 (v := ?_) rfl (by kernel_rfl) (by kernel_rfl) (by kernel_rfl) (by kernel_rfl) (fun _ _ _ h => h) (by rfl) (fun w hSw => ?_) (by assumption) ?_
      rotate_left
      · obtain ⟨hs0, hs1⟩ := hSw; go_simp; try with_reducible rfl
      try simp only [Act.put, List.setIfInBounds_toArray, List.set_cons_zero, List.set_cons_succ]
      refine anyZ_take 15 (v := ?_) rfl (by kernel_rfl) (by kernel_rfl) (by kernel_rfl) (by kernel_rfl) (fun _ _ _ h => h) (by rfl) (fun w hSw => ?_) (by assumption) ?_
      rotate_left
      · obtain ⟨hs0, hs1⟩ := hSw; go_simp; try with_reducible rfl
      try simp only [Act.put, List.setIfInBounds_toArray, List.set_cons_zero, List.set_cons_succ]
      refine anyZ_all [10,16] (by kernel_rfl) (by simp) (fun i hi => ?_)
      simp only [List.mem_cons, List.not_mem_nil, or_false] at hi
      rcases hi with rfl | rfl
      · refine wpOp_by 10 rfl (fun K hK => ?_)
        go_simp
        have W6 : OwnC (w5.alloc (.cells #[] 40)) w2.heap.size (.slice (some ⟨w5.heap.size, 0, none⟩) 0 0) [] := OwnC.nil0 bd5.size
        have bd6 := bl_alloc bd5 (.cells #[] 40)
        have B6 := bl_alloc B5 (.cells #[] 40)
        have hS6 := KS.out _ bd6
        have h56 : w5.heap.size < (w5.alloc (.cells #[] 40)).heap.size := by simp
        refine hK.out _ _ ⟨.inr hS6, ?_⟩
        clear hK K
        try simp only [Act.put, List.setIfInBounds_toArray, List.set_cons_zero, List.set_cons_succ]
        generalize w5.alloc (.cells #[] 40) = w6 at *
        generalize w5.heap.size = h5 at *
        refine anyZ_all [12,16] (by kernel_rfl) (by simp) (fun i hi => ?_)
        simp only [List.mem_cons, List.not_mem_nil, or_false] at hi
        rcases hi with rfl | rfl
        · refine wpOp_by 12 rfl (fun K hK => ?_)
          rw [if_pos (by rfl)]
          refine opw_cells _ _ _ rfl w2.heap.size _ [] rfl W6 _ ps.length k ps rfl (KR.out _ bd6) rfl hposN ps.length (by simp) (by omega) bd6.size ?_
          intro g7 cap7 w7 W7 _ b7
          have bd7 := bd6.trans b7
          have B7 := B6.trans (b7.mono B2.size)
          have hS7 := KS.out _ bd7
          refine hK.out _ _ ⟨.inr hS7, ?_⟩
          clear hK K
          try simp only [Act.put, List.setIfInBounds_toArray, List.set_cons_zero, List.set_cons_succ]
          clear hS6 b7
          refine anyZ_all [16] (by kernel_rfl) (by simp) (fun i hi => ?_)
          simp only [List.mem_cons, List.not_mem_nil, or_false] at hi
          subst hi
          refine wpOp_by 16 rfl (fun K hK => ?_)
          go_simp
          have W8 := W7.alloc (.cells #[.int .i64 x, .int .i64 y] 40)
          have one8 : RdC (w7.alloc (.cells #[.int .i64 x, .int .i64 y] 40)) (some ⟨w7.heap.size, 0, none⟩) [(x, y)] := (OwnC.one w7 (x, y)).rd
          have bd8 := bl_alloc bd7 (.cells #[.int .i64 x, .int .i64 y] 40)
          have B8 := bl_alloc B7 (.cells #[.int .i64 x, .int .i64 y] 40)
          have hS8 := KS.out _ bd8
          refine hK.out _ _ ⟨.inr hS8, ?_⟩
          clear hK K
          try simp only [Act.put, List.setIfInBounds_toArray, List.set_cons_zero, List.set_cons_succ]
          clear hS7
          have W8 : OwnC _ w2.heap.size _ ps := W8
          refine anyZ_all [17] (by kernel_rfl) (by simp) (fun i hi => ?_)
          simp only [List.mem_cons, List.not_mem_nil, or_false] at hi
          subst hi
          refine wpOp_by 17 rfl (fun K hK => ?_)
          rw [if_pos (by rfl)]
          refine opw_cells _ _ _ rfl w2.heap.size _ ps rfl W8 _ 1 1 [(x, y)] rfl one8 rfl (by omega) (ps.length + 1) rfl (by omega) bd8.size ?_
          intro g9 cap9 w9 W9 _ b9
          have bd9 := bd8.trans b9
          have B9 := B8.trans (b9.mono B2.size)
          have hS9 := KS.out _ bd9
          refine hK.out _ _ ⟨.inr hS9, ?_⟩
          clear hK K
          try simp only [Act.put, List.setIfInBounds_toArray, List.set_cons_zero, List.set_cons_succ]
          clear hS8 b9 one8 W8
          refine anyZ_all [18] (by kernel_rfl) (by simp) (fun i hi => ?_)
          simp only [List.mem_cons, List.not_mem_nil, or_false] at hi
          subst hi
          refine wpOp_by 18 rfl (fun K hK => ?_)
          go_simp
          refine (C2.out _ _ _ W9).mono ?_
          rintro e wa ⟨rfl, ba⟩
          have bda := bl_go bd9 ba
          have Ba := bl_go B9 ba
          have hSa := KS.out _ bda
          clear hS9 ba W9
          refine hK.out _ _ ⟨.inr hSa, ?_⟩
          clear hK K
          try simp only [Act.put, List.setIfInBounds_toArray, List.set_cons_zero, List.set_cons_succ]
          refine anyZ_take 19 (v := ?_) rfl (by kernel_rfl) (by kernel_rfl) (by kernel_rfl) (by kernel_rfl) (fun _ _ _ h => h) (by rfl) (fun w hSw => ?_) (by assumption) ?_
          rotate_left
          · obtain ⟨hs0, hs1⟩ := hSw; go_simp; try with_reducible rfl
          try simp only [Act.put, List.setIfInBounds_toArray, List.set_cons_zero, List.set_cons_succ]
          refine anyZ_take 20 (v := ?_) rfl (by kernel_rfl) (by kernel_rfl) (by kernel_rfl) (by kernel_rfl) (fun _ _ _ h => h) (by rfl) (fun w hSw => ?_) (by assumption) ?_
          rotate_left
          · obtain ⟨hs0, hs1⟩ := hSw; go_simp; try with_reducible rfl
          try simp only [Act.put, List.setIfInBounds_toArray, List.set_cons_zero, List.set_cons_succ]
          refine anyZ_take 21 (v := ?_) rfl (by kernel_rfl) (by kernel_rfl) (by kernel_rfl) (by kernel_rfl) (fun _ _ _ h => h) (by rfl) (fun w hSw => ?_) (by assumption) ?_
          rotate_left
          · obtain ⟨hs0, hs1⟩ := hSw; go_simp; try with_reducible rfl
          try simp only [Act.put, List.setIfInBounds_toArray, List.set_cons_zero, List.set_cons_succ]
          refine anyZ_take 22 (v := ?_) rfl (by kernel_rfl) (by kernel_rfl) (by kernel_rfl) (by kernel_rfl) (fun _ _ _ h => h) (by rfl) (fun w hSw => ?_) (by assumption) ?_
          rotate_left
          · obtain ⟨hs0, hs1⟩ := hSw; go_simp; try with_reducible rfl
          try simp only [Act.put, List.setIfInBounds_toArray, List.set_cons_zero, List.set_cons_succ]
          refine anyZ_take 23 (v := ?_) rfl (by kernel_rfl) (by kernel_rfl) (by kernel_rfl) (by kernel_rfl) (fun _ _ _ h => h) (by rfl) (fun w hSw => ?_) (by assumption) ?_
          rotate_left
          · obtain ⟨hs0, hs1⟩ := hSw; go_simp; try with_reducible rfl
          try simp only [Act.put, List.setIfInBounds_toArray, List.set_cons_zero, List.set_cons_succ]
          refine anyZ_all [24] (by kernel_rfl) (by simp) (fun i hi => ?_)
          simp only [List.mem_cons, List.not_mem_nil, or_false] at hi
          subst hi
          refine wpOp_by 24 rfl (fun K hK => ?_)
          go_simp
          refine (alive_any _).mono ?_
          rintro e wb ⟨rfl, bb⟩
          have bdb := bl_go bda bb
          have Bb := bl_go Ba bb
          have hSb := KS.out _ bdb
          clear hSa bb
          refine hK.out _ _ ⟨.inr hSb, ?_⟩
          clear hK K
          try simp only [Act.put, List.setIfInBounds_toArray, List.set_cons_zero, List.set_cons_succ]
          refine anyZ_take 25 (v := ?_) rfl (by kernel_rfl) (by kernel_rfl) (by kernel_rfl) (by kernel_rfl) (fun _ _ _ h => h) (by rfl) (fun w hSw => ?_) (by assumption) ?_
          rotate_left
          · obtain ⟨hs0, hs1⟩ := hSw; go_simp; try with_reducible rfl
          try simp only [Act.put, List.setIfInBounds_toArray, List.set_cons_zero, List.set_cons_succ]
          refine anyZ_all [26] (by kernel_rfl) (by simp) (fun i hi => ?_)
          simp only [List.mem_cons, List.not_mem_nil, or_false] at hi
          subst hi
          refine wpOp_by 26 rfl (fun K hK => ?_)
          go_simp
          refine hK.out _ _ ⟨.inl rfl, ?_⟩
          clear hK K
          try simp only [Act.put, List.setIfInBounds_toArray, List.set_cons_zero, List.set_cons_succ]
          refine anyZ_done (by kernel_rfl) ?_ _
          go_wp2
          go_ret
          exact ⟨rfl, Bb⟩
        · refine wpOp_by 16 rfl (fun K hK => ?_)
          go_simp
          have W7 := W6.alloc (.cells #[.int .i64 x, .int .i64 y] 40)
          have one7 : RdC (w6.alloc (.cells #[.int .i64 x, .int .i64 y] 40)) (some ⟨w6.heap.size, 0, none⟩) [(x, y)] := (OwnC.one w6 (x, y)).rd
          have bd7 := bl_alloc bd6 (.cells #[.int .i64 x, .int .i64 y] 40)
          have B7 := bl_alloc B6 (.cells #[.int .i64 x, .int .i64 y] 40)
          have hS7 := KS.out _ bd7
          refine hK.out _ _ ⟨.inr hS7, ?_⟩
          clear hK K
          try simp only [Act.put, List.setIfInBounds_toArray, List.set_cons_zero, List.set_cons_succ]
          clear hS6
          refine anyZ_all [12] (by kernel_rfl) (by simp) (fun i hi => ?_)
          simp only [List.mem_cons, List.not_mem_nil, or_false] at hi
          subst hi
          refine wpOp_by 12 rfl (fun K hK => ?_)
          rw [if_pos (by rfl)]
          refine opw_cells _ _ _ rfl w2.heap.size _ [] rfl W7 _ ps.length k ps rfl (KR.out _ bd7) rfl hposN ps.length (by simp) (by omega) bd7.size ?_
          intro g7 cap7 w7 W8 G8 b8
          have one8 : RdC w7 (some ⟨w6.heap.size, 0, none⟩) [(x, y)] := Rd.grownBelow one7 G8 (fun _ ad ha e => by injection ha with ha; subst ha; have e' := Option.some.inj e; simp only at e'; omega)
          have bd8 := bd7.trans b8
          have B8 := B7.trans (b8.mono B2.size)
          have hS8 := KS.out _ bd8
          refine hK.out _ _ ⟨.inr hS8, ?_⟩
          clear hK K
          try simp only [Act.put, List.setIfInBounds_toArray, List.set_cons_zero, List.set_cons_succ]
          clear hS7 b8 G8
          have W8 : OwnC _ w2.heap.size _ ps := W8
          refine anyZ_all [17] (by kernel_rfl) (by simp) (fun i hi => ?_)
          simp only [List.mem_cons, List.not_mem_nil, or_false] at hi
          subst hi
          refine wpOp_by 17 rfl (fun K hK => ?_)
          rw [if_pos (by rfl)]
          refine opw_cells _ _ _ rfl w2.heap.size _ ps rfl W8 _ 1 1 [(x, y)] rfl one8 rfl (by omega) (ps.length + 1) rfl (by omega) bd8.size ?_
          intro g9 cap9 w9 W9 _ b9
          have bd9 := bd8.trans b9
          have B9 := B8.trans (b9.mono B2.size)
          have hS9 := KS.out _ bd9
          refine hK.out _ _ ⟨.inr hS9, ?_⟩
          clear hK K
          try simp only [Act.put, List.setIfInBounds_toArray, List.set_cons_zero, List.set_cons_succ]
          clear hS8 b9 one8 W8
          refine anyZ_all [18] (by kernel_rfl) (by simp) (fun i hi => ?_)
          simp only [List.mem_cons, List.not_mem_nil, or_false] at hi
          subst hi
          refine wpOp_by 18 rfl (fun K hK => ?_)
          go_simp
          refine (C2.out _ _ _ W9).mono ?_
          rintro e wa ⟨rfl, ba⟩
          have bda := bl_go bd9 ba
          have Ba := bl_go B9 ba
          have hSa := KS.out _ bda
          clear hS9 ba W9
          refine hK.out _ _ ⟨.inr hSa, ?_⟩
          clear hK K
          try simp only [Act.put, List.setIfInBounds_toArray, List.set_cons_zero, List.set_cons_succ]
          refine anyZ_take 19 (v := ?_) rfl (by kernel_rfl) (by kernel_rfl) (by kernel_rfl) (by kernel_rfl) (fun _ _ _ h => h) (by rfl) (fun w hSw => ?_) (by assumption) ?_
          rotate_left
          · obtain ⟨hs0, hs1⟩ := hSw; go_simp; try with_reducible rfl
          try simp only [Act.put, List.setIfInBounds_toArray, List.set_cons_zero, List.set_cons_succ]
          refine anyZ_take 20 (v := ?_) rfl (by kernel_rfl) (by kernel_rfl) (by kernel_rfl) (by kernel_rfl) (fun _ _ _ h => h) (by rfl) (fun w hSw => ?_) (by assumption) ?_
          rotate_left
          · obtain ⟨hs0, hs1⟩ := hSw; go_simp; try with_reducible rfl
          try simp only [Act.put, List.setIfInBounds_toArray, List.set_cons_zero, List.set_cons_succ]
          refine anyZ_take 21 (v := ?_) rfl (by kernel_rfl) (by kernel_rfl) (by kernel_rfl) (by kernel_rfl) (fun _ _ _ h => h) (by rfl) (fun w hSw => ?_) (by assumption) ?_
          rotate_left
          · obtain ⟨hs0, hs1⟩ := hSw; go_simp; try with_reducible rfl
          try simp only [Act.put, List.setIfInBounds_toArray, List.set_cons_zero, List.set_cons_succ]
          refine anyZ_take 22 (v := ?_) rfl (by kernel_rfl) (by kernel_rfl) (by kernel_rfl) (by kernel_rfl) (fun _ _ _ h => h) (by rfl) (fun w hSw => ?_) (by assumption) ?_
          rotate_left
          · obtain ⟨hs0, hs1⟩ := hSw; go_simp; try with_reducible rfl
          try simp only [Act.put, List.setIfInBounds_toArray, List.set_cons_zero, List.set_cons_succ]
          refine anyZ_take 23 (v := ?_) rfl (by kernel_rfl) (by kernel_rfl) (by kernel_rfl) (by kernel_rfl) (fun _ _ _ h => h) (by rfl) (fun w hSw => ?_) (by assumption) ?_
          rotate_left
          · obtain ⟨hs0, hs1⟩ := hSw; go_simp; try with_reducible rfl
          try simp only [Act.put, List.setIfInBounds_toArray, List.set_cons_zero, List.set_cons_succ]
          refine anyZ_all [24] (by kernel_rfl) (by simp) (fun i hi => ?_)
          simp only [List.mem_cons, List.not_mem_nil, or_false] at hi
          subst hi
          refine wpOp_by 24 rfl (fun K hK => ?_)
          go_simp
          refine (alive_any _).mono ?_
          rintro e wb ⟨rfl, bb⟩
          have bdb := bl_go bda bb
          have Bb := bl_go Ba bb
          have hSb := KS.out _ bdb
          clear hSa bb
          refine hK.out _ _ ⟨.inr hSb, ?_⟩
          clear hK K
          try simp only [Act.put, List.setIfInBounds_toArray, List.set_cons_zero, List.set_cons_succ]
          refine anyZ_take 25 (v := ?_) rfl (by kernel_rfl) (by kernel_rfl) (by kernel_rfl) (by kernel_rfl) (fun _ _ _ h => h) (by rfl) (fun w hSw => ?_) (by assumption) ?_
          rotate_left
          · obtain ⟨hs0, hs1⟩ := hSw; go_simp; try with_reducible rfl
          try simp only [Act.put, List.setIfInBounds_toArray, List.set_cons_zero, List.set_cons_succ]
          refine anyZ_all [26] (by kernel_rfl) (by simp) (fun i hi => ?_)
          simp only [List.mem_cons, List.not_mem_nil, or_false] at hi
          subst hi
          refine wpOp_by 26 rfl (fun K hK => ?_)
          go_simp
          refine hK.out _ _ ⟨.inl rfl, ?_⟩
          clear hK K
          try simp only [Act.put, List.setIfInBounds_toArray, List.set_cons_zero, List.set_cons_succ]
          refine anyZ_done (by kernel_rfl) ?_ _
          go_wp2
          go_ret
          exact ⟨rfl, Bb⟩
      · refine wpOp_by 16 rfl (fun K hK => ?_)
        go_simp
        have one6 : RdC (w5.alloc (.cells #[.int .i64 x, .int .i64 y] 40)) (some ⟨w5.heap.size, 0, none⟩) [(x, y)] := (OwnC.one w5 (x, y)).rd
        have bd6 := bl_alloc bd5 (.cells #[.int .i64 x, .int .i64 y] 40)
        have B6 := bl_alloc B5 (.cells #[.int .i64 x, .int .i64 y] 40)
        have hS6 := KS.out _ bd6
        have h56 : w5.heap.size < (w5.alloc (.cells #[.int .i64 x, .int .i64 y] 40)).heap.size := by simp
        refine hK.out _ _ ⟨.inr hS6, ?_⟩
        clear hK K
        try simp only [Act.put, List.setIfInBounds_toArray, List.set_cons_zero, List.set_cons_succ]
        generalize w5.alloc (.cells #[.int .i64 x, .int .i64 y] 40) = w6 at *
        generalize w5.heap.size = h5 at *
        refine anyZ_all [10] (by kernel_rfl) (by simp) (fun i hi => ?_)
        simp only [List.mem_cons, List.not_mem_nil, or_false] at hi
        subst hi
        refine wpOp_by 10 rfl (fun K hK => ?_)
        go_simp
        have W7 : OwnC (w6.alloc (.cells #[] 40)) w2.heap.size (.slice (some ⟨w6.heap.size, 0, none⟩) 0 0) [] := OwnC.nil0 bd6.size
        have one7 : RdC (w6.alloc (.cells #[] 40)) (some ⟨h5, 0, none⟩) [(x, y)] := Rd.alloc one6 _
        have bd7 := bl_alloc bd6 (.cells #[] 40)
        have B7 := bl_alloc B6 (.cells #[] 40)
        have hS7 := KS.out _ bd7
        refine hK.out _ _ ⟨.inr hS7, ?_⟩
        clear hK K
        try simp only [Act.put, List.setIfInBounds_toArray, List.set_cons_zero, List.set_cons_succ]
        clear hS6
        refine anyZ_all [12] (by kernel_rfl) (by simp) (fun i hi => ?_)
        simp only [List.mem_cons, List.not_mem_nil, or_false] at hi
        subst hi
        refine wpOp_by 12 rfl (fun K hK => ?_)
        rw [if_pos (by rfl)]
        refine opw_cells _ _ _ rfl w2.heap.size _ [] rfl W7 _ ps.length k ps rfl (KR.out _ bd7) rfl hposN ps.length (by simp) (by omega) bd7.size ?_
        intro g7 cap7 w7 W8 G8 b8
        have one8 : RdC w7 (some ⟨h5, 0, none⟩) [(x, y)] := Rd.grownBelow one7 G8 (fun _ ad ha e => by injection ha with ha; subst ha; have e' := Option.some.inj e; simp only at e'; omega)
        have bd8 := bd7.trans b8
        have B8 := B7.trans (b8.mono B2.size)
        have hS8 := KS.out _ bd8
        refine hK.out _ _ ⟨.inr hS8, ?_⟩
        clear hK K
        try simp only [Act.put, List.setIfInBounds_toArray, List.set_cons_zero, List.set_cons_succ]
        clear hS7 b8 G8
        have W8 : OwnC _ w2.heap.size _ ps := W8
        refine anyZ_all [17] (by kernel_rfl) (by simp) (fun i hi => ?_)
        simp only [List.mem_cons, List.not_mem_nil, or_false] at hi
        subst hi
        refine wpOp_by 17 rfl (fun K hK => ?_)
        rw [if_pos (by rfl)]
        refine opw_cells _ _ _ rfl w2.heap.size _ ps rfl W8 _ 1 1 [(x, y)] rfl one8 rfl (by omega) (ps.length + 1) rfl (by omega) bd8.size ?_
        intro g9 cap9 w9 W9 _ b9
        have bd9 := bd8.trans b9
        have B9 := B8.trans (b9.mono B2.size)
        have hS9 := KS.out _ bd9
        refine hK.out _ _ ⟨.inr hS9, ?_⟩
        clear hK K
        try simp only [Act.put, List.setIfInBounds_toArray, List.set_cons_zero, List.set_cons_succ]
        clear hS8 b9 one8 W8
        refine anyZ_all [18] (by kernel_rfl) (by simp) (fun i hi => ?_)
        simp only [List.mem_cons, List.not_mem_nil, or_false] at hi
        subst hi
        refine wpOp_by 18 rfl (fun K hK => ?_)
        go_simp
        refine (C2.out _ _ _ W9).mono ?_
        rintro e wa ⟨rfl, ba⟩
        have bda := bl_go bd9 ba
        have Ba := bl_go B9 ba
        have hSa := KS.out _ bda
        clear hS9 ba W9
        refine hK.out _ _ ⟨.inr hSa, ?_⟩
        clear hK K
        try simp only [Act.put, List.setIfInBounds_toArray, List.set_cons_zero, List.set_cons_succ]
        refine anyZ_take 19 (v := ?_) rfl (by kernel_rfl) (by kernel_rfl) (by kernel_rfl) (by kernel_rfl) (fun _ _ _ h => h) (by rfl) (fun w hSw => ?_) (by assumption) ?_
        rotate_left
        · obtain ⟨hs0, hs1⟩ := hSw; go_simp; try with_reducible rfl
        try simp only [Act.put, List.setIfInBounds_toArray, List.set_cons_zero, List.set_cons_succ]
        refine anyZ_take 20 (v := ?_) rfl (by kernel_rfl) (by kernel_rfl) (by kernel_rfl) (by kernel_rfl) (fun _ _ _ h => h) (by rfl) (fun w hSw => ?_) (by assumption) ?_
        rotate_left
        · obtain ⟨hs0, hs1⟩ := hSw; go_simp; try with_reducible rfl
        try simp only [Act.put, List.setIfInBounds_toArray, List.set_cons_zero, List.set_cons_succ]
        refine anyZ_take 21 (v := ?_) rfl (by kernel_rfl) (by kernel_rfl) (by kernel_rfl) (by kernel_rfl) (fun _ _ _ h => h) (by rfl) (fun w hSw => ?_) (by assumption) ?_
        rotate_left
        · obtain ⟨hs0, hs1⟩ := hSw; go_simp; try with_reducible rfl
        try simp only [Act.put, List.setIfInBounds_toArray, List.set_cons_zero, List.set_cons_succ]
        refine anyZ_take 22 (v := ?_) rfl (by kernel_rfl) (by kernel_rfl) (by kernel_rfl) (by kernel_rfl) (fun _ _ _ h => h) (by rfl) (fun w hSw => ?_) (by assumption) ?_
        rotate_left
        · obtain ⟨hs0, hs1⟩ := hSw; go_simp; try with_reducible rfl
        try simp only [Act.put, List.setIfInBounds_toArray, List.set_cons_zero, List.set_cons_succ]
        refine anyZ_take 23 (v := ?_) rfl (by kernel_rfl) (by kernel_rfl) (by kernel_rfl) (by kernel_rfl) (fun _ _ _ h => h) (by rfl) (fun w hSw => ?_) (by assumption) ?_
        rotate_left
        · obtain ⟨hs0, hs1⟩ := hSw; go_simp; try with_reducible rfl
        try simp only [Act.put, List.setIfInBounds_toArray, List.set_cons_zero, List.set_cons_succ]
        refine anyZ_all [24] (by kernel_rfl) (by simp) (fun i hi => ?_)
        simp only [List.mem_cons, List.not_mem_nil, or_false] at hi
        subst hi
        refine wpOp_by 24 rfl (fun K hK => ?_)
        go_simp
        refine (alive_any _).mono ?_
        rintro e wb ⟨rfl, bb⟩
        have bdb := bl_go bda bb
        have Bb := bl_go Ba bb
        have hSb := KS.out _ bdb
        clear hSa bb
        refine hK.out _ _ ⟨.inr hSb, ?_⟩
        clear hK K
        try simp only [Act.put, List.setIfInBounds_toArray, List.set_cons_zero, List.set_cons_succ]
        refine anyZ_take 25 (v := ?_) rfl (by kernel_rfl) (by kernel_rfl) (by kernel_rfl) (by kernel_rfl) (fun _ _ _ h => h) (by rfl) (fun w hSw => ?_) (by assumption) ?_
        rotate_left
        · obtain ⟨hs0, hs1⟩ := hSw; go_simp; try with_reducible rfl
        try simp only [Act.put, List.setIfInBounds_toArray, List.set_cons_zero, List.set_cons_succ]
        refine anyZ_all [26] (by kernel_rfl) (by simp) (fun i hi => ?_)
        simp only [List.mem_cons, List.not_mem_nil, or_false] at hi
        subst hi
        refine wpOp_by 26 rfl (fun K hK => ?_)
        go_simp
        refine hK.out _ _ ⟨.inl rfl, ?_⟩
        clear hK K
        try simp only [Act.put, List.setIfInBounds_toArray, List.set_cons_zero, List.set_cons_succ]
        refine anyZ_done (by kernel_rfl) ?_ _
        go_wp2
        go_ret
        exact ⟨rfl, Bb⟩
    | false =>
      have HV := Lib.hid hv
      clear hv
      go_wp2_with (go_at_call 21; refine (CS.out _ R2).mono ?_; rintro e w3 ⟨rfl, b3⟩; rw [HV.out])
      have B3 := bl_go B2 b3
      clear R2 B2 b3
      (refine region_bw (by kernel_rfl) (by kernel_rfl) ?_; (repeat (first | go_big_quiet_skip | (go_big_quiet_want; go_big_quiet_op; first | go_big_quiet_on | (refine ⟨.bool false, fun zz => ?_, ?_⟩; (go_at_call 20; with_reducible exact zz.on (CN.out _)); go_big_quiet_on) | (refine ⟨.bool true, fun zz => ?_, ?_⟩; (go_at_call 15; with_reducible exact zz.on (alive_any _)); go_big_quiet_on)))); refine wpQuiet_nil ?_; intro wz hw'; obtain ⟨zw, hw''⟩ := hw'; subst hw'')
      go_wp2
      go_ret
      exact ⟨rfl, bl_go B3 zw.ok⟩
  · have hg : decide ((1048576 : Int) < (bs.length : Int)) = true := by simp; omega
    go_enter Try.func4, Try.ntmps4
    go_wp2
    go_ret
    exact ⟨rfl, Below.refl _ _⟩
end Go.Proofs.Ythkpiacanfajbaa

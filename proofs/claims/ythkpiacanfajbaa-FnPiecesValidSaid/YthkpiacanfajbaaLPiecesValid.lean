/- The walk of the law FnPiecesValid. -/
import Derived.Test.YthkpiacanfajbaaDrawPieces
import Derived.Test.YthkpiacanfajbaaAlive
namespace Go.Proofs.Ythkpiacanfajbaa
open Go.RowKit

theorem pieces_nil : piecesB [] = true := piecesB_t (fun k hk => by simp at hk)
theorem pieces_tail {p : List Ce} {pss : List (List Ce)} (h : piecesB (p :: pss) = true) : piecesB pss = true := by
  refine piecesB_t (fun k hk _ => ?_)
  unfold piecesB at h
  exact @of_decide_eq_true _ (Classical.propDecidable _) h _ (List.mem_cons_of_mem _ (List.getElem_mem hk))
theorem pieces_last (pss : List (List Ce)) : piecesB (pss ++ [[]]) = false := by
  refine piecesB_f pss.length (by simp) ?_
  have : (pss ++ [[]])[pss.length]'(by simp) = ([] : List Ce) := by simp
  rw [this]
  exact pieceB_f (fun h => by have := h.1.1; simp at this)
theorem OwnH.alloc {w : World} {base : Nat} {v : Value} {xs : List Value} (h : OwnH w base v xs) (o : Obj) : OwnH (w.alloc o) base v xs := by
  obtain ⟨A, c, e, h⟩ := h; exact ⟨A, c, e, h.alloc o⟩
theorem head_new (w : World) : Rd (w.alloc (.cells #[.slice none 0 0] 36)) (some ⟨w.heap.size, 0, none⟩) [.slice none 0 0] := fun _ =>
  ⟨_, rfl, fun j u hu => by rw [add_off, Nat.zero_add, cell_of_row _ _ _ _ _ _ (heap_alloc_new w _)]; simpa using hu⟩
theorem wpList_want {P : Program} {ops : Array Oper} {Q : Exit → Act → World → Prop} {a : Act} {rest : List Oper} {o : Oper} (W : World) (hw : Region.wanted o (yielded ops a.tmps) = true)
    (h : ∀ K : Act → World → Prop, (∀ a w, wpList P ops Q rest a w → K a w) → o.wp P a W K Q) : wpList P ops Q (o :: rest) a W :=
  wpList_step fun K hK => by rw [if_pos hw]; exact h K hK
set_option maxRecDepth 100000 in
set_option maxHeartbeats 2000000 in
theorem fnPiecesValid_walk {w0 : World} (A : Option Addr) (c : Nat) (bs : List Int) (hcap : bs.length ≤ c) (hm : bs.length ≤ maxLen) (hr : Rd w0 A (bs.map (.int .u8))) (hw : ∀ n ∈ bs, 0 ≤ n ∧ n ≤ 255) :
    Calls Try.prog 5 #[.slice A bs.length c] w0 fun e w' => e = .returned (.bool true) ∧ Below w0.heap.size w0 w' := by
  have HW := Lib.hid hw
  clear hw
  unfold maxLen at hm
  by_cases hn : bs.length ≤ 1048576
  · have hg : decide ((1048576 : Int) < (bs.length : Int)) = false := by simp; omega
    go_enter Try.func5, Try.ntmps5
    go_wp2_with fail
    refine (drawPiecesValid_any A c bs _ hr HW.out hn hcap).mono ?_
    rintro e w1 ⟨b, k, xs, pss, rfl, R1, H1, hk, hl, B1⟩
    clear hg hn hm hr HW hcap
    have HL := Lib.hid H1.1
    have CI : Hid (∀ (z : World) (A2 : Option Addr) (c2 : Nat) (pss2 : List (List Ce)) (n2 : Nat) (v : Bool), pss2.length = n2 → n2 ≤ 100 → (decide (n2 ≤ 6) && piecesB pss2) = v → RdSS z A2 pss2 → Calls Try.prog 23 #[.slice A2 n2 c2] z fun e w' => e = .returned (.bool v) ∧ Below z.heap.size z w') := by
      intro z A2 c2 pss2 n2 v h1 h2 h3 R
      subst h1
      subst h3
      exact iPiecesValid_any A2 c2 pss2 z R (by unfold maxLen; omega)
    have CS : Hid (∀ (z : World) (A2 : Option Addr) (c2 : Nat) (pss2 : List (List Ce)) (n2 : Nat) (v : Bool), pss2.length = n2 → n2 ≤ 100 → (decide (n2 ≤ 6) && piecesB pss2) = v → RdSS z A2 pss2 → Calls Try.prog 24 #[.slice A2 n2 c2] z fun e w' => e = .returned (.bool v) ∧ Below z.heap.size z w') := by
      intro z A2 c2 pss2 n2 v h1 h2 h3 R
      subst h1
      subst h3
      exact sPiecesValid_any A2 c2 pss2 z R (by unfold maxLen; omega)
    have C0 : Hid (∀ z : World, Calls Try.prog 23 #[.slice none 0 0] z fun e w' => e = .returned (.bool true) ∧ Below z.heap.size z w') := fun z =>
      CI.out z none 0 [] 0 true rfl (by omega) (by rw [pieces_nil]; rfl) (fun k hk => by simp at hk)
    obtain ⟨v, hv⟩ : ∃ v, (decide (xs.length ≤ 6) && piecesB pss) = v := ⟨_, rfl⟩
    have HV := Lib.hid hv
    clear hv
    go_wp2_with fail
    refine (CI.out _ _ _ pss _ v HL.out.symm (by omega) HV.out (RdSS.of R1 H1)).mono ?_
    rintro e w2 ⟨rfl, b2⟩
    have R2 := R1.belo b2
    have H2 := H1.belo b2
    have B2 := bl_go B1 b2
    clear R1 H1 B1 b2
    go_wp2_with fail
    refine (CS.out _ _ _ pss _ v HL.out.symm (by omega) HV.out (RdSS.of R2 H2)).mono ?_
    rintro e w3 ⟨rfl, b3⟩
    have R3 := R2.belo b3
    have H3 := H2.belo b3
    have B3 := bl_go B2 b3
    clear R2 H2 B2 b3
    have hvv : (v != v) = false := by simp
    have KA := Lib.hid (fun (z : World) (hb : Below w3.heap.size w3 z) => And.intro (R3.belo hb) (H3.belo hb))
    have H1C := Lib.hid H3.one
    have C9 : Hid (∀ (z : World) (g cap : Nat), Below w3.heap.size w3 z → OwnH z w3.heap.size (.slice (some ⟨g, 0, none⟩) (xs.length + 1) cap) (xs ++ [.slice none 0 0]) → Calls Try.prog 23 #[.slice (some ⟨g, 0, none⟩) (xs.length + 1) cap] z fun e w' => e = .returned (.bool false) ∧ Below z.heap.size z w') := fun z g cap hb W =>
      CI.out z (some ⟨g, 0, none⟩) cap (pss ++ [[]]) (xs.length + 1) false (by simp [HL.out]) (by omega) (by rw [pieces_last]; simp) (RdSS.of (by obtain ⟨A', c2, e', h'⟩ := W; rw [show (xs ++ [Value.slice none 0 0]).length = xs.length + 1 by simp] at h'; exact Rd.own h') ((KA.out z hb).2.add0))
    cases v with
    | false =>
      have hx0 : 0 < xs.length := by
        rcases Nat.eq_zero_or_pos xs.length with h | h
        · have hp : pss = [] := List.eq_nil_of_length_eq_zero (by have := HL.out; omega)
          have := HV.out
          rw [hp, pieces_nil, h] at this
          cases this
        · exact h
      clear hvv
      have Z4 := bl_alloc (Below.refl w3.heap.size w3) (.cells #[] 36)
      have W4 : OwnH (w3.alloc (.cells #[] 36)) w3.heap.size (.slice (some ⟨w3.heap.size, 0, none⟩) 0 0) [] := ⟨_, _, rfl, World.ownsRow_lit w3 #[] 0 (Nat.le_refl _) (by unfold maxLen; omega) (by simp)⟩
      go_wp2_with (first
        | (at_builtin; have W6 := OwnH.alloc W5 (.cells #[.slice none 0 0] 36); refine wpList_step (fun K hK => ?_); rw [if_pos (by rfl)]; refine opw_heads _ _ _ rfl w3.heap.size _ xs rfl W6 ⟨w5.heap.size, 0, none⟩ 1 1 [.slice none 0 0] rfl (head_new w5) rfl (by omega) (by simp; rfl) (xs.length + 1) rfl (by omega) Z6.size ?_; intro g7 cap7 w7 W7 b7; have Z7 := Z6.trans b7; refine hK _ _ ?_; clear hK)
        | (at_builtin; refine wpList_step (fun K hK => ?_); rw [if_pos (by rfl)]; refine opw_heads _ _ _ rfl w3.heap.size _ [] rfl W4 _ _ _ xs rfl (KA.out _ Z4).1 rfl hx0 H1C.out xs.length (by simp) (by omega) Z4.size ?_; intro g5 cap5 w5 W5 b5; have Z5 := Z4.trans b5; have Z6 := bl_alloc Z5 (.cells #[.slice none 0 0] 36); refine hK _ _ ?_; clear hK)
        | (go_at_call 23; with_reducible refine (C0.out _).mono ?_; rintro e w9 ⟨rfl, b9⟩)
        | (go_at_call 23; with_reducible refine (C9.out _ _ _ Z7 W7).mono ?_; rintro e w8 ⟨rfl, b8⟩)
        | (go_at_call 15; refine (alive_any _).mono ?_; rintro e wa ⟨rfl, ba⟩))
      go_ret
      exact ⟨rfl, bl_go (bl_go (bl_go (B3.trans (Z7.mono B3.size)) b8) b9) ba⟩
    | true =>
      have Z4 := bl_alloc (Below.refl w3.heap.size w3) (.cells #[] 36)
      have W4 : OwnH (w3.alloc (.cells #[] 36)) w3.heap.size (.slice (some ⟨w3.heap.size, 0, none⟩) 0 0) [] := ⟨_, _, rfl, World.ownsRow_lit w3 #[] 0 (Nat.le_refl _) (by unfold maxLen; omega) (by simp)⟩
      cases xs with
      | nil =>
        have hN := head_new (w3.alloc (.cells #[] 36))
        rw [show (w3.alloc (.cells #[] 36)).heap.size = w3.heap.size + 1 by simp] at hN
        simp only [List.length_nil, List.nil_append, Nat.zero_add] at C9 ⊢
        go_wp2_with (first
          | (at_builtin; (with_reducible refine wpList_want ((w3.alloc (.cells #[] 36)).alloc (.cells #[.slice none 0 0] 36)) ?_ ?_); rfl; intro K hK; have Z6 := bl_alloc Z4 (.cells #[.slice none 0 0] 36); have W6 := OwnH.alloc W4 (.cells #[.slice none 0 0] 36); refine opw_heads _ _ _ rfl w3.heap.size _ [] rfl W6 ⟨w3.heap.size + 1, 0, none⟩ 1 1 [.slice none 0 0] rfl hN rfl (by omega) (by simp; rfl) 1 rfl (by omega) Z6.size ?_; intro g7 cap7 w7 W7 b7; have Z7 := Z6.trans b7; refine hK _ _ ?_; clear hK)
          | (go_at_call 23; with_reducible refine (C0.out _).mono ?_; rintro e w9 ⟨rfl, b9⟩)
          | (go_at_call 23; with_reducible refine (C9.out _ _ _ Z7 W7).mono ?_; rintro e w8 ⟨rfl, b8⟩)
          | (go_at_call 15; refine (alive_any _).mono ?_; rintro e wa ⟨rfl, ba⟩))
        go_ret
        exact ⟨rfl, bl_go (bl_go (bl_go (B3.trans (Z7.mono B3.size)) b8) b9) ba⟩
      | cons x xs =>
        cases pss with
        | nil => exact absurd HL.out (by simp)
        | cons p pss =>
          have R5 := R3.tail
          have H5 := H3.tail
          have CT : Hid (∀ (z : World) (o c2 : Nat), (xs = [] ∨ o = 1) → Below w3.heap.size w3 z → Calls Try.prog 23 #[.slice (some ⟨b, o, none⟩) xs.length c2] z fun e w' => e = .returned (.bool true) ∧ Below z.heap.size z w') := fun z o c2 ho hb =>
            CI.out z (some ⟨b, o, none⟩) c2 pss xs.length true H5.1.symm (by simp at hl; omega) (by
              have hv := HV.out
              rw [Bool.and_eq_true, decide_eq_true_eq] at hv
              rw [Bool.and_eq_true, decide_eq_true_eq]
              exact ⟨by have := hv.1; simp at this; omega, pieces_tail hv.2⟩) (by
                rcases ho with h | h
                · intro i hi
                  have := H5.1
                  rw [h] at this
                  simp at this
                  omega
                · subst h; exact RdSS.of (R5.belo hb) (H5.belo hb))
          have hbe : ((xs.length : Int) + 1 == 0) = false := by simp; omega
          have hmx := H1C.out
          rcases (show (k = 1 ∧ xs = []) ∨ 1 < k from by
            rcases Nat.lt_or_ge 1 k with h | h
            · exact .inr h
            · simp at hk
              exact .inl ⟨by omega, List.eq_nil_of_length_eq_zero (by omega)⟩) with ⟨rfl, rfl⟩ | h1k
          · simp only [List.length_cons, List.length_nil, Nat.zero_add] at C9
            go_wp2_with fail
            refine (CT.out _ 0 _ (Or.inl (by first | trivial | rfl)) (Below.refl _ _)).mono ?_
            rintro e wt ⟨rfl, bt⟩
            have Z3 := bl_alloc bt (.cells #[] 36)
            have W3 : OwnH (wt.alloc (.cells #[] 36)) w3.heap.size (.slice (some ⟨wt.heap.size, 0, none⟩) 0 0) [] := ⟨_, _, rfl, World.ownsRow_lit wt #[] 0 bt.size (by unfold maxLen; omega) (by simp)⟩
            go_wp2_with (first
              | (at_builtin; have W6 := OwnH.alloc W5 (.cells #[.slice none 0 0] 36); refine wpList_step (fun K hK => ?_); rw [if_pos (by rfl)]; refine opw_heads _ _ _ rfl w3.heap.size _ [x] rfl W6 ⟨w5.heap.size, 0, none⟩ 1 1 [.slice none 0 0] rfl (head_new w5) rfl (by omega) (by simp; rfl) (2) rfl (by simp at hl; omega) Z6.size ?_; intro g7 cap7 w7 W7 b7; have Z7 := Z6.trans b7; refine hK _ _ ?_; clear hK)
              | (at_builtin; refine wpList_step (fun K hK => ?_); rw [if_pos (by rfl)]; refine opw_heads _ _ _ rfl w3.heap.size _ [] rfl W3 _ _ _ [x] rfl (KA.out _ Z3).1 rfl (by omega) hmx (1) (by simp) (by simp at hl; omega) Z3.size ?_; intro g5 cap5 w5 W5 b5; have Z5 := Z3.trans b5; have Z6 := bl_alloc Z5 (.cells #[.slice none 0 0] 36); refine hK _ _ ?_; clear hK)
              | (go_at_call 23; with_reducible refine (C0.out _).mono ?_; rintro e w9 ⟨rfl, b9⟩)
              | (go_at_call 23; with_reducible refine (C9.out _ _ _ Z7 W7).mono ?_; rintro e w8 ⟨rfl, b8⟩)
              | (go_at_call 15; refine (alive_any _).mono ?_; rintro e wa ⟨rfl, ba⟩))
            go_ret
            exact ⟨rfl, bl_go (bl_go (bl_go (B3.trans (Z7.mono B3.size)) b8) b9) ba⟩
          · simp only [List.length_cons] at C9
            go_wp2_with fail
            refine (CT.out _ 1 _ (.inr rfl) (Below.refl _ _)).mono ?_
            rintro e wt ⟨rfl, bt⟩
            have Z3 := bl_alloc bt (.cells #[] 36)
            have W3 : OwnH (wt.alloc (.cells #[] 36)) w3.heap.size (.slice (some ⟨wt.heap.size, 0, none⟩) 0 0) [] := ⟨_, _, rfl, World.ownsRow_lit wt #[] 0 bt.size (by unfold maxLen; omega) (by simp)⟩
            go_wp2_with (first
              | (at_builtin; have W6 := OwnH.alloc W5 (.cells #[.slice none 0 0] 36); refine wpList_step (fun K hK => ?_); rw [if_pos (by rfl)]; refine opw_heads _ _ _ rfl w3.heap.size _ (x :: xs) rfl W6 ⟨w5.heap.size, 0, none⟩ 1 1 [.slice none 0 0] rfl (head_new w5) rfl (by omega) (by simp; rfl) (xs.length + 1 + 1) rfl (by simp at hl; omega) Z6.size ?_; intro g7 cap7 w7 W7 b7; have Z7 := Z6.trans b7; refine hK _ _ ?_; clear hK)
              | (at_builtin; refine wpList_step (fun K hK => ?_); rw [if_pos (by rfl)]; refine opw_heads _ _ _ rfl w3.heap.size _ [] rfl W3 _ _ _ (x :: xs) rfl (KA.out _ Z3).1 rfl (by omega) hmx (xs.length + 1) (by simp) (by simp at hl; omega) Z3.size ?_; intro g5 cap5 w5 W5 b5; have Z5 := Z3.trans b5; have Z6 := bl_alloc Z5 (.cells #[.slice none 0 0] 36); refine hK _ _ ?_; clear hK)
              | (go_at_call 23; with_reducible refine (C0.out _).mono ?_; rintro e w9 ⟨rfl, b9⟩)
              | (go_at_call 23; with_reducible refine (C9.out _ _ _ Z7 W7).mono ?_; rintro e w8 ⟨rfl, b8⟩)
              | (go_at_call 15; refine (alive_any _).mono ?_; rintro e wa ⟨rfl, ba⟩))
            go_ret
            exact ⟨rfl, bl_go (bl_go (bl_go (B3.trans (Z7.mono B3.size)) b8) b9) ba⟩
  · have hg : decide ((1048576 : Int) < (bs.length : Int)) = true := by simp; omega
    go_enter Try.func5, Try.ntmps5
    go_wp2
    go_ret
    exact ⟨rfl, Below.refl _ _⟩
end Go.Proofs.Ythkpiacanfajbaa

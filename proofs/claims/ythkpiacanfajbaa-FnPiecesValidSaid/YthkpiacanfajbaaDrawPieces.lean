/- Contract: spec.DrawPiecesValid: some list of lists of cells. -/
import Derived.Test.YthkpiacanfajbaaDrawPiece
import Derived.Test.YthkpiacanfajbaaCellss
import Derived.Deep.AppendLies
namespace Go.Proofs.Ythkpiacanfajbaa
open Go.RowKit

theorem Try.infoSC : (Try.prog.info? 36).map (fun i => (i.zero, i.size, i.bytes)) = some (some (.slice none 0 0), 1, 24) := by kernel_rfl
/-- a list of heads of its own -/
def OwnH (w : World) (base : Nat) (v : Value) (xs : List Value) : Prop :=
  ∃ (A : Option Addr) (c : Nat), v = .slice A xs.length c ∧ w.ownsRow base 36 1 v xs.length xs
/-- the heads read as the lists -/
def HeadsR (w : World) (xs : List Value) (pss : List (List Ce)) : Prop :=
  xs.length = pss.length ∧ ∀ k (h : k < pss.length), ∃ (B : Option Addr) (c' : Nat), xs[k]? = some (.slice B pss[k].length c') ∧ pss[k].length ≤ c' ∧ pss[k].length ≤ 7 ∧ RdC w B pss[k]
theorem HeadsR.belo {w w' : World} {xs : List Value} {pss : List (List Ce)} (h : HeadsR w xs pss) (hb : Below w.heap.size w w') : HeadsR w' xs pss :=
  ⟨h.1, fun k hk => by obtain ⟨B, c', h1, h2, h3, h4⟩ := h.2 k hk; exact ⟨B, c', h1, h2, h3, Rd.belo h4 hb⟩⟩
theorem RdSS.of {w : World} {b off : Nat} {xs : List Value} {pss : List (List Ce)} (hr : Rd w (some ⟨b, off, none⟩) xs) (h : HeadsR w xs pss) : RdSS w (some ⟨b, off, none⟩) pss := fun k hk => by
  obtain ⟨B, c', h1, h2, h3, h4⟩ := h.2 k hk
  have hkx : k < xs.length := by have := h.1; omega
  obtain ⟨ad, e, hc⟩ := hr (by intro e; rw [e] at hkx; simp at hkx)
  injection e with e
  subst e
  have := hc k _ h1
  rw [add_off] at this
  exact ⟨b, off, B, c', rfl, this, h2, by unfold maxLen; omega, h4⟩
section
variable {ops : Array Oper} {rest : List Oper} {o : Oper} {a : Act} {Q : Exit → Act → World → Prop}
theorem app_head (w : World) (hgd : o.guard = none) (s x : Operand) (ho : o.op = .call { callee := .builtin .append, args := #[s, x], argTypes := #[41, 41] })
    (base : Nat) (v : Value) (xs : List Value) (hs : a.eval s = v) (hown : OwnH w base v xs) (B : Option Addr) (n c : Nat) (hx : a.eval x = .slice (some ⟨w.heap.size, 0, none⟩) 1 1) (hn : xs.length ≤ 1000000000) (hbase : base ≤ w.heap.size)
    (h : ∀ (g c' : Nat) (w' : World), OwnH w' base (.slice (some ⟨g, 0, none⟩) (xs.length + 1) c') (xs ++ [.slice B n c]) → (w.alloc (.cells #[.slice B n c] 36)).grownBy w' v.ownBlock → (v.ownBlock = some g ∨ g = w.heap.size + 1) → g < w'.heap.size → wpList Try.prog ops Q rest (a.put o.dst (.slice (some ⟨g, 0, none⟩) (xs.length + 1) c')) w') :
    wpList Try.prog ops Q (o :: rest) a (w.alloc (.cells #[.slice B n c] 36)) := by
  obtain ⟨i0, hi, hz0, hz1, hz2⟩ := info_parts Try.infoSC
  obtain ⟨A, c0, e, hown⟩ := hown
  refine wpList_append_lies _ hgd s x 41 ho base 36 i0 _ 1 24 Try.underlying41 hi hz0 hz1 hz2 rfl (by decide) v _ _ hs (hown.alloc _) ⟨w.heap.size, 0, none⟩ 1 1 [.slice B n c] hx rfl ?_ ?_ (by decide) ?_ ?_ (by simp; omega) (w.heap.size + 1) (by simp) ?_
  · intro j y hj
    rw [add_off, Nat.zero_add, cell_of_row _ _ _ _ _ _ (heap_alloc_new w _)]
    simpa using hj
  · intro y hy; simp at hy; subst hy; rfl
  · unfold maxLen; omega
  · omega
  · intro g cap w' h1 h2 h3 h4
    refine h g cap w' ⟨some ⟨g, 0, none⟩, cap, by simp, ?_⟩ h2 h3 h4
    have e2 : (xs ++ [Value.slice B n c]).length = xs.length + 1 := by simp
    rw [e2]; exact h1
theorem opw_heads {K : Act → World → Prop} (W : World) (s x : Operand) (ho : o.op = .call { callee := .builtin .append, args := #[s, x], argTypes := #[41, 41] })
    (base : Nat) (v : Value) (xs : List Value) (hs : a.eval s = v) (hown : OwnH W base v xs) (B : Addr) (n c : Nat) (ys : List Value) (hx : a.eval x = .slice (some B) n c) (hq : Rd W (some B) ys) (hl : ys.length = n) (h0 : 0 < n) (h1 : ∀ u ∈ ys, u.oneCell' = true) (m : Nat) (hm : m = xs.length + n) (hm2 : m ≤ 1000000000) (hbase : base ≤ W.heap.size)
    (h : ∀ g cap w', OwnH w' base (.slice (some ⟨g, 0, none⟩) m cap) (xs ++ ys) → Below base W w' → K (a.put o.dst (.slice (some ⟨g, 0, none⟩) m cap)) w') : Oper.wp Try.prog o a W K Q := by
  obtain ⟨i0, hi, hz0, hz1, hz2⟩ := info_parts Try.infoSC
  obtain ⟨A, c', e, hown⟩ := hown
  obtain ⟨ad, e2, hc⟩ := hq (by intro e; rw [e] at hl; simp at hl; omega)
  injection e2 with e2
  subst e2
  refine wp_append_lies W s x 41 ho base 36 i0 _ 1 24 Try.underlying41 hi hz0 hz1 hz2 rfl (by decide) v xs.length xs hs hown B n c ys hx (by omega) hc h1 h0 (by unfold maxLen; omega) (by omega) hbase _ rfl ?_
  intro g cap w' k1 k2 k3 _
  subst hm
  refine h g cap w' ⟨some ⟨g, 0, none⟩, cap, by rw [List.length_append, hl], ?_⟩ ((Below.refl base W).grown k2 hbase (fun k hk => (hown.lt k hk).1))
  rw [List.length_append, hl]
  exact k1
end
theorem HeadsR.one {w : World} {xs : List Value} {pss : List (List Ce)} (h : HeadsR w xs pss) : ∀ u ∈ xs, u.oneCell' = true := fun u hu => by
  obtain ⟨i, hi, e⟩ := List.getElem_of_mem hu
  obtain ⟨B, c', h1, -⟩ := h.2 i (by have := h.1; omega)
  rw [List.getElem?_eq_getElem hi, e] at h1
  injection h1 with h1
  rw [h1]; rfl
theorem HeadsR.add0 {w : World} {xs : List Value} {pss : List (List Ce)} (h : HeadsR w xs pss) : HeadsR w (xs ++ [.slice none 0 0]) (pss ++ [[]]) := by
  have hl := h.1
  refine ⟨by simp [hl], fun i hi => ?_⟩
  rcases Nat.lt_or_ge i pss.length with h1 | h1
  · obtain ⟨B', c2, e1, e2, e3, e4⟩ := h.2 i h1
    have eg : (pss ++ [[]])[i] = pss[i] := List.getElem_append_left h1
    rw [eg]
    exact ⟨B', c2, by rw [List.getElem?_append_left (by omega)]; exact e1, e2, e3, e4⟩
  · have hi2 : i = pss.length := by simp at hi; omega
    subst hi2
    have eg : (pss ++ [[]])[pss.length] = ([] : List Ce) := by simp
    rw [eg]
    exact ⟨none, 0, by rw [← hl, List.getElem?_append_right (Nat.le_refl _)]; simp, by simp, by simp, Rd.nil _ _⟩
theorem HeadsR.tail {w : World} {x : Value} {xs : List Value} {p : List Ce} {pss : List (List Ce)} (h : HeadsR w (x :: xs) (p :: pss)) : HeadsR w xs pss :=
  ⟨by have := h.1; simpa using this, fun i hi => by
    obtain ⟨B, c', h1, h2, h3, h4⟩ := h.2 (i + 1) (by simp; omega)
    exact ⟨B, c', by simpa using h1, by simpa using h2, by simpa using h3, by simpa using h4⟩⟩
theorem Rd.tail {w : World} {b off : Nat} {x : Value} {xs : List Value} (h : Rd w (some ⟨b, off, none⟩) (x :: xs)) : Rd w (some ⟨b, off + 1, none⟩) xs := fun hne => by
  obtain ⟨ad, e, hc⟩ := h (by simp)
  injection e with e
  subst e
  refine ⟨_, rfl, fun j u hu => ?_⟩
  have := hc (j + 1) u (by simpa using hu)
  rw [add_off] at this ⊢
  rw [show off + 1 + j = off + (j + 1) by omega]; exact this
/-- lists under way: where each lies -/
def Parts (w : World) (base : Nat) (v : Value) (xs : List Value) : Prop :=
  ∀ (k : Nat) (ad : Addr) (n c : Nat), xs[k]? = some (Value.slice (some ad) n c) → base ≤ ad.block ∧ ad.block < w.heap.size ∧ v.ownBlock ≠ some ad.block
/-- the heads' lists are kept where only another block is written -/
theorem HeadsR.grown {w w' : World} {base : Nat} {v : Value} {xs : List Value} {pss : List (List Ce)} {row : Option Nat} (h : HeadsR w xs pss) (hp : Parts w base v xs) (hg : w.grownBy w' row) (hrow : row = v.ownBlock ∨ ∃ g, row = some g ∧ g < base) : HeadsR w' xs pss :=
  ⟨h.1, fun k hk => by
    obtain ⟨B, c', h1, h2, h3, h4⟩ := h.2 k hk
    refine ⟨B, c', h1, h2, h3, Rd.grownBelow h4 hg (fun _ ad ha e => ?_)⟩
    subst ha
    obtain ⟨k1, k2, k3⟩ := hp k ad _ _ h1
    rcases hrow with rfl | ⟨g, rfl, hlt⟩
    · exact k3 e.symm
    · have : ad.block = g := Option.some.inj e
      omega⟩
theorem Parts.grown {w w' : World} {base : Nat} {v : Value} {xs : List Value} (hp : Parts w base v xs) (hs : w.heap.size ≤ w'.heap.size) : Parts w' base v xs := fun k ad n c e => by
  obtain ⟨h1, h2, h3⟩ := hp k ad n c e
  exact ⟨h1, by omega, h3⟩
set_option maxRecDepth 100000 in
set_option maxHeartbeats 4000000 in
theorem drawPiecesValid_any (A : Option Addr) (c : Nat) (bs : List Int) (w : World) (hr : Rd w A (bs.map (.int .u8))) (hw : ∀ x ∈ bs, 0 ≤ x ∧ x ≤ 255) (hn : bs.length ≤ 1048576) (hcap : bs.length ≤ c) :
    Calls Try.prog 22 #[.slice A bs.length c] w fun e w' => ∃ (b c' : Nat) (xs : List Value) (pss : List (List Ce)), e = .returned (.slice (some ⟨b, 0, none⟩) xs.length c') ∧ Rd w' (some ⟨b, 0, none⟩) xs ∧ HeadsR w' xs pss ∧ xs.length ≤ c' ∧ xs.length ≤ 7 ∧ Below w.heap.size w w' := by
  go_enter Try.func22, Try.ntmps22
  go_wp2_with fail
  refine (open_any A c bs _ hr hw hn hcap).mono ?_
  rintro e w1 ⟨g, A1, c1, by1, rfl, O1⟩
  clear hr hw hn hcap
  have hA1 : by1 ≠ [] → ∀ ad, A1 = some ad → ad.block < w1.heap.size := fun hne ad ha => O1.1.2.1.lt ha (by simpa using hne)
  have hg1 := O1.lt
  have hB1 := O1.2.2.size
  go_wp2_with fail
  have O2 := O1.belo ((Below.refl w1.heap.size w1).alloc (Nat.le_refl _) (.cells #[] 36))
  have W2 : OwnH (w1.alloc (.cells #[] 36)) w1.heap.size (.slice (some ⟨w1.heap.size, 0, none⟩) 0 0) [] := ⟨_, _, rfl, World.ownsRow_lit w1 #[] 0 (Nat.le_refl _) (by unfold maxLen; omega) (by simp)⟩
  have hz2 : w1.heap.size < (w1.alloc (.cells #[] 36)).heap.size := by simp
  clear O1
  generalize w1.alloc (.cells #[] 36) = w2 at *
  generalize w1.heap.size = L0 at *
  refine (pick_any 8 _ g A1 c1 by1 0 O2.1 (by omega) (by omega)).mono ?_
  rintro e w3 ⟨r3, rfl, ⟨p3, q3⟩, S3, G3⟩
  have O3 := O2.pick S3 G3
  have W3 : OwnH w3 L0 (.slice (some ⟨L0, 0, none⟩) 0 0) [] := by
    obtain ⟨A', c', e', h'⟩ := W2
    exact ⟨A', c', e', h'.kept G3 (.inr (by simp [Value.ownBlock]; omega))⟩
  have hz3 := G3.size
  have q3' : r3 ≤ 7 := by omega
  clear q3 S3 G3 O2 W2
  go_wp2_with fail
  go_loopw [4, 5] (fun v i wr => ∃ (xs : List Value) (pss : List (List Ce)) (b c' k q : Nat), i = .int .i64 k ∧ v = .slice (some ⟨b, 0, none⟩) xs.length c' ∧ xs.length + k ≤ 7 ∧ OwnH wr L0 v xs ∧ HeadsR wr xs pss ∧ Parts wr L0 v xs ∧ q + 21 * k ≤ 200 ∧ Opn w g A1 c1 by1 q wr ∧ L0 < wr.heap.size) (fun _ i _ => (intOf i).toNat)
  case atStart =>
    obtain ⟨k, rfl⟩ := Int.eq_ofNat_of_zero_le p3
    exact ⟨[], [], L0, 0, k, 1, rfl, rfl, by simp; omega, W3, ⟨rfl, fun k h => by simp at h⟩, fun k ad n c e => by simp at e, by omega, O3, by omega⟩
  case round =>
    clear O3 W3
    obtain ⟨xs, pss, b, c', k, q, rfl, rfl, hl, W4, H4, P4, hq, O4, hz4⟩ := hrel
    by_cases h0 : 0 < k
    · have hk0 : (0 : Int) < (k : Int) := by omega
      obtain ⟨wo, hwo⟩ : ∃ wo : World, wo = wr := ⟨_, rfl⟩
      subst hwo
      have hbL : L0 ≤ b ∧ b < wo.heap.size := by obtain ⟨A', c2, e', h'⟩ := id W4; exact h'.lt b rfl
      go_wp2_with fail
      refine (piece_any g A1 c1 by1 q 5 20 _ O4.1 O4.lt (by omega) (by omega) (by omega)).mono ?_
      rintro e w5 ⟨B, cB, ps, p5, rfl, W5, h51, h52, -, S5, hp5, G5⟩
      have O5 := O4.pick S5 G5
      have H5 : HeadsR w5 xs pss := H4.grown P4 G5 (.inr ⟨g, rfl, hg1⟩)
      have P5 := P4.grown G5.size
      have W6 : OwnH w5 L0 (.slice (some ⟨b, 0, none⟩) xs.length c') xs := by
        obtain ⟨A', c2, e', h'⟩ := W4
        exact ⟨A', c2, e', h'.kept G5 (.inr (by simp [Value.ownBlock]; omega))⟩
      have R5 : RdC w5 B ps := W5.rd
      have L5 : ∀ ad, B = some ad → wo.heap.size ≤ ad.block ∧ ad.block < w5.heap.size := fun ad ha => by
        subst ha
        obtain ⟨A', c2, e', h'⟩ := id W5
        exact h'.lt ad.block rfl
      have hz5 := G5.size
      clear W4 H4 P4 O4 S5 G5 W5
      go_wp2_with (at_builtin; refine app_head _ rfl _ _ rfl L0 _ xs rfl W6 B ps.length cB rfl (by omega) (by omega) ?_; intro g6 c6 w6 W7 G7 hg7 hlt7)
      have bz := bl_alloc (Below.refl w5.heap.size w5) (.cells #[.slice B ps.length cB] 36)
      have O6 := O5.belo bz
      have H6 := (H5.belo bz).grown (P5.grown bz.size) G7 (.inl rfl)
      have R6 : RdC w6 B ps := Rd.grownBelow (Rd.belo R5 bz) G7 (fun _ ad ha e => by have := L5 ad ha; have e' : ad.block = b := Option.some.inj e; omega)
      have S6 : RdS w6 g A1 c1 by1 p5 := ⟨(G7.block g O6.lt (fun e => by have e' : g = b := Option.some.inj e; omega)).trans O6.1.1, Rd.grownBelow O6.1.2.1 G7 (fun hne ad ha e => by have := hA1 (by simpa using hne) ad ha; have e' : ad.block = b := Option.some.inj e; omega), O6.1.2.2⟩
      have F6 : Opn w g A1 c1 by1 p5 w6 := ⟨S6, O6.2.1, O6.2.2.grown G7 O6.2.2.size (fun k hk => by have e' : b = k := Option.some.inj hk; omega)⟩
      have hlen : pss.length = xs.length := H6.1.symm
      have HD : HeadsR w6 (xs ++ [.slice B ps.length cB]) (pss ++ [ps]) := by
        refine ⟨by simp [hlen], fun i hi => ?_⟩
        rcases Nat.lt_or_ge i pss.length with h1 | h1
        · obtain ⟨B', c2, e1, e2, e3, e4⟩ := H6.2 i h1
          have eg : (pss ++ [ps])[i] = pss[i] := List.getElem_append_left h1
          rw [eg]
          exact ⟨B', c2, by rw [List.getElem?_append_left (by omega)]; exact e1, e2, e3, e4⟩
        · have hi2 : i = pss.length := by simp at hi; omega
          subst hi2
          have eg : (pss ++ [ps])[pss.length] = ps := by simp
          rw [eg]
          exact ⟨B, cB, by rw [hlen, List.getElem?_append_right (Nat.le_refl _)]; simp, h51, h52, R6⟩
      have PD : Parts w6 L0 (.slice (some ⟨g6, 0, none⟩) (xs.length + 1) c6) (xs ++ [.slice B ps.length cB]) := by
        intro i ad n' c2 e
        have hs6 : w5.heap.size ≤ w6.heap.size := Nat.le_trans bz.size G7.size
        have hg6 : g6 = b ∨ g6 = w5.heap.size + 1 := by
          rcases hg7 with h | h
          · exact .inl (Option.some.inj h).symm
          · exact .inr h
        rcases Nat.lt_or_ge i xs.length with h1 | h1
        · rw [List.getElem?_append_left h1] at e
          obtain ⟨k1, k2, k3⟩ := P5 i ad _ _ e
          refine ⟨k1, by omega, fun e2 => ?_⟩
          have e3 : g6 = ad.block := Option.some.inj e2
          rcases hg6 with h | h
          · exact k3 (by show some b = some ad.block; rw [← h, e3])
          · omega
        · rw [List.getElem?_append_right h1] at e
          have hi2 : i - xs.length = 0 := by
            rcases Nat.eq_zero_or_pos (i - xs.length) with h | h
            · exact h
            · rw [List.getElem?_eq_none (by simp; omega)] at e; cases e
          rw [hi2] at e
          simp at e
          obtain ⟨rfl, -, -⟩ := e
          have := L5 ad rfl
          refine ⟨by omega, by omega, fun e2 => ?_⟩
          have e3 : g6 = ad.block := Option.some.inj e2
          omega
      have hlx : (xs ++ [Value.slice B ps.length cB]).length = xs.length + 1 := by simp
      go_roundw
      case rel => exact ⟨xs ++ [.slice B ps.length cB], pss ++ [ps], g6, c6, k - 1, p5, by go_num, by rw [hlx], by rw [hlx]; omega, W7, HD, PD, by omega, F6, by have := G7.size; have := bz.size; omega⟩
      case measure => simp [intOf]; omega
    · obtain rfl : k = 0 := by omega
      have hRd : Rd wr (some ⟨b, 0, none⟩) xs := by
        obtain ⟨A', c2, e', h'⟩ := id W4
        exact Rd.own h'
      have hcp : xs.length ≤ c' := by
        obtain ⟨A', c2, e', h'⟩ := id W4
        rcases h'.2 with ⟨h2, h0⟩ | ⟨g', cap', cur, h2, _, _, hle, _⟩
        · cases h2
        · injection h2 with h21 h22 h23; omega
      go_wp2
      go_ret
      exact ⟨b, c', xs, pss, rfl, hRd, H4, hcp, by omega, O4.2.2⟩
end Go.Proofs.Ythkpiacanfajbaa

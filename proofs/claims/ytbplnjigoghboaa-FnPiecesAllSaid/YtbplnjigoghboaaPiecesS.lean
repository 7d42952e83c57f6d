/- Contract: the reference's PiecesAll: the state of its loops, the append of a whole list, the small cases. -/
import Derived.Test.YtbplnjigoghboaaPiecesG
import Derived.Test.YtbplnjigoghboaaFormU
import Derived.Test.YtbplnjigoghboaaDrawPiece
import Derived.Deep.RegionLaw
import Derived.Deep.Cut
namespace Go.Proofs.Ytbplnjigoghboaa
open Go.RowKit Go.Sort

section
variable {ops : Array Oper} {rest : List Oper} {o : Oper} {a : Act} {Q : Exit → Act → World → Prop}
/-- a whole list of cells is appended -/
theorem step_app_cells {K : Act → World → Prop} {E : Prop} (W : World) (hgd : o.guard = none) (s x : Operand) (ho : o.op = .call { callee := .builtin .append, args := #[s, x], argTypes := #[31, 31] })
    (base : Nat) (v : Value) (ps : List Ce) (hs : a.eval s = v) (hown : OwnC W base v ps) (qs : List Ce) (b off n c : Nat) (hx : a.eval x = .slice (some ⟨b, off, none⟩) n c) (hq : RdC W (some ⟨b, off, none⟩) qs) (hl : qs.length = n) (h0 : 0 < n) (hn2 : n ≤ 1000000) (hn : ps.length ≤ 1000000000000) (hbase : base ≤ W.heap.size)
    (h : ∀ (g c' : Nat) (w' : World), OwnC w' base (.slice (some ⟨g, 0, none⟩) (ps.length + n) c') (ps ++ qs) → W.grownBy w' v.ownBlock → (v.ownBlock = some g ∨ g = W.heap.size) → K (a.put o.dst (.slice (some ⟨g, 0, none⟩) (ps.length + n) c')) w') :
    if Region.wanted o (yielded ops a.tmps) = true then Oper.wp Try.prog o a W K Q else E := by
  obtain ⟨i0, hi, hz0, hz1, hz2⟩ := info_parts Try.infoC
  obtain ⟨A, c0, e, hown⟩ := hown
  have hcl := cellsV_len qs
  obtain ⟨ad, ea, hcq⟩ := hq (by intro e; rw [e] at hcl; simp at hcl; omega)
  injection ea with ea
  subst ea
  refine step_append_lies _ hgd s x 31 ho base 72 i0 _ 2 16 Try.underlying31 hi hz0 hz1 hz2 rfl (by decide) v _ _ hs hown ⟨b, off, none⟩ n c (cellsV qs) hx (by rw [hcl, hl]) ?_ ?_ h0 ?_ ?_ ?_ _ rfl ?_
  · intro j y hj; exact hcq j y hj
  · intro y hy
    unfold cellsV at hy
    rw [List.mem_flatMap] at hy
    obtain ⟨q, -, hy⟩ := hy
    simp at hy; rcases hy with rfl | rfl <;> rfl
  · unfold maxLen; omega
  · omega
  · exact hbase
  · intro g cap w' h1 h2 h3 _
    rw [← cellsV_append] at h1
    refine h _ _ w' ⟨_, _, by rw [List.length_append, hl], ?_⟩ h2 h3
    have e2 : (ps ++ qs).length = ps.length + n := by rw [List.length_append, hl]
    rw [e2]; exact h1
end

/-- the list of the forms found, in order -/
structure OutS (wo wr : World) (M : Nat) (G F : List (List Ce)) (N : Nat) (xs : List Value) (b c' : Nat) : Prop where
  is : F = incOf G
  each : ∀ q ∈ G, q.length = M
  len : F.length = N
  cap : N ≤ c'
  rd : Rd wr (some ⟨b, 0, none⟩) xs
  hd : HeadsN wr xs F
  ok : Below wo.heap.size wo wr
theorem OutS.belo {wo wr w2 : World} {M N b c' : Nat} {G F : List (List Ce)} {xs : List Value} (h : OutS wo wr M G F N xs b c') (hb : Below wr.heap.size wr w2) : OutS wo w2 M G F N xs b c' :=
  ⟨h.is, h.each, h.len, h.cap, h.rd.belo hb, h.hd.belo hb, bl_go h.ok hb⟩
theorem OutS.cast {wo wr : World} {M N b c' : Nat} {G G' F : List (List Ce)} {xs : List Value} (h : OutS wo wr M G F N xs b c') (e : G = G') : OutS wo wr M G' F N xs b c' := e ▸ h
theorem OutS.xlen {wo wr : World} {M N b c' : Nat} {G F : List (List Ce)} {xs : List Value} (h : OutS wo wr M G F N xs b c') : xs.length = N := by rw [h.hd.1, h.len]
theorem OutS.lens {wo wr : World} {M N b c' : Nat} {G F : List (List Ce)} {xs : List Value} (h : OutS wo wr M G F N xs b c') : ∀ q ∈ F, q.length = M := fun q hq => by
  rw [h.is, incOf_mem] at hq
  exact h.each q hq
theorem OutS.keep {wo wr w2 : World} {M N b c' : Nat} {G F : List (List Ce)} {xs : List Value} {x : List Ce} (h : OutS wo wr M G F N xs b c') (hx : x.length = M) (hi : insF x F = F) (hb : Below wr.heap.size wr w2) : OutS wo w2 M (G ++ [x]) F N xs b c' := by
  refine ⟨?_, ?_, h.len, h.cap, h.rd.belo hb, h.hd.belo hb, bl_go h.ok hb⟩
  · rw [incOf_snoc, ← h.is, hi]
  · intro q hq
    rcases List.mem_append.1 hq with h1 | h1
    · exact h.each q h1
    · obtain rfl : q = x := by simpa using h1
      exact hx
theorem OutS.put {wo wr w2 : World} {M N b c' : Nat} {G F : List (List Ce)} {xs : List Value} {x : List Ce} (h : OutS wo wr M G F N xs b c') (hx : x.length = M) {k : Nat} (hi : insF x F = F.take k ++ [x] ++ F.drop k) {xs2 : List Value} {b5 c5 : Nat}
    (hd2 : HeadsN w2 xs2 (F.take k ++ [x] ++ F.drop k)) (rd2 : Rd w2 (some ⟨b5, 0, none⟩) xs2) (hc : N + 1 ≤ c5) (hb : Below wr.heap.size wr w2) : OutS wo w2 M (G ++ [x]) (F.take k ++ [x] ++ F.drop k) (N + 1) xs2 b5 c5 := by
  refine ⟨?_, ?_, ?_, hc, rd2, hd2, bl_go h.ok hb⟩
  · rw [incOf_snoc, ← h.is, hi]
  · intro q hq
    rcases List.mem_append.1 hq with h1 | h1
    · exact h.each q h1
    · obtain rfl : q = x := by simpa using h1
      exact hx
  · have := h.len
    simp only [List.length_append, List.length_take, List.length_drop, List.length_cons, List.length_nil]
    omega
theorem OutS.start (w : World) (M : Nat) {b : Nat} (hd : HeadsN w [] []) : OutS w w M [] [] 0 [] b 0 :=
  ⟨rfl, fun q h => by simp at h, rfl, Nat.le_refl _, Rd.nil _ _, hd, Below.refl _ _⟩
theorem sPiecesAll_f (m : Int) (w : World) (h : ¬ (1 ≤ m ∧ m ≤ 5)) : Calls Try.prog 15 #[.int .i64 m] w (NewRdSS [] w) := by
  have CI := Lib.hid (fun (z : World) => l1in_f m 1 5 z (by omega))
  have Z1 := bl_alloc (Below.refl w.heap.size w) (.cells #[] 31)
  go_enter Try.func15, Try.ntmps15
  go_wp2_with (go_at_call 78; refine (CI.out _).mono ?_; rintro e wq ⟨rfl, rfl⟩)
  go_ret
  exact ⟨w.heap.size, 0, [], rfl, Nat.le_refl _, Rd.nil _ _, ⟨rfl, fun k h => absurd h (Nat.not_lt_zero k)⟩, Z1⟩
theorem rdc_old {w w' : World} {h : Nat} {ps : List Ce} {row : Option Nat} (hc : RdC w (some ⟨h, 0, none⟩) ps) (hlt : h < w.heap.size) (hg : w.grownBy w' row) (hn : row ≠ some h) : RdC w' (some ⟨h, 0, none⟩) ps := fun hne => by
  obtain ⟨ad, e, h1⟩ := hc hne
  injection e with e
  subst e
  refine ⟨_, rfl, fun j u hu => ?_⟩
  have h2 := h1 j u hu
  rw [add_off] at h2 ⊢
  rw [← h2]
  exact World.cell?_of_block (hg.block h hlt (fun e => hn e.symm))
theorem new1 (W : World) (n : Nat) (e : W.heap.size = n) (x : Value) (zs : Array Value) (t : TypeId) : Rd (W.alloc (.cells (#[x] ++ zs) t)).drew (some ⟨n, 0, none⟩) [x] := fun _ => ⟨_, rfl, fun j u hu => by
  subst e
  match j, hu with
  | 0, hu =>
    show (W.alloc (.cells (#[x] ++ zs) t)).cell? _ = _
    rw [add_off, Nat.zero_add, cell_of_row _ _ _ _ _ _ (heap_alloc_new W _)]
    obtain rfl : x = u := by simpa using hu
    rw [Array.getElem?_append_left (by simp)]; rfl
  | j + 1, hu => simp at hu⟩
theorem sPiecesAll_1 (w : World) : Calls Try.prog 15 #[.int .i64 1] w (NewRdSS [[(0, 0)]] w) := by
  have CI := Lib.hid (fun (z : World) => l1in_t 1 1 5 z (by omega) (by omega))
  have Z3 := bl_alloc (bl_alloc (bl_alloc (Below.refl w.heap.size w) (.cells #[] 31)) (.cells #[.int .i64 0, .int .i64 0] 72)) (.cells #[.slice (some ⟨w.heap.size + 1, 0, none⟩) 1 1] 31)
  have OW : OwnH (((w.alloc (.cells #[] 31)).alloc (.cells #[.int .i64 0, .int .i64 0] 72)).alloc (.cells #[.slice (some ⟨w.heap.size + 1, 0, none⟩) 1 1] 31)) w.heap.size (.slice (some ⟨w.heap.size, 0, none⟩) 0 0) [] := ((own_none w w.heap.size (Nat.le_refl _)).allocT _).allocT _
  have RC : RdC (((w.alloc (.cells #[] 31)).alloc (.cells #[.int .i64 0, .int .i64 0] 72)).alloc (.cells #[.slice (some ⟨w.heap.size + 1, 0, none⟩) 1 1] 31)) (some ⟨w.heap.size + 1, 0, none⟩) [((0 : Int), (0 : Int))] := by
    have h := (OwnC.rd (OwnC.one (w.alloc (.cells #[] 31)) (0, 0))).alloc (.cells #[.slice (some ⟨w.heap.size + 1, 0, none⟩) 1 1] 31)
    rw [show (w.alloc (.cells #[] 31)).heap.size = w.heap.size + 1 by simp] at h
    exact h
  have HC : ∀ j u, [Value.slice (some ⟨w.heap.size + 1, 0, none⟩) 1 1][j]? = some u → (((w.alloc (.cells #[] 31)).alloc (.cells #[.int .i64 0, .int .i64 0] 72)).alloc (.cells #[.slice (some ⟨w.heap.size + 1, 0, none⟩) 1 1] 31)).cell? ((⟨w.heap.size + 2, 0, none⟩ : Addr).add j) = some u := by
    have h := one_new ((w.alloc (.cells #[] 31)).alloc (.cells #[.int .i64 0, .int .i64 0] 72)) (.slice (some ⟨w.heap.size + 1, 0, none⟩) 1 1) 31
    rw [show ((w.alloc (.cells #[] 31)).alloc (.cells #[.int .i64 0, .int .i64 0] 72)).heap.size = w.heap.size + 2 by simp] at h
    exact h
  go_enter Try.func15, Try.ntmps15
  go_wp2_with (go_at_call 78; refine (CI.out _).mono ?_; rintro e wq ⟨rfl, rfl⟩)
  go_ret
  have hq1 : 1 ≤ (Question.appendCap 1 0 31).cut (w.tape w.drawn (Question.appendCap 1 0 31)) := by unfold Question.cut; simp
  exact ⟨_, _, [_], rfl, hq1, new1 _ _ (by simp) _ _ _, HeadsN.oneT ((RC.alloc _).drew) rfl (by omega), (bl_alloc Z3 _).drew⟩
end Go.Proofs.Ytbplnjigoghboaa

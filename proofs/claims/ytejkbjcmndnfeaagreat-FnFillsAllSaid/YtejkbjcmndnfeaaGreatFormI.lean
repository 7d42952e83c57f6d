
/- Contracts: the program's forms of a piece. -/
import Derived.Test.YtejkbjcmndnfeaaGreatFormP
import Derived.Test.YtejkbjcmndnfeaaGreatFormL
import Derived.Test.YtejkbjcmndnfeaaGreatMoveI
import Derived.Lib.SliceRun
namespace Go.Proofs.YtejkbjcmndnfeaaGreat
open Go.RowKit Go.Sort

section
variable {ops : Array Oper} {rest : List Oper} {o : Oper} {a : Act} {Q : Exit → Act → World → Prop}
/-- heads appended to a list of heads of its own -/
theorem opw_headsA {K : Act → World → Prop} (W : World) (s x : Operand) (ho : o.op = .call { callee := .builtin .append, args := #[s, x], argTypes := #[26, 26] })
    (base : Nat) (v : Value) (xs : List Value) (hs : a.eval s = v) (hown : OwnH W base v xs) (ad : Addr) (n c : Nat) (ys : List Value) (hx : a.eval x = .slice (some ad) n c) (hl : ys.length = n) (hq : ∀ j u, ys[j]? = some u → W.cell? (ad.add j) = some u) (h1 : ∀ u ∈ ys, u.oneCell' = true) (hm : xs.length + n ≤ 1000000000) (hbase : base ≤ W.heap.size)
    (h : ∀ v' w', OwnH w' base v' (xs ++ ys) → W.grownBy w' v.ownBlock → (v'.ownBlock = v.ownBlock ∨ v'.ownBlock = some W.heap.size) → K (a.put o.dst v') w') : Oper.wp Tryz.prog o a W K Q := by
  obtain ⟨i0, hi, hz0, hz1, hz2⟩ := info_parts Tryz.infoSC
  obtain ⟨A, c', e, hown⟩ := hown
  obtain ⟨v', w', hr, h2, h3, _, h5⟩ := run_append_own_at (P := Tryz.prog) W base 26 o.type 32 i0 _ 1 24 Tryz.underlying26 hi hz0 hz1 hz2 rfl (by decide) v xs.length xs hown ad n c ys (by omega) hq h1 (by unfold maxLen; omega) (by omega) hbase
  unfold Oper.wp execOp
  simp only [ho, resolve, invoke, builtin, Sem.run_bind, Sem.run_pure, Result.andThen_ok, List.map_toArray, List.map_cons, List.map_nil, hs, hx, hr]
  refine h v' w' ?_ h3 h5
  have hlen : (xs ++ ys).length = xs.length + n := by rw [List.length_append, hl]
  rcases h2.2 with ⟨e1, e2⟩ | ⟨g, cap, cur, e1, _⟩
  · subst e1
    have hnil : xs ++ ys = [] := List.eq_nil_of_length_eq_zero (by omega)
    rw [hnil]
    exact ⟨none, 0, rfl, World.ownsRow_nil _ _ _ _⟩
  · subst e1
    exact ⟨_, cap, by rw [hlen], by rw [hlen]; exact h2⟩
/-- cells appended to an empty list of the call's own -/
theorem opw_cells0 {K : Act → World → Prop} (W : World) (s x : Operand) (ho : o.op = .call { callee := .builtin .append, args := #[s, x], argTypes := #[32, 32] })
    (base : Nat) (v : Value) (hs : a.eval s = v) (hown : OwnC W base v []) (ad : Addr) (n c : Nat) (ps : List Ce) (hx : a.eval x = .slice (some ad) n c) (hl : ps.length = n) (h0 : 0 < n) (hq : RdC W (some ad) ps) (hm : n ≤ 1000000000) (hbase : base ≤ W.heap.size)
    (h : ∀ g cap w', n ≤ cap → w'.ownsRow base 89 2 (.slice (some ⟨g, 0, none⟩) n cap) n (cellsV ps) → W.grownBy w' v.ownBlock → K (a.put o.dst (.slice (some ⟨g, 0, none⟩) n cap)) w') : Oper.wp Tryz.prog o a W K Q := by
  obtain ⟨i0, hi, hz0, hz1, hz2⟩ := info_parts Tryz.infoC
  obtain ⟨A, c', e, hown⟩ := hown
  have hcl := cellsV_len ps
  obtain ⟨ad', e2, hc⟩ := hq (by intro e; rw [e] at hcl; simp at hcl; omega)
  injection e2 with e2
  subst e2
  refine wp_append_lies W s x 32 ho base 89 i0 _ 2 16 Tryz.underlying32 hi hz0 hz1 hz2 rfl (by decide) v 0 [] hs hown ad n c (cellsV ps) hx (by omega) hc ?_ h0 (by unfold maxLen; omega) (by omega) hbase _ rfl ?_
  · intro u hu
    unfold cellsV at hu
    rw [List.mem_flatMap] at hu
    obtain ⟨q, _, hq⟩ := hu
    simp at hq
    rcases hq with rfl | rfl <;> rfl
  · intro g cap w' k1 k2 _ _
    rw [Nat.zero_add, List.nil_append] at k1
    rw [Nat.zero_add]
    refine h g cap w' ?_ k1 k2
    rcases k1.2 with ⟨e1, _⟩ | ⟨g', cap', cur, hv, _, _, h3, _⟩
    · cases e1
    · injection hv with _ _ e3; omega
theorem wpList_cells0 (W : World) (hgd : o.guard = none) (s x : Operand) (ho : o.op = .call { callee := .builtin .append, args := #[s, x], argTypes := #[32, 32] })
    (base : Nat) (v : Value) (hs : a.eval s = v) (hown : OwnC W base v []) (ad : Addr) (n c : Nat) (ps : List Ce) (hx : a.eval x = .slice (some ad) n c) (hl : ps.length = n) (h0 : 0 < n) (hq : RdC W (some ad) ps) (hm : n ≤ 1000000000) (hbase : base ≤ W.heap.size)
    (h : ∀ g cap w', n ≤ cap → w'.ownsRow base 89 2 (.slice (some ⟨g, 0, none⟩) n cap) n (cellsV ps) → W.grownBy w' v.ownBlock → wpList Tryz.prog ops Q rest (a.put o.dst (.slice (some ⟨g, 0, none⟩) n cap)) w') : wpList Tryz.prog ops Q (o :: rest) a W :=
  wpList_plain hgd fun _ hK => opw_cells0 W s x ho base v hs hown ad n c ps hx hl h0 hq hm hbase fun g cap w' h1 h2 h3 => hK _ _ (h g cap w' h1 h2 h3)
theorem wpList_headsA (W : World) (hgd : o.guard = none) (s x : Operand) (ho : o.op = .call { callee := .builtin .append, args := #[s, x], argTypes := #[26, 26] })
    (base : Nat) (v : Value) (xs : List Value) (hs : a.eval s = v) (hown : OwnH W base v xs) (ad : Addr) (n c : Nat) (ys : List Value) (hx : a.eval x = .slice (some ad) n c) (hl : ys.length = n) (hq : ∀ j u, ys[j]? = some u → W.cell? (ad.add j) = some u) (h1 : ∀ u ∈ ys, u.oneCell' = true) (hm : xs.length + n ≤ 1000000000) (hbase : base ≤ W.heap.size)
    (h : ∀ v' w', OwnH w' base v' (xs ++ ys) → W.grownBy w' v.ownBlock → (v'.ownBlock = v.ownBlock ∨ v'.ownBlock = some W.heap.size) → wpList Tryz.prog ops Q rest (a.put o.dst v') w') : wpList Tryz.prog ops Q (o :: rest) a W :=
  wpList_plain hgd fun _ hK => opw_headsA W s x ho base v xs hs hown ad n c ys hx hl hq h1 hm hbase fun v' w' k1 k2 k3 => hK _ _ (h v' w' k1 k2 k3)
end
/-! ### Clones -/
/-- a copy of its own, with room behind it -/
def NewOwn (ps : List Ce) (n : Nat) (w : World) (e : Ending) (w' : World) : Prop :=
  ∃ g cap, e = .returned (.slice (some ⟨g, 0, none⟩) n cap) ∧ n ≤ cap ∧ w'.ownsRow w.heap.size 89 2 (.slice (some ⟨g, 0, none⟩) n cap) n (cellsV ps) ∧ Below w.heap.size w w'
set_option maxRecDepth 100000 in
set_option maxHeartbeats 1000000 in
theorem cloneS_any (b off n c : Nat) (ps : List Ce) (w : World) (hr : RdC w (some ⟨b, off, none⟩) ps) (hl : ps.length = n) (h0 : 0 < n) (hn : n ≤ 1000000) :
    Calls Tryz.prog 204 #[.slice (some ⟨b, off, none⟩) n c] w (NewOwn ps n w) := by
  have HL := Lib.hid hl
  clear hl
  have O1 : OwnC (w.alloc (.cells #[] 89)) w.heap.size (.slice (some ⟨w.heap.size, 0, none⟩) 0 0) [] := ⟨_, _, rfl, World.ownsRow_lit w #[] 0 (Nat.le_refl _) (by simp) (by simp)⟩
  have B1 := bl_alloc (Below.refl w.heap.size w) (.cells #[] 89)
  have R1 : RdC (w.alloc (.cells #[] 89)) (some ⟨b, off, none⟩) ps := hr.alloc _
  have hz1 := B1.size
  have hnil : ∀ w, (binOp .eql 32 (.slice (some ⟨b, off, none⟩) n c) (.slice none 0 0)).run Tryz.prog w = .ok (.bool false) w := fun w => Lib.run_eql_slice_nil w 32 89 _ _ _ _ _ Tryz.underlying32
  go_enter Tryz.func204, Tryz.ntmps204
  go_wp2_with (at_builtin; refine wpList_cells0 _ rfl _ _ rfl w.heap.size _ rfl O1 _ _ _ ps rfl HL.out h0 R1 (by omega) hz1 ?_; intro g cap w2 hcap o2 G2; have B2 := B1.grown G2 hz1 (fun k hk => by obtain ⟨_, _, _, o⟩ := O1; exact (o.lt k hk).1))
  go_ret
  exact ⟨g, cap, rfl, hcap, o2, B2⟩
set_option maxHeartbeats 400000 in
theorem clipS_any (A : Option Addr) (n c : Nat) (w : World) (h : n ≤ c) :
    Calls Tryz.prog 203 #[.slice A n c] w fun e w' => e = .returned (.slice A n n) ∧ w = w' := by
  go_enter Tryz.func203, Tryz.ntmps203
  go_wp2
  go_ret
  exact ⟨rfl, rfl⟩
/-- a copy that may be written -/
def NewWr (ps : List Ce) (n : Nat) (w : World) (e : Ending) (w' : World) : Prop :=
  ∃ g, e = .returned (.slice (some ⟨g, 0, none⟩) n n) ∧ Wr w' w.heap.size 89 (some ⟨g, 0, none⟩) (cellsV ps) ∧ w.heap.size ≤ g ∧ g < w'.heap.size ∧ Below w.heap.size w w'
set_option maxHeartbeats 1000000 in
theorem cloneP_any (b off n c : Nat) (ps : List Ce) (w : World) (hr : RdC w (some ⟨b, off, none⟩) ps) (hl : ps.length = n) (h0 : 0 < n) (hn : n ≤ 1000000) :
    Calls Tryz.prog 150 #[.slice (some ⟨b, off, none⟩) n c] w (NewWr ps n w) := by
  have HC := Lib.hid (cloneS_any b off n c ps w hr hl h0 hn)
  clear hl
  go_enter Tryz.func150, Tryz.ntmps150
  go_wp2_with fail
  refine HC.out.mono ?_
  rintro e w1 ⟨g, cap, rfl, hcap, o1, B1⟩
  go_wp2_with fail
  refine (clipS_any _ _ _ _ hcap).mono ?_
  rintro e w2 ⟨rfl, rfl⟩
  go_wp2
  go_ret
  exact ⟨g, rfl, Wr.of_ownC o1, (o1.lt g rfl).1, (o1.lt g rfl).2, B1⟩
theorem Parts.app {W w' : World} {base : Nat} {v v' : Value} {xs ys : List Value} (hp : Parts W base v xs) (hy : Parts W base v ys) (hg : W.heap.size ≤ w'.heap.size) (hv : v'.ownBlock = v.ownBlock ∨ v'.ownBlock = some W.heap.size) : Parts w' base v' (xs ++ ys) := by
  intro k ad n c e
  have key : base ≤ ad.block ∧ ad.block < W.heap.size ∧ v.ownBlock ≠ some ad.block := by
    rcases Nat.lt_or_ge k xs.length with h | h
    · rw [List.getElem?_append_left h] at e; exact hp k ad n c e
    · rw [List.getElem?_append_right h] at e; exact hy _ ad n c e
  obtain ⟨k1, k2, k3⟩ := key
  refine ⟨k1, by omega, fun e2 => ?_⟩
  rcases hv with h | h
  · exact k3 (by rw [← h, e2])
  · rw [h] at e2; injection e2 with e2; omega
theorem HeadsR.app {w : World} {xs ys : List Value} {P R : List (List Ce)} (h : HeadsR w xs P) (k : HeadsR w ys R) : HeadsR w (xs ++ ys) (P ++ R) := by
  have h1 := h.1
  have k1 := k.1
  refine HeadsR.mk (by rw [List.length_append, List.length_append, h1, k1]) (fun j hj hx => ?_)
  rcases Nat.lt_or_ge j P.length with h2 | h2
  · rw [List.getElem_append_left h2, List.getElem_append_left (by omega)]
    exact h.at_ _ _
  · rw [List.getElem_append_right h2, List.getElem_append_right (by omega)]
    have := k.at_ (k := j - P.length) (by rw [List.length_append] at hj; omega) (by rw [List.length_append] at hx; omega)
    simp only [h1]
    exact this
theorem HeadsR.two {w : World} {B B' : Option Addr} {c c' n : Nat} {p q : List Ce} (h : RdC w B p) (k : RdC w B' q) (hp : p.length = n) (hq : q.length = n) (hc : n ≤ c) (hc' : n ≤ c') (hn : n ≤ 7) : HeadsR w [.slice B n c, .slice B' n c'] [p, q] := by
  subst hp
  refine ⟨rfl, fun j hj => ?_⟩
  match j, hj with
  | 0, _ => exact ⟨B, c, rfl, hc, hn, h⟩
  | 1, _ => exact ⟨B', c', by show some _ = some _; simp only [List.getElem_cons_succ, List.getElem_cons_zero, hq], by simp only [List.getElem_cons_succ, List.getElem_cons_zero]; omega, by simp only [List.getElem_cons_succ, List.getElem_cons_zero]; omega, k⟩
/-- the forms listed so far -/
def formsU (ps : List Ce) (k : Nat) : List (List Ce) := (List.range k).flatMap fun n => [fmC (turnN n) ps, fmC (flipTurn n) ps]
theorem formsU_four (ps : List Ce) : formsU ps 4 = formsG ps := rfl
theorem formsU_succ (ps : List Ce) (k : Nat) : formsU ps (k + 1) = formsU ps k ++ [fmC (turnN k) ps, fmC (flipTurn k) ps] := by
  unfold formsU
  rw [List.range_succ, List.flatMap_append]
  simp
theorem formsG_len {ps x : List Ce} (h : x ∈ formsG ps) : x.length = ps.length := formsF_len ((forms_same ps x).1 h)
theorem fmC_len (g : Ce → Ce) (ps : List Ce) : (fmC g ps).length = ps.length := by unfold fmC; rw [mvd_len, List.length_map]
theorem mvd_fm {ps : List Ce} (hne : ps ≠ []) (g f : Ce → Ce) (hf : ∀ m c, f (subC m c) = subC (f m) (f c)) : mvd ((fmC g ps).map f) = fmC (fun c => f (g c)) ps := by
  unfold fmC
  rw [mvd_map (by simpa using hne) f hf, List.map_map]; rfl
/-! ### Heads of copies of their own -/
def Fresh (wr : World) (base i : Nat) (A : Option Addr) (xs : List Value) (F : List (List Ce)) : Prop :=
  ∀ k, k < i → ∀ h : k < F.length, ∃ gk, xs[k]? = some (.slice (some ⟨gk, 0, none⟩) F[k].length F[k].length) ∧ Wr wr base 89 (some ⟨gk, 0, none⟩) (cellsV F[k]) ∧ (∀ ad, A = some ad → ad.block ≠ gk) ∧ gk < wr.heap.size ∧ ∀ j, j < k → ∀ gj n c, xs[j]? = some (.slice (some ⟨gj, 0, none⟩) n c) → gj < gk
structure FreshSt (wr : World) (base g N c : Nat) (xs : List Value) (F : List (List Ce)) (i : Nat) : Prop where
  own : wr.ownsRow base 32 1 (.slice (some ⟨g, 0, none⟩) N c) N xs
  hd : HeadsR wr xs F
  pt : Parts wr base (.slice (some ⟨g, 0, none⟩) N c) xs
  fr : Fresh wr base i (some ⟨g, 0, none⟩) xs F
theorem FreshSt.step {wr w2 : World} {base g N c i gk n : Nat} {xs : List Value} {F : List (List Ce)} (h : FreshSt wr base g N c xs F i) (hi : i < F.length) (hn : F[i].length = n) (hn7 : n ≤ 7) (hb : Below wr.heap.size wr w2)
    (hw : Wr w2 wr.heap.size 89 (some ⟨gk, 0, none⟩) (cellsV F[i])) (h1 : wr.heap.size ≤ gk) (h2 : gk < w2.heap.size) (hbase : base ≤ wr.heap.size) :
    FreshSt (w2.setCell ⟨g, i, none⟩ (.slice (some ⟨gk, 0, none⟩) n n)) base g N c (xs.set i (.slice (some ⟨gk, 0, none⟩) n n)) F (i + 1) := by
  have hg := (h.own.lt g rfl).2
  have hG := set_grown w2 g i (.slice (some ⟨gk, 0, none⟩) n n)
  have o2 := own_below h.own hb (Nat.le_refl _)
  have hd2 := h.hd.belo hb
  have pt2 := h.pt.grown hb.size
  have hd3 := hd2.keepA pt2 hG
  have hxl := h.hd.1
  have kw : ∀ {lo : Nat} {g' : Nat} {ys : List Value}, g' ≠ g → Wr w2 lo 89 (some ⟨g', 0, none⟩) ys → Wr (w2.setCell ⟨g, i, none⟩ (.slice (some ⟨gk, 0, none⟩) n n)) lo 89 (some ⟨g', 0, none⟩) ys := fun hne k => k.keep (fun g2 e hlt => by
    injection e with e; injection e with e
    exact hG.block g2 hlt (fun e2 => hne (by injection e2 with e2; omega)))
  have hwk := kw (by omega) hw
  refine ⟨(o2.stored i _).1, ?_, ?_, ?_⟩
  · refine HeadsR.mk (by rw [List.length_set]; exact hxl) (fun j hj hx => ?_)
    rw [List.getElem_set]
    by_cases hij : i = j
    · subst hij
      rw [if_pos rfl]
      exact ⟨_, _, by rw [hn], by omega, by omega, hwk.rd⟩
    · rw [if_neg hij]
      exact hd3.at_ _ _
  · intro k ad n' c' e
    rw [List.getElem?_set] at e
    by_cases hij : i = k
    · rw [if_pos hij] at e
      split at e
      · injection e with e
        injection e with e1 e2 e3
        injection e1 with e1
        subst e1
        refine ⟨by show base ≤ gk; omega, Nat.lt_of_lt_of_le h2 hG.size, fun e2 => ?_⟩
        have e3 : g = gk := Option.some.inj e2
        omega
      · cases e
    · rw [if_neg hij] at e
      obtain ⟨k1, k2, k3⟩ := pt2 k ad n' c' e
      exact ⟨k1, Nat.lt_of_lt_of_le k2 hG.size, k3⟩
  · intro k hk hkF
    rcases Nat.lt_or_ge k i with h3 | h3
    · obtain ⟨gk', e1, e2, e3, e4, e5⟩ := h.fr k h3 hkF
      refine ⟨gk', by rw [List.getElem?_set, if_neg (by omega)]; exact e1, kw (fun e => e3 _ rfl e.symm) (e2.belo hb), e3, Nat.lt_of_lt_of_le e4 (Nat.le_trans hb.size hG.size), fun j hj gj n' c' e => e5 j hj gj n' c' (by rw [List.getElem?_set, if_neg (by omega)] at e; exact e)⟩
    · obtain rfl : k = i := by omega
      refine ⟨gk, by rw [List.getElem?_set, if_pos rfl, if_pos (by omega), hn], hwk.lower hbase, fun ad ha => by injection ha with ha; subst ha; show g ≠ gk; omega, Nat.lt_of_lt_of_le h2 hG.size, fun j hj gj n' c' e => ?_⟩
      rw [List.getElem?_set, if_neg (by omega)] at e
      have := (h.pt j _ _ _ e).2.1
      simp at this
      omega
/-- a new list of lists, all of it the call's own -/
def NewSS (F : List (List Ce)) (w : World) (e : Ending) (w' : World) : Prop :=
  ∃ (A : Option Addr) (xs : List Value), e = .returned (.slice A F.length F.length) ∧ Rd w' A xs ∧ (∀ ad, A = some ad → w.heap.size ≤ ad.block ∧ ad.block < w'.heap.size) ∧ HeadsR w' xs F ∧ Fresh w' w.heap.size F.length A xs F ∧ Below w.heap.size w w'
set_option maxHeartbeats 400000 in
theorem clipSS_any (A : Option Addr) (n c : Nat) (w : World) (h : n ≤ c) :
    Calls Tryz.prog 151 #[.slice A n c] w fun e w' => e = .returned (.slice A n n) ∧ w = w' := by
  go_enter Tryz.func151, Tryz.ntmps151
  go_wp2
  go_ret
  exact ⟨rfl, rfl⟩
theorem ok_bd {ps : List Ce} (h : PieceOk ps) : ∀ q ∈ ps, inBd 9 q := h.2.1
theorem own_outA {w : World} {base : Nat} {v : Value} {xs : List Value} (h : OwnH w base v xs) : ∀ k, v.ownBlock = some k → base ≤ k ∧ k < w.heap.size := by
  obtain ⟨A, c, e, o⟩ := h
  exact o.lt
/-- the state of the loop that lists the forms -/
structure ListF (w wr : World) (ps : List Ce) (k : Nat) (v : Value) (B : Option Addr) (xs : List Value) : Prop where
  own : OwnH wr w.heap.size v xs
  hd : HeadsR wr xs (formsU ps k)
  pt : Parts wr w.heap.size v xs
  now : RdC wr B (fmC (turnN k) ps)
  at_ : ∀ ad, B = some ad → w.heap.size ≤ ad.block ∧ ad.block < wr.heap.size ∧ v.ownBlock ≠ some ad.block
  ok : Below w.heap.size w wr
theorem ListF.now3 {w wr w1 w2 : World} {ps : List Ce} {k : Nat} {v : Value} {B : Option Addr} {xs : List Value} (h : ListF w wr ps k v B xs) (b1 : Below wr.heap.size wr w1) {o : Obj} (g2 : (w1.alloc o).grownBy w2 v.ownBlock) : RdC w2 B (fmC (turnN k) ps) :=
  Rd.grownBelow (Rd.belo h.now (bl_alloc b1 o)) g2 (fun _ ad ha e => (h.at_ ad ha).2.2 e.symm)
/-- .. with two more, and the next one turned -/
theorem ListF.next {w wr w1 w2 w3 : World} {ps : List Ce} {k : Nat} {v v' : Value} {B B1 B2 : Option Addr} {xs : List Value} {t : TypeId} (h : ListF w wr ps k v B xs) {L : Nat} (hLp : ps.length = L) (hL : L ≤ 7)
    (o1 : OwnC w1 wr.heap.size (.slice B1 L L) (fmC (flipTurn k) ps)) (b1 : Below wr.heap.size wr w1)
    (o2 : OwnH w2 w.heap.size v' (xs ++ [.slice B L L, .slice B1 L L])) (g2 : (w1.alloc (.cells #[.slice B L L, .slice B1 L L] t)).grownBy w2 v.ownBlock)
    (hv : v'.ownBlock = v.ownBlock ∨ v'.ownBlock = some (w1.alloc (.cells #[.slice B L L, .slice B1 L L] t)).heap.size)
    (o3 : OwnC w3 w2.heap.size (.slice B2 L L) (fmC (turnN (k + 1)) ps)) (b3 : Below w2.heap.size w2 w3) :
    ListF w w3 ps (k + 1) v' B2 (xs ++ [.slice B L L, .slice B1 L L]) := by
  subst hLp
  have ba := bl_alloc b1 (.cells #[.slice B ps.length ps.length, .slice B1 ps.length ps.length] t)
  have bz := bl_alloc (Below.refl w1.heap.size w1) (.cells #[.slice B ps.length ps.length, .slice B1 ps.length ps.length] t)
  generalize w1.alloc (.cells #[.slice B ps.length ps.length, .slice B1 ps.length ps.length] t) = wa at *
  have hsz := h.ok.size
  have hd1 := h.hd.belo ba
  have now1 : RdC wa B (fmC (turnN k) ps) := Rd.belo h.now ba
  have new1 : RdC wa B1 (fmC (flipTurn k) ps) := Rd.belo o1.rd bz
  have pt1 := h.pt.grown (w' := wa) ba.size
  have hB1 : ∀ ad, B1 = some ad → wr.heap.size ≤ ad.block ∧ ad.block < w1.heap.size := fun ad ha => by
    subst ha
    obtain ⟨A', c', e, o⟩ := o1
    exact o.lt ad.block rfl
  have pty : Parts wa w.heap.size v [.slice B ps.length ps.length, .slice B1 ps.length ps.length] := by
    intro j ad n c e
    match j, e with
    | 0, e =>
      injection e with e; injection e with e1 e2 e3
      subst e1
      obtain ⟨k1, k2, k3⟩ := h.at_ ad rfl
      exact ⟨k1, Nat.lt_of_lt_of_le k2 ba.size, k3⟩
    | 1, e =>
      injection e with e; injection e with e1 e2 e3
      obtain ⟨k1, k2⟩ := hB1 ad e1
      refine ⟨by omega, Nat.lt_of_lt_of_le k2 bz.size, fun e4 => ?_⟩
      have := (own_outA h.own _ e4).2
      omega
    | j + 2, e => simp at e
  have hy : HeadsR wa [.slice B ps.length ps.length, .slice B1 ps.length ps.length] [fmC (turnN k) ps, fmC (flipTurn k) ps] :=
    HeadsR.two now1 new1 (fmC_len _ _) (fmC_len _ _) (Nat.le_refl _) (Nat.le_refl _) hL
  have ptn := Parts.app pt1 pty g2.size hv
  have hdn : HeadsR w2 (xs ++ [.slice B ps.length ps.length, .slice B1 ps.length ps.length]) (formsU ps (k + 1)) := by
    rw [formsU_succ]
    exact (hd1.app hy).grown (fun j ad n c e => by
      rcases Nat.lt_or_ge j xs.length with h3 | h3
      · rw [List.getElem?_append_left h3] at e; exact pt1 j ad n c e
      · rw [List.getElem?_append_right h3] at e; exact pty _ ad n c e) g2 (.inl rfl)
  have hB2 : ∀ ad, B2 = some ad → w2.heap.size ≤ ad.block ∧ ad.block < w3.heap.size := fun ad ha => by
    subst ha
    obtain ⟨A', c', e, o⟩ := o3
    exact o.lt ad.block rfl
  have bw2 : Below w.heap.size w w2 := (h.ok.trans (ba.mono hsz)).grown g2 (Nat.le_trans hsz ba.size) (fun j hj => (own_outA h.own j hj).1)
  refine ⟨?_, hdn.belo b3, ptn.grown b3.size, o3.rd, fun ad ha => ?_, bl_go bw2 b3⟩
  · obtain ⟨A', c', e, o⟩ := o2
    exact ⟨A', c', e, own_below o b3 (Nat.le_refl _)⟩
  · obtain ⟨k1, k2⟩ := hB2 ad ha
    refine ⟨Nat.le_trans bw2.size k1, k2, fun e4 => ?_⟩
    have := (own_outA o2 _ e4).2
    omega
theorem OwnH.alloc2 {w w' : World} {base : Nat} {v : Value} {xs : List Value} (h : OwnH w base v xs) (hb : Below w.heap.size w w') (o : Obj) : OwnH (w'.alloc o) base v xs := by
  obtain ⟨A, c, e, h⟩ := h; exact ⟨A, c, e, (own_below h hb (Nat.le_refl _)).alloc o⟩
theorem two_at (w : World) (x y : Value) (t : TypeId) : ∀ j u, [x, y][j]? = some u → (w.alloc (.cells #[x, y] t)).cell? ((⟨w.heap.size, 0, none⟩ : Addr).add j) = some u := fun j u hu => by
  rw [add_off, Nat.zero_add, cell_of_row _ _ _ _ _ _ (heap_alloc_new w _)]; simpa using hu
theorem two_one (A B : Option Addr) (n c n' c' : Nat) : ∀ u ∈ [Value.slice A n c, .slice B n' c'], u.oneCell' = true := fun u hu => by
  simp at hu; rcases hu with rfl | rfl <;> rfl
set_option maxRecDepth 100000 in
set_option maxHeartbeats 4000000 in
theorem forms_any (A : Option Addr) (c : Nat) (ps : List Ce) (w : World) (hr : RdC w A ps) (hok : PieceOk ps) :
    Calls Tryz.prog 73 #[.slice A ps.length c] w (NewSS (formsV ps) w) := by
  rw [formsV_ok hok]
  have HOK := Lib.hid hok
  obtain ⟨h1, h5⟩ := hok.1
  have C0 := Lib.hid (moved_stay A c ps w hr h1 h5 (ok_bd hok))
  obtain ⟨L, hL⟩ : ∃ L, ps.length = L := ⟨_, rfl⟩
  have HL := Lib.hid hL
  have CF : Hid (∀ (B : Option Addr) (z : World) (k : Nat), RdC z B (fmC (turnN k) ps) → Calls Tryz.prog 143 #[.slice B L L, .func (.func 145) #[] #[]] z (NewOC (fmC (flipTurn k) ps) z)) := by
    intro B z k R
    have hk := ok_fm (ok_turnN hok k)
    have := moved_mirror B L _ z R hk.1.1 hk.1.2 (ok_bd hk)
    rw [mvd_fm hok.ne _ _ lin_flip, fmC_len, hL] at this
    exact this
  have CT : Hid (∀ (B : Option Addr) (z : World) (k : Nat), RdC z B (fmC (turnN k) ps) → Calls Tryz.prog 143 #[.slice B L L, .func (.func 146) #[] #[]] z (NewOC (fmC (turnN (k + 1)) ps) z)) := by
    intro B z k R
    have hk := ok_fm (ok_turnN hok k)
    have := moved_turn B L _ z R hk.1.1 hk.1.2 (ok_bd hk)
    rw [mvd_fm hok.ne _ _ lin_turn, fmC_len, hL] at this
    exact this
  have hS0 : mvd (ps.map stayC) = fmC (turnN 0) ps := rfl
  rw [hL, hS0] at C0
  rw [hL] at h1 h5 ⊢
  clear hL hr hok hS0
  go_enter Tryz.func73, Tryz.ntmps73
  go_wp2_with fail
  refine C0.out.mono ?_
  rintro e w1 ⟨B0, rfl, o0, b0⟩
  have hl0 : (fmC (turnN 0) ps).length = L := by rw [fmC_len, HL.out]
  rw [hl0] at o0 ⊢
  have I0 : ListF w w1 ps 0 (.slice none 0 0) B0 [] := ⟨⟨none, 0, rfl, World.ownsRow_nil _ _ _ _⟩, ⟨rfl, fun k h => by simp [formsU] at h⟩, fun k ad n c e => by simp at e, o0.rd, fun ad ha => by
    subst ha
    obtain ⟨A', c', e, o⟩ := o0
    exact ⟨(o.lt ad.block rfl).1, (o.lt ad.block rfl).2, fun e => by cases e⟩, b0⟩
  clear o0 hl0 b0
  go_wp2_with fail
  go_loopw [3, 4, 8] (fun v3 v4 i wr => ∃ (k : Nat) (xs : List Value) (B : Option Addr), k ≤ 4 ∧ i = .int .i64 k ∧ v4 = .slice B L L ∧ xs.length = 2 * k ∧ ListF w wr ps k v3 B xs) (fun _ _ i _ => 4 - (intOf i).toNat)
  case atStart => exact ⟨0, [], B0, by omega, rfl, rfl, rfl, I0⟩
  case round =>
    clear I0
    obtain ⟨k, xs, B, hk, rfl, rfl, hx, I1⟩ := hrel
    by_cases hlt : k < 4
    · have hlt' : (k : Int) < 4 := by omega
      have HX := Lib.hid hx
      have HI := Lib.hid I1
      have hxl : xs.length ≤ 100 := by omega
      have now1 := I1.now
      have own1 := I1.own
      have hsz := I1.ok.size
      clear hx I1
      go_wp2_with (first
        | (go_at_call 143; (with_reducible refine (CF.out B wr k now1).mono ?_); rintro e w2 ⟨B1, rfl, o1, b1⟩; rw [show (fmC (flipTurn k) ps).length = L by rw [fmC_len, HL.out]] at o1 ⊢; have O1 := Lib.hid o1; have ow := (own1.alloc2 b1 (.cells #[.slice B L L, .slice B1 L L] 32)); have hz2 := b1.size; clear o1)
        | (at_builtin; refine wpList_headsA _ rfl _ _ rfl w.heap.size _ xs rfl ow _ _ _ [.slice B L L, .slice B1 L L] rfl rfl (two_at _ _ _ _) (two_one _ _ _ _ _ _) (by simp; omega) (by simp; omega) ?_; intro v' w3 o3 g3 hv; have now3 := HI.out.now3 b1 g3)
        | (go_at_call 143; (with_reducible refine (CT.out B w3 k now3).mono ?_); rintro e w4 ⟨B2, rfl, o4, b4⟩; rw [show (fmC (turnN (k + 1)) ps).length = L by rw [fmC_len, HL.out]] at o4 ⊢))
      go_roundw
      case rel => exact ⟨k + 1, _, B2, by omega, by go_num, rfl, by rw [List.length_append, HX.out]; simp; omega, HI.out.next HL.out (by omega) O1.out b1 o3 g3 hv o4 b4⟩
      case measure => simp [intOf]; omega
    · obtain rfl : k = 4 := by omega
      obtain ⟨A8, c8, e8, o8⟩ := id I1.own
      rw [show xs.length = 8 by omega] at o8 e8
      subst e8
      have hd8 := I1.hd
      rw [formsU_four] at hd8
      have pt8 := I1.pt
      have b8 := I1.ok
      obtain ⟨g, cap, ev, -, hlt8⟩ := o8.form (by omega)
      injection ev with ev1 ev2 ev3
      subst ev1
      have hg8 := (o8.lt g rfl).1
      have CS := Lib.hid (sortF_any g c8 w.heap.size 7 L xs (formsG ps) wr o8 hd8 pt8 (fun p hp => by rw [formsG_len hp, HL.out]) (by omega))
      clear I1 hx hlt hd8 pt8 o8 ev3
      simp only [Nat.reduceAdd] at CS
      go_wp2_with fail
      refine CS.out.mono ?_
      rintro e w2 ⟨xs2, S2, rfl, o2, h2, p2, hperm, hpw, g2⟩
      have b2 : Below w.heap.size w w2 := b8.grown g2 b8.size (fun k hk => by injection hk with hk; omega)
      have HF : Hid (comp S2 = incOf (formsF ps)) := by
        show _ = _
        rw [comp_incOf hpw hperm]
        exact incOf_eq (forms_same ps)
      have HE := Lib.hid (show ∀ p ∈ comp S2, p.length = L from fun p hp => by rw [formsG_len (hperm.mem_iff.1 ((comp_mem S2 p).1 hp)), HL.out])
      have CK := Lib.hid (compactF_any g c8 w.heap.size 8 xs2 S2 w2 o2 h2 p2 (by omega))
      clear b8 g2 hperm hpw o2 h2 p2 CS
      go_wp2_with fail
      refine CK.out.mono ?_
      rintro e w3 ⟨xs3, rfl, o3, h3, p3, g3⟩
      have b3 : Below w.heap.size w w3 := b2.grown g3 b2.size (fun k hk => by injection hk with hk; omega)
      clear b2 g3 CK
      generalize comp S2 = F at *
      obtain ⟨N, hN⟩ : ∃ N, F.length = N := ⟨_, rfl⟩
      have HN := Lib.hid hN
      rw [hN] at o3 p3 ⊢
      have hN8 : N ≤ c8 ∧ c8 ≤ maxLen := own_cap o3
      unfold maxLen at hN8
      obtain ⟨hN1, hN2⟩ := hN8
      clear hN
      have I3 : FreshSt w3 w.heap.size g N c8 xs3 F 0 := ⟨o3, h3, p3, fun k hk => by omega⟩
      clear o3 h3 p3
      go_wp2_with fail
      go_loopw [25] (fun i wr => ∃ (k : Nat) (xs : List Value), k ≤ N ∧ i = .int .i64 k ∧ FreshSt wr w.heap.size g N c8 xs F k ∧ Below w.heap.size w wr) (fun i _ => N - (intOf i).toNat)
      case atStart => exact ⟨0, xs3, Nat.zero_le _, rfl, I3, b3⟩
      case round =>
        clear I3 b3
        obtain ⟨k, ys, hk, rfl, I4, b4⟩ := hrel
        by_cases hlt : k < N
        · have hkF : k < F.length := by rw [HN.out]; exact hlt
          have hkx : k < ys.length := by have := I4.hd.1; omega
          obtain ⟨B5, c5, e5, l5, m5, r5⟩ := I4.hd.at_ hkF hkx
          have hFL : F[k].length = L := HE.out _ (List.getElem_mem hkF)
          obtain ⟨bb, off, rfl, -, -⟩ := RdC.at_ r5 (k := 0) (by omega)
          have CC := Lib.hid (cloneP_any bb off L c5 F[k] wr r5 hFL (by omega) (by omega))
          have d5 : wr.cell? ⟨g, k, none⟩ = some (.slice (some ⟨bb, off, none⟩) L c5) := by rw [I4.own.cellAt k (by omega), List.getElem?_eq_getElem hkx, e5, hFL]
          have HST := Lib.hid (fun w2 gk hb hw h1 h2 => FreshSt.step (w2 := w2) (gk := gk) I4 hkF hFL (by omega) hb hw h1 h2 b4.size)
          have own4 := I4.own
          have hg4 := (own4.lt g rfl).2
          have hkN : (k : Int) < (N : Int) := by omega
          clear e5 l5 m5 r5 hFL hkx I4 hlt
          go_wp2_with (go_at_call 150; refine CC.out.mono ?_; rintro e w5 ⟨gk, rfl, hw5, k1, k2, b5⟩; have hf5 := (own_below own4 b5 (Nat.le_refl _)).frozenAt k; have d6 := ((bcell b5).1 g k hg4).trans d5)
          go_roundw
          case rel => exact ⟨k + 1, _, by omega, by go_num, HST.out w5 gk b5 hw5 k1 k2, (bl_go b4 b5).setCell (by omega) _⟩
          case measure => simp [intOf]; omega
        · obtain rfl : k = N := by omega
          have HI4 := Lib.hid I4
          clear I4
          go_wp2_with fail
          refine (clipSS_any _ _ _ _ hN1).mono ?_
          rintro e w6 ⟨rfl, rfl⟩
          go_wp2
          go_ret
          have hr6 := Rd.own HI4.out.own
          have hlt6 := HI4.out.own.lt g rfl
          have hfin : NewSS F w (.returned (.slice (some ⟨g, 0, none⟩) k k)) wr := ⟨some ⟨g, 0, none⟩, ys, by rw [HN.out], hr6, fun ad ha => by injection ha with ha; subst ha; exact hlt6, HI4.out.hd, by rw [HN.out]; exact HI4.out.fr, b4⟩
          rw [HF.out] at hfin
          exact hfin
end Go.Proofs.YtejkbjcmndnfeaaGreat

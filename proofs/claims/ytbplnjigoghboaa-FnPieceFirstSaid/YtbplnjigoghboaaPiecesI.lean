/- Contract: the program's PiecesAll. -/
import Derived.Test.YtbplnjigoghboaaPiecesG
import Derived.Test.YtbplnjigoghboaaFormJ
import Derived.Test.YtbplnjigoghboaaMoveS
import Derived.Deep.RegionLaw
namespace Go.Proofs.Ytbplnjigoghboaa
open Go.RowKit Go.Sort

/-- the list of the next ones under way -/
structure NxtSt (w wr : World) (v : Value) (xs : List Value) (acc : List (List Ce)) : Prop where
  own : OwnH wr w.heap.size v xs
  hd : HeadsR wr xs acc
  pt : Parts wr w.heap.size v xs
  ok : Below w.heap.size w wr
theorem NxtSt.belo {w wr w' : World} {v : Value} {xs : List Value} {acc : List (List Ce)} (h : NxtSt w wr v xs acc) (hb : Below wr.heap.size wr w') : NxtSt w w' v xs acc :=
  ⟨by obtain ⟨A, c, e, o⟩ := h.own; exact ⟨A, c, e, own_below o hb (Nat.le_refl _)⟩, h.hd.belo hb, h.pt.grown hb.size, bl_go h.ok hb⟩
theorem NxtSt.cast {w wr : World} {v : Value} {xs : List Value} {a b : List (List Ce)} (h : NxtSt w wr v xs a) (e : a = b) : NxtSt w wr v xs b := e ▸ h
theorem NxtSt.start (w : World) : NxtSt w w (.slice none 0 0) [] [] :=
  ⟨⟨none, 0, rfl, World.ownsRow_nil _ _ _ _⟩, ⟨rfl, fun k h => absurd h (Nat.not_lt_zero k)⟩, fun k ad n c e => by simp at e, Below.refl _ _⟩
theorem NxtSt.add {w wr w2 w3 : World} {v v' : Value} {xs : List Value} {acc : List (List Ce)} (h : NxtSt w wr v xs acc) (b2 : Below wr.heap.size wr w2) {gk n : Nat} {p : List Ce} {t : TypeId} (hw : Wr w2 wr.heap.size 72 (some ⟨gk, 0, none⟩) (cellsV p)) (hlt : gk < w2.heap.size) (hp : p.length = n) (hn : n ≤ 7)
    (o3 : OwnH w3 w.heap.size v' (xs ++ [.slice (some ⟨gk, 0, none⟩) n n])) (g3 : (w2.alloc (.cells #[.slice (some ⟨gk, 0, none⟩) n n] t)).grownBy w3 v.ownBlock) (hv : v'.ownBlock = v.ownBlock ∨ v'.ownBlock = some (w2.alloc (.cells #[.slice (some ⟨gk, 0, none⟩) n n] t)).heap.size) :
    NxtSt w w3 v' (xs ++ [.slice (some ⟨gk, 0, none⟩) n n]) (acc ++ [p]) := by
  subst hp
  have bz := bl_alloc (Below.refl w2.heap.size w2) (.cells #[.slice (some ⟨gk, 0, none⟩) p.length p.length] t)
  have ba := bl_go b2 bz
  have hgk := hw.1 _ rfl
  simp only at hgk
  generalize w2.alloc (.cells #[.slice (some ⟨gk, 0, none⟩) p.length p.length] t) = wa at *
  have hsz := h.ok.size
  have hd1 := h.hd.belo ba
  have pt1 := h.pt.grown (w' := wa) ba.size
  have hwl := hw.belo bz
  have pty : Parts wa w.heap.size v [.slice (some ⟨gk, 0, none⟩) p.length p.length] := by
    intro j ad n' c e
    match j, e with
    | 0, e =>
      injection e with e; injection e with e1 e2 e3
      injection e1 with e1
      subst e1
      refine ⟨by show w.heap.size ≤ gk; omega, by show gk < _; exact Nat.lt_of_lt_of_le hlt bz.size, fun e4 => ?_⟩
      have e5 : v.ownBlock = some gk := e4
      have := (own_outA h.own _ e5).2
      omega
    | j + 1, e => simp at e
  have hy : HeadsR wa [.slice (some ⟨gk, 0, none⟩) p.length p.length] [p] := ⟨rfl, fun j hj => by
    obtain rfl : j = 0 := by simpa using hj
    exact ⟨_, p.length, rfl, Nat.le_refl _, hn, hwl.rd⟩⟩
  refine ⟨o3, (hd1.app hy).grown (fun j ad n' c e => by
      rcases Nat.lt_or_ge j xs.length with h3 | h3
      · rw [List.getElem?_append_left h3] at e; exact pt1 j ad n' c e
      · rw [List.getElem?_append_right h3] at e; exact pty _ ad n' c e) g3 (.inl rfl), Parts.app pt1 pty g3.size hv, ?_⟩
  exact (h.ok.trans (ba.mono hsz)).grown g3 (Nat.le_trans hsz ba.size) (fun j hj => (own_outA h.own j hj).1)
section
variable {ops : Array Oper} {o : Oper} {a : Act} {Q : Exit → Act → World → Prop}
/-- one head appended -/
theorem step_headsB {K : Act → World → Prop} {E : Prop} (W : World) (hgd : o.guard = none) (s x : Operand) (ho : o.op = .call { callee := .builtin .append, args := #[s, x], argTypes := #[22, 22] })
    (base : Nat) (v : Value) (xs : List Value) (hs : a.eval s = v) (hown : OwnH W base v xs) (ad : Addr) (n c : Nat) (ys : List Value) (hx : a.eval x = .slice (some ad) n c) (hl : ys.length = n) (hq : ∀ j u, ys[j]? = some u → W.cell? (ad.add j) = some u) (h1 : ∀ u ∈ ys, u.oneCell' = true) (hm : xs.length + n ≤ 1000000000) (hbase : base ≤ W.heap.size)
    (h : ∀ v' w', OwnH w' base v' (xs ++ ys) → W.grownBy w' v.ownBlock → (v'.ownBlock = v.ownBlock ∨ v'.ownBlock = some W.heap.size) → K (a.put o.dst v') w') :
    if Region.wanted o (yielded ops a.tmps) = true then Oper.wp Try.prog o a W K Q else E := by
  have hw : Region.wanted o (yielded ops a.tmps) = true := by simp [Region.wanted, hgd]
  rw [if_pos hw]
  exact opw_headsA W s x ho base v xs hs hown ad n c ys hx hl hq h1 hm hbase h
end
theorem head_one (w : World) (x : Value) (t : TypeId) : ∀ j u, [x][j]? = some u → (w.alloc (.cells #[x] t)).cell? ((⟨w.heap.size, 0, none⟩ : Addr).add j) = some u := fun j u hu => by
  rw [add_off, Nat.zero_add, cell_of_row _ _ _ _ _ _ (heap_alloc_new w _)]; simpa using hu
theorem head_oc (A : Option Addr) (n c : Nat) : ∀ u ∈ [Value.slice A n c], u.oneCell' = true := fun u hu => by simp at hu; subst hu; rfl
theorem dirs_rd (w : World) : RdC (w.alloc (.cells #[.int .i64 1, .int .i64 0, .int .i64 0, .int .i64 1, .int .i64 (-1), .int .i64 0, .int .i64 0, .int .i64 (-1)] 72)) (some ⟨w.heap.size, 0, none⟩) dirsC := fun _ =>
  ⟨_, rfl, fun j u hu => by rw [add_off, Nat.zero_add, cell_of_row _ _ _ _ _ _ (heap_alloc_new w _)]; simpa [cellsV, dirsC] using hu⟩
/-- the boxes of the loop over the ways -/
structure BoxSt (wr : World) (v : Value) (h : Nat) (x y : Int) : Prop where
  c0 : wr.cell? ⟨h, 0, none⟩ = some (.int .i64 x)
  c1 : wr.cell? ⟨h, 1, none⟩ = some (.int .i64 y)
  rd : RdC wr (some ⟨h + 1, 0, none⟩) dirsC
  n0 : v.ownBlock ≠ some h
  n1 : v.ownBlock ≠ some (h + 1)
  lt : h + 1 < wr.heap.size
theorem BoxSt.belo {wr w' : World} {v : Value} {h : Nat} {x y : Int} (b : BoxSt wr v h x y) (hb : Below wr.heap.size wr w') : BoxSt w' v h x y :=
  ⟨((bcell hb).1 h 0 (by have := b.lt; omega)).trans b.c0, ((bcell hb).1 h 1 (by have := b.lt; omega)).trans b.c1, Rd.belo b.rd hb, b.n0, b.n1, Nat.lt_of_lt_of_le b.lt hb.size⟩
theorem BoxSt.app {wa w' : World} {v v' : Value} {h : Nat} {x y : Int} (b : BoxSt wa v h x y) (hg : wa.grownBy w' v.ownBlock) (hv : v'.ownBlock = v.ownBlock ∨ v'.ownBlock = some wa.heap.size) : BoxSt w' v' h x y := by
  have hlt := b.lt
  refine ⟨(World.cell?_of_block (a := ⟨h, 0, none⟩) (hg.block h (by omega) (fun e => b.n0 e.symm))).trans b.c0, (World.cell?_of_block (a := ⟨h, 1, none⟩) (hg.block h (by omega) (fun e => b.n0 e.symm))).trans b.c1, Rd.grownBelow b.rd hg (fun _ ad ha e => by injection ha with ha; subst ha; exact b.n1 e.symm), ?_, ?_, Nat.lt_of_lt_of_le b.lt hg.size⟩
  · rcases hv with e | e
    · rw [e]; exact b.n0
    · rw [e]; intro e2; injection e2 with e2; omega
  · rcases hv with e | e
    · rw [e]; exact b.n1
    · rw [e]; intro e2; injection e2 with e2; omega
/-- the pieces of the round before -/
structure AllSt (w wr : World) (g N c : Nat) (ys : List Value) (L : List (List Ce)) : Prop where
  own : wr.ownsRow w.heap.size 31 1 (.slice (some ⟨g, 0, none⟩) N c) N ys
  hd : HeadsR wr ys L
  pt : Parts wr w.heap.size (.slice (some ⟨g, 0, none⟩) N c) ys
  ok : Below w.heap.size w wr
  len : L.length = N
theorem AllSt.start (w : World) : AllSt w ((w.alloc (.cells #[.int .i64 0, .int .i64 0] 72)).alloc (.cells #[.slice (some ⟨w.heap.size, 0, none⟩) 1 1] 31)) (w.heap.size + 1) 1 1 [.slice (some ⟨w.heap.size, 0, none⟩) 1 1] [[(0, 0)]] := by
  have h1 : OwnC (w.alloc (.cells #[.int .i64 0, .int .i64 0] 72)) w.heap.size (.slice (some ⟨w.heap.size, 0, none⟩) 1 1) [((0 : Int), (0 : Int))] := OwnC.one w (0, 0)
  have hr : RdC ((w.alloc (.cells #[.int .i64 0, .int .i64 0] 72)).alloc (.cells #[.slice (some ⟨w.heap.size, 0, none⟩) 1 1] 31)) (some ⟨w.heap.size, 0, none⟩) [((0 : Int), (0 : Int))] := (OwnC.rd h1).alloc _
  refine ⟨?_, ?_, ?_, bl_alloc (bl_alloc (Below.refl _ _) _) _, rfl⟩
  · have := World.ownsRow_lit (base := w.heap.size) (e := 31) (size := 1) (w.alloc (.cells #[.int .i64 0, .int .i64 0] 72)) #[.slice (some ⟨w.heap.size, 0, none⟩) 1 1] 1 (by simp) (by unfold maxLen; omega) rfl
    rw [show (w.alloc (.cells #[.int .i64 0, .int .i64 0] 72)).heap.size = w.heap.size + 1 by simp] at this
    exact this
  · exact ⟨rfl, fun j hj => by
      obtain rfl : j = 0 := by simpa using hj
      exact ⟨_, 1, rfl, Nat.le_refl _, by show 1 ≤ 7; omega, hr⟩⟩
  · intro j ad n c e
    match j, e with
    | 0, e =>
      injection e with e; injection e with e1 e2 e3
      injection e1 with e1
      subst e1
      refine ⟨Nat.le_refl _, by simp; omega, fun e4 => ?_⟩
      have e5 : w.heap.size + 1 = w.heap.size := Option.some.inj e4
      omega
    | j + 1, e => simp at e
set_option maxRecDepth 100000 in
set_option maxHeartbeats 16000000 in
theorem iPiecesAll_t (m : Nat) (w : World) (h1 : 1 ≤ m) (h5 : m ≤ 5) :
    Calls Try.prog 16 #[.int .i64 m] w (NewSS (allP m) w) := by
  have CI := Lib.hid (fun (z : World) => in_t (m : Int) 1 5 z (by omega) (by omega))
  go_enter Try.func16, Try.ntmps16
  go_wp2_with fail
  refine (CI.out _).mono ?_
  rintro e wq ⟨rfl, rfl⟩
  go_wp2_with fail
  have I0 := AllSt.start w
  generalize ((w.alloc (.cells #[.int .i64 0, .int .i64 0] 72)).alloc (.cells #[.slice (some ⟨w.heap.size, 0, none⟩) 1 1] 31)) = wi at *
  go_loopw [3, 21] (fun v3 i wr => ∃ (t g N c : Nat) (ys : List Value), t + 1 ≤ m ∧ i = .int .i64 t ∧ v3 = .slice (some ⟨g, 0, none⟩) N c ∧ AllSt w wr g N c ys (allP (t + 1))) (fun _ i _ => m - (intOf i).toNat)
  case atStart => exact ⟨0, w.heap.size + 1, 1, 1, _, h1, rfl, rfl, I0⟩
  case round =>
    clear I0
    obtain ⟨t, g, N, c, ys, ht, rfl, rfl, I1⟩ := hrel
    obtain ⟨wo, hwo⟩ : ∃ wo : World, wo = wr := ⟨_, rfl⟩
    subst hwo
    by_cases hlt : t + 1 < m
    · have hltI : (t : Int) < (m : Int) - 1 := by omega
      have HL := Lib.hid I1.len
      have hlens := allP_lens (n := t + 1) (by omega) (by omega)
      rw [HL.out] at hlens
      obtain ⟨hN1, hN12⟩ := hlens
      have HOK := Lib.hid (allP_ok (t + 1) (by omega))
      have HGP := Lib.hid (grow_pos (n := t + 1) (by omega) (by omega))
      have HGE := Lib.hid (fun q h => grow_each (n := t + 1) (by omega) (by omega) (q := q) h)
      have HI := Lib.hid I1
      have hwsz := I1.ok.size
      have J0 := NxtSt.start wo
      obtain ⟨L, hL⟩ : ∃ L, allP (t + 1) = L := ⟨_, rfl⟩
      have HLL := Lib.hid hL
      rw [hL] at HL HOK HGP HGE HI
      clear hL I1
      go_wp2_with fail
      go_loopw [4, 25] (fun v4 i wr => ∃ (i0 : Nat) (xs : List Value), i0 ≤ N ∧ i = .int .i64 i0 ∧ NxtSt wo wr v4 xs (gI L i0) ∧ xs.length ≤ 20 * i0) (fun _ i _ => N - (intOf i).toNat)
      case atStart => exact ⟨0, [], Nat.zero_le _, rfl, J0, Nat.zero_le _⟩
      case round =>
        clear J0
        obtain ⟨i, xs, hi, rfl, J1, hx1⟩ := hrel
        by_cases hli : i < N
        · have hiL : i < L.length := by rw [HL.out]; exact hli
          have hiy : i < ys.length := by have := HI.out.own.1; omega
          have hliI : (i : Int) < (N : Int) := by omega
          obtain ⟨B6, c6, e6, l6, m6, r6⟩ := HI.out.hd.at_ hiL hiy
          have hAO := HOK.out _ (List.getElem_mem hiL)
          have HGI := Lib.hid (fun p hp => gI_step (p := p) hiL hp)
          obtain ⟨p, hp⟩ : ∃ p, L[i] = p := ⟨_, rfl⟩
          have HP := Lib.hid hp
          rw [hp] at e6 l6 m6 r6 hAO
          have HAO := Lib.hid hAO
          have hpl : p.length = t + 1 := hAO.len
          obtain ⟨bp, op, rfl, -, -⟩ := RdC.at_ r6 (k := 0) (by omega)
          have KP := Lib.hid (fun (z : World) (hb : Below wo.heap.size wo z) => show RdC z (some ⟨bp, op, none⟩) p from Rd.belo r6 hb)
          have d6 : wr.cell? ⟨g, i, none⟩ = some (.slice (some ⟨bp, op, none⟩) p.length c6) := by
            have h0 : wo.cell? ⟨g, i, none⟩ = some (.slice (some ⟨bp, op, none⟩) p.length c6) := by rw [HI.out.own.cellAt i (by omega), List.getElem?_eq_getElem hiy, e6]
            exact ((bcell J1.ok).1 g i (by have := World.block_lt_of_cell? wo _ h0; simpa using this)).trans h0
          have hp5 : p.length ≤ 5 := by omega
          have hp1 : 0 < p.length := by omega
          have HPL := Lib.hid hpl
          have J1' := J1.cast (show _ = gI L i ++ gJ p 0 by rw [gJ_zero, List.append_nil])
          clear hp e6 l6 m6 r6 hAO hpl J1
          go_wp2_with fail
          clear d6
          go_loopw [4, 31] (fun v4 i2 wr => ∃ (j : Nat) (xs : List Value), j ≤ p.length ∧ i2 = .int .i64 j ∧ NxtSt wo wr v4 xs (gI L i ++ gJ p j) ∧ xs.length ≤ 20 * i + 4 * j) (fun _ i2 _ => p.length - (intOf i2).toNat)
          case atStart => exact ⟨0, xs, Nat.zero_le _, rfl, J1', by omega⟩
          case round =>
            clear J1'
            obtain ⟨j, xs, hj, rfl, J2, hx2⟩ := hrel
            by_cases hlj : j < p.length
            · have hljI : (j : Int) < (p.length : Int) := by omega
              have rp := KP.out _ J2.ok
              obtain ⟨bb, oo, e0, q0, q1⟩ := RdC.at_ rp hlj
              injection e0 with e0
              injection e0 with e01 e02
              subst e01; subst e02
              have HGJ := Lib.hid (fun c h => gJ_step (c := c) hlj h)
              have hcm := HAO.out.edge _ (List.getElem_mem hlj)
              have hcp := List.getElem_mem hlj
              obtain ⟨cc, hcc⟩ : ∃ cc, p[j] = cc := ⟨_, rfl⟩
              have HCC := Lib.hid hcc
              rw [hcc] at q0 q1 hcm hcp
              have HCP := Lib.hid hcp
              clear hcc rp hcp
              obtain ⟨x, y⟩ := cc
              simp only at q0 q1 hcm
              obtain ⟨x0, x1, y0, y1⟩ := hcm
              obtain ⟨wj, hwj⟩ : ∃ wj : World, wj = wr := ⟨_, rfl⟩
              subst hwj
              have hb4 := bl_alloc (bl_alloc (Below.refl wj.heap.size wj) (.cells #[.int .i64 x, .int .i64 y] 72)) (.cells #[.int .i64 1, .int .i64 0, .int .i64 0, .int .i64 1, .int .i64 (-1), .int .i64 0, .int .i64 0, .int .i64 (-1)] 72)
              have f0 : ((wj.alloc (.cells #[.int .i64 x, .int .i64 y] 72)).alloc (.cells #[.int .i64 1, .int .i64 0, .int .i64 0, .int .i64 1, .int .i64 (-1), .int .i64 0, .int .i64 0, .int .i64 (-1)] 72)).cell? ⟨wj.heap.size, 0, none⟩ = some (.int .i64 x) := (World.cell?_alloc_lt _ _ ⟨wj.heap.size, 0, none⟩ (by simp)).trans (cell_of_row _ _ _ _ _ _ (heap_alloc_new wj _))
              have f1 : ((wj.alloc (.cells #[.int .i64 x, .int .i64 y] 72)).alloc (.cells #[.int .i64 1, .int .i64 0, .int .i64 0, .int .i64 1, .int .i64 (-1), .int .i64 0, .int .i64 0, .int .i64 (-1)] 72)).cell? ⟨wj.heap.size, 1, none⟩ = some (.int .i64 y) := (World.cell?_alloc_lt _ _ ⟨wj.heap.size, 1, none⟩ (by simp)).trans (cell_of_row _ _ _ _ _ _ (heap_alloc_new wj _))
              have fd := dirs_rd (wj.alloc (.cells #[.int .i64 x, .int .i64 y] 72))
              rw [show (wj.alloc (.cells #[.int .i64 x, .int .i64 y] 72)).heap.size = wj.heap.size + 1 by simp] at fd
              have fs : wj.heap.size + 1 < ((wj.alloc (.cells #[.int .i64 x, .int .i64 y] 72)).alloc (.cells #[.int .i64 1, .int .i64 0, .int .i64 0, .int .i64 1, .int .i64 (-1), .int .i64 0, .int .i64 0, .int .i64 (-1)] 72)).heap.size := by simp
              have hvo := own_outA J2.own
              have J3 := (J2.belo hb4).cast (show _ = gI L i ++ gJ p j ++ gD p (x, y) 0 by rw [gD_zero, List.append_nil])
              clear J2
              go_wp2_with fail
              generalize ((wj.alloc (.cells #[.int .i64 x, .int .i64 y] 72)).alloc (.cells #[.int .i64 1, .int .i64 0, .int .i64 0, .int .i64 1, .int .i64 (-1), .int .i64 0, .int .i64 0, .int .i64 (-1)] 72)) = w3 at *
              have X3 := BoxSt.mk f0 f1 fd (fun e => by have := (hvo _ e).2; omega) (fun e => by have := (hvo _ e).2; omega) fs
              clear f0 f1 fd hvo
              go_loopw [4, 41] (fun v4 i3 wr => ∃ (d : Nat) (xs : List Value), d ≤ 4 ∧ i3 = .int .i64 d ∧ NxtSt wo wr v4 xs (gI L i ++ gJ p j ++ gD p (x, y) d) ∧ xs.length ≤ 20 * i + 4 * j + d ∧ BoxSt wr v4 wj.heap.size x y) (fun _ i3 _ => 4 - (intOf i3).toNat)
              case atStart => exact ⟨0, xs, by omega, rfl, J3, by omega, X3⟩
              case round =>
                clear J3 X3
                obtain ⟨d, xs, hd, rfl, J4, hx4, X4⟩ := hrel
                by_cases hld : d < 4
                · have hldI : (d : Int) < 4 := by omega
                  have HX4 := Lib.hid X4
                  obtain ⟨k0, k1, kd, -, -, hbl4⟩ := X4
                  have hdl : d < dirsC.length := hld
                  obtain ⟨bd, od, e0, u0, u1⟩ := RdC.at_ kd hdl
                  injection e0 with e0
                  injection e0 with e01 e02
                  subst e01; subst e02
                  obtain ⟨hnd, v1, v2, v3, v4b⟩ := near_dir (x, y) hld hdl
                  simp only at hnd
                  obtain ⟨dd, hdd⟩ : ∃ dd, dirsC[d] = dd := ⟨_, rfl⟩
                  rw [hdd] at hnd u0 u1 v1 v2 v3 v4b
                  clear hdd kd
                  obtain ⟨dx, dy⟩ := dd
                  simp only at hnd u0 u1 v1 v2 v3 v4b
                  rw [Nat.zero_add] at u0 u1
                  have HGI0 := Lib.hid (fun h => gD_in (p := p) hld hnd h)
                  have HGO0 := Lib.hid (fun h => gD_out (p := p) hld hnd h)
                  have HADJ : Hid ((x + dx, y + dy) ∈ nearC (x, y)) := by
                    show _ ∈ _
                    rw [← hnd]; exact List.getElem_mem _
                  clear hnd
                  have hbj : wj.heap.size < wr.heap.size := by omega
                  have CC := Lib.hid (fun (z : World) (hb : Below wo.heap.size wo z) => containsC_any (some ⟨bp, op, none⟩) c6 p (x + dx, y + dy) z (KP.out z hb) (by omega))
                  have hba := bl_alloc (bl_alloc (Below.refl wr.heap.size wr) (.cells #[.int .i64 dx, .int .i64 dy] 72)) (.cells #[.int .i64 (x + dx), .int .i64 (y + dy)] 72)
                  have g0 : ((wr.alloc (.cells #[.int .i64 dx, .int .i64 dy] 72)).alloc (.cells #[.int .i64 (x + dx), .int .i64 (y + dy)] 72)).cell? ⟨wr.heap.size + 1, 0, none⟩ = some (.int .i64 (x + dx)) := by simp
                  have g1 : ((wr.alloc (.cells #[.int .i64 dx, .int .i64 dy] 72)).alloc (.cells #[.int .i64 (x + dx), .int .i64 (y + dy)] 72)).cell? ⟨wr.heap.size + 1, 1, none⟩ = some (.int .i64 (y + dy)) := by simp
                  have gs : wr.heap.size + 1 < ((wr.alloc (.cells #[.int .i64 dx, .int .i64 dy] 72)).alloc (.cells #[.int .i64 (x + dx), .int .i64 (y + dy)] 72)).heap.size := by simp
                  have k0' : (wr.alloc (.cells #[.int .i64 dx, .int .i64 dy] 72)).cell? ⟨wj.heap.size, 0, none⟩ = some (.int .i64 x) := (World.cell?_alloc_lt _ _ ⟨wj.heap.size, 0, none⟩ hbj).trans k0
                  have k1' : (wr.alloc (.cells #[.int .i64 dx, .int .i64 dy] 72)).cell? ⟨wj.heap.size, 1, none⟩ = some (.int .i64 y) := (World.cell?_alloc_lt _ _ ⟨wj.heap.size, 1, none⟩ hbj).trans k1
                  have hJo := J4.ok
                  have hsz4 := hJo.size
                  cases hin : decide ((x + dx, y + dy) ∈ p) with
                  | true =>
                    have HIN := Lib.hid hin
                    have J6 := J4.cast (show _ = gI L i ++ gJ p j ++ gD p (x, y) (d + 1) by rw [HGI0.out hin])
                    clear hin J4
                    go_wp2_with (go_at_call 83; refine (CC.out _ (hJo.trans (hba.mono hsz4))).mono ?_; rintro e w5 ⟨rfl, b5⟩; rw [HIN.out])
                    go_roundw
                    case rel => exact ⟨d + 1, xs, by omega, by go_num, J6.belo (bl_go hba b5), by omega, HX4.out.belo (bl_go hba b5)⟩
                    case measure => simp [intOf]; omega
                  | false =>
                    have HIN := Lib.hid hin
                    have hokq : PieceOk (p ++ [(x + dx, y + dy)]) := grow_ok HAO.out (by omega) HCP.out (by
                      unfold newsC
                      rw [List.mem_filter]
                      exact ⟨HADJ.out, by rw [hin]; rfl⟩)
                    have HOQ := Lib.hid hokq
                    have FH := Lib.hid (fun (z : World) (B : Option Addr) (cB : Nat) (R : RdC z B (p ++ [(x + dx, y + dy)])) => by
                      have := formsH_any B cB (p ++ [(x + dx, y + dy)]) z R hokq
                      simp only [List.length_append, List.length_cons, List.length_nil, Nat.zero_add] at this
                      exact this)
                    have CL := Lib.hid (fun (z : World) (hb : Below wo.heap.size wo z) => cloneS_any bp op p.length c6 p z (KP.out z hb) rfl hp1 (by omega))
                    have HGO := Lib.hid (HGO0.out hin)
                    have J4' := Lib.hid J4
                    clear hin J4 hokq
                    go_wp2_with (go_at_call 83; refine (CC.out _ (hJo.trans (hba.mono hsz4))).mono ?_; rintro e w5 ⟨rfl, b5⟩; rw [HIN.out]; have m0 := ((bcell b5).1 _ _ gs).trans g0; have m1 := ((bcell b5).1 _ _ gs).trans g1; have Z5 := bl_go hba b5)
                    clear g0 g1 k0 k1 k0' k1' u0 u1
                    have hsz5 := Z5.size
                    have gs5 : wr.heap.size + 1 < w5.heap.size := Nat.lt_of_lt_of_le gs b5.size
                    have Q5' : Below wo.heap.size wo w5 := hJo.trans (Z5.mono hsz4)
                    have Q5 : Below wo.heap.size wo w5.drew := Q5'.drew
                    have Q5b : Below wo.heap.size wo (w5.alloc (.cells #[.int .i64 (x + dx), .int .i64 (y + dy)] 72)).drew := (Q5'.alloc (Nat.le_trans hsz4 hsz5) (.cells #[.int .i64 (x + dx), .int .i64 (y + dy)] 72)).drew
                    have x0b : (w5.alloc (.cells #[.int .i64 (x + dx), .int .i64 (y + dy)] 72)).cell? ⟨w5.heap.size, 0, none⟩ = some (.int .i64 (x + dx)) := cell_of_row _ _ _ _ _ _ (heap_alloc_new w5 _)
                    have x1b : (w5.alloc (.cells #[.int .i64 (x + dx), .int .i64 (y + dy)] 72)).cell? ⟨w5.heap.size, 1, none⟩ = some (.int .i64 (y + dy)) := cell_of_row _ _ _ _ _ _ (heap_alloc_new w5 _)
                    have hpl9 : p.length ≤ 1000000000000 := by omega
                    have hxl9 : xs.length ≤ 1000000 := by omega
                    go_wp2_with fail
                    go_region_law (first
                      | (go_simp; go_at_call 85; (with_reducible refine (CL.out w5.drew Q5).mono ?_); rintro e w6 ⟨g6, cap6, rfl, hcap6, o6, b6⟩; have n0 := ((bcell b6).1 _ _ gs5).trans m0; have n1 := ((bcell b6).1 _ _ gs5).trans m1; have OW : OwnC (w6.alloc (.cells #[.int .i64 (x + dx), .int .i64 (y + dy)] 72)) w5.heap.size (.slice (some ⟨g6, 0, none⟩) p.length cap6) p := ⟨_, _, rfl, o6.alloc _⟩; have B6 : Below w5.heap.size w5 w6 := Below.trans (Below.refl w5.heap.size w5).drew b6; have B6a := bl_alloc B6 (.cells #[.int .i64 (x + dx), .int .i64 (y + dy)] 72); have e0a : (w6.alloc (.cells #[.int .i64 (x + dx), .int .i64 (y + dy)] 72)).cell? ⟨w6.heap.size, 0, none⟩ = some (.int .i64 (x + dx)) := cell_of_row _ _ _ _ _ _ (heap_alloc_new w6 _); have e1a : (w6.alloc (.cells #[.int .i64 (x + dx), .int .i64 (y + dy)] 72)).cell? ⟨w6.heap.size, 1, none⟩ = some (.int .i64 (y + dy)) := cell_of_row _ _ _ _ _ _ (heap_alloc_new w6 _))
                      | (go_simp; go_at_call 85; (with_reducible refine (CL.out (w5.alloc (.cells #[.int .i64 (x + dx), .int .i64 (y + dy)] 72)).drew Q5b).mono ?_); rintro e w6 ⟨g6, cap6, rfl, hcap6, o6, b6⟩; have OW : OwnC w6 w5.heap.size (.slice (some ⟨g6, 0, none⟩) p.length cap6) p := OwnC.base ⟨_, _, rfl, o6⟩ (by show w5.heap.size ≤ (w5.alloc (.cells #[.int .i64 (x + dx), .int .i64 (y + dy)] 72)).heap.size; simp); have B6a : Below w5.heap.size w5 w6 := Below.trans (bl_alloc (Below.refl w5.heap.size w5) (.cells #[.int .i64 (x + dx), .int .i64 (y + dy)] 72)).drew (b6.mono (by show w5.heap.size ≤ (w5.alloc (.cells #[.int .i64 (x + dx), .int .i64 (y + dy)] 72)).heap.size; simp)); have e0b := ((bcell b6).1 w5.heap.size 0 (by show w5.heap.size < (w5.alloc (.cells #[.int .i64 (x + dx), .int .i64 (y + dy)] 72)).heap.size; simp)).trans x0b; have e1b := ((bcell b6).1 w5.heap.size 1 (by show w5.heap.size < (w5.alloc (.cells #[.int .i64 (x + dx), .int .i64 (y + dy)] 72)).heap.size; simp)).trans x1b)
                      | (refine step_app_cell (w6.alloc (.cells #[.int .i64 (x + dx), .int .i64 (y + dy)] 72)) rfl _ _ rfl w5.heap.size (.slice (some ⟨g6, 0, none⟩) p.length cap6) p rfl OW (x + dx) (y + dy) w6.heap.size rfl e0a e1a hpl9 B6a.size ?_; intro g7 c7 w7 o7 G7 e7; have B7 := B6a.grown G7 B6a.size (fun k hk => own_base_lt OW k hk); have R7 := OwnC.rd o7)
                      | (refine step_app_cell w6 rfl _ _ rfl w5.heap.size (.slice (some ⟨g6, 0, none⟩) p.length cap6) p rfl OW (x + dx) (y + dy) w5.heap.size rfl e0b e1b hpl9 B6a.size ?_; intro g7 c7 w7 o7 G7 e7; have B7 := B6a.grown G7 B6a.size (fun k hk => own_base_lt OW k hk); have R7 := OwnC.rd o7)
                      | (go_simp; go_at_call 84; (with_reducible refine (FH.out w7 _ _ R7).mono ?_); rintro e w8 ⟨g8, o8, k8, N8, rfl, hN8, c8, hw8, b8⟩; (have hN8I : (0 : Int) < (N8 : Int) := by omega); have B8 : Below wr.heap.size wr w8 := bl_go Z5 (bl_go B7 b8); have OH := OwnH.alloc2 (J4'.out.own) B8 (.cells #[Value.slice (some ⟨k8, 0, none⟩) (p.length + 1) (p.length + 1)] 31))
                      | (refine step_headsB (w8.alloc (.cells #[Value.slice (some ⟨k8, 0, none⟩) (p.length + 1) (p.length + 1)] 31)) rfl _ _ rfl wo.heap.size _ xs rfl OH ⟨w8.heap.size, 0, none⟩ _ _ [Value.slice (some ⟨k8, 0, none⟩) (p.length + 1) (p.length + 1)] rfl rfl (head_one _ _ _) (head_oc _ _ _) (by simp; omega) (by have h1 := B8.size; have h2 := J4'.out.ok.size; simp; omega) ?_; intro v9 w9 o9 G9 hv9))
                    all_goals (
                      have hfl : (firstV (p ++ [(x + dx, y + dy)])).length = p.length + 1 := by rw [first_len HOQ.out, List.length_append]; rfl
                      have hcl := cellsV_len (firstV (p ++ [(x + dx, y + dy)]))
                      obtain ⟨k8', hk8, -, hk8lt, -⟩ := hw8.form (by intro e; rw [e] at hcl; simp at hcl; omega)
                      injection hk8 with hk8
                      injection hk8 with hk8
                      subst hk8
                      have NS := (J4'.out.add B8 (hw8.lower (by have h1 := Z5.size; have h2 := B7.size; omega)) hk8lt hfl (by omega) o9 G9 hv9).cast (show _ = gI L i ++ gJ p j ++ gD p (x, y) (d + 1) by rw [HGO.out, ← List.append_assoc])
                      have Z9 := NS.ok
                      have BW9 := (HX4.out.belo (bl_alloc B8 _)).app G9 hv9
                      go_wp2_with fail
                      go_roundw
                      case rel => exact ⟨d + 1, _, by omega, by go_num, NS, by simp; omega, BW9⟩
                      case measure => simp [intOf]; omega)
                · obtain rfl : d = 4 := by omega
                  have hge : ¬ ((4 : Int) < 4) := by omega
                  have J5 := J4.cast (show _ = gI L i ++ gJ p (j + 1) by rw [HGJ.out _ HCC.out, ← gD_four, ← List.append_assoc])
                  clear J4
                  go_wp2_with fail
                  go_roundw
                  case rel => exact ⟨j + 1, xs, by omega, by go_num, J5, by omega⟩
                  case measure => simp [intOf]; omega
            · obtain rfl : j = p.length := by omega
              have J5 := J2.cast (show _ = gI L (i + 1) by rw [HGI.out p HP.out, ← gJ_all])
              clear J2
              go_wp2_with fail
              go_roundw
              case rel => exact ⟨i + 1, xs, by omega, by go_num, J5, by omega⟩
              case measure => simp [intOf]; omega
        · obtain rfl : i = N := by omega
          have J7 := J1.cast (show _ = growL L by rw [← HL.out, gI_all])
          clear J1
          obtain ⟨M, hM⟩ : ∃ M, xs.length = M + 1 := ⟨xs.length - 1, by have := J7.hd.1; have := HGP.out; omega⟩
          obtain ⟨A8, c8, e8, o8⟩ := id J7.own
          rw [hM] at o8 e8
          subst e8
          obtain ⟨g8, cap8, ev, -, hlt8⟩ := o8.form (by omega)
          injection ev with ev1 ev2 ev3
          subst ev1
          have hg8 := (o8.lt g8 rfl).1
          have hM4 : M ≤ 1000 := by omega
          have CS := Lib.hid (sortF_any g8 c8 wo.heap.size M (t + 2) xs (growL L) wr o8 J7.hd J7.pt (fun q hq => HGE.out q hq) (by omega))
          have b8 := J7.ok
          clear J7 hM o8 ev3
          go_wp2_with fail
          refine CS.out.mono ?_
          rintro e w2 ⟨xs2, S2, rfl, o2, h2, p2, hperm, hpw, g2⟩
          have b2 : Below wo.heap.size wo w2 := b8.grown g2 b8.size (fun k hk => by injection hk with hk; omega)
          have HF : Hid (comp S2 = allP (t + 1 + 1)) := by
            show _ = incOf (growL (allP (t + 1)))
            rw [comp_incOf hpw hperm, HLL.out]
          have CK := Lib.hid (compactF_any g8 c8 wo.heap.size (M + 1) xs2 S2 w2 o2 h2 p2 (by omega))
          clear b8 g2 hperm hpw o2 h2 p2 CS
          go_wp2_with fail
          refine CK.out.mono ?_
          rintro e w3 ⟨xs3, rfl, o3, h3, p3, g3⟩
          have b3 : Below wo.heap.size wo w3 := b2.grown g3 b2.size (fun k hk => by injection hk with hk; omega)
          have IN : Hid (AllSt w w3 g8 (comp S2).length c8 xs3 (allP (t + 1 + 1))) := by
            show AllSt _ _ _ _ _ _ _
            rw [← HF.out]
            exact ⟨own_base o3 hwsz, h3, fun k ad n' c' e => by
              obtain ⟨k1, k2, k3⟩ := p3 k ad n' c' e
              exact ⟨by omega, k2, k3⟩, HI.out.ok.trans (b3.mono hwsz), rfl⟩
          clear o3 h3 p3 g3 b2 b3 CK
          go_wp2_with fail
          go_roundw
          case rel => exact ⟨t + 1, g8, _, c8, xs3, by omega, by go_num, rfl, IN.out⟩
          case measure => simp [intOf]; omega
    · obtain rfl : t + 1 = m := by omega
      have hge : ¬ ((t : Int) < ((t + 1 : Nat) : Int) - 1) := by omega
      have HLN := Lib.hid I1.len
      have HEL := Lib.hid (fun p hp => (allP_ok (t + 1) h5 p hp).len)
      have I3 : FreshSt wo w.heap.size g N c ys (allP (t + 1)) 0 := ⟨I1.own, I1.hd, I1.pt, fun k hk => by omega⟩
      have b3 := I1.ok
      obtain ⟨hN1, hN2⟩ := own_cap I1.own
      unfold maxLen at hN2
      obtain ⟨F, hF⟩ : ∃ F, allP (t + 1) = F := ⟨_, rfl⟩
      have HFF := Lib.hid hF
      rw [hF] at HLN HEL I3
      clear hF I1
      go_wp2_with fail
      go_loopw [81] (fun i wr => ∃ (k : Nat) (xs : List Value), k ≤ N ∧ i = .int .i64 k ∧ FreshSt wr w.heap.size g N c xs F k ∧ Below w.heap.size w wr) (fun i _ => N - (intOf i).toNat)
      case atStart => exact ⟨0, ys, Nat.zero_le _, rfl, I3, b3⟩
      case round =>
        clear I3 b3
        obtain ⟨k, zs, hk, rfl, I4, b4⟩ := hrel
        by_cases hlt2 : k < N
        · have hkF : k < F.length := by rw [HLN.out]; exact hlt2
          have hkx : k < zs.length := by have := I4.hd.1; omega
          obtain ⟨B5, c5, e5, l5, m5, r5⟩ := I4.hd.at_ hkF hkx
          have hFL : F[k].length = t + 1 := HEL.out _ (List.getElem_mem hkF)
          obtain ⟨bb, off, rfl, -, -⟩ := RdC.at_ r5 (k := 0) (by omega)
          have CC := Lib.hid (cloneP_any bb off (t + 1) c5 F[k] wr r5 hFL (by omega) (by omega))
          have d5 : wr.cell? ⟨g, k, none⟩ = some (.slice (some ⟨bb, off, none⟩) (t + 1) c5) := by rw [I4.own.cellAt k (by omega), List.getElem?_eq_getElem hkx, e5, hFL]
          have HST := Lib.hid (fun w2 gk hb hw h1 h2 => FreshSt.step (w2 := w2) (gk := gk) I4 hkF hFL (by omega) hb hw h1 h2 b4.size)
          have own4 := I4.own
          have hg4 := (own4.lt g rfl).2
          have hg4b : w.heap.size ≤ g := (own4.lt g rfl).1
          have hkN : (k : Int) < (N : Int) := by omega
          clear e5 l5 m5 r5 hFL hkx I4 hlt2
          go_wp2_with (go_at_call 90; refine CC.out.mono ?_; rintro e w5 ⟨gk, rfl, hw5, k1, k2, b5⟩; have hf5 := (own_below own4 b5 (Nat.le_refl _)).frozenAt k; have d6 := ((bcell b5).1 g k hg4).trans d5)
          go_roundw
          case rel => exact ⟨k + 1, _, by omega, by go_num, HST.out w5 gk b5 hw5 k1 k2, (bl_go b4 b5).setCell hg4b _⟩
          case measure => simp [intOf]; omega
        · obtain rfl : k = N := by omega
          have HI4 := Lib.hid I4
          clear I4
          go_wp2_with fail
          refine (clipSS_any _ _ _ _ hN1).mono ?_
          rintro e w6 ⟨rfl, rfl⟩
          go_wp2
          go_ret
          have hr6 := Rd.own HI4.out.own
          have hlt6 := HI4.out.own.lt g rfl
          have hfin : NewSS F w (.returned (.slice (some ⟨g, 0, none⟩) k k)) wr := ⟨some ⟨g, 0, none⟩, zs, by rw [HLN.out], hr6, fun ad ha => by injection ha with ha; subst ha; exact hlt6, HI4.out.hd, by rw [HLN.out]; exact HI4.out.fr, b4⟩
          rw [← HFF.out] at hfin
          exact hfin
theorem iPiecesAll_any (m : Int) (w : World) : Calls Try.prog 16 #[.int .i64 m] w (NewSS (allV m) w) := by
  by_cases h : 1 ≤ m ∧ m ≤ 5
  · unfold allV
    rw [if_pos h]
    obtain ⟨k, rfl⟩ := Int.eq_ofNat_of_zero_le (show 0 ≤ m by omega)
    have := iPiecesAll_t k w (by omega) (by omega)
    simpa using this
  · unfold allV
    rw [if_neg h]
    go_enter Try.func16, Try.ntmps16
    go_wp2_with fail
    refine (in_f m 1 5 _ (by omega)).mono ?_
    rintro e wq ⟨rfl, rfl⟩
    go_wp2
    go_ret
    exact NewSS.nil (Below.refl _ _)
end Go.Proofs.Ytbplnjigoghboaa

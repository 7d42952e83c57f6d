
/- Contracts: the program's PieceForms, PieceFirst, SamePiece. -/
import Derived.Test.YtejkbjcmndnfeaaGreatFormI
namespace Go.Proofs.YtejkbjcmndnfeaaGreat
open Go.RowKit Go.Sort

theorem NewSS.nil {w w' : World} (hb : Below w.heap.size w w') : NewSS [] w (.returned (.slice none 0 0)) w' :=
  ⟨none, [], rfl, Rd.nil _ _, (fun _ h => by cases h), ⟨rfl, fun k h => absurd h (Nat.not_lt_zero k)⟩, (fun k hk => absurd hk (Nat.not_lt_zero k)), hb⟩
theorem NewSS.from_ {F : List (List Ce)} {w w1 w' : World} {e : Ending} (h : NewSS F w1 e w') (hb : Below w.heap.size w w1) : NewSS F w e w' := by
  obtain ⟨A, xs, h1, h2, h3, h4, h5, h6⟩ := h
  have hz := hb.size
  refine ⟨A, xs, h1, h2, fun ad ha => ⟨by have := (h3 ad ha).1; omega, (h3 ad ha).2⟩, h4, fun k hk hF => ?_, bl_go hb h6⟩
  obtain ⟨gk, a1, a2, a3⟩ := h5 k hk hF
  exact ⟨gk, a1, a2.lower hz, a3⟩
/-- a list of lists whose first one is told -/
def HeadFirst (p : List Ce) (n : Nat) (w : World) (e : Ending) (w' : World) : Prop :=
  ∃ g off gk N, e = .returned (.slice (some ⟨g, off, none⟩) N N) ∧ 0 < N ∧ w'.cell? ⟨g, off, none⟩ = some (.slice (some ⟨gk, 0, none⟩) n n) ∧ Wr w' w.heap.size 89 (some ⟨gk, 0, none⟩) (cellsV p) ∧ Below w.heap.size w w'
theorem getElem_headD {α : Type} {d : α} : ∀ (l : List α) (h : 0 < l.length), l[0] = l.headD d
  | _ :: _, _ => rfl
theorem NewSS.first {ps : List Ce} (h : PieceOk ps) {w w' : World} {e : Ending} (hs : NewSS (formsV ps) w e w') : HeadFirst (firstV ps) ps.length w e w' := by
  obtain ⟨A, xs, h1, h2, h3, h4, h5, h6⟩ := hs
  have h0 := formsV_pos h
  have hx0 : 0 < xs.length := by have := h4.1; omega
  obtain ⟨gk, a1, a2, -⟩ := h5 0 h0 h0
  have hf : (formsV ps)[0] = firstV ps := by
    unfold firstV
    exact getElem_headD _ h0
  obtain ⟨ad, e2, hc⟩ := h2 (by intro e; rw [e] at hx0; simp at hx0)
  subst e2
  have c0 := hc 0 _ a1
  rw [add_zero'] at c0
  have hs := World.cell?_spot c0
  obtain ⟨b, off, spot⟩ := ad
  simp only at hs
  subst hs
  rw [hf] at a2
  have hl : (formsV ps)[0].length = ps.length := (formsV_each (List.getElem_mem h0)).1
  rw [hl] at c0
  exact ⟨b, off, gk, _, h1, h0, c0, by rw [← hf] at a2 ⊢; exact a2, h6⟩
theorem first_len7 {ps : List Ce} (h : PieceOk ps) : (firstV ps).length = ps.length := first_len h
theorem formsH_any (A : Option Addr) (c : Nat) (ps : List Ce) (w : World) (hr : RdC w A ps) (hok : PieceOk ps) :
    Calls Tryz.prog 73 #[.slice A ps.length c] w (HeadFirst (firstV ps) ps.length w) := (forms_any A c ps w hr hok).mono fun _ _ h => h.first hok
/-- whether two pieces are the same -/
noncomputable def sameV (a b : List Ce) : Bool := pieceB a && pieceB b && decide (firstV a = firstV b)
set_option maxRecDepth 100000 in
set_option maxHeartbeats 1000000 in
theorem iSame_f (A A' : Option Addr) (c c' : Nat) (ps qs : List Ce) (w : World) (hr : RdC w A ps) (hn : ps.length ≤ maxLen) (hcap : ps.length ≤ c) (hp : pieceB ps = false) :
    Calls Tryz.prog 69 #[.slice A ps.length c, .slice A' qs.length c'] w fun e w' => e = .returned (.bool (sameV ps qs)) ∧ Below w.heap.size w w' := by
  have VA := Lib.hid (fun (z : World) (R : RdC z A ps) => iPieceValid_any A c ps z R hn hcap)
  have HF := Lib.hid (show sameV ps qs = false by unfold sameV; rw [hp]; rfl)
  have HP := Lib.hid hp
  clear hp
  rw [HP.out] at VA
  go_enter Tryz.func69, Tryz.ntmps69
  go_wp2_with fail
  (refine region_bw (by kernel_rfl) (by kernel_rfl) ?_; (repeat (first | go_big_quiet_skip | (go_big_quiet_want; go_big_quiet_op; first | go_big_quiet_on | (refine ⟨.bool false, fun zz => ?_, ?_⟩; (go_at_call 138; exact zz.on (VA.out _ (Rd.belo hr zz.ok))); go_big_quiet_on)))); refine wpQuiet_nil ?_; intro wz hw'; obtain ⟨zw, hw''⟩ := hw'; subst hw'')
  go_wp2_with fail
  go_ret
  exact ⟨ret_b HF.out.symm, zw.ok⟩
set_option maxRecDepth 100000 in
set_option maxHeartbeats 1000000 in
theorem iSame_tf (A A' : Option Addr) (c c' : Nat) (ps qs : List Ce) (w : World) (hr : RdC w A ps) (hr' : RdC w A' qs) (hn : ps.length ≤ maxLen) (hn' : qs.length ≤ maxLen) (hcap : ps.length ≤ c) (hcap' : qs.length ≤ c') (hp : pieceB ps = true) (hq : pieceB qs = false) :
    Calls Tryz.prog 69 #[.slice A ps.length c, .slice A' qs.length c'] w fun e w' => e = .returned (.bool (sameV ps qs)) ∧ Below w.heap.size w w' := by
  have VA := Lib.hid (fun (z : World) (R : RdC z A ps) => iPieceValid_any A c ps z R hn hcap)
  have VB := Lib.hid (fun (z : World) (R : RdC z A' qs) => iPieceValid_any A' c' qs z R hn' hcap')
  have HF := Lib.hid (show sameV ps qs = false by unfold sameV; rw [hq]; simp)
  have HP := Lib.hid hp
  have HQ := Lib.hid hq
  clear hp hq
  rw [HP.out] at VA
  rw [HQ.out] at VB
  go_enter Tryz.func69, Tryz.ntmps69
  go_wp2_with fail
  (refine region_bw (by kernel_rfl) (by kernel_rfl) ?_; (repeat (first | go_big_quiet_skip | (go_big_quiet_want; go_big_quiet_op; first | go_big_quiet_on | (refine ⟨.bool true, fun zz => ?_, ?_⟩; (go_at_call 138; have R5 : RdC zz.wo A ps := Rd.belo hr zz.ok; with_reducible exact zz.on (VA.out zz.wo R5)); go_big_quiet_on) | (refine ⟨.bool false, fun zz => ?_, ?_⟩; (go_at_call 138; have R5 : RdC zz.wo A' qs := Rd.belo hr' zz.ok; with_reducible exact zz.on (VB.out zz.wo R5)); go_big_quiet_on)))); refine wpQuiet_nil ?_; intro wz hw'; obtain ⟨zw, hw''⟩ := hw'; subst hw'')
  go_wp2_with fail
  go_ret
  exact ⟨ret_b HF.out.symm, zw.ok⟩
set_option maxRecDepth 100000 in
set_option maxHeartbeats 4000000 in
theorem iSame_tt (A A' : Option Addr) (c c' : Nat) (ps qs : List Ce) (w : World) (hr : RdC w A ps) (hr' : RdC w A' qs) (hn : ps.length ≤ maxLen) (hn' : qs.length ≤ maxLen) (hcap : ps.length ≤ c) (hcap' : qs.length ≤ c') (hp : pieceB ps = true) (hq : pieceB qs = true) :
    Calls Tryz.prog 69 #[.slice A ps.length c, .slice A' qs.length c'] w fun e w' => e = .returned (.bool (sameV ps qs)) ∧ Below w.heap.size w w' := by
  have VA := Lib.hid (fun (z : World) (R : RdC z A ps) => iPieceValid_any A c ps z R hn hcap)
  have VB := Lib.hid (fun (z : World) (R : RdC z A' qs) => iPieceValid_any A' c' qs z R hn' hcap')
  have R0 : RdC w.drew A ps := hr.drew
  have Q0 : RdC w.drew A' qs := hr'.drew
  have B0 : Below w.heap.size w w.drew := (Below.refl _ _).drew
  have HP := Lib.hid hp
  have HQ := Lib.hid hq
  have HS := Lib.hid (show sameV ps qs = decide (firstV ps = firstV qs) by unfold sameV; rw [hp, hq]; rfl)
  have okp := Lib.hid (ok_of_pieceB hp)
  have okq := Lib.hid (ok_of_pieceB hq)
  have FA := Lib.hid (fun (z : World) (R : RdC z A ps) => formsH_any A c ps z R okp.out)
  have FB := Lib.hid (fun (z : World) (R : RdC z A' qs) => formsH_any A' c' qs z R okq.out)
  have SF := Lib.hid (fun (z : World) (g1 g2 : Nat) (R : RdC z (some ⟨g1, 0, none⟩) (firstV ps)) (R' : RdC z (some ⟨g2, 0, none⟩) (firstV qs)) => sameForm_any (some ⟨g1, 0, none⟩) (some ⟨g2, 0, none⟩) ps.length qs.length (firstV ps) (firstV qs) z R R' (by rw [first_len okp.out]; have := okp.out.1.2; omega))
  rw [first_len okp.out, first_len okq.out] at SF
  clear hp hq
  rw [HP.out] at VA
  rw [HQ.out] at VB
  go_enter Tryz.func69, Tryz.ntmps69
  go_wp2_with fail
  go_region_law (first
    | (go_simp; go_at_call 138; (with_reducible refine (VA.out _ R0).mono ?_); rintro e w6 ⟨rfl, b6⟩; have R6 : RdC w6 A ps := Rd.belo R0 b6; have Q6 : RdC w6 A' qs := Rd.belo Q0 b6; have B6 := B0.trans (b6.mono B0.size))
    | (go_simp; go_at_call 138; (with_reducible refine (VB.out _ Q6).mono ?_); rintro e w9 ⟨rfl, b9⟩; have R9 : RdC w9 A ps := Rd.belo R6 b9; have Q9 : RdC w9 A' qs := Rd.belo Q6 b9; have B9 := bl_go B6 b9)
    | (go_simp; go_at_call 73; (with_reducible refine (FA.out _ R9).mono ?_); rintro e w13 ⟨ga, oa, ka, na, rfl, n0, c0, hw, b13⟩; have Q13 : RdC w13 A' qs := Rd.belo Q9 b13; have B13 := bl_go B9 b13; have P13 := hw.rd; have n1 : (0 : Int) < (na : Int) := by omega)
    | (go_simp; go_at_call 73; (with_reducible refine (FB.out _ Q9).mono ?_); rintro e w13 ⟨gb, ob, kb, nb, rfl, m0, d0, hw, b13⟩; have R13 : RdC w13 A ps := Rd.belo R9 b13; have B13 := bl_go B9 b13; have P13 := hw.rd; have m1 : (0 : Int) < (nb : Int) := by omega)
    | (go_simp; go_at_call 73; (with_reducible refine (FB.out _ Q13).mono ?_); rintro e w17 ⟨gb, ob, kb, nb, rfl, m0, d0, hw2, b17⟩; have B17 := bl_go B13 b17; have PA : RdC w17 (some ⟨ka, 0, none⟩) (firstV ps) := P13.belo b17; have PB : RdC w17 (some ⟨kb, 0, none⟩) (firstV qs) := hw2.rd; have c1 := ((bcell b17).1 ga oa (by have := World.block_lt_of_cell? w13 _ c0; simpa using this)).trans c0; have m1 : (0 : Int) < (nb : Int) := by omega)
    | (go_simp; go_at_call 73; (with_reducible refine (FA.out _ R13).mono ?_); rintro e w17 ⟨ga, oa, ka, na, rfl, n0, c0, hw2, b17⟩; have B17 := bl_go B13 b17; have PB : RdC w17 (some ⟨kb, 0, none⟩) (firstV qs) := P13.belo b17; have PA : RdC w17 (some ⟨ka, 0, none⟩) (firstV ps) := hw2.rd; have d1 := ((bcell b17).1 gb ob (by have := World.block_lt_of_cell? w13 _ d0; simpa using this)).trans d0; have n1 : (0 : Int) < (na : Int) := by omega)
    | (go_simp; go_at_call 139; (with_reducible refine (SF.out _ _ _ PA PB).mono ?_); rintro e w20 ⟨rfl, q20, rfl⟩))
  all_goals (go_wp2; go_ret; exact ⟨ret_b HS.out.symm, below_drewN' B17 _⟩)
theorem iSamePiece_any (A A' : Option Addr) (c c' : Nat) (ps qs : List Ce) (w : World) (hr : RdC w A ps) (hr' : RdC w A' qs) (hn : ps.length ≤ maxLen) (hn' : qs.length ≤ maxLen) (hcap : ps.length ≤ c) (hcap' : qs.length ≤ c') :
    Calls Tryz.prog 69 #[.slice A ps.length c, .slice A' qs.length c'] w fun e w' => e = .returned (.bool (sameV ps qs)) ∧ Below w.heap.size w w' := by
  cases hp : pieceB ps with
  | false => exact iSame_f A A' c c' ps qs w hr hn hcap hp
  | true => cases hq : pieceB qs with
    | false => exact iSame_tf A A' c c' ps qs w hr hr' hn hn' hcap hcap' hp hq
    | true => exact iSame_tt A A' c c' ps qs w hr hr' hn hn' hcap hcap' hp hq
end Go.Proofs.YtejkbjcmndnfeaaGreat

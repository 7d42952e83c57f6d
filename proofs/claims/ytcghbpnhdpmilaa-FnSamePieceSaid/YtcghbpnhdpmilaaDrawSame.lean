/- Contract: spec.DrawSamePiece: two pieces. -/
import Derived.Test.YtcghbpnhdpmilaaSameC
import Derived.Test.YtcghbpnhdpmilaaMoveT
namespace Go.Proofs.Ytcghbpnhdpmilaa
open Go.RowKit

theorem below_gr {w w' : World} (h : Below w.heap.size w w') (row : Option Nat) : w.grownBy w' row := ⟨h.os, h.tape, h.output, h.size, fun k hk _ => h.block k hk⟩
/-- another piece, drawn from a code -/
def Formed (w : World) (e : Ending) (w' : World) : Prop :=
  ∃ (B : Option Addr) (c : Nat) (qs : List Ce), e = .returned (.slice B qs.length c) ∧ RdC w' B qs ∧ qs.length ≤ c ∧ qs.length ≤ 7 ∧ Below w.heap.size w w'
/-- .. behind the code's reader -/
def FormedG (g : Nat) (w : World) (e : Ending) (w' : World) : Prop :=
  ∃ (B : Option Addr) (c : Nat) (qs : List Ce), e = .returned (.slice B qs.length c) ∧ RdC w' B qs ∧ qs.length ≤ c ∧ qs.length ≤ 7 ∧ w.grownBy w' (some g)
theorem FormedG.of {g : Nat} {w w2 w3 : World} {ps : List Ce} {e : Ending} (hg : w.grownBy w2 (some g)) (h : NewRdK ps w2 e w3) (hl : ps.length ≤ 7) : FormedG g w e w3 := by
  obtain ⟨A, c, h1, h2, h3, h4, h5⟩ := h
  exact ⟨A, c, ps, h1, h2, h5, hl, grownBy_trans' hg (below_gr h3 _)⟩
theorem mvdV_okC {f : Ce → Ce} {ps : List Ce} (hf : ∀ ps, PieceOk ps → PieceOk (ps.map f)) : ∀ q ∈ mvdV f ps, okC q := by
  cases hp : pieceB ps with
  | true =>
    have h := hf ps (ok_of_pieceB hp)
    have e : mvdV f ps = mvd (ps.map f) := by unfold mvdV; rw [if_pos hp]
    rw [e]
    intro q hq
    have h2 : q ∈ (ps.map f).map (subC (loP (ps.map f))) := by
      unfold mvd at hq
      exact (sortC_perm _).mem_iff.1 hq
    obtain ⟨d, hd, rfl⟩ := List.mem_map.1 h2
    have h3 := h.2.1 d hd
    have h4 := loK_bd (b := 9) (ps := ps.map f) (fun c hc => h.2.1 c hc) (by omega) (ps.map f).length
    unfold inBd at h4
    unfold loP subC okC okI
    simp only
    omega
  | false =>
    have e : mvdV f ps = [] := by unfold mvdV; rw [hp]; rfl
    rw [e]
    intro q hq
    cases hq
set_option maxRecDepth 100000 in
set_option maxHeartbeats 4000000 in
theorem l20Form_any (g : Nat) (A : Option Addr) (c : Nat) (bytes : List Int) (p : Nat) (B : Option Addr) (cB : Nat) (ps : List Ce) (w : World) (h : RdS w g A c bytes p) (hgw : g < w.heap.size) (hp : p ≤ 10000000) (hr : RdC w B ps) (hB : ∀ ad, B = some ad → ad.block ≠ g) (hcap : ps.length ≤ cB) (hl : ps.length ≤ 7) (hok : ∀ q ∈ ps, okC q) :
    Calls Try.prog 99 #[.pointer (some ⟨g, 0, none⟩), .slice B ps.length cB] w (FormedG g w) := by
  have CT := Lib.hid (fun (z : World) (R : RdC z B ps) => sPieceTurn_any B cB ps z R (by omega) hok)
  have CF := Lib.hid (fun (z : World) (R : RdC z B ps) => sPieceFlip_any B cB ps z R (by omega) hok)
  have CM := Lib.hid (fun (z : World) (R : RdC z B ps) => sPieceMoved_any B cB ps z R (by unfold maxLen; omega) hcap)
  have CFT := Lib.hid (fun (z : World) (C : Option Addr) (cC : Nat) (R : RdC z C (mvdV turnC ps)) => sPieceFlip_any C cC (mvdV turnC ps) z R (by have := mvdV_len turnC ps; omega) (mvdV_okC (fun _ => ok_turn)))
  have KL := Lib.hid (fun (f : Ce → Ce) (qs : List Ce) => mvdV_len f qs)
  clear hok
  go_enter Try.func99, Try.ntmps99
  go_wp2_with fail
  refine (pick_any 5 _ g A c bytes p h (by omega) (by omega)).mono ?_
  rintro e w2 ⟨r, rfl, ⟨p1, q1⟩, S2, G2⟩
  have R2 : RdC w2 B ps := Rd.grownBelow hr G2 (fun _ ad ha e => hB ad ha (Option.some.inj e))
  have hg2 : g < w2.heap.size := Nat.lt_of_lt_of_le hgw G2.size
  clear hr hB h
  have hcs : r = 0 ∨ r = 1 ∨ r = 2 ∨ r = 3 ∨ r = 4 := by omega
  clear p1 q1
  rcases hcs with rfl | rfl | rfl | rfl | rfl
  · go_wp2_with fail
    refine (CT.out _ R2).mono ?_
    rintro e w3 h3
    obtain ⟨A3, c3, he, h4⟩ := h3
    subst he
    have H4 := Lib.hid h4
    clear h4
    go_wp2_with fail
    go_ret
    exact FormedG.of G2 ⟨A3, c3, rfl, H4.out⟩ (by have := KL.out turnC ps; omega)
  · go_wp2_with fail
    refine (CT.out _ R2).mono ?_
    rintro e w3 ⟨A3, c3, rfl, r3, b3, -⟩
    go_wp2_with fail
    refine (CFT.out _ _ _ r3).mono ?_
    rintro e w4 h4
    obtain ⟨A4, c4, he, h5⟩ := h4
    subst he
    have H5 := Lib.hid h5
    clear h5
    go_wp2_with fail
    go_ret
    exact FormedG.of (grownBy_trans' G2 (below_gr b3 _)) ⟨A4, c4, rfl, H5.out⟩ (by have := KL.out flipC (mvdV turnC ps); omega)
  · go_wp2_with fail
    refine (CM.out _ R2).mono ?_
    rintro e w3 h3
    obtain ⟨A3, c3, he, h4⟩ := h3
    subst he
    have H4 := Lib.hid h4
    clear h4
    go_wp2_with fail
    go_ret
    exact FormedG.of G2 ⟨A3, c3, rfl, H4.out⟩ (by have := KL.out stayC ps; omega)
  · go_wp2_with fail
    refine (CF.out _ R2).mono ?_
    rintro e w3 h3
    obtain ⟨A3, c3, he, h4⟩ := h3
    subst he
    have H4 := Lib.hid h4
    clear h4
    go_wp2_with fail
    go_ret
    exact FormedG.of G2 ⟨A3, c3, rfl, H4.out⟩ (by have := KL.out flipC ps; omega)
  · go_wp2_with fail
    refine (piece_any g A c bytes _ 5 9 _ S2 hg2 (by omega) (by omega) (by omega)).mono ?_
    rintro e w3 ⟨B3, c3, qs, p3, rfl, W3, k1, k2, -, -, -, G3⟩
    go_wp2_with fail
    go_ret
    exact ⟨B3, c3, qs, rfl, OwnC.rd W3, k1, k2, grownBy_trans' G2 G3⟩
set_option maxHeartbeats 1000000 in
theorem drawSamePiece_any (A : Option Addr) (c : Nat) (bs : List Int) (w : World) (hr : Rd w A (bs.map (.int .u8))) (hw : ∀ x ∈ bs, 0 ≤ x ∧ x ≤ 255) (hn : bs.length ≤ 1048576) (hcap : bs.length ≤ c) :
    Calls Try.prog 54 #[.slice A bs.length c] w fun e w' => ∃ (B : Option Addr) (c' : Nat) (ps : List Ce) (B2 : Option Addr) (c2 : Nat) (qs : List Ce), e = .returned (.tuple #[.slice B ps.length c', .slice B2 qs.length c2]) ∧ RdC w' B ps ∧ ps.length ≤ c' ∧ ps.length ≤ 7 ∧ RdC w' B2 qs ∧ qs.length ≤ c2 ∧ qs.length ≤ 7 ∧ Below w.heap.size w w' := by
  go_enter Try.func54, Try.ntmps54
  go_wp2_with fail
  refine (open_any A c bs _ hr hw hn hcap).mono ?_
  rintro e w1 ⟨g, A1, c1, by1, rfl, O1⟩
  have hg1 := O1.lt
  go_wp2_with fail
  refine (piece_any g A1 c1 by1 0 5 12 _ O1.1 O1.lt (by omega) (by omega) (by omega)).mono ?_
  rintro e w2 ⟨B, c', ps, p', rfl, W2, h1, h2, h3, S2, hp2, G2⟩
  have R2 := OwnC.rd W2
  have hb2 : ∀ ad, B = some ad → ad.block ≠ g := fun ad ha => by
    subst ha
    obtain ⟨_, _, _, o⟩ := id W2
    have := (o.lt ad.block rfl).1
    omega
  have hg2 : g < w2.heap.size := Nat.lt_of_lt_of_le hg1 G2.size
  have O2 := O1.pick S2 G2
  clear W2
  go_wp2_with fail
  refine (l20Form_any g A1 c1 by1 p' B c' ps _ S2 hg2 (by omega) R2 hb2 h1 h2 (near_ok h3)).mono ?_
  rintro e w3 ⟨B2, c2, qs, rfl, R3, k1, k2, G3⟩
  have R2' : RdC w3 B ps := Rd.grownBelow R2 G3 (fun _ ad ha e => hb2 ad ha (Option.some.inj e))
  go_wp2
  go_ret2
  exact ⟨B, c', ps, B2, c2, qs, rfl, R2', h1, h2, R3, k1, k2, O2.2.2.grown G3 O2.2.2.size (fun k hk => by injection hk with hk; have := O2.2.1; omega)⟩
end Go.Proofs.Ytcghbpnhdpmilaa

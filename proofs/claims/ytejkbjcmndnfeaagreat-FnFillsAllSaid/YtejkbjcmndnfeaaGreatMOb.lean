
/- FnFillOk: joined from DrawSame, DrawFilT, DrawFill, DrawFills. -/
import Derived.Test.YtejkbjcmndnfeaaGreatSameC
import Derived.Test.YtejkbjcmndnfeaaGreatMoveT
import Derived.Test.YtejkbjcmndnfeaaGreatMOa
import Derived.Test.YtejkbjcmndnfeaaGreatDrawPieces
import Derived.Test.YtejkbjcmndnfeaaGreatDrawReg
import Derived.Test.YtejkbjcmndnfeaaGreatRegZ
import Derived.Deep.Cut
import Derived.Deep.CutRange
/- Contract: spec.DrawSamePiece: two pieces. -/
namespace Go.Proofs.YtejkbjcmndnfeaaGreat
open Go.RowKit

theorem below_gr {w w' : World} (h : Below w.heap.size w w') (row : Option Nat) : w.grownBy w' row := ⟨h.os, h.tape, h.output, h.size, fun k hk _ => h.block k hk⟩
/-- another piece, drawn from a code -/
def Formed (w : World) (e : Ending) (w' : World) : Prop :=
  ∃ (B : Option Addr) (c : Nat) (qs : List Ce), e = .returned (.slice B qs.length c) ∧ RdC w' B qs ∧ qs.length ≤ c ∧ qs.length ≤ 7 ∧ Below w.heap.size w w'
/-- .. behind the code's reader -/
def FormedG (g : Nat) (w : World) (e : Ending) (w' : World) : Prop :=
  ∃ (B : Option Addr) (c : Nat) (qs : List Ce), e = .returned (.slice B qs.length c) ∧ RdC w' B qs ∧ qs.length ≤ c ∧ qs.length ≤ 7 ∧ w.grownBy w' (some g)
theorem FormedG.of {g : Nat} {w w2 w3 : World} {ps : List Ce} {e : Ending} (hg : w.grownBy w2 (some g)) (h : NewRdK ps w2 e w3) (hl : ps.length ≤ 7) : FormedG g w e w3 := by
  obtain ⟨A, c, h1, h2, h3, h4, h5⟩ := h
  exact ⟨A, c, ps, h1, h2, h5, hl, grownBy_trans' hg (below_gr h3 _)⟩
/-- .. in a new block, the code's reader at hand -/
def FormedQ (g : Nat) (A : Option Addr) (c : Nat) (bytes : List Int) (p : Nat) (w : World) (e : Ending) (w' : World) : Prop :=
  ∃ (B : Option Addr) (cB : Nat) (qs : List Ce) (p' : Nat), e = .returned (.slice B qs.length cB) ∧ RdC w' B qs ∧ qs.length ≤ cB ∧ qs.length ≤ 7 ∧ (∀ ad, B = some ad → w.heap.size ≤ ad.block) ∧ RdS w' g A c bytes p' ∧ p' ≤ p + 30 ∧ w.grownBy w' (some g)
theorem FormedQ.of {g : Nat} {A : Option Addr} {c : Nat} {bytes : List Int} {p p2 : Nat} {w w2 w3 : World} {ps : List Ce} {e : Ending} (hg : w.grownBy w2 (some g)) (S : RdS w2 g A c bytes p2) (hp : p2 ≤ p + 30) (hg2 : g < w2.heap.size) (h : NewRdK ps w2 e w3) (hl : ps.length ≤ 7) : FormedQ g A c bytes p w e w3 := by
  obtain ⟨B, cB, h1, h2, h3, h4, h5⟩ := h
  exact ⟨B, cB, ps, p2, h1, h2, h5, hl, fun ad e => Nat.le_trans hg.size (h4 ad e), S.below hg2 h3, hp, grownBy_trans' hg (below_gr h3 _)⟩
theorem FormedQ.g {g : Nat} {A : Option Addr} {c : Nat} {bytes : List Int} {p : Nat} {w : World} {e : Ending} {w' : World} (h : FormedQ g A c bytes p w e w') : FormedG g w e w' := by
  obtain ⟨B, cB, qs, p', h1, h2, h3, h4, -, -, -, h8⟩ := h
  exact ⟨B, cB, qs, h1, h2, h3, h4, h8⟩
theorem mvdV_okC {f : Ce → Ce} {ps : List Ce} (hf : ∀ ps, PieceOk ps → PieceOk (ps.map f)) : ∀ q ∈ mvdV f ps, okC q := by
  cases hp : pieceB ps with
  | true =>
    have h := hf ps (ok_of_pieceB hp)
    have e : mvdV f ps = mvd (ps.map f) := by unfold mvdV; rw [if_pos hp]
    rw [e]
    intro q hq
    have h2 : q ∈ (ps.map f).map (subC (loP (ps.map f))) := by
      unfold mvd at hq
      exact (sortC_perm _).mem_iff.1 hq
    obtain ⟨d, hd, rfl⟩ := List.mem_map.1 h2
    have h3 := h.2.1 d hd
    have h4 := loK_bd (b := 9) (ps := ps.map f) (fun c hc => h.2.1 c hc) (by omega) (ps.map f).length
    unfold inBd at h4
    unfold loP subC okC okI
    simp only
    omega
  | false =>
    have e : mvdV f ps = [] := by unfold mvdV; rw [hp]; rfl
    rw [e]
    intro q hq
    cases hq
set_option maxRecDepth 100000 in
set_option maxHeartbeats 4000000 in
theorem l20FormQ_any (g : Nat) (A : Option Addr) (c : Nat) (bytes : List Int) (p : Nat) (B : Option Addr) (cB : Nat) (ps : List Ce) (w : World) (h : RdS w g A c bytes p) (hgw : g < w.heap.size) (hp : p ≤ 10000000) (hr : RdC w B ps) (hB : ∀ ad, B = some ad → ad.block ≠ g) (hcap : ps.length ≤ cB) (hl : ps.length ≤ 7) (hok : ∀ q ∈ ps, okC q) :
    Calls Tryz.prog 134 #[.pointer (some ⟨g, 0, none⟩), .slice B ps.length cB] w (FormedQ g A c bytes p w) := by
  have CT := Lib.hid (fun (z : World) (R : RdC z B ps) => sPieceTurn_any B cB ps z R (by omega) hok)
  have CF := Lib.hid (fun (z : World) (R : RdC z B ps) => sPieceFlip_any B cB ps z R (by omega) hok)
  have CM := Lib.hid (fun (z : World) (R : RdC z B ps) => sPieceMoved_any B cB ps z R (by unfold maxLen; omega) hcap)
  have CFT := Lib.hid (fun (z : World) (C : Option Addr) (cC : Nat) (R : RdC z C (mvdV turnC ps)) => sPieceFlip_any C cC (mvdV turnC ps) z R (by have := mvdV_len turnC ps; omega) (mvdV_okC (fun _ => ok_turn)))
  have KL := Lib.hid (fun (f : Ce → Ce) (qs : List Ce) => mvdV_len f qs)
  clear hok
  go_enter Tryz.func134, Tryz.ntmps134
  go_wp2_with fail
  refine (pick_any 5 _ g A c bytes p h (by omega) (by omega)).mono ?_
  rintro e w2 ⟨r, rfl, ⟨p1, q1⟩, S2, G2⟩
  have R2 : RdC w2 B ps := Rd.grownBelow hr G2 (fun _ ad ha e => hB ad ha (Option.some.inj e))
  have hg2 : g < w2.heap.size := Nat.lt_of_lt_of_le hgw G2.size
  clear hr hB h
  have hcs : r = 0 ∨ r = 1 ∨ r = 2 ∨ r = 3 ∨ r = 4 := by omega
  clear p1 q1
  rcases hcs with rfl | rfl | rfl | rfl | rfl
  · go_wp2_with fail
    refine (CT.out _ R2).mono ?_
    rintro e w3 h3
    obtain ⟨A3, c3, he, h4⟩ := h3
    subst he
    have H4 := Lib.hid h4
    clear h4
    go_wp2_with fail
    go_ret
    exact FormedQ.of G2 S2 (by omega) hg2 ⟨A3, c3, rfl, H4.out⟩ (by have := KL.out turnC ps; omega)
  · go_wp2_with fail
    refine (CT.out _ R2).mono ?_
    rintro e w3 ⟨A3, c3, rfl, r3, b3, -⟩
    go_wp2_with fail
    refine (CFT.out _ _ _ r3).mono ?_
    rintro e w4 h4
    obtain ⟨A4, c4, he, h5⟩ := h4
    subst he
    have H5 := Lib.hid h5
    clear h5
    go_wp2_with fail
    go_ret
    exact FormedQ.of (grownBy_trans' G2 (below_gr b3 _)) (S2.below hg2 b3) (by omega) (Nat.lt_of_lt_of_le hg2 b3.size) ⟨A4, c4, rfl, H5.out⟩ (by have := KL.out flipC (mvdV turnC ps); omega)
  · go_wp2_with fail
    refine (CM.out _ R2).mono ?_
    rintro e w3 h3
    obtain ⟨A3, c3, he, h4⟩ := h3
    subst he
    have H4 := Lib.hid h4
    clear h4
    go_wp2_with fail
    go_ret
    exact FormedQ.of G2 S2 (by omega) hg2 ⟨A3, c3, rfl, H4.out⟩ (by have := KL.out stayC ps; omega)
  · go_wp2_with fail
    refine (CF.out _ R2).mono ?_
    rintro e w3 h3
    obtain ⟨A3, c3, he, h4⟩ := h3
    subst he
    have H4 := Lib.hid h4
    clear h4
    go_wp2_with fail
    go_ret
    exact FormedQ.of G2 S2 (by omega) hg2 ⟨A3, c3, rfl, H4.out⟩ (by have := KL.out flipC ps; omega)
  · go_wp2_with fail
    refine (piece_any g A c bytes _ 5 9 _ S2 hg2 (by omega) (by omega) (by omega)).mono ?_
    rintro e w3 ⟨B3, c3, qs, p3, rfl, W3, k1, k2, -, S3, hp3, G3⟩
    go_wp2_with fail
    go_ret
    exact ⟨B3, c3, qs, p3, rfl, OwnC.rd W3, k1, k2, fun ad ha => by subst ha; obtain ⟨_, _, _, o⟩ := id W3; exact Nat.le_trans G2.size (o.lt ad.block rfl).1, S3, by omega, grownBy_trans' G2 G3⟩
theorem l20Form_any (g : Nat) (A : Option Addr) (c : Nat) (bytes : List Int) (p : Nat) (B : Option Addr) (cB : Nat) (ps : List Ce) (w : World) (h : RdS w g A c bytes p) (hgw : g < w.heap.size) (hp : p ≤ 10000000) (hr : RdC w B ps) (hB : ∀ ad, B = some ad → ad.block ≠ g) (hcap : ps.length ≤ cB) (hl : ps.length ≤ 7) (hok : ∀ q ∈ ps, okC q) :
    Calls Tryz.prog 134 #[.pointer (some ⟨g, 0, none⟩), .slice B ps.length cB] w (FormedG g w) :=
  (l20FormQ_any g A c bytes p B cB ps w h hgw hp hr hB hcap hl hok).mono fun _ _ h => h.g
end Go.Proofs.YtejkbjcmndnfeaaGreat

/- Contract: spec.l20Filling: some region, lists of cells, and a list. -/
namespace Go.Proofs.YtejkbjcmndnfeaaGreat
open Go.RowKit Go.Sort

theorem OwnH.keepH {w w' : World} {base : Nat} {v : Value} {xs : List Value} (h : OwnH w base v xs) (hk : ∀ b, v.ownBlock = some b → w'.heap[b]? = w.heap[b]?) : OwnH w' base v xs := by
  obtain ⟨A, c, e, o⟩ := h
  refine ⟨A, c, e, o.1, ?_⟩
  rcases o.2 with h1 | ⟨g, cap, cur, hv, h1⟩
  · exact .inl h1
  · refine .inr ⟨g, cap, cur, hv, ?_⟩
    have := hk g (by rw [hv]; rfl)
    obtain ⟨a1, a2, a3⟩ := h1
    exact ⟨a1, by rw [this]; exact a2, a3⟩
theorem OwnH.ltH {w : World} {base : Nat} {v : Value} {xs : List Value} (h : OwnH w base v xs) : ∀ k, v.ownBlock = some k → base ≤ k ∧ k < w.heap.size := by
  obtain ⟨A, c, e, o⟩ := h
  exact o.lt
theorem RegI.high {w wr w' : World} {g bx : Nat} {A : Option Addr} {c : Nat} {bytes : List Int} {W T : Int} {q L0 : Nat} (h : RegI w g bx A c bytes W T q [] (.slice none 0 0) wr) (hL : bx < L0) (hb : Below L0 wr w') : RegI w g bx A c bytes W T q [] (.slice none 0 0) w' := by
  have h1 := h.hg
  have h2 := h.hb
  have hk : ∀ j, j < L0 → w'.heap[j]? = wr.heap[j]? := fun j hj => hb.block j hj
  refine ⟨OwnB.nil _ _, (hk _ hL).trans h.box, (hk _ (by omega)).trans h.res, ?_, h.ha, ?_, h.hg, h.hb⟩
  · obtain ⟨r1, r2, r3, r4⟩ := h.rds
    refine ⟨(hk g (by omega)).trans r1, r2.blk fun hne ad e => hk _ ?_, r3, r4⟩
    have := h.ha (by simpa using hne) ad e
    omega
  · exact ⟨hb.os.trans h.gb.os, hb.tape.trans h.gb.tape, hb.output.trans h.gb.output, Nat.le_trans h.gb.size hb.size, fun i hi hn => (hk i (by omega)).trans (h.gb.block i hi hn)⟩
def PartsN (w : World) (base : Nat) (v : Value) (xs : List Value) : Prop :=
  ∀ (k : Nat) (ad : Addr) (n c : Nat), xs[k]? = some (Value.slice (some ad) n c) → n ≠ 0 → base ≤ ad.block ∧ ad.block < w.heap.size ∧ v.ownBlock ≠ some ad.block
/-- the heads' lists are kept where only another block is written -/
theorem HeadsR.grownN {w w' : World} {base : Nat} {v : Value} {xs : List Value} {pss : List (List Ce)} {row : Option Nat} (h : HeadsR w xs pss) (hp : PartsN w base v xs) (hg : w.grownBy w' row) (hrow : row = v.ownBlock ∨ ∃ g, row = some g ∧ g < base) : HeadsR w' xs pss :=
  ⟨h.1, fun k hk => by
    obtain ⟨B, c', h1, h2, h3, h4⟩ := h.2 k hk
    refine ⟨B, c', h1, h2, h3, Rd.grownBelow h4 hg (fun hne ad ha e => ?_)⟩
    subst ha
    obtain ⟨k1, k2, k3⟩ := hp k ad _ _ h1 (by
      intro h0
      refine hne ?_
      have h5 : pss[k] = [] := List.eq_nil_of_length_eq_zero h0
      rw [h5]
      rfl)
    rcases hrow with rfl | ⟨g, rfl, hlt⟩
    · exact k3 e.symm
    · have : ad.block = g := Option.some.inj e
      omega⟩
theorem PartsN.grown {w w' : World} {base : Nat} {v : Value} {xs : List Value} (hp : PartsN w base v xs) (hs : w.heap.size ≤ w'.heap.size) : PartsN w' base v xs := fun k ad n c e e0 => by
  obtain ⟨h1, h2, h3⟩ := hp k ad n c e e0
  exact ⟨h1, by omega, h3⟩
/-- a filling under way -/
structure FilJ (w : World) (g bx : Nat) (A : Option Addr) (c : Nat) (bytes : List Int) (W T : Int) (q : Nat) (xs : List Bool) (v : Value) (F : Nat) (fl : List Int) (b c' : Nat) (xp : List Value) (pss : List (List Ce)) (wr : World) : Prop where
  reg : RegI w g bx A c bytes W T q xs v wr
  fil : Wr wr (bx + 1) 3 (some ⟨F, 0, none⟩) (fl.map (.int .i64))
  own : OwnH wr (bx + 1) (.slice (some ⟨b, 0, none⟩) xp.length c') xp
  hd : HeadsR wr xp pss
  pt : PartsN wr (bx + 1) (.slice (some ⟨b, 0, none⟩) xp.length c') xp
  pf : ∀ (k : Nat) (ad : Addr) (n c2 : Nat), xp[k]? = some (Value.slice (some ad) n c2) → n ≠ 0 → ad.block ≠ F
abbrev FilI (w : World) (g bx : Nat) (A : Option Addr) (c : Nat) (bytes : List Int) (W T : Int) (q F : Nat) (fl : List Int) (b c' : Nat) (xp : List Value) (pss : List (List Ce)) (wr : World) : Prop := FilJ w g bx A c bytes W T q [] (.slice none 0 0) F fl b c' xp pss wr
section
variable {w : World} {g bx : Nat} {A : Option Addr} {c : Nat} {bytes : List Int} {W T : Int} {q F : Nat} {fl : List Int} {b c' : Nat} {xp : List Value} {pss : List (List Ce)} {xs : List Bool} {v : Value} {wr w' : World}
theorem FilJ.gl (h : FilJ w g bx A c bytes W T q xs v F fl b c' xp pss wr) : g < bx + 1 ∧ bx + 1 ≤ F ∧ bx + 1 ≤ b ∧ b < wr.heap.size ∧ g < wr.heap.size ∧ bx < wr.heap.size := by
  have h1 := h.reg.hg
  have h2 := h.reg.hb
  have h3 := h.fil.1 _ rfl
  have h4 := h.own.ltH b rfl
  have h5 := heap_lt h.reg.box
  simp only at h3
  omega
theorem FilJ.pick (h : FilJ w g bx A c bytes W T q xs v F fl b c' xp pss wr) {q' : Nat} (S : RdS w' g A c bytes q') (G : wr.grownBy w' (some g)) : FilJ w g bx A c bytes W T q' xs v F fl b c' xp pss w' := by
  obtain ⟨h1, h2, h3, h4, -, -⟩ := h.gl
  refine ⟨h.reg.pick S G, h.fil.keep fun q2 e hlt => G.block q2 hlt (fun e2 => ?_), h.own.keepH fun b2 e => G.block b2 ?_ (fun e2 => ?_), h.hd.grownN h.pt G (.inr ⟨g, rfl, h1⟩), h.pt.grown G.size, h.pf⟩
  · injection e with e; injection e with e; injection e2 with e2; omega
  · have e : b = b2 := Option.some.inj e; omega
  · have e : b = b2 := Option.some.inj e; injection e2 with e2; omega
theorem FilJ.belo (h : FilJ w g bx A c bytes W T q xs v F fl b c' xp pss wr) (hb : Below wr.heap.size wr w') : FilJ w g bx A c bytes W T q xs v F fl b c' xp pss w' := by
  obtain ⟨h1, h2, h3, h4, h5, h6⟩ := h.gl
  exact ⟨h.reg.below hb, h.fil.belo hb, h.own.keepH (fun b2 e => hb.block b2 (by have e : b = b2 := Option.some.inj e; omega)), h.hd.belo hb, h.pt.grown hb.size, h.pf⟩
/-- another list -/
theorem FilJ.next (h : FilJ w g bx A c bytes W T q xs v F fl b c' xp pss wr) {F2 : Nat} {fl2 : List Int} {lo : Nat} (hl : bx + 1 ≤ lo) (hw : Wr wr lo 3 (some ⟨F2, 0, none⟩) (fl2.map (.int .i64))) (hp : ∀ (k : Nat) (ad : Addr) (n c2 : Nat), xp[k]? = some (Value.slice (some ad) n c2) → n ≠ 0 → ad.block ≠ F2) : FilJ w g bx A c bytes W T q xs v F2 fl2 b c' xp pss wr :=
  ⟨h.reg, hw.lower hl, h.own, h.hd, h.pt, hp⟩
end
theorem own_ne {w : World} {b1 b2 s1 s2 n1 n2 b : Nat} {e1 e2 : TypeId} {v1 v2 : Value} {xs ys : List Value} (h : w.ownsRow b1 e1 s1 v1 n1 xs) (k : w.ownsRow b2 e2 s2 v2 n2 ys) (he : e1 ≠ e2) (hv : v1.ownBlock = some b) : v2.ownBlock ≠ some b := by
  intro hv2
  rcases h.2 with ⟨h1, -⟩ | ⟨g, cap, cur, h1, -, h2, -⟩
  · rw [h1] at hv; cases hv
  · rcases k.2 with ⟨k1, -⟩ | ⟨g', cap', cur', k1, -, k2, -⟩
    · rw [k1] at hv2; cases hv2
    · rw [h1] at hv
      rw [k1] at hv2
      have x1 : g = b := Option.some.inj hv
      have x2 : g' = b := Option.some.inj hv2
      subst x1
      subst x2
      rw [h2] at k2
      injection k2 with k2
      injection k2 with _ k2 _
      exact he k2
theorem ownIH_ne {w : World} {b1 b2 : Nat} {v v2 : Value} {xs : List Int} {ys : List Value} (O : OwnI w b1 v xs) (W : OwnH w b2 v2 ys) : ∀ b, v2.ownBlock = some b → v.ownBlock ≠ some b := fun b e => by
  obtain ⟨_, _, _, o1⟩ := W
  obtain ⟨_, _, _, o2⟩ := O
  exact own_ne o1 o2 (by decide) e
theorem wr_type {w : World} {lo lo2 : Nat} {F b : Nat} {xs ys : List Value} {v : Value} (h : Wr w lo 3 (some ⟨F, 0, none⟩) xs) (hne : xs ≠ []) (k : OwnH w lo2 v ys) (hv : v.ownBlock = some b) : F ≠ b := by
  rintro rfl
  obtain ⟨g, cur, e, hh, -⟩ := h.2 hne
  injection e with e; injection e with e
  subst e
  obtain ⟨A', c', e', o⟩ := k
  rcases o.2 with ⟨h1, -⟩ | ⟨g, cap, cur2, h1, -, h2, -⟩
  · rw [h1] at hv; cases hv
  · rw [h1] at hv
    have : g = F := Option.some.inj hv
    subst this
    rw [hh] at h2
    injection h2 with h2
    injection h2 with _ h2 _
    cases h2
/-- a form more -/
theorem FilI.add {w : World} {g bx : Nat} {A : Option Addr} {c : Nat} {bytes : List Int} {W T : Int} {q F : Nat} {fl : List Int} {b c' : Nat} {xp : List Value} {pss : List (List Ce)} {wr w6 : World} (h : FilI w g bx A c bytes W T q F fl b c' xp pss wr) (hne : fl ≠ []) {B : Option Addr} {cB : Nat} {ps : List Ce} (R5 : RdC wr B ps) (h51 : ps.length ≤ cB) (h52 : ps.length ≤ 7) (z0 : Nat) (hb0 : b < z0) (hF0 : F < z0)
    (N5 : ∀ ad, B = some ad → z0 ≤ ad.block) {g6 c6 : Nat} (W7 : OwnH w6 (bx + 1) (.slice (some ⟨g6, 0, none⟩) (xp.length + 1) c6) (xp ++ [.slice B ps.length cB])) (G7 : (wr.alloc (.cells #[.slice B ps.length cB] 32)).grownBy w6 (some b)) (hg7 : some b = some g6 ∨ g6 = wr.heap.size + 1) :
    FilI w g bx A c bytes W T q F fl g6 c6 (xp ++ [.slice B ps.length cB]) (pss ++ [ps]) w6 := by
  have bz := bl_alloc (Below.refl wr.heap.size wr) (.cells #[.slice B ps.length cB] 32)
  have hFb : F ≠ b := wr_type h.fil (by simpa using hne) h.own rfl
  obtain ⟨l1, l2, l3, l4, l5, l6⟩ := h.gl
  have b6 : Below (bx + 1) wr w6 := (bz.mono (by omega)).grown G7 (by have := bz.size; omega) (fun k hk => by injection hk with hk; omega)
  have H6 := (h.hd.belo bz).grownN (h.pt.grown bz.size) G7 (.inl rfl)
  have R6 : RdC w6 B ps := Rd.grownBelow (Rd.belo R5 bz) G7 (fun _ ad ha e => by have := N5 ad ha; have e' : ad.block = b := Option.some.inj e; omega)
  have N6 : ps.length ≠ 0 → ∀ ad, B = some ad → ad.block < wr.heap.size := fun h0 ad ha => Rd.lt R5 ha (by intro e; apply h0; cases ps with | nil => rfl | cons a l => simp [cellsV] at e)
  have hlen : pss.length = xp.length := H6.1.symm
  have hlx : (xp ++ [Value.slice B ps.length cB]).length = xp.length + 1 := by simp
  have hs6 : wr.heap.size ≤ w6.heap.size := Nat.le_trans bz.size G7.size
  refine ⟨h.reg.high (Nat.lt_succ_self _) b6, h.fil.keep fun q2 e hlt => ?_, by rw [hlx]; exact W7, ⟨by simp [hlen], fun i hi => ?_⟩, ?_, fun i ad n' c2 e e0 => ?_⟩
  · injection e with e; injection e with e
    subst e
    exact (G7.block F (by have := bz.size; omega) (fun e2 => hFb (Option.some.inj e2))).trans (bz.block F hlt)
  · rcases Nat.lt_or_ge i pss.length with h1 | h1
    · obtain ⟨B', c2, e1, e2, e3, e4⟩ := H6.2 i h1
      have eg : (pss ++ [ps])[i] = pss[i] := List.getElem_append_left h1
      rw [eg]
      exact ⟨B', c2, by rw [List.getElem?_append_left (by omega)]; exact e1, e2, e3, e4⟩
    · have hi2 : i = pss.length := by simp at hi; omega
      subst hi2
      have eg : (pss ++ [ps])[pss.length] = ps := by simp
      rw [eg]
      exact ⟨B, cB, by rw [hlen, List.getElem?_append_right (Nat.le_refl _)]; simp, h51, h52, R6⟩
  · rw [hlx]
    intro i ad n' c2 e e0
    have hg6 : g6 = b ∨ g6 = wr.heap.size + 1 := by
      rcases hg7 with h | h
      · exact .inl (Option.some.inj h).symm
      · exact .inr h
    rcases Nat.lt_or_ge i xp.length with h1 | h1
    · rw [List.getElem?_append_left h1] at e
      obtain ⟨k1, k2, k3⟩ := h.pt i ad _ _ e e0
      refine ⟨k1, by omega, fun e2 => ?_⟩
      have e3 : g6 = ad.block := Option.some.inj e2
      rcases hg6 with h | h
      · exact k3 (by show some b = some ad.block; rw [← h, e3])
      · omega
    · rw [List.getElem?_append_right h1] at e
      have hi2 : i - xp.length = 0 := by
        rcases Nat.eq_zero_or_pos (i - xp.length) with h | h
        · exact h
        · rw [List.getElem?_eq_none (by simp; omega)] at e; cases e
      rw [hi2] at e
      simp at e
      obtain ⟨rfl, rfl, -⟩ := e
      have := N5 ad rfl
      have := N6 e0 ad rfl
      refine ⟨by omega, by omega, fun e2 => ?_⟩
      have e3 : g6 = ad.block := Option.some.inj e2
      omega
  · rcases Nat.lt_or_ge i xp.length with h1 | h1
    · rw [List.getElem?_append_left h1] at e
      exact h.pf i ad _ _ e e0
    · rw [List.getElem?_append_right h1] at e
      have hi2 : i - xp.length = 0 := by
        rcases Nat.eq_zero_or_pos (i - xp.length) with h | h
        · exact h
        · rw [List.getElem?_eq_none (by simp; omega)] at e; cases e
      rw [hi2] at e
      simp at e
      obtain ⟨rfl, -, -⟩ := e
      have := N5 ad rfl
      omega
theorem gr_setF (w : World) (b k : Nat) (u : Value) : w.grownBy (w.setCell ⟨b, k, none⟩ u) (some b) :=
  ⟨rfl, rfl, rfl, by simp [World.setCell], fun j _ hn => Below.heap_setCell _ _ _ _ (fun e => hn (by rw [e]))⟩
/-- the region's own list under way: only its box has changed -/
structure CelI (wo : World) (bx : Nat) (W T : Int) (xs : List Bool) (v : Value) (wr : World) : Prop where
  own : OwnB wr wo.heap.size v xs
  box : wr.heap[bx]? = some (.cells #[.int .i64 W, .int .i64 T, v] 25 (0, 0))
  gb : wo.grownBy wr (some bx)
  lt : bx < wo.heap.size
theorem CelI.app {wo wr w' : World} {bx : Nat} {W T : Int} {xs ys : List Bool} {v v' : Value} (h : CelI wo bx W T xs v wr) (own : OwnB w' wo.heap.size v' ys) (hb : Below wo.heap.size wr w') : CelI wo bx W T ys v' (w'.setCell ⟨bx, 2, none⟩ v') := by
  have k : wo.grownBy w' (some bx) := ⟨hb.os.trans h.gb.os, hb.tape.trans h.gb.tape, hb.output.trans h.gb.output, Nat.le_trans h.gb.size hb.size, fun i hi hn => (hb.block i hi).trans (h.gb.block i hi hn)⟩
  exact ⟨own.set (by simpa using h.lt) _, heap_setCell_same w' bx 2 _ _ _ ((hb.block bx h.lt).trans h.box), grownBy_trans' k (gr_setF w' bx 2 v'), h.lt⟩
theorem CelI.belo {wo wr w' : World} {bx : Nat} {W T : Int} {xs : List Bool} {v : Value} (h : CelI wo bx W T xs v wr) (hb : Below wr.heap.size wr w') : CelI wo bx W T xs v w' :=
  ⟨h.own.belo hb, (hb.block bx (heap_lt h.box)).trans h.box, gb_below h.gb hb, h.lt⟩
theorem RegI.other {w wr w' : World} {g bx : Nat} {A : Option Addr} {c : Nat} {bytes : List Int} {W T : Int} {q b : Nat} {xs : List Bool} {v : Value} (h : RegI w g bx A c bytes W T q xs v wr) (G : wr.grownBy w' (some b)) (hb : bx < b) (hv : v.ownBlock ≠ some b) : RegI w g bx A c bytes W T q xs v w' := by
  have h1 := h.hg
  have h2 := h.hb
  have hk : ∀ j, j < wr.heap.size → j ≠ b → w'.heap[j]? = wr.heap[j]? := fun j hj hn => G.block j hj (fun e => hn (Option.some.inj e))
  have hl := heap_lt h.box
  refine ⟨?_, (hk _ hl (by omega)).trans h.box, (hk _ (heap_lt h.res) (by omega)).trans h.res, ?_, h.ha, ?_, h.hg, h.hb⟩
  · obtain ⟨A', c2, e, o⟩ := h.own
    exact ⟨A', c2, e, o.kept G (.inr hv)⟩
  · obtain ⟨r1, r2, r3, r4⟩ := h.rds
    refine ⟨(hk g (by omega) (by omega)).trans r1, r2.blk fun hne ad e => ?_, r3, r4⟩
    have := h.ha (by simpa using hne) ad e
    exact hk _ (by omega) (by omega)
  · exact ⟨G.os.trans h.gb.os, G.tape.trans h.gb.tape, G.output.trans h.gb.output, Nat.le_trans h.gb.size G.size, fun i hi hn => (hk i (by omega) (by omega)).trans (h.gb.block i hi hn)⟩
/-- the list is there -/
theorem FilJ.cels {w : World} {g bx : Nat} {A : Option Addr} {c : Nat} {bytes : List Int} {W T : Int} {q F : Nat} {fl : List Int} {b c' : Nat} {xp : List Value} {pss : List (List Ce)} {xs : List Bool} {v : Value} {wo wr : World} (h : FilI w g bx A c bytes W T q F fl b c' xp pss wo) (k : CelI wo bx W T xs v wr) : FilJ w g bx A c bytes W T q xs v F fl b c' xp pss wr := by
  obtain ⟨l1, l2, l3, l4, l5, l6⟩ := h.gl
  have h1 := h.reg.hg
  have h2 := h.reg.hb
  have hk : ∀ j, j < wo.heap.size → j ≠ bx → wr.heap[j]? = wo.heap[j]? := fun j hj hn => k.gb.block j hj (fun e => hn (Option.some.inj e))
  refine ⟨⟨k.own.base (by omega), k.box, (hk _ (by omega) (by omega)).trans h.reg.res, ?_, h.reg.ha, ?_, h1, h2⟩, h.fil.keep fun q2 e hlt => hk _ hlt ?_, h.own.keepH fun q2 e => ?_, h.hd.grownN h.pt k.gb (.inr ⟨bx, rfl, Nat.lt_succ_self _⟩), h.pt.grown k.gb.size, h.pf⟩
  · obtain ⟨r1, r2, r3, r4⟩ := h.reg.rds
    refine ⟨(hk g (by omega) (by omega)).trans r1, r2.blk fun hne ad e => ?_, r3, r4⟩
    have := h.reg.ha (by simpa using hne) ad e
    exact hk _ (by omega) (by omega)
  · exact ⟨k.gb.os.trans h.reg.gb.os, k.gb.tape.trans h.reg.gb.tape, k.gb.output.trans h.reg.gb.output, Nat.le_trans h.reg.gb.size k.gb.size, fun i hi hn => (hk i (by omega) (by omega)).trans (h.reg.gb.block i hi hn)⟩
  · injection e with e; injection e with e; omega
  · have e : b = q2 := Option.some.inj e
    exact hk _ (by omega) (by omega)
theorem FilJ.cellF {w : World} {g bx : Nat} {A : Option Addr} {c : Nat} {bytes : List Int} {W T : Int} {q F : Nat} {fl : List Int} {b c' : Nat} {xp : List Value} {pss : List (List Ce)} {xs : List Bool} {v : Value} {wr : World} (h : FilJ w g bx A c bytes W T q xs v F fl b c' xp pss wr) {m : Nat} (hm : m < fl.length) :
    ∃ z : Int, wr.cell? ⟨F, m, none⟩ = some (.int .i64 z) ∧ wr.frozen? ⟨F, m, none⟩ = false ∧ F < wr.heap.size := by
  have hne : fl.map (Value.int .i64) ≠ [] := by intro e; have := congrArg List.length e; simp at this; rw [this] at hm; simp at hm
  obtain ⟨g2, e2, -, hlt, hfr⟩ := h.fil.form hne
  injection e2 with e2; injection e2 with e2
  subst e2
  obtain ⟨ad, ea, hc⟩ := h.fil.rd hne
  have cm := hc m (.int .i64 fl[m]) (by rw [List.getElem?_map, List.getElem?_eq_getElem hm]; rfl)
  injection ea with ea
  subst ea
  rw [add_off, Nat.zero_add] at cm
  exact ⟨_, cm, hfr m, hlt⟩
theorem FilJ.cellP {w : World} {g bx : Nat} {A : Option Addr} {c : Nat} {bytes : List Int} {W T : Int} {q F : Nat} {fl : List Int} {b c' : Nat} {xp : List Value} {pss : List (List Ce)} {xs : List Bool} {v : Value} {wr : World} (h : FilJ w g bx A c bytes W T q xs v F fl b c' xp pss wr) {m : Nat} {u : Value} (hm : xp[m]? = some u) :
    wr.cell? ⟨b, m, none⟩ = some u ∧ wr.frozen? ⟨b, m, none⟩ = false := by
  obtain ⟨A1, c1, e1, o1⟩ := h.own
  injection e1 with e1 e2 e3
  subst e1
  obtain ⟨ad, ea, hc⟩ := Rd.own o1 (by intro e; rw [e] at hm; simp at hm)
  have cm := hc m u hm
  injection ea with ea
  subst ea
  rw [add_off, Nat.zero_add] at cm
  refine ⟨cm, ?_⟩
  rcases o1.2 with ⟨h1, -⟩ | ⟨g, cap, cur, h1, -, h2, -⟩
  · cases h1
  · injection h1 with h1
    injection h1 with h1
    injection h1 with h1
    subst h1
    exact frozen_of_row wr b m cur _ h2
/-- a piece is replaced by one cell -/
theorem FilJ.put {w : World} {g bx : Nat} {A : Option Addr} {c : Nat} {bytes : List Int} {W T : Int} {q F : Nat} {fl : List Int} {b c' : Nat} {xp : List Value} {pss : List (List Ce)} {xs : List Bool} {v : Value} {wr : World} (h : FilJ w g bx A c bytes W T q xs v F fl b c' xp pss wr) (hne : fl ≠ []) (m : Nat) (hm : m < xp.length) :
    FilJ w g bx A c bytes W T q xs v F fl b c' (xp.set m (.slice (some ⟨wr.heap.size, 0, none⟩) 1 1)) (pss.set m [(0, 0)]) ((wr.alloc (.cells #[.int .i64 0, .int .i64 0] 89)).setCell ⟨b, m, none⟩ (.slice (some ⟨wr.heap.size, 0, none⟩) 1 1)) := by
  obtain ⟨l1, l2, l3, l4, l5, l6⟩ := h.gl
  have hFl : F < wr.heap.size := by
    obtain ⟨g2, a1, -, a2, -⟩ := h.fil.form (by simpa using hne)
    injection a1 with a1; injection a1 with a1
    omega
  have bz := bl_alloc (Below.refl wr.heap.size wr) (.cells #[.int .i64 0, .int .i64 0] 89)
  have hsz : (wr.alloc (.cells #[.int .i64 0, .int .i64 0] 89)).heap.size = wr.heap.size + 1 := by simp
  have h1 := h.belo bz
  have pz := heap_alloc_new wr (.cells #[.int .i64 0, .int .i64 0] 89)
  generalize wr.alloc (.cells #[.int .i64 0, .int .i64 0] 89) = wa at *
  have G := gr_setF wa b m (.slice (some ⟨wr.heap.size, 0, none⟩) 1 1)
  have hFb : F ≠ b := wr_type h1.fil (by simpa using hne) h1.own rfl
  have hvb : v.ownBlock ≠ some b := by
    obtain ⟨A1, c1, e1, o1⟩ := h1.reg.own
    obtain ⟨A2, c2, e2, o2⟩ := h1.own
    exact fun e => own_ne o2 o1 (by decide) rfl e
  have H2 := h1.hd.grownN h1.pt G (.inl rfl)
  have P2 := h1.pt.grown G.size
  have hlen : pss.length = xp.length := H2.1.symm
  have hls : (xp.set m (.slice (some ⟨wr.heap.size, 0, none⟩) 1 1)).length = xp.length := List.length_set
  refine ⟨h1.reg.other G (by omega) hvb, h1.fil.keep fun q2 e hlt => G.block _ hlt ?_, ?_, ⟨by rw [List.length_set, List.length_set]; exact H2.1, fun i hi => ?_⟩, ?_, fun i ad n c2 e e0 => ?_⟩
  · injection e with e; injection e with e
    intro e2
    have e2 : q2 = b := Option.some.inj e2
    omega
  · obtain ⟨A2, c2, e2, o2⟩ := h1.own
    refine ⟨A2, c2, ?_, ?_⟩
    · rw [hls]; exact e2
    · rw [hls]
      exact (o2.stored m _).1
  · have hi' : i < pss.length := by rw [List.length_set] at hi; exact hi
    rcases Nat.lt_or_ge m i with hmi | hmi
    · obtain ⟨B', c2, e1, e2, e3, e4⟩ := H2.2 i hi'
      have eg : (pss.set m [(0, 0)])[i]'hi = pss[i] := List.getElem_set_ne (by omega) _
      rw [eg]
      exact ⟨B', c2, by rw [List.getElem?_set_ne (by omega)]; exact e1, e2, e3, e4⟩
    · rcases Nat.eq_or_lt_of_le hmi with rfl | hmi
      · have eg : (pss.set i [(0, 0)])[i]'hi = [(0, 0)] := List.getElem_set_self _
        rw [eg]
        refine ⟨some ⟨wr.heap.size, 0, none⟩, 1, by rw [List.getElem?_set_self hm]; rfl, by decide, by decide, ?_⟩
        refine fun _ => ⟨_, rfl, fun j u hu => ?_⟩
        rw [add_off, Nat.zero_add, cell_of_row _ _ _ _ _ _ ((G.block wr.heap.size (by omega) (fun e => by have e : wr.heap.size = b := Option.some.inj e; omega)).trans pz)]
        match j, hu with
        | 0, hu => simpa [cellsV] using hu
        | 1, hu => simpa [cellsV] using hu
      · obtain ⟨B', c2, e1, e2, e3, e4⟩ := H2.2 i hi'
        have eg : (pss.set m [(0, 0)])[i]'hi = pss[i] := List.getElem_set_ne (by omega) _
        rw [eg]
        exact ⟨B', c2, by rw [List.getElem?_set_ne (by omega)]; exact e1, e2, e3, e4⟩
  · rw [hls]
    intro i ad n c2 e e0
    rcases Decidable.em (m = i) with rfl | hmi
    · rw [List.getElem?_set_self hm] at e
      injection e with e
      injection e with e e' e''
      injection e with e
      subst e
      refine ⟨by simp only; omega, by have := G.size; simp only; omega, fun e2 => ?_⟩
      have e3 : b = wr.heap.size := Option.some.inj e2
      omega
    · rw [List.getElem?_set_ne hmi] at e
      exact P2 i ad n c2 e e0
  · rcases Decidable.em (m = i) with rfl | hmi
    · rw [List.getElem?_set_self hm] at e
      injection e with e
      injection e with e e' e''
      injection e with e
      subst e
      simp only
      omega
    · rw [List.getElem?_set_ne hmi] at e
      exact h1.pf i ad n c2 e e0
/-- the first number is changed -/
theorem FilJ.first {w : World} {g bx : Nat} {A : Option Addr} {c : Nat} {bytes : List Int} {W T : Int} {q F : Nat} {fl : List Int} {b c' : Nat} {xp : List Value} {pss : List (List Ce)} {xs : List Bool} {v : Value} {wr : World} (h : FilJ w g bx A c bytes W T q xs v F fl b c' xp pss wr) (hne : fl ≠ []) (z : Int) :
    FilJ w g bx A c bytes W T q xs v F (fl.set 0 z) b c' xp pss (wr.setCell ⟨F, 0, none⟩ (.int .i64 z)) := by
  obtain ⟨l1, l2, l3, l4, l5, l6⟩ := h.gl
  have G := gr_setF wr F 0 (.int .i64 z)
  have hFb : F ≠ b := wr_type h.fil (by simpa using hne) h.own rfl
  have hvF : v.ownBlock ≠ some F := fun e => by
    obtain ⟨A1, c1, e1, o1⟩ := h.reg.own
    obtain ⟨g2, cur, a1, a2, -⟩ := h.fil.2 (by simpa using hne)
    injection a1 with a1; injection a1 with a1
    subst a1
    rcases o1.2 with ⟨k1, -⟩ | ⟨g', cap', cur', k1, -, k2, -⟩
    · rw [k1] at e; cases e
    · rw [k1] at e
      have e : g' = F := Option.some.inj e
      subst e
      rw [a2] at k2
      injection k2 with k2
      injection k2 with _ k2 _
      cases k2
  refine ⟨h.reg.other G (by omega) hvF, by rw [List.map_set]; exact h.fil.store 0 _, h.own.keepH fun q2 e => G.block q2 ?_ ?_, ⟨h.hd.1, fun i hi => ?_⟩, h.pt.grown G.size, h.pf⟩
  · have e : b = q2 := Option.some.inj e
    omega
  · have e : b = q2 := Option.some.inj e
    intro e2
    have e2 : q2 = F := (Option.some.inj e2)
    omega
  · obtain ⟨B', c2, e1, e2, e3, e4⟩ := h.hd.2 i hi
    refine ⟨B', c2, e1, e2, e3, Rd.grownBelow e4 G (fun hn ad ha e => ?_)⟩
    subst ha
    refine h.pf i ad _ _ e1 ?_ (Option.some.inj e)
    intro h0
    refine hn ?_
    have h5 : pss[i] = [] := List.eq_nil_of_length_eq_zero h0
    rw [h5]
    rfl
def LpCel (wo : World) (bx : Nat) (W T : Int) (N : Nat) (i : Value) (wr : World) : Prop :=
  ∃ (m : Nat) (xs : List Bool) (v : Value), m ≤ N ∧ i = .int .i64 m ∧ Hid (xs.length = m) ∧ CelI wo bx W T xs v wr
def LpPcs (w : World) (g bx : Nat) (A : Option Addr) (c : Nat) (bytes : List Int) (W T : Int) (xs : List Bool) (v : Value) (F : Nat) (fl : List Int) (b c' X q : Nat) (i : Value) (wr : World) : Prop :=
  ∃ (n : Nat) (xq : List Value) (psq : List (List Ce)) (q' : Nat), i = .int .i64 n ∧ Hid (xq.length = X) ∧ n ≤ X ∧ q' ≤ q + n ∧ FilJ w g bx A c bytes W T q' xs v F fl b c' xq psq wr
theorem put_one {fit : Bool} {n : Nat} {new : List Int} {F cf : Nat} {w w' : World} {e : Ending} (h : PutR fit n new (some ⟨F, 0, none⟩) cf w e w') :
    ∃ (ok : Bool) (g c' : Nat), e = .returned (.tuple #[.slice (some ⟨g, 0, none⟩) n c', .bool ok]) ∧ (ok = true → Wr w' w.heap.size 3 (some ⟨g, 0, none⟩) (new.map (.int .i64))) ∧ (ok = false → g = F) ∧ Below w.heap.size w w' := by
  obtain ⟨h1, h2, h3⟩ := h
  cases fit with
  | true =>
    obtain ⟨g, c', e1, -, e2, -⟩ := h1 rfl
    exact ⟨true, g, c', e1, fun _ => e2, fun h => (by cases h), h3⟩
  | false => exact ⟨false, F, cf, h2 rfl, fun h => (by cases h), fun _ => rfl, h3⟩
/-- the loop over the pieces -/
def LpFil (w : World) (g bx : Nat) (A : Option Addr) (c : Nat) (bytes : List Int) (W T : Int) (N p : Nat) (v6 v7 i : Value) (wr : World) : Prop :=
  ∃ (k F cF : Nat) (fl : List Int) (b c' : Nat) (xp : List Value) (pss : List (List Ce)) (q : Nat), i = .int .i64 k ∧ v6 = .slice (some ⟨F, 0, none⟩) N cF ∧ v7 = .slice (some ⟨b, 0, none⟩) xp.length c' ∧ fl.length = N ∧ xp.length + k ≤ 4 ∧ q + 70 * k ≤ p + 400 ∧ FilI w g bx A c bytes W T q F fl b c' xp pss wr
/-- a form that may be put -/
def FrmOk (ms : List Ce) : Prop := ms.length ≤ 7 ∧ (∀ q ∈ ms, -100 ≤ q.1 ∧ q.1 ≤ 100 ∧ -100 ≤ q.2 ∧ q.2 ≤ 100) ∧ (ms.headD (0, 0)).2 = 0 ∧ ms.Nodup ∧ ∀ q ∈ ms, okC q
theorem frm_mvd (ps : List Ce) : FrmOk (mvdV stayC ps) := by
  cases hp : pieceB ps with
  | true =>
    have h := ok_of_pieceB hp
    obtain ⟨-, -, h3, h4, -, v, hv, e⟩ := law_moved h
    refine ⟨by have := h3.1.2; omega, fun q hq => by have := h3.2.1 q hq; omega, ?_, h3.2.2.1, fun q hq => by have := h3.2.1 q hq; unfold okC okI; omega⟩
    have e0 : mvdV stayC ps = mvd ps := by rw [mvdV_ok stayC h, map_stay]
    rw [e0] at h4 hv ⊢
    have hpw : (mvd ps).Pairwise fun a b => ltC b a = false := sortC_pw _
    generalize mvd ps = x at h4 hv hpw ⊢
    cases x with
    | nil => rfl
    | cons a l =>
      show a.2 = 0
      have ha := (h4 a (by simp)).2
      rcases List.mem_cons.1 hv with rfl | hl
      · exact e
      · have := (List.pairwise_cons.1 hpw).1 v hl
        unfold ltC at this
        rw [decide_eq_false_iff_not] at this
        omega
  | false =>
    rw [show mvdV stayC ps = [] by unfold mvdV; rw [hp]; rfl]
    exact ⟨by simp, fun q h => (by cases h), rfl, List.nodup_nil, fun q h => (by cases h)⟩
/-- what is drawn -/
def SomeFill (g : Nat) (w : World) (e : Ending) (w' : World) : Prop :=
  ∃ (W T : Int) (A : Option Addr) (c : Nat) (bs : List Bool) (A2 : Option Addr) (c2 : Nat) (pss : List (List Ce)) (A3 : Option Addr) (c3 : Nat) (fs : List Int),
    e = .returned (.tuple #[.agg #[.int .i64 W, .int .i64 T, .slice A bs.length c], .slice A2 pss.length c2, .slice A3 fs.length c3]) ∧ bs.length ≤ 16 ∧ pss.length ≤ 4 ∧ fs.length ≤ 16 ∧ w.grownBy w' (some g) ∧
    ∀ (r : Nat) (w2 : World), r ≤ w.heap.size → w'.grownBy w2 (some r) → Rd w2 A (bs.map .bool) ∧ RdSS w2 A2 pss ∧ Rd w2 A3 (fs.map (.int .i64))
theorem gr_3 (w : World) (b : Nat) (x y z : Value) : w.grownBy (((w.setCell ⟨b, 0, none⟩ x).setCell ⟨b, 1, none⟩ y).setCell ⟨b, 2, none⟩ z) (some b) :=
  grownBy_trans' (grownBy_trans' (gr_setF w b 0 x) (gr_setF _ b 1 y)) (gr_setF _ b 2 z)
/-- all is handed back -/
theorem FilJ.done {w : World} {g bx : Nat} {A : Option Addr} {c : Nat} {bytes : List Int} {W T : Int} {q F : Nat} {fl : List Int} {b c' : Nat} {xp : List Value} {pss : List (List Ce)} {xs : List Bool} {B : Option Addr} {k : Nat} {wr : World} (h : FilJ w g bx A c bytes W T q xs (.slice B xs.length k) F fl b c' xp pss wr) (N cF : Nat) (hN : fl.length = N) (hx : xs.length ≤ 16) (hN16 : N ≤ 16) (hp : xp.length ≤ 4) :
    SomeFill g w (.returned (.tuple #[.agg #[.int .i64 W, .int .i64 T, .slice B xs.length k], .slice (some ⟨b, 0, none⟩) xp.length c', .slice (some ⟨F, 0, none⟩) N cF])) (((wr.setCell ⟨w.heap.size, 0, none⟩ (.int .i64 W)).setCell ⟨w.heap.size, 1, none⟩ (.int .i64 T)).setCell ⟨w.heap.size, 2, none⟩ (.slice B xs.length k)) := by
  obtain ⟨l1, l2, l3, l4, l5, l6⟩ := h.gl
  have h1 := h.reg.hg
  have h2 := h.reg.hb
  have G := gr_3 wr w.heap.size (.int .i64 W) (.int .i64 T) (.slice B xs.length k)
  generalize ((wr.setCell ⟨w.heap.size, 0, none⟩ (.int .i64 W)).setCell ⟨w.heap.size, 1, none⟩ (.int .i64 T)).setCell ⟨w.heap.size, 2, none⟩ (.slice B xs.length k) = w' at *
  have hk : ∀ j, j < wr.heap.size → j ≠ w.heap.size → w'.heap[j]? = wr.heap[j]? := fun j hj hn => G.block j hj (fun e => hn (Option.some.inj e))
  subst hN
  have hlen : xp.length = pss.length := h.hd.1
  refine ⟨W, T, B, k, xs, some ⟨b, 0, none⟩, c', pss, some ⟨F, 0, none⟩, cF, fl, by rw [hlen], hx, by omega, hN16, ?_, fun r w2 hr G2 => ⟨?_, ?_, ?_⟩⟩
  · exact ⟨G.os.trans h.reg.gb.os, G.tape.trans h.reg.gb.tape, G.output.trans h.reg.gb.output, Nat.le_trans h.reg.gb.size G.size, fun i hi hn => (hk i (by have := h.reg.gb.size; omega) (by omega)).trans (h.reg.gb.block i hi hn)⟩
  · obtain ⟨A1, c1, e1, o1⟩ := h.reg.own
    injection e1 with e1 e2 e3
    subst e1
    refine Rd.grownBelow (Rd.grownBelow (Rd.own o1) G (fun hne ad ha e => ?_)) G2 (fun hne ad ha e => ?_)
    · subst ha
      have := (o1.lt ad.block rfl).1
      have e : ad.block = w.heap.size := Option.some.inj e
      omega
    · subst ha
      have := (o1.lt ad.block rfl).1
      have e : ad.block = r := Option.some.inj e
      omega
  · have R2 : Rd w2 (some ⟨b, 0, none⟩) xp := by
      obtain ⟨A1, c1, e1, o1⟩ := h.own
      injection e1 with e1 e2 e3
      subst e1
      refine Rd.grownBelow (Rd.grownBelow (Rd.own o1) G (fun hne ad ha e => ?_)) G2 (fun hne ad ha e => ?_)
      · injection ha with ha
        subst ha
        have e : b = w.heap.size := Option.some.inj e
        omega
      · injection ha with ha
        subst ha
        have e : b = r := Option.some.inj e
        omega
    exact RdSS.of R2 ((h.hd.grownN h.pt G (.inr ⟨_, rfl, by omega⟩)).grownN (h.pt.grown G.size) G2 (.inr ⟨_, rfl, by omega⟩))
  · refine Rd.grownBelow (Rd.grownBelow h.fil.rd G (fun hne ad ha e => ?_)) G2 (fun hne ad ha e => ?_)
    · injection ha with ha
      subst ha
      have e : F = w.heap.size := Option.some.inj e
      omega
    · injection ha with ha
      subst ha
      have e : F = r := Option.some.inj e
      omega
theorem make_boolF (W : World) (n : Nat) (hn : n ≤ 1000000) : ∃ w' : World, (Instr.makeSlice 23 (.int .i64 n) (.int .i64 n)).run Tryz.prog W = .ok (.slice (some ⟨W.heap.size, 0, none⟩) n n) w' ∧ Wr w' W.heap.size 4 (some ⟨W.heap.size, 0, none⟩) ((List.replicate n false).map .bool) ∧ Below W.heap.size W w' ∧ W.heap.size < w'.heap.size := by
  obtain ⟨i0, hi, hz0, hz1, hz2⟩ := info_parts Tryz.infoB
  obtain ⟨w', hrun, r1, r2⟩ := run_make_full (P := Tryz.prog) W W.heap.size 23 4 i0 (.bool false) 1 Tryz.underlying23 hi hz0 hz1 .i64 .i64 n (by rw [hz2]; omega) (by unfold maxLen; omega) (Nat.le_refl _)
  refine ⟨w', hrun, ?_, ((Below.refl W.heap.size W).grown r2 (Nat.le_refl _) (fun k hk => by cases hk)), own_lt r1 _ rfl⟩
  have h0 := Wr.of_own r1
  rw [show (Value.bool false).cells = #[.bool false] from rfl, toList_madeCells_one] at h0
  simpa using h0
end Go.Proofs.YtejkbjcmndnfeaaGreat

/- Contract: spec.l20Filling: some region, lists of cells, and a list. -/
namespace Go.Proofs.YtejkbjcmndnfeaaGreat
open Go.RowKit Go.Sort
set_option maxRecDepth 100000 in
set_option maxHeartbeats 8000000 in
theorem filling_any (w : World) (g : Nat) (A : Option Addr) (c : Nat) (bytes : List Int) (p : Nat) (h : RdS w g A c bytes p) (hp : p ≤ 100000) :
    Calls Tryz.prog 63 #[.pointer (some ⟨g, 0, none⟩)] w (SomeFill g w) := by
  have hg := heap_lt h.1
  have hA : bytes ≠ [] → ∀ ad, A = some ad → ad.block < w.heap.size := fun hne ad ha => h.2.1.lt ha (by simpa using hne)
  have h0 := h.below hg (bl_alloc (Below.refl _ _) (.cells #[.int .i64 0, .int .i64 0, .slice none 0 0] 25))
  have P0 := heap_alloc_new w (.cells #[.int .i64 0, .int .i64 0, .slice none 0 0] 25)
  have K0 : w.grownBy (w.alloc (.cells #[.int .i64 0, .int .i64 0, .slice none 0 0] 25)) (some g) := gb_below (World.grownBy.refl _ _) (bl_alloc (Below.refl _ _) _)
  have z0 : w.heap.size < (w.alloc (.cells #[.int .i64 0, .int .i64 0, .slice none 0 0] 25)).heap.size := by simp
  go_enter Tryz.func63, Tryz.ntmps63
  go_wp2_with fail
  refine (pick_any 4 _ g A c bytes p h0 (by omega) (by omega)).mono ?_
  rintro e w1 ⟨r1, rfl, hr1, S1, G1⟩
  have hr1' : 0 ≤ r1 ∧ r1 ≤ 3 := by unfold Below0 at hr1; omega
  clear hr1
  obtain ⟨a1, a2⟩ := hr1'
  have K1 := grownBy_trans' K0 G1
  have P1 := (G1.block _ z0 (by simp; omega)).trans P0
  have z1 := heap_lt P1
  go_wp2_with fail
  refine (pick_any 4 _ g A c bytes _ S1 (by omega) (by omega)).mono ?_
  rintro e w2 ⟨r2, rfl, hr2, S2, G2⟩
  have hr2' : 0 ≤ r2 ∧ r2 ≤ 3 := by unfold Below0 at hr2; omega
  clear hr2
  obtain ⟨b1, b2⟩ := hr2'
  have K2 := grownBy_trans' K1 G2
  have P2 := (G2.block _ z1 (by simp; omega)).trans P1
  have z2 := heap_lt P2
  have M : 1 ≤ (1 + r1) * (1 + r2) ∧ (1 + r1) * (1 + r2) ≤ 16 := by
    rcases (show r1 = 0 ∨ r1 = 1 ∨ r1 = 2 ∨ r1 = 3 by omega) with rfl | rfl | rfl | rfl <;> omega
  obtain ⟨m1, m2⟩ := M
  have H1 := RegI.new K2 P2 S2 hA hg (1 + r1) (1 + r2)
  have zq : (w2.alloc (.cells #[.int .i64 (1 + r1), .int .i64 (1 + r2), .slice none 0 0] 25)).heap.size = w2.heap.size + 1 := by simp
  obtain ⟨bx, hbx⟩ : ∃ bx, w2.heap.size = bx := ⟨_, rfl⟩
  rw [hbx] at H1 zq z2
  clear K0 K1 K2 P0 P1 P2 S1 S2 G1 G2 h0 z0 z1 h
  go_wp2_with fail
  have B2 := bl_alloc (bl_alloc (Below.refl (w2.alloc (.cells #[.int .i64 (1 + r1), .int .i64 (1 + r2), .slice none 0 0] 25)).heap.size (w2.alloc (.cells #[.int .i64 (1 + r1), .int .i64 (1 + r2), .slice none 0 0] 25))) (.cells #[] 3)) (.cells #[] 32)
  have H3 := H1.below B2
  have O3 := (OwnI.empty (w2.alloc (.cells #[.int .i64 (1 + r1), .int .i64 (1 + r2), .slice none 0 0] 25))).alloc (.cells #[] 32)
  have zr : ((w2.alloc (.cells #[.int .i64 (1 + r1), .int .i64 (1 + r2), .slice none 0 0] 25)).alloc (.cells #[] 3)).heap.size = bx + 1 + 1 := by simp [hbx]
  have W3 : OwnH (((w2.alloc (.cells #[.int .i64 (1 + r1), .int .i64 (1 + r2), .slice none 0 0] 25)).alloc (.cells #[] 3)).alloc (.cells #[] 32)) (bx + 1) (.slice (some ⟨((w2.alloc (.cells #[.int .i64 (1 + r1), .int .i64 (1 + r2), .slice none 0 0] 25)).alloc (.cells #[] 3)).heap.size, 0, none⟩) 0 0) [] := ⟨_, _, rfl, World.ownsRow_lit _ #[] 0 (by rw [zr]; omega) (by unfold maxLen; omega) (by simp)⟩
  rw [zq] at O3
  rw [zr] at W3
  obtain ⟨W, hW⟩ : ∃ W, 1 + r1 = W := ⟨_, rfl⟩
  obtain ⟨T, hT⟩ : ∃ T, 1 + r2 = T := ⟨_, rfl⟩
  have w1' : 1 ≤ W ∧ W ≤ 4 := by omega
  have t1' : 1 ≤ T ∧ T ≤ 4 := by omega
  rw [hW, hT] at m1 m2
  simp only [hW, hT] at H3 O3 W3 ⊢
  obtain ⟨N, hN⟩ := Int.eq_ofNat_of_zero_le (show 0 ≤ W * T by omega)
  have HN := Lib.hid hN
  have hN16 : 1 ≤ N ∧ N ≤ 16 := by omega
  obtain ⟨wq, hwq⟩ : ∃ wq, ((w2.alloc (.cells #[.int .i64 W, .int .i64 T, .slice none 0 0] 25)).alloc (.cells #[] 3)).alloc (.cells #[] 32) = wq := ⟨_, rfl⟩
  simp only [hwq] at H3 O3 W3 ⊢
  clear hwq B2 H1 zq zr hW hT hN m1 m2 hbx a1 a2 b1 b2
  obtain ⟨hwl1, hwl2⟩ := w1'
  obtain ⟨htl1, htl2⟩ := t1'
  obtain ⟨hn1, hn2⟩ := hN16
  go_loopw [6, 8] (fun v i wr => LpF (fun k => k ≤ N ∧ OwnI wr (bx + 1) v (List.replicate k (-1)) ∧ RegI w g bx A c bytes W T (p + 1 + 1) [] (.slice none 0 0) wr ∧ OwnH wr (bx + 1) (.slice (some ⟨bx + 1 + 1, 0, none⟩) 0 0) []) i) (fun _ i _ => N - (intOf i).toNat)
  case atStart => exact ⟨0, rfl, Nat.zero_le _, O3, H3, W3⟩
  case round =>
    clear H3 O3 W3
    obtain ⟨k, rfl, hk, O4, H4, W4⟩ := hrel
    obtain ⟨zb, y0, y1, y2, f2⟩ := H4.cells
    have hWT0 : 0 ≤ W * T := by have := HN.out; omega
    have hWT1 : W * T ≤ 16 := by have := HN.out; omega
    by_cases hlt : k < N
    · have hlt2 : (k : Int) < W * T := by have := HN.out; omega
      have hl : (List.replicate k (-1 : Int)).length ≤ 1000000000000 := by rw [List.length_replicate]; omega
      have HNE := Lib.hid (ownIH_ne O4 W4)
      have HW4 := Lib.hid W4
      have HH4 := Lib.hid H4
      clear W4 H4
      go_wp2_with (at_builtin; refine app_int _ rfl _ _ rfl (bx + 1) _ _ rfl O4 (-1) rfl hl (by omega) ?_; intro A5 c5 w5 O5 g5)
      have b5 := app_below (Below.refl (bx + 1) wr) (Nat.le_refl _) (by omega) O4 g5
      have z5 : wr.heap.size ≤ w5.heap.size := b5.size
      go_roundw
      case rel =>
        refine ⟨k + 1, by go_num, by omega, by rw [List.replicate_succ']; rw [List.length_replicate] at O5; exact O5, HH4.out.high (Nat.lt_succ_self _) b5, HW4.out.keepH fun b e => ?_⟩
        have hb := (HW4.out.ltH b e).2
        rw [g5.block b (by simp; omega) (fun e2 => HNE.out b e e2.symm)]
        exact (bl_alloc (Below.refl wr.heap.size wr) _).block b hb
      case measure => simp [intOf]; omega
    · have hge : ¬ ((k : Int) < W * T) := by have := HN.out; omega
      obtain rfl : k = N := by omega
      obtain ⟨A9, c9, hv9, own9⟩ := id O4
      subst hv9
      obtain ⟨F, cF, hF, hF1, hF2⟩ := own9.form (by rw [List.length_replicate]; omega)
      injection hF with hF hF3 hF4
      subst hF
      have fil9 := Wr.of_own own9
      have I4 : FilI w g bx A c bytes W T (p + 1 + 1) F (List.replicate k (-1)) (bx + 1 + 1) 0 [] [] wr := ⟨H4, fil9, W4, ⟨rfl, fun k h => by simp at h⟩, fun k ad n c e => by simp at e, fun k ad n c e => by simp at e⟩
      rw [List.length_replicate]
      clear O4 H4 W4 own9 fil9 hF3 hF4
      go_wp2_with fail
      clear hge hWT0 hWT1
      refine (pick_any 4 _ g A c bytes _ I4.reg.rds (by omega) (by omega)).mono ?_
      rintro e w5 ⟨r5, rfl, hr5, S5, G5⟩
      have I5 := I4.pick S5 G5
      obtain ⟨k5, hk5⟩ := Int.eq_ofNat_of_zero_le (show 0 ≤ r5 by unfold Below0 at hr5; omega)
      have hk53 : k5 ≤ 3 := by unfold Below0 at hr5; omega
      subst hk5
      clear hr5 S5 G5 I4 zb y0 y1 y2 f2
      go_wp2_with fail
      go_loopw [6, 7, 9] (fun v6 v7 i wr => LpFil w g bx A c bytes W T k p v6 v7 i wr) (fun _ _ i _ => (intOf i).toNat)
      case atStart => exact ⟨k5 + 1, F, c9, _, _, 0, [], [], _, by go_num, rfl, rfl, List.length_replicate, by simp; omega, by omega, I5⟩
      case round =>
        clear I5
        obtain ⟨j, F, cF, fl, b, c', xp, pss, q, rfl, rfl, rfl, hfl, hxj, hqj, I6⟩ := hrel
        have HFL := Lib.hid hfl
        clear hfl
        obtain ⟨wo, hwo⟩ : ∃ wo : World, wo = wr := ⟨_, rfl⟩
        subst hwo
        by_cases hj : 0 < j
        · have hjI : (0 : Int) < (j : Int) := by omega
          obtain ⟨gl1, gl2, gl3, gl4, gl5, gl6⟩ := I6.gl
          go_wp2_with fail
          refine (piece_any g A c bytes q 4 0 _ I6.reg.rds gl5 (by omega) (by omega) (by omega)).mono ?_
          rintro e w7 ⟨B7, c7, ps7, p7, rfl, O7, hc7, hl7, -, S7, hp7, G7⟩
          have I7 := I6.pick S7 G7
          have R7 := OwnC.rd O7
          have N7 : ∀ ad, B7 = some ad → wo.heap.size ≤ ad.block := fun ad ha => by
            subst ha
            obtain ⟨_, _, _, o⟩ := id O7
            exact (o.lt ad.block rfl).1
          have z7 := G7.size
          clear I6 S7 G7 O7
          go_wp2_with fail
          refine (pick_any 3 _ g A c bytes _ I7.reg.rds (by omega) (by omega)).mono ?_
          rintro e w8 ⟨r8, rfl, -, S8, G8⟩
          have I8 := I7.pick S8 G8
          have R8 : RdC w8 B7 ps7 := Rd.grownBelow R7 G8 (fun _ ad ha e => by have := N7 ad ha; have e' : ad.block = g := Option.some.inj e; omega)
          have z8 := G8.size
          clear I7 S8 G8 R7
          have hq8 : p7 + 1 ≤ q + 30 := by omega
          obtain ⟨q8, hq8'⟩ : ∃ q8, p7 + 1 = q8 := ⟨_, rfl⟩
          rw [hq8'] at hq8 I8
          clear hq8' hp7
          go_upto_if 49 with fail
          go_cut [10] from 41 to 93 (fun s10 wx => ∃ (B : Option Addr) (cb : Nat) (ps : List Ce), s10 = .slice B ps.length cb ∧ ps.length ≤ cb ∧ ps.length ≤ 1000 ∧ RdC wx B ps ∧ FilI w g bx A c bytes W T q8 F fl b c' xp pss wx ∧ wo.heap.size ≤ wx.heap.size)
          case first =>
            by_cases h8 : r8 = 0
            · subst h8
              have RL : RdC (w8.alloc (.cells #[.int .i64 0, .int .i64 0, .int .i64 1, .int .i64 0] 89)) (some ⟨w8.heap.size, 0, none⟩) [(0, 0), (1, 0)] := fun _ => ⟨_, rfl, fun j u hu => by
                rw [add_off, Nat.zero_add, cell_of_row _ _ _ _ _ _ (heap_alloc_new w8 _)]
                match j, hu with
                | 0, hu => simpa [cellsV] using hu
                | 1, hu => simpa [cellsV] using hu
                | 2, hu => simpa [cellsV] using hu
                | 3, hu => simpa [cellsV] using hu⟩
              have b8 := bl_alloc (Below.refl w8.heap.size w8) (.cells #[.int .i64 0, .int .i64 0, .int .i64 1, .int .i64 0] 89)
              have IA := I8.belo b8
              have zA : wo.heap.size ≤ (w8.alloc (.cells #[.int .i64 0, .int .i64 0, .int .i64 1, .int .i64 0] 89)).heap.size := by have := b8.size; omega
              go_wp2_with fail
              go_meet
              exact ⟨some ⟨w8.heap.size, 0, none⟩, 2, [(0, 0), (1, 0)], rfl, by decide, by decide, RL, IA, zA⟩
            · have h8' : (r8 == 0) = false := by rw [beq_eq_false_iff_ne]; exact h8
              go_wp2_with fail
              go_meet
              exact ⟨B7, c7, ps7, rfl, hc7, by omega, R8, I8, by omega⟩
          case rest =>
          obtain ⟨B, cb, ps, rfl, hcb, hlb, RB, IB, zB⟩ := hcut
          have CM := Lib.hid (sPieceMoved_any B cb ps wc RB (by unfold maxLen; omega) hcb)
          clear I8 R8
          go_wp2_with fail
          refine CM.out.mono ?_
          rintro e w9 ⟨A9, c9', rfl, R9, b89, N9, cap9⟩
          have HFO := Lib.hid (frm_mvd ps)
          generalize mvdV stayC ps = ms at *
          have N9' : ∀ ad, A9 = some ad → wo.heap.size ≤ ad.block := fun ad h => by have := N9 ad h; omega
          have I9 := IB.belo b89
          have z9 := b89.size
          clear IB RB b89 CM hcb hlb N9
          have hms := HFO.out.1
          obtain ⟨zb, y0, y1, y2, f2⟩ := I9.reg.cells
          obtain ⟨wy, hrunY, WY, bY, zY⟩ := make_boolF (w9.alloc (.cells #[.int .i64 0, .int .i64 0, .slice none 0 0] 25)).drew k (by omega)
          have bY1 : Below w9.heap.size w9 (w9.alloc (.cells #[.int .i64 0, .int .i64 0, .slice none 0 0] 25)).drew := (bl_alloc (Below.refl w9.heap.size w9) _).drew
          have sY1 : (w9.alloc (.cells #[.int .i64 0, .int .i64 0, .slice none 0 0] 25)).drew.heap.size = w9.heap.size + 1 := by simp
          rw [sY1] at WY bY zY
          have pY : wy.heap[w9.heap.size]? = some (.cells #[.int .i64 0, .int .i64 0, .slice none 0 0] 25 (0, 0)) := (bY.block _ (Nat.lt_succ_self _)).trans (heap_alloc_new w9 _)
          have bY' : Below w9.heap.size w9 wy := bY1.trans (bY.mono (Nat.le_succ _))
          have I10 := I9.belo bY'
          obtain ⟨zbY, y0Y, y1Y, y2Y, f2Y⟩ := I10.reg.cells
          obtain ⟨s0, s1, s2, t0, t1, t2⟩ := blk3 pY
          obtain ⟨wz, hrunZ, WZ, bZ, zZ⟩ := make_boolF w9.drew k (by omega)
          have sZ1 : w9.drew.heap.size = w9.heap.size := rfl
          rw [sZ1] at WZ bZ zZ
          have bZ' : Below w9.heap.size w9 wz := (Below.refl w9.heap.size w9).drew.trans bZ
          have I10z := I9.belo bZ'
          obtain ⟨zbZ, y0Z, y1Z, y2Z, f2Z⟩ := I10z.reg.cells
          go_upto_region 15 with fail
          go_cut [11] from 41 to 93 (fun s11 wx => ∃ (yb F5 : Nat), s11 = .pointer (some ⟨yb, 0, none⟩) ∧ w9.heap.size ≤ yb ∧ Wr wx w9.heap.size 4 (some ⟨F5, 0, none⟩) ((List.replicate k false).map .bool) ∧ wx.heap[yb]? = some (.cells #[.int .i64 W, .int .i64 T, .slice (some ⟨F5, 0, none⟩) k k] 25 (0, 0)) ∧ yb ≠ F5 ∧ Below w9.heap.size w9 wx)
          case first =>
            go_wp2_with fail
            go_region
            · go_wp2_with fail
              go_meet
              exact ⟨wz.heap.size, w9.heap.size, rfl, Nat.le_of_lt zZ, WZ.belo (bl_alloc (Below.refl _ _) _), heap_alloc_new _ _, Nat.ne_of_gt zZ, bZ'.trans ((bl_alloc (Below.refl _ _) _).mono (Nat.le_of_lt zZ))⟩
            · go_wp2_with fail
              go_meet
              exact ⟨w9.heap.size, w9.heap.size + 1, rfl, Nat.le_refl _, (WY.lower (Nat.le_succ _)).keep (fun g2 e hl => by
                injection e with e; injection e with e
                subst e
                exact ((Below.heap_setCell _ _ _ _ (by simp)).trans (Below.heap_setCell _ _ _ _ (by simp))).trans (Below.heap_setCell _ _ _ _ (by simp))), heap_setCell_same _ _ 2 _ _ _ (heap_setCell_same _ _ 1 _ _ _ (heap_setCell_same _ _ 0 _ _ _ pY)), by omega, ((bY'.setCell (by simp) _).setCell (by simp) _).setCell (by simp) _⟩
          case rest =>
          obtain ⟨yb, F5, rfl, hyb, W5, p5, hyf, b5⟩ := hcut
          clear hrunY WY bY zY bY1 sY1 pY bY' I10 zbY y0Y y1Y y2Y f2Y s0 s1 s2 t0 t1 t2 hrunZ WZ bZ zZ sZ1 bZ' I10z zbZ y0Z y1Z y2Z f2Z zb y0 y1 y2 f2
          go_wp2_with fail
          go_loopw [12] (fun i wr => ∃ (m : Nat) (bl : List Bool), i = .int .i64 m ∧ m ≤ k ∧ Hid (bl.length = k) ∧ Hid (∀ t, t < m → bl[t]? = some true) ∧ Wr wr w9.heap.size 4 (some ⟨F5, 0, none⟩) (bl.map .bool) ∧ wr.heap[yb]? = some (.cells #[.int .i64 W, .int .i64 T, .slice (some ⟨F5, 0, none⟩) k k] 25 (0, 0)) ∧ Below w9.heap.size w9 wr) (fun i _ => k - (intOf i).toNat)
          case atStart => exact ⟨0, _, rfl, Nat.zero_le _, Lib.hid (List.length_replicate), Lib.hid (fun t h => absurd h (Nat.not_lt_zero t)), W5, p5, b5⟩
          case round =>
            clear W5 p5 b5
            obtain ⟨m, bl, rfl, hm, HL, HT, W6, p6, b6⟩ := hrel
            obtain ⟨s0, s1, s2, t0, t1, t2⟩ := blk3 p6
            have hne : bl.map Value.bool ≠ [] := fun e => by have := congrArg List.length e; simp [HL.out] at this; omega
            by_cases hmk : m < k
            · obtain ⟨v, hv⟩ : ∃ v, bl[m]? = some v := ⟨bl[m]'(by rw [HL.out]; exact hmk), List.getElem?_eq_getElem _⟩
              obtain ⟨g2, e2, hg2, -, hfr⟩ := W6.form hne
              injection e2 with e2; injection e2 with e2
              subst e2
              obtain ⟨ad, ea, hc⟩ := W6.rd hne
              have cm := hc m (.bool v) (by rw [List.getElem?_map, hv]; rfl)
              injection ea with ea
              subst ea
              rw [add_off, Nat.zero_add] at cm
              have fm := hfr m
              have HV := Lib.hid hv
              clear hc hfr hv
              go_wp2_with fail
              go_roundw
              case rel => exact ⟨m + 1, bl.set m true, by go_num, by omega, Lib.hid (by rw [List.length_set]; exact HL.out), Lib.hid (fun t ht => by
                rcases Nat.lt_or_ge t m with h | h
                · rw [List.getElem?_set_ne (by omega)]; exact HT.out t h
                · obtain rfl : t = m := by omega
                  rw [List.getElem?_set_self (by rw [HL.out]; exact hmk)]), by rw [List.map_set]; exact W6.store m _, (Below.heap_setCell _ _ _ _ (by simp; omega)).trans p6, b6.setCell (by simp; omega) _⟩
              case measure => simp [intOf]; omega
            · obtain rfl : m = k := by omega
              have hbl : bl = List.replicate m true := List.ext_getElem? fun t => by
                rcases Nat.lt_or_ge t m with h | h
                · rw [HT.out t h, List.getElem?_replicate_of_lt h]
                · rw [List.getElem?_eq_none (by rw [HL.out]; exact h), List.getElem?_eq_none (by rw [List.length_replicate]; exact h)]
              subst hbl
              have I11 := I9.belo b6
              have R11 : RdC wr A9 ms := Rd.belo R9 b6
              have hf : FldF W T m := ⟨hwl1, by omega, htl1, by omega, HN.out.symm⟩
              have CPUT := Lib.hid (fun (z : World) (cell : Nat) (hc : cell < m) (RA : Rd z (some ⟨F5, 0, none⟩) ((List.replicate m true).map .bool)) (RF : Rd z (some ⟨F, 0, none⟩) (fl.map (.int .i64))) (RC : RdC z A9 ms) => sPut_any W T (some ⟨F5, 0, none⟩) (some ⟨F, 0, none⟩) A9 m cF c9' m cell xp.length (List.replicate m true) fl ms z RA RF RC (by rw [List.length_replicate]; exact hf) List.length_replicate HFL.out hc (by omega) HFO.out.2.1 HFO.out.2.2.1 HFO.out.2.2.2.1)
              have hF5 : w9.heap.size ≤ F5 := W6.1 _ rfl
              clear hf HL HT hne
              go_upto_region 20 with fail
              go_cut [13, 14] from 41 to 93 (fun s13 s14 wx => ∃ (ok : Bool) (F2 c2 : Nat) (fl2 : List Int), s13 = .slice (some ⟨F2, 0, none⟩) m c2 ∧ s14 = .bool ok ∧ fl2.length = m ∧ (ok = false → F2 = F ∧ fl2 = fl) ∧ FilI w g bx A c bytes W T (q8 + 1) F2 fl2 b c' xp pss wx ∧ RdC wx A9 ms)
              case first =>
                go_wp2_with fail
                go_region_law (first
                  | (go_simp
                     go_at_call 119
                     refine (pick_any m wr.drew g A c bytes q8 I11.reg.rds (by omega) (by omega)).mono ?_
                     rintro e w4 ⟨r4, rfl, hr4, S4, G4⟩
                     have G5 : wr.grownBy w4 (some g) := ⟨G4.os, G4.tape, G4.output, G4.size, G4.block⟩
                     have I12 := I11.pick S4 G5
                     have R12 : RdC w4 A9 ms := Rd.grownBelow R11 G5 (fun _ ad ha e => by have := N9' ad ha; have e' : ad.block = g := Option.some.inj e; omega)
                     have RA12 : Rd w4 (some ⟨F5, 0, none⟩) ((List.replicate m true).map .bool) := Rd.grownBelow W6.rd G5 (fun _ ad ha e => by injection ha with ha; subst ha; have e' : F5 = g := Option.some.inj e; omega)
                     have RF12 : Rd w4 (some ⟨F, 0, none⟩) (fl.map (.int .i64)) := I12.fil.rd
                     obtain ⟨k0, k1, k2, -, -, -⟩ := blk3 ((G5.block yb (heap_lt p6) (fun e => by have e' : yb = g := Option.some.inj e; omega)).trans p6)
                     obtain ⟨rn, rfl, hrn⟩ : ∃ rn : Nat, r4 = rn ∧ rn < m := ⟨r4.toNat, by unfold Below0 at hr4; omega, by unfold Below0 at hr4; omega⟩
                     have z12 := G5.size
                     clear hr4 S4 G4)
                  | (go_simp
                     go_at_call 133
                     refine (CPUT.out w4 rn hrn RA12 RF12 R12).mono ?_
                     rintro e w5 HP
                     obtain ⟨ok, g6, c6, rfl, hp1, hp2, b5⟩ := put_one HP
                     have I13 := I12.belo b5
                     have R13 : RdC w5 A9 ms := Rd.belo R12 b5
                     clear HP))
                all_goals (
                  go_wp2_with fail
                  go_meet
                  cases ok with
                  | false =>
                    obtain rfl := hp2 rfl
                    exact ⟨false, _, c6, fl, rfl, rfl, HFL.out, fun _ => ⟨rfl, rfl⟩, I13, R13⟩
                  | true =>
                    exact ⟨true, g6, c6, _, rfl, rfl, by rw [setF_len]; exact HFL.out, fun h => (by cases h), I13.next (by have := I12.gl; omega) (hp1 rfl) (fun k ad n c2 e e0 => by
                      have h1 := (hp1 rfl).1 _ rfl
                      have h2 := (I12.pt k ad n c2 e e0).2.1
                      simp only at h1
                      omega), R13⟩)
              case rest =>
              obtain ⟨ok, F2, c2, fl2, rfl, rfl, hl2, hno, I13, R13⟩ := hcut
              cases ok with
              | false =>
                obtain ⟨rfl, rfl⟩ := hno rfl
                go_wp2_with fail
                go_roundw
                case rel => exact ⟨j - 1, F2, cF, fl2, b, c', xp, pss, q8 + 1, by go_num, rfl, rfl, hl2, by omega, by omega, I13⟩
                case measure => simp [intOf]; omega
              | true =>
                obtain ⟨e1, e2, e3, e4, e5, e6⟩ := I13.gl
                have hfn : fl2 ≠ [] := fun e => by rw [e] at hl2; simp at hl2; omega
                have hF2 : F2 < wc.heap.size := by
                  obtain ⟨g2, a1, -, a2, -⟩ := I13.fil.form (by simpa using hfn)
                  injection a1 with a1; injection a1 with a1
                  omega
                have HFN := Lib.hid hfn
                have HL2 := Lib.hid hl2
                clear hl2 hfn hno
                go_wp2_with fail
                refine (l20FormQ_any g A c bytes (q8 + 1) A9 c9' ms wc I13.reg.rds e5 (by omega) R13 (fun ad ha => by have := N9' ad ha; omega) cap9 hms HFO.out.2.2.2.2).mono ?_
                rintro e w14 ⟨B2, cB2, qs, p14, rfl, R14, h14a, h14b, N14, S14, hp14, G14⟩
                have I14 := I13.pick S14 G14
                have hxl : xp.length ≤ 1000000000 := by omega
                have hz14 := G14.size
                have hb14 : bx + 1 ≤ w14.heap.size := by omega
                clear I13 S14 G14 R13
                go_wp2_with (at_builtin; refine app_head _ rfl _ _ rfl (bx + 1) _ xp rfl I14.own B2 qs.length cB2 rfl hxl hb14 ?_; intro g7 c7' w15 W15 G15 hg15 hlt15)
                have I15 := FilI.add I14 HFN.out R14 h14a h14b wc.heap.size e4 hF2 N14 W15 G15 hg15
                have hlx : (xp ++ [Value.slice B2 qs.length cB2]).length = xp.length + 1 := by simp
                clear I14 R14 W15 G15
                go_wp2_with fail
                go_roundw
                case rel => exact ⟨j - 1, F2, c2, fl2, g7, c7', _, _, p14, by go_num, rfl, by rw [hlx], HL2.out, by rw [hlx]; omega, by omega, I15⟩
                case measure => simp [intOf]; omega
        · have hj0 : ¬ ((0 : Int) < (j : Int)) := by omega
          have HFN := Lib.hid (show fl ≠ [] from fun e => by have := HFL.out; rw [e] at this; simp at this; omega)
          have hx4 : xp.length ≤ 4 := by omega
          have K0 : CelI wo bx W T [] (.slice none 0 0) wo := ⟨OwnB.nil _ _, I6.reg.box, World.grownBy.refl _ _, I6.gl.2.2.2.2.2⟩
          go_wp2_with fail
          go_loopw [15] (fun i wr => LpCel wo bx W T k i wr) (fun i _ => k - (intOf i).toNat)
          case atStart => exact ⟨0, [], _, Nat.zero_le _, rfl, Lib.hid rfl, K0⟩
          case round =>
            clear K0
            obtain ⟨m, xs, v, hm, rfl, HX, HC⟩ := hrel
            have hbx := HC.lt
            have hwz := HC.gb.size
            have zb := heap_lt HC.box
            obtain ⟨s0, s1, s2, t0, t1, t2⟩ := blk3 HC.box
            obtain ⟨A9, c9', rfl, -⟩ := id HC.own
            have I7 := FilJ.cels I6 HC
            by_cases hmk : m < k
            · have hxl : xs.length ≤ 1000000000000 := by rw [HX.out]; omega
              obtain ⟨z, cz, -, zF⟩ := I7.cellF (m := m) (by rw [HFL.out]; exact hmk)
              have H5 := fun o => HC.belo (bl_alloc (Below.refl wr.heap.size wr).drew o)
              clear I7
              go_wp2_with fail
              go_region_law (first
                | (refine step_app_bool _ rfl _ _ rfl wo.heap.size _ xs rfl (H5 _).own _ _ rfl (cell_of_row _ _ 0 _ _ _ (heap_alloc_new _ _)) hxl (by simp; omega) ?_
                   intro v4 w5 o4 b4
                   obtain ⟨A4, c4, rfl, -⟩ := id o4
                   simp only [List.length_append, List.length_cons, List.length_nil, Nat.zero_add] at o4
                   have T4 := (b4.block bx hbx).trans (H5 _).box
                   have H6 := (H5 _).app o4 b4
                   obtain ⟨u0, u1, u2, g0, g1, g2⟩ := blk3 T4))
              all_goals (
                go_wp2
                go_roundw
                case rel => refine ⟨m + 1, xs ++ [_], _, by omega, by go_num, Lib.hid (by simp [HX.out]), H6⟩
                case measure => simp [intOf]; omega)
            · obtain rfl : m = k := by omega
              have hxs : xs.length ≤ 16 := by rw [HX.out]; omega
              clear I6 HC s0 s1 s2 t0 t1 t2 HX zb hbx hwz
              go_wp2_with fail
              go_loopw [16] (fun i wr => LpPcs w g bx A c bytes W T xs (.slice A9 xs.length c9') F fl b c' xp.length q i wr) (fun i _ => xp.length - (intOf i).toNat)
              case atStart => exact ⟨0, xp, pss, q, rfl, Lib.hid rfl, Nat.zero_le _, by omega, I7⟩
              case round =>
                clear I7
                obtain ⟨n, xq, psq, q', rfl, HQ, hn, hq', I8⟩ := hrel
                by_cases hnx : n < xp.length
                · obtain ⟨B8, c8, e8, h81, h82, R8⟩ := I8.hd.2 n (by rw [← I8.hd.1, HQ.out]; exact hnx)
                  generalize psq[n]'(by rw [← I8.hd.1, HQ.out]; exact hnx) = p8 at e8 h81 h82 R8
                  have E8 := Lib.hid e8
                  obtain ⟨cp, -⟩ := I8.cellP e8
                  clear e8
                  go_wp2_with fail
                  refine (sPieceValid_any B8 c8 p8 _ R8 (by unfold maxLen; omega) h81).mono ?_
                  rintro e w9 ⟨rfl, b9⟩
                  have I9 := I8.belo b9
                  clear I8 R8 b9 cp h81
                  generalize pieceB p8 = bv
                  cases bv with
                  | true =>
                    go_wp2_with fail
                    go_roundw
                    case rel => exact ⟨n + 1, xq, psq, q', by go_num, HQ, by omega, by omega, I9⟩
                    case measure => simp [intOf]; omega
                  | false =>
                    go_wp2_with fail
                    refine (pick_any 4 _ g A c bytes q' I9.reg.rds (by omega) (by omega)).mono ?_
                    rintro e w10 ⟨r10, rfl, -, S10, G10⟩
                    have I10 := I9.pick S10 G10
                    clear I9 S10 G10
                    obtain ⟨cp, cf⟩ := (I10.belo (bl_alloc (Below.refl w10.heap.size w10) (.cells #[.int .i64 0, .int .i64 0] 89))).cellP E8.out
                    by_cases hr : 0 < r10
                    · go_wp2_with fail
                      have I11 := I10.put HFN.out n (by rw [HQ.out]; exact hnx)
                      go_roundw
                      case rel => exact ⟨n + 1, _, _, q' + 1, by go_num, Lib.hid ((List.length_set).trans HQ.out), by omega, by omega, I11⟩
                      case measure => simp [intOf]; omega
                    · have hr' : decide (0 < r10) = false := decide_eq_false hr
                      go_wp2_with fail
                      go_roundw
                      case rel => exact ⟨n + 1, xq, psq, q' + 1, by go_num, HQ, by omega, by omega, I10⟩
                      case measure => simp [intOf]; omega
                · obtain rfl : n = xp.length := by omega
                  go_wp2_with fail
                  refine (odd_any 9 _ g A c bytes q' I8.reg.rds (by omega) (by omega) (by omega)).mono ?_
                  rintro e w12 ⟨bt, q12, rfl, S12, hq12, G12⟩
                  have I12 := I8.pick S12 G12
                  clear I8 S12 G12
                  obtain ⟨s0, s1, s2, t0, t1, t2⟩ := blk3 I12.reg.res
                  obtain ⟨zbx, x0, x1, x2, x3⟩ := I12.reg.cells
                  cases bt with
                  | false =>
                    go_wp2_with fail
                    refine bodyPost_ret (v := .tuple #[.agg #[.int .i64 W, .int .i64 T, .slice A9 xs.length c9'], .slice (some ⟨b, 0, none⟩) xp.length c', .slice (some ⟨F, 0, none⟩) m cF]) (by simp [results, Tryz.results63, go_sem, s0, s1, s2]) rfl ?_
                    have HD := I12.done m cF HFL.out hxs hn2 (by rw [HQ.out]; exact hx4)
                    rw [HQ.out] at HD
                    exact HD
                  | true =>
                    obtain ⟨z, cz, fz, zF⟩ := I12.cellF (m := 0) (by rw [HFL.out]; omega)
                    have I13 := I12.first HFN.out (wrap64 (z + 1))
                    obtain ⟨l0, l1, l2, m0, m1, m2⟩ := blk3 I13.reg.res
                    obtain ⟨zbx', k0, k1, k2, k3⟩ := I13.reg.cells
                    have hxF := I12.gl.2.1
                    have n1 : ¬ bx = F := by omega
                    have n2 : ¬ F = bx := by omega
                    go_wp2_with fail
                    refine bodyPost_ret (v := .tuple #[.agg #[.int .i64 W, .int .i64 T, .slice A9 xs.length c9'], .slice (some ⟨b, 0, none⟩) xp.length c', .slice (some ⟨F, 0, none⟩) m cF]) (by simp [results, Tryz.results63, go_sem, l0, l1, l2]) rfl ?_
                    have HD := I13.done m cF (by rw [List.length_set]; exact HFL.out) hxs hn2 (by rw [HQ.out]; exact hx4)
                    rw [HQ.out] at HD
                    exact HD
end Go.Proofs.YtejkbjcmndnfeaaGreat

/- Contracts: the draws of FnFillOk and FnFillsAll. -/
namespace Go.Proofs.YtejkbjcmndnfeaaGreat
open Go.RowKit

def DrawnFill (w : World) (e : Ending) (w' : World) : Prop :=
  ∃ (W T : Int) (A : Option Addr) (c : Nat) (bs : List Bool) (A2 : Option Addr) (c2 : Nat) (pss : List (List Ce)) (A3 : Option Addr) (c3 : Nat) (fs : List Int),
    e = .returned (.tuple #[.agg #[.int .i64 W, .int .i64 T, .slice A bs.length c], .slice A2 pss.length c2, .slice A3 fs.length c3]) ∧ bs.length ≤ 16 ∧ pss.length ≤ 4 ∧ fs.length ≤ 16 ∧ Rd w' A (bs.map .bool) ∧ RdSS w' A2 pss ∧ Rd w' A3 (fs.map (.int .i64)) ∧ Below w.heap.size w w'
def DrawnPcs (w : World) (e : Ending) (w' : World) : Prop :=
  ∃ (W T : Int) (A : Option Addr) (c : Nat) (bs : List Bool) (A2 : Option Addr) (c2 : Nat) (pss : List (List Ce)),
    e = .returned (.tuple #[.agg #[.int .i64 W, .int .i64 T, .slice A bs.length c], .slice A2 pss.length c2]) ∧ bs.length ≤ 16 ∧ pss.length ≤ 4 ∧ Rd w' A (bs.map .bool) ∧ RdSS w' A2 pss ∧ Below w.heap.size w w'
set_option maxRecDepth 100000 in
set_option maxHeartbeats 4000000 in
theorem drawFillOk_any (A : Option Addr) (c : Nat) (bs : List Int) (w : World) (hr : Rd w A (bs.map (.int .u8))) (hw : ∀ x ∈ bs, 0 ≤ x ∧ x ≤ 255) (hn : bs.length ≤ 1048576) (hcap : bs.length ≤ c) :
    Calls Tryz.prog 11 #[.slice A bs.length c] w (DrawnFill w) := by
  have HW := Lib.hid hw
  clear hw
  have hr1 := hr.alloc (.cells #[.int .i64 0, .int .i64 0, .slice none 0 0] 25)
  have P0 : (w.alloc (.cells #[.int .i64 0, .int .i64 0, .slice none 0 0] 25)).heap[w.heap.size]? = some (.cells #[.int .i64 0, .int .i64 0, .slice none 0 0] 25 (0, 0)) := heap_alloc_new w _
  have Z0 := bl_alloc (Below.refl w.heap.size w) (.cells #[.int .i64 0, .int .i64 0, .slice none 0 0] 25)
  have hs0 : (w.alloc (.cells #[.int .i64 0, .int .i64 0, .slice none 0 0] 25)).heap.size = w.heap.size + 1 := by simp
  go_enter Tryz.func11, Tryz.ntmps11
  go_wp2_with fail
  generalize w.alloc (.cells #[.int .i64 0, .int .i64 0, .slice none 0 0] 25) = wa at *
  refine (open_any A c bs _ hr1 HW.out hn hcap).mono ?_
  rintro e w1 ⟨g, A1, c1, by1, rfl, O1⟩
  clear hr1 HW hn hcap hr
  have hB := O1.2.2
  have hg1 := O1.2.1
  have hz1 := hB.size
  go_wp2_with fail
  refine (filling_any _ g A1 c1 by1 0 O1.1 (by omega)).mono ?_
  rintro e w2 ⟨W, T, A, c, xs, A2, c2, pss, A3, c3, fs, rfl, l1, l2, l3, G2, K2⟩
  have pw := (G2.block w.heap.size (by omega) (fun e => by have e : w.heap.size = g := Option.some.inj e; omega)).trans ((hB.block w.heap.size (by omega)).trans P0)
  have b2 : Below w.heap.size w w2 := ((Z0.trans (hB.mono (by omega))).grown G2 (by omega) (fun k hk => by injection hk with hk; omega))
  have hlt : w.heap.size < w2.heap.size := heap_lt pw
  clear G2 O1 P0 Z0 hB
  obtain ⟨s0, s1, s2, g0, g1, g2⟩ := blk3 pw
  have K := K2 w.heap.size _ (by omega) (gr_3 w2 w.heap.size (.int .i64 W) (.int .i64 T) (.slice A xs.length c))
  have B8 := ((b2.setCell (p := ⟨w.heap.size, 0, none⟩) (Nat.le_refl _) (.int .i64 W)).setCell (p := ⟨w.heap.size, 1, none⟩) (Nat.le_refl _) (.int .i64 T)).setCell (p := ⟨w.heap.size, 2, none⟩) (Nat.le_refl _) (.slice A xs.length c)
  clear K2
  go_wp2_with fail
  refine bodyPost_ret (v := .tuple #[.agg #[.int .i64 W, .int .i64 T, .slice A xs.length c], .slice A2 pss.length c2, .slice A3 fs.length c3]) (by simp [results, Tryz.results11, go_sem, s0, s1, s2]) rfl ?_
  exact ⟨W, T, A, c, xs, A2, c2, pss, A3, c3, fs, rfl, l1, l2, l3, K.1, K.2.1, K.2.2, B8⟩
set_option maxRecDepth 100000 in
set_option maxHeartbeats 4000000 in
theorem drawFillsAll_any (A : Option Addr) (c : Nat) (bs : List Int) (w : World) (hr : Rd w A (bs.map (.int .u8))) (hw : ∀ x ∈ bs, 0 ≤ x ∧ x ≤ 255) (hn : bs.length ≤ 1048576) (hcap : bs.length ≤ c) :
    Calls Tryz.prog 30 #[.slice A bs.length c] w (DrawnPcs w) := by
  have HW := Lib.hid hw
  clear hw
  have hr1 := hr.alloc (.cells #[.int .i64 0, .int .i64 0, .slice none 0 0] 25)
  have P0 : (w.alloc (.cells #[.int .i64 0, .int .i64 0, .slice none 0 0] 25)).heap[w.heap.size]? = some (.cells #[.int .i64 0, .int .i64 0, .slice none 0 0] 25 (0, 0)) := heap_alloc_new w _
  have Z0 := bl_alloc (Below.refl w.heap.size w) (.cells #[.int .i64 0, .int .i64 0, .slice none 0 0] 25)
  have hs0 : (w.alloc (.cells #[.int .i64 0, .int .i64 0, .slice none 0 0] 25)).heap.size = w.heap.size + 1 := by simp
  go_enter Tryz.func30, Tryz.ntmps30
  go_wp2_with fail
  generalize w.alloc (.cells #[.int .i64 0, .int .i64 0, .slice none 0 0] 25) = wa at *
  refine (open_any A c bs _ hr1 HW.out hn hcap).mono ?_
  rintro e w1 ⟨g, A1, c1, by1, rfl, O1⟩
  clear hr1 HW hn hcap hr
  have hB := O1.2.2
  have hg1 := O1.2.1
  have hz1 := hB.size
  go_wp2_with fail
  refine (filling_any _ g A1 c1 by1 0 O1.1 (by omega)).mono ?_
  rintro e w2 ⟨W, T, A, c, xs, A2, c2, pss, A3, c3, fs, rfl, l1, l2, l3, G2, K2⟩
  have pw := (G2.block w.heap.size (by omega) (fun e => by have e : w.heap.size = g := Option.some.inj e; omega)).trans ((hB.block w.heap.size (by omega)).trans P0)
  have b2 : Below w.heap.size w w2 := ((Z0.trans (hB.mono (by omega))).grown G2 (by omega) (fun k hk => by injection hk with hk; omega))
  have hlt : w.heap.size < w2.heap.size := heap_lt pw
  clear G2 O1 P0 Z0 hB
  have bz := bl_alloc (Below.refl w2.heap.size w2) (.cells #[.int .i64 W, .int .i64 T, .slice A xs.length c] 25)
  have pz := (bz.block _ hlt).trans pw
  obtain ⟨s0, s1, s2, g0, g1, g2⟩ := blk3 pz
  have K := K2 w.heap.size _ (by omega) (grownBy_trans' (below_gr bz _) (gr_3 (w2.alloc (.cells #[.int .i64 W, .int .i64 T, .slice A xs.length c] 25)) w.heap.size (.int .i64 W) (.int .i64 T) (.slice A xs.length c)))
  have B8 := (((b2.trans (bz.mono (by omega))).setCell (p := ⟨w.heap.size, 0, none⟩) (Nat.le_refl _) (.int .i64 W)).setCell (p := ⟨w.heap.size, 1, none⟩) (Nat.le_refl _) (.int .i64 T)).setCell (p := ⟨w.heap.size, 2, none⟩) (Nat.le_refl _) (.slice A xs.length c)
  clear K2 hlt
  go_wp2_with fail
  refine bodyPost_ret (v := .tuple #[.agg #[.int .i64 W, .int .i64 T, .slice A xs.length c], .slice A2 pss.length c2]) (by simp [results, Tryz.results30, go_sem, s0, s1, s2]) rfl ?_
  exact ⟨W, T, A, c, xs, A2, c2, pss, rfl, l1, l2, K.1, K.2.1, B8⟩
end Go.Proofs.YtejkbjcmndnfeaaGreat

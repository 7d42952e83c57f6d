
/- FnExactFillsAll: joined from FillsI, FillI, RepI, Step, Set, FillsJ. -/
import Derived.Test.YtejkbjcmndnfeaaGreatMFa
import Derived.Deep.RegionLaw
import Derived.Test.YtejkbjcmndnfeaaGreatFillN
import Derived.Test.YtejkbjcmndnfeaaGreatCellss
import Derived.Test.YtejkbjcmndnfeaaGreatColour
import Derived.Test.YtejkbjcmndnfeaaGreatMemE
import Derived.Laws.CopyOwn
import Derived.Test.YtejkbjcmndnfeaaGreatStepN
import Derived.Test.YtejkbjcmndnfeaaGreatBoxes
import Derived.Test.YtejkbjcmndnfeaaGreatCellApp
import Derived.Deep.RegionHeld3
import Derived.Laws.EntriesVeiled
import Derived.StillTailTactics
/- Contract: the closure that fills a region with pieces. -/
namespace Go.Proofs.YtejkbjcmndnfeaaGreat
open Go.RowKit Go.Sort

def FlRes (w0 : World) (B F U bF bO bU bK n P cF cU : Nat) (Kv : Value) (fill : List Int) (used : List Bool) (v : Value) (L : List (List Int)) (w : World) (e : Ending) (w' : World) : Prop :=
  e = .returned (.tuple #[]) ∧ ∃ v' xs', FlSt w0 B F U bF bO bU bK n P cF cU Kv fill used v' xs' L w' ∧ FrmF F U bO v w v' w'
def FlOk (W T : Int) (bs : List Bool) (pss : List (List Ce)) (bR bP bA : Nat) (w0 : World) (B F U bF bO bU bK n cF cU : Nat) (Kv : Value) (m : Nat) : Prop :=
  ∀ (w : World) (fill : List Int) (used : List Bool) (v : Value) (xs : List Value) (L : List (List Int)), FlSt w0 B F U bF bO bU bK n pss.length cF cU Kv fill used v xs L w → StF bs pss.length fill used → unN used ≤ m →
    L.length + (fillsN W T bs pss false m fill used).length ≤ 900000000000 →
    Calls Tryz.prog 76 #[.pointer (some ⟨bF, 0, none⟩), .pointer (some ⟨bR, 0, none⟩), .pointer (some ⟨bO, 0, none⟩), .pointer (some ⟨bP, 0, none⟩), .pointer (some ⟨bA, 0, none⟩), .pointer (some ⟨bU, 0, none⟩), .pointer (some ⟨bK, 0, none⟩)] w
      (FlRes w0 B F U bF bO bU bK n pss.length cF cU Kv fill used v (L ++ fillsN W T bs pss false m fill used) w)
set_option maxRecDepth 100000 in
set_option maxHeartbeats 8000000 in
theorem fl_step {W T : Int} {n c0 : Nat} {bs : List Bool} {A : Option Addr} {pss : List (List Ce)} {A' : Option Addr} {c' : Nat} {AA : Option Addr} {cA bR bP bA : Nat} {w0 : World} {B F U bF bO bU bK cF cU : Nat} {Kv : Value} {m : Nat}
    (C : FlC W T n c0 bs A pss A' c' AA cA bR bP bA w0) (hf : FldF W T bs.length) (hn : bs.length = n) (hp : ∀ k, k < pss.length → PieceOk (pss.getD k [])) (hP6 : pss.length ≤ 6)
    (hK : Kv = .func (.func 76) #[] #[.pointer (some ⟨bF, 0, none⟩), .pointer (some ⟨bR, 0, none⟩), .pointer (some ⟨bO, 0, none⟩), .pointer (some ⟨bP, 0, none⟩), .pointer (some ⟨bA, 0, none⟩), .pointer (some ⟨bU, 0, none⟩), .pointer (some ⟨bK, 0, none⟩)])
    (IH : ∀ m', m = m' + 1 → FlOk W T bs pss bR bP bA w0 B F U bF bO bU bK n cF cU Kv m') : FlOk W T bs pss bR bP bA w0 B F U bF bO bU bK n cF cU Kv m := by
  intro w fill used v xs L S St hu hL
  have n36 : n ≤ 36 := by have := hf.bd; omega
  have n1 : 1 ≤ n := by
    have h1 := Int.mul_le_mul hf.w1 hf.t1 (by omega) (by have := hf.w1; omega)
    have := hf.len
    omega
  have HN := Lib.hid hn
  have HFL := Lib.hid (show fill.length = n by rw [St.len, hn])
  have HIH := Lib.hid IH
  have HU := Lib.hid hu
  have HST := Lib.hid St
  have HL := Lib.hid hL
  have HF := Lib.hid hf
  have HP := Lib.hid hp
  have HK := Lib.hid hK
  clear hn IH hu hL hp hK
  have cfl := S.fl
  obtain ⟨r0, r1, r2⟩ := (C.belo S.ok).box
  go_enter Tryz.func76, Tryz.ntmps76
  go_wp2_with fail
  go_loop [7] (fun v => ∃ k : Nat, k ≤ n ∧ v = .int .i64 k ∧ Hid (∀ j, j < k → freK bs fill j = false)) (fun v => n - (intOf v).toNat)
  case atStart => exact ⟨0, Nat.zero_le _, rfl, fun j h => by omega⟩
  case round =>
    obtain ⟨k, hk, rfl, HKF⟩ := hrel
    by_cases hlt : k < n
    · have kb : k < bs.length := by have := HN.out; omega
      have kf : k < fill.length := by have := HFL.out; omega
      obtain ⟨b, off, rfl, cb⟩ := (C.belo S.ok).rd.atEM kb
      have cf := S.fil.rd.cellEM (k := k) kf
      simp only [Nat.zero_add] at cf
      have kI : (k : Int) < (n : Int) := by omega
      have HG1 := Lib.hid (show bs.getD k false = bs[k] by rw [List.getD_eq_getElem?_getD, List.getElem?_eq_getElem kb]; rfl)
      have HG2 := Lib.hid (show fill.getD k 0 = fill[k] by rw [List.getD_eq_getElem?_getD, List.getElem?_eq_getElem kf]; rfl)
      obtain ⟨bb, hbb⟩ : ∃ bb, bs[k] = bb := ⟨_, rfl⟩
      obtain ⟨ff, hff⟩ : ∃ ff, fill[k] = ff := ⟨_, rfl⟩
      rw [hbb] at cb HG1
      rw [hff] at cf HG2
      clear hbb hff
      cases bb with
      | false =>
        have HF := Lib.hid (show freK bs fill k = false by unfold freK; rw [HG1.out]; rfl)
        go_wp2_with fail
        go_round
        case rel =>
          refine ⟨k + 1, by omega, by go_num, fun j hj => ?_⟩
          rcases Nat.lt_or_ge j k with h | h
          · exact HKF.out j h
          · obtain rfl : j = k := by omega
            exact HF.out
        case measure => simp [intOf]; omega
      | true =>
        cases hge : decide (0 ≤ ff) with
        | true =>
          have hge' : 0 ≤ ff := of_decide_eq_true hge
          have HF := Lib.hid (show freK bs fill k = false by unfold freK; rw [HG1.out, HG2.out, decide_eq_false (by omega)]; rfl)
          go_wp2_with fail
          go_round
          case rel =>
            refine ⟨k + 1, by omega, by go_num, fun j hj => ?_⟩
            rcases Nat.lt_or_ge j k with h | h
            · exact HKF.out j h
            · obtain rfl : j = k := by omega
              exact HF.out
          case measure => simp [intOf]; omega
        | false =>
          have hge' : ¬ 0 ≤ ff := of_decide_eq_false hge
          have HFT := show freK bs fill k = true by unfold freK; rw [HG1.out, HG2.out, decide_eq_true (by omega)]; rfl
          have HAT := Lib.hid (atF_eq (bs := bs) (fill := fill) (c := k) (by omega) HKF.out (fun _ => HFT))
          have hkn : ((k : Int) == (n : Int)) = false := by rw [beq_eq_false_iff_ne]; omega
          have HBR := Lib.hid (fills_branch (W := W) (T := T) (bs := bs) (pss := pss) (chk := false) (m := m) (fill := fill) (used := used) (by rw [HAT.out, HN.out]; exact hlt) HU.out)
          have hx0 := HF.out.xy (k := k) (by rw [HN.out]; exact hlt)
          obtain ⟨wx0, wx1, wy0, wy1, -⟩ := hx0
          obtain ⟨hw1, hw6, ht1, ht6, -⟩ := HF.out
          obtain ⟨X, hX⟩ : ∃ X, (k : Int) % W = X := ⟨_, rfl⟩
          obtain ⟨Y, hY⟩ : ∃ Y, (k : Int) / W = Y := ⟨_, rfl⟩
          have CXY := Lib.hid (fun z => xy_any W T (.slice (some ⟨b, off, none⟩) n c0) k z hw1 hw6 (by omega) (by omega))
          rw [hX] at wx0 wx1 CXY
          rw [hY] at wy0 wy1 CXY
          have HX := Lib.hid hX
          have HY := Lib.hid hY
          clear hX hY
          clear hf HFT
          go_wp2_with fail
          refine (CXY.out _).mono ?_
          rintro e w5 ⟨rfl, b5⟩
          have S5 := S.belo b5
          have G5 : FrmF F U bO v w v w5 := (FrmF.refl F U bO v w).below b5
          have p5 := (C.belo S5.ok).pc
          clear r0 r1 r2 cb cf cfl CXY hge hge'
          go_wp2_with fail
          go_loopw [60] (fun i wr => LpF (fun k2 => k2 ≤ pss.length ∧ ∃ v2 xs2, FlSt w0 B F U bF bO bU bK n pss.length cF cU Kv fill used v2 xs2 (L ++ (List.range k2).flatMap (pcF W T bs pss false m fill used)) wr ∧ FrmF F U bO v w v2 wr) i) (fun i _ => pss.length - (intOf i).toNat)
          case atStart => exact ⟨0, rfl, Nat.zero_le _, v, xs, by simpa using S5, G5⟩
          case round =>
            clear S5 G5 p5
            obtain ⟨k2, rfl, hk2, v2, xs2, S6, G6⟩ := hrel
            obtain ⟨wa, hwa⟩ : ∃ wa : World, wa = wr := ⟨_, rfl⟩
            subst hwa
            by_cases hlt2 : k2 < pss.length
            · have hI2 : (k2 : Int) < (pss.length : Int) := by omega
              have S6c := C.belo S6.ok
              obtain ⟨bA2, oA2, Bk, ck, eA, cA2, RSk⟩ := C.fm k2 hlt2
              subst eA
              have al6 := S6c.al
              have cA6 := cellB S6.ok cA2
              have cus := S6.us
              have k2u : k2 < used.length := by rw [HST.out.ulen]; exact hlt2
              have cu := S6.use.rd.cellEM (k := k2) k2u
              simp only [Nat.zero_add] at cu
              have HUG := Lib.hid (show used.getD k2 true = used[k2] by rw [List.getD_eq_getElem?_getD, List.getElem?_eq_getElem k2u]; rfl)
              obtain ⟨uu, huu⟩ : ∃ uu, used[k2] = uu := ⟨_, rfl⟩
              rw [huu] at cu HUG
              clear huu
              obtain ⟨fs, hfs⟩ : ∃ fs, formsV (pss.getD k2 []) = fs := ⟨_, rfl⟩
              rw [hfs] at cA6 RSk
              have HFS := Lib.hid hfs
              have hf8 : fs.length ≤ 8 := by rw [← hfs]; exact formsV_len_le _
              clear hfs cA2
              cases uu with
              | true =>
                have HPC := Lib.hid (show pcF W T bs pss false m fill used k2 = [] by unfold pcF; rw [HUG.out]; rfl)
                go_wp2_with fail
                go_loop [68] (fun i => i = .int .i64 0) (fun _ => 0)
                case atStart => rfl
                case round =>
                  subst hrel
                  by_cases hf0 : 0 < fs.length
                  · have hI0 : (0 : Int) < (fs.length : Int) := by omega
                    obtain ⟨b3, o3, B3, c3, e3, cf3, -, -, -⟩ := (RSk.belo S6.ok) 0 hf0
                    subst e3
                    simp only [Nat.add_zero] at cf3
                    go_wp2_with fail
                    go_roundw
                    case rel => exact ⟨k2 + 1, by go_num, by omega, v2, xs2, by rw [flat_range, HPC.out, List.append_nil]; exact S6, G6⟩
                    case measure => simp [intOf]; omega
                  · have hI0 : fs.length = 0 := by omega
                    go_wp2_with fail
                    go_roundw
                    case rel => exact ⟨k2 + 1, by go_num, by omega, v2, xs2, by rw [flat_range, HPC.out, List.append_nil]; exact S6, G6⟩
                    case measure => simp [intOf]; omega
              | false =>
                have HPC := Lib.hid (show pcF W T bs pss false m fill used k2 = fs.flatMap (brF W T bs pss false m fill used k2) by unfold pcF; rw [HUG.out, HFS.out]; rfl)
                have HPRE := Lib.hid (fun j (hj : j < fs.length) => by have := pre_le (W := W) (T := T) (bs := bs) (pss := pss) (chk := false) (m := m) (fill := fill) (used := used) (k := k2) (j := j) hlt2 HUG.out (by rw [HFS.out]; exact hj); simp only [HFS.out] at this; exact this)
                have HFO := Lib.hid (fun j (hj : j < fs.length) => by have := forms_of_form (ps := pss.getD k2 []) (x := fs[j]) (by rw [HFS.out]; exact List.getElem_mem hj); exact this)
                have HFE := Lib.hid (fun j (hj : j < fs.length) => form_edge (p := pss.getD k2 []) (x := fs[j]) (by rw [HFS.out]; exact List.getElem_mem hj))
                obtain ⟨m', rfl⟩ : ∃ m', m = m' + 1 := ⟨m - 1, by have := HU.out; have := unN_pos HUG.out; omega⟩
                go_wp2_with fail
                go_loopw [68] (fun i wr => LpF (fun j => j ≤ fs.length ∧ ∃ v3 xs3, FlSt w0 B F U bF bO bU bK n pss.length cF cU Kv fill used v3 xs3 ((L ++ (List.range k2).flatMap (pcF W T bs pss false (m' + 1) fill used)) ++ (fs.take j).flatMap (brF W T bs pss false (m' + 1) fill used k2)) wr ∧ FrmF F U bO v w v3 wr) i) (fun i _ => fs.length - (intOf i).toNat)
                case atStart => exact ⟨0, rfl, Nat.zero_le _, v2, xs2, by simpa using S6, G6⟩
                case round =>
                  clear S6c al6 cA6 cus cu
                  obtain ⟨j, rfl, hj, v3, xs3, S7, G7⟩ := hrel
                  obtain ⟨wb, hwb⟩ : ∃ wb : World, wb = wr := ⟨_, rfl⟩
                  subst hwb
                  by_cases hltj : j < fs.length
                  · have hIj : (j : Int) < (fs.length : Int) := by omega
                    obtain ⟨b3, o3, B3, c3, e3, cf3, hc3, -, RF⟩ := (RSk.belo S7.ok) j hltj
                    subst e3
                    have HPJ := Lib.hid (HPRE.out j hltj)
                    obtain ⟨-, hok⟩ := HFO.out j hltj
                    have hedge := HFE.out j hltj
                    have HTK := Lib.hid (flat_take fs (brF W T bs pss false (m' + 1) fill used k2) hltj)
                    obtain ⟨fm, hfm⟩ : ∃ fm, fs[j] = fm := ⟨_, rfl⟩
                    rw [hfm] at cf3 hc3 RF hok hedge HTK HPJ
                    clear hfm
                    obtain ⟨hl1, hl5⟩ := hok.1
                    obtain ⟨b4, o4, e4, f0a, f0b⟩ := RF.at_ (k := 0) (by omega)
                    subst e4
                    simp only [Nat.zero_mul, Nat.add_zero] at f0a f0b
                    have cus := S7.us
                    have cu := S7.use.rd.cellEM (k := k2) k2u
                    have HUE := Lib.hid (show used[k2] = false by have := HUG.out; rw [List.getD_eq_getElem?_getD, List.getElem?_eq_getElem k2u] at this; exact this)
                    rw [HUE.out] at cu
                    simp only [Nat.zero_add] at cu
                    have HNOF := Lib.hid (fun (q : Nat) (hq : q < fm.length) (h : fitQ W T bs fill (fxC W k fm fm[q]) (fyC W k fm fm[q]) = false) => show brF W T bs pss false (m' + 1) fill used k2 fm = [] by
                      show (if _ then _ else _) = _
                      rw [HAT.out, fit_no (List.getElem_mem hq) h]; rfl)
                    have HYES := Lib.hid (fun (h : fitF W T bs fill k fm = true) => show brF W T bs pss false (m' + 1) fill used k2 fm = fillsN W T bs pss false m' (setF fill (plcL W k fm) k2) (used.set k2 true) by
                      show (if _ then _ else _) = _
                      rw [HAT.out, h]; rfl)
                    have hhd : fm.headD (0, 0) = fm[0]'(by omega) := by cases fm with
                      | nil => simp at hl1
                      | cons a l => rfl
                    have he0 := hedge (fm[0]'(by omega)) (List.getElem_mem _)
                    obtain ⟨fa, hfa⟩ : ∃ fa, fm[0]'(by omega) = fa := ⟨_, rfl⟩
                    rw [hfa] at f0a f0b hhd he0
                    have HHD := Lib.hid hhd
                    have HED := Lib.hid hedge
                    obtain ⟨a1, a2, a3, a4⟩ := he0
                    clear hfa hhd hedge hok
                    have CAT := Lib.hid (fun (x y : Int) (z : World) (R : Rd z (some ⟨b, off, none⟩) (bs.map .bool)) (hx : -1000 ≤ x ∧ x ≤ 1000) (hy : -1000 ≤ y ∧ y ≤ 1000) => by
                      have := iAt_any W T (some ⟨b, off, none⟩) c0 bs x y z R hw1 hw6 ht1 ht6 HF.out.len hx hy
                      rw [HN.out] at this
                      exact this)
                    go_wp2_with fail
                    go_loopw [13, 78] (fun pt i wr => LpF (fun q => q ≤ fm.length ∧ Hid (∀ q' (h : q' < fm.length), q' < q → fitQ W T bs fill (fxC W k fm fm[q']) (fyC W k fm fm[q']) = true) ∧ (∃ (A9 : Option Addr) (c9 : Nat), pt = .slice A9 q c9 ∧ OwnI wr wb.heap.size (.slice A9 q c9) (((plcL W k fm).take q).map fun x : Nat => (x : Int))) ∧ Below wb.heap.size wb wr) i) (fun _ i _ => fm.length - (intOf i).toNat)
                    case atStart => exact ⟨0, rfl, Nat.zero_le _, fun q' h h2 => by omega, ⟨none, 0, rfl, OwnI.nil _ _⟩, Below.refl _ _⟩
                    case round =>
                      clear cus cu
                      obtain ⟨q, rfl, hq, HFQ, ⟨A9, c9, rfl, O9⟩, B9⟩ := hrel
                      obtain ⟨wc, hwc⟩ : ∃ wc : World, wc = wr := ⟨_, rfl⟩
                      subst hwc
                      have S8 := S7.belo B9
                      have RF8 : RdC wc (some ⟨b4, o4, none⟩) fm := Rd.belo RF B9
                      have g0a := cellB B9 f0a
                      have g0b := cellB B9 f0b
                      by_cases hq2 : q < fm.length
                      · have hIq : (q : Int) < (fm.length : Int) := by omega
                        obtain ⟨b4', o4', e4, h1a, h1b⟩ := RF8.at_ hq2
                        injection e4 with e4
                        injection e4 with e4 e5
                        subst e4
                        subst e5
                        have hz4 := World.block_lt_of_cell? wc _ g0a
                        simp only at hz4
                        obtain ⟨a5, a6, a7, a8⟩ := HED.out fm[q] (List.getElem_mem hq2)
                        have HNO := Lib.hid (HNOF.out q hq2)
                        have HXY := Lib.hid (show fxC W k fm fm[q] = X + fm[q].1 - fa.1 ∧ fyC W k fm fm[q] = Y + fm[q].2 - fa.2 by unfold fxC fyC; rw [HHD.out, HX.out, HY.out]; exact ⟨rfl, rfl⟩)
                        have HPG := Lib.hid (plc_get (W := W) (c := k) hq2 (by rw [plc_len]; exact hq2))
                        have HQG := Lib.hid (show fm[q]? = some fm[q] from List.getElem?_eq_getElem hq2)
                        obtain ⟨fq, hfq⟩ : ∃ fq, fm[q] = fq := ⟨_, rfl⟩
                        rw [hfq] at h1a h1b a5 a6 a7 a8 HNO HXY HPG
                        have HFQE := Lib.hid hfq
                        clear hfq
                        have i1 : IntKind.i64.wrap (X + fq.1) = X + fq.1 := IntWalk.i64_in _ (by omega)
                        have i2 : IntKind.i64.wrap (X + fq.1 - fa.1) = X + fq.1 - fa.1 := IntWalk.i64_in _ (by omega)
                        have i3 : IntKind.i64.wrap (Y + fq.2) = Y + fq.2 := IntWalk.i64_in _ (by omega)
                        have i4 : IntKind.i64.wrap (Y + fq.2 - fa.2) = Y + fq.2 - fa.2 := IntWalk.i64_in _ (by omega)
                        go_wp2_with fail
                        go_region
                        have bd : Below wc.heap.size wc (wc.alloc (.cells #[.int .i64 fq.1, .int .i64 fq.2] 89)).drew := (bl_alloc (Below.refl wc.heap.size wc) _).drew
                        have S9 := S8.belo bd
                        have B10 := bl_go B9 bd
                        have O10 : OwnI (wc.alloc (.cells #[.int .i64 fq.1, .int .i64 fq.2] 89)).drew wb.heap.size (.slice A9 q c9) (((plcL W k fm).take q).map fun x : Nat => (x : Int)) := O9.alloc _
                        generalize (wc.alloc (.cells #[.int .i64 fq.1, .int .i64 fq.2] 89)).drew = wd at *
                        clear bd g0a g0b h1a h1b hz4 O9 RF8 S8 B9 i1 i2 i3 i4
                        obtain ⟨r0, r1, r2⟩ := (C.belo S9.ok).box
                        obtain ⟨fx, hfx⟩ : ∃ fx, X + fq.1 - fa.1 = fx := ⟨_, rfl⟩
                        obtain ⟨fy, hfy⟩ : ∃ fy, Y + fq.2 - fa.2 = fy := ⟨_, rfl⟩
                        have hfx1 : -1000 ≤ fx ∧ fx ≤ 1000 := by omega
                        have hfy1 : -1000 ≤ fy ∧ fy ≤ 1000 := by omega
                        rw [hfx, hfy] at HXY ⊢
                        clear hfx hfy
                        have CATz := Lib.hid (CAT.out fx fy wd (C.belo S9.ok).rd hfx1 hfy1)
                        go_wp2_with fail
                        refine CATz.out.mono ?_
                        rintro e w11 ⟨rfl, b11⟩
                        have S11 := S9.belo b11
                        have B11 := bl_go B10 b11
                        have O11 := O10.belo b11
                        have HFE := Lib.hid (fitQ_eq (W := W) (T := T) (bs := bs) (fill := fill) (x := fx) (y := fy))
                        clear r0 r1 r2 CATz S9 B10 O10 b11
                        have X11 := (C.belo S11.ok).box
                        obtain ⟨r0, r1, r2⟩ := id X11
                        have fl11 := S11.fl
                        cases hat : atQ W T bs fx fy with
                        | false =>
                          have HBR0 := Lib.hid (HNO.out (by rw [HXY.out.1, HXY.out.2, HFE.out, hat]; rfl))
                          have HTK0 := Lib.hid (show (fs.take (j + 1)).flatMap (brF W T bs pss false (m' + 1) fill used k2) = (fs.take j).flatMap (brF W T bs pss false (m' + 1) fill used k2) by rw [HTK.out, HBR0.out, List.append_nil])
                          clear hat
                          go_wp2_with fail
                          go_roundw
                          case rel => exact ⟨j + 1, by go_num, by omega, v3, xs3, by rw [HTK0.out]; exact S11, G7.below B11⟩
                          case measure => simp [intOf]; omega
                        | true =>
                          have hin : 0 ≤ fx ∧ fx ≤ W - 1 ∧ 0 ≤ fy ∧ fy ≤ T - 1 := by
                            have h := hat
                            unfold atQ at h
                            rw [Bool.and_eq_true, decide_eq_true_eq] at h
                            exact h.1
                          obtain ⟨k9, hk9, hkn9⟩ := at_idx hw1 HF.out.len hin
                          rw [HN.out] at hkn9
                          obtain ⟨p1, p2, p3, p4⟩ := hin
                          have k9I : (k9 : Int) < (n : Int) := by omega
                          have m0 : 0 ≤ fy * W := Int.mul_nonneg p3 (by omega)
                          have i5 : IntKind.i64.wrap (fy * W) = fy * W := IntWalk.i64_in _ (by omega)
                          have i6 : IntKind.i64.wrap (fy * W + fx) = (k9 : Int) := by rw [hk9]; exact IntWalk.i64_in _ (by omega)
                          have k9f : k9 < fill.length := by rw [HFL.out]; exact hkn9
                          have c9f := S11.fil.rd.cellEM (k := k9) k9f
                          simp only [Nat.zero_add] at c9f
                          have HF9 := Lib.hid (show fill.getD k9 0 = fill[k9] by rw [List.getD_eq_getElem?_getD, List.getElem?_eq_getElem k9f]; rfl)
                          obtain ⟨f9, hf9⟩ : ∃ f9, fill[k9] = f9 := ⟨_, rfl⟩
                          rw [hf9] at c9f HF9
                          have HQ9 := Lib.hid (show fitQ W T bs fill fx fy = decide (f9 < 0) by rw [HFE.out, hat, hk9, Int.toNat_natCast, HF9.out]; rfl)
                          have HP9 := Lib.hid (show (plcL W k fm)[q]'(by rw [plc_len]; exact hq2) = k9 by rw [HPG.out, HXY.out.1, HXY.out.2, hk9, Int.toNat_natCast])
                          clear hat hf9 hk9
                          cases hge9 : decide (0 ≤ f9) with
                          | true =>
                            have hge0 : 0 ≤ f9 := of_decide_eq_true hge9
                            have HBR0 := Lib.hid (HNO.out (by rw [HXY.out.1, HXY.out.2, HQ9.out]; exact decide_eq_false (by omega)))
                            have HTK0 := Lib.hid (show (fs.take (j + 1)).flatMap (brF W T bs pss false (m' + 1) fill used k2) = (fs.take j).flatMap (brF W T bs pss false (m' + 1) fill used k2) by rw [HTK.out, HBR0.out, List.append_nil])
                            go_wp2_with fail
                            go_roundw
                            case rel => exact ⟨j + 1, by go_num, by omega, v3, xs3, by rw [HTK0.out]; exact S11, G7.below B11⟩
                            case measure => simp [intOf]; omega
                          | false =>
                            have hge0 : ¬ 0 ≤ f9 := of_decide_eq_false hge9
                            have HYQ := Lib.hid (show fitQ W T bs fill (fxC W k fm fm[q]) (fyC W k fm fm[q]) = true by rw [HFQE.out, HXY.out.1, HXY.out.2, HQ9.out]; exact decide_eq_true (by omega))
                            have hqlen : (((plcL W k fm).take q).map fun x : Nat => (x : Int)).length = q := by rw [List.length_map, List.length_take, plc_len]; omega
                            have HQL := Lib.hid hqlen
                            have hb11 := B11.size
                            clear hqlen
                            have O11a : OwnI w11 wb.heap.size (.slice A9 (((plcL W k fm).take q).map fun x : Nat => (x : Int)).length c9) (((plcL W k fm).take q).map fun x : Nat => (x : Int)) := by rw [HQL.out]; exact O11
                            go_wp2_with (at_builtin; refine app_int _ rfl _ _ rfl wb.heap.size _ _ (by rw [HQL.out]; rfl) O11a (k9 : Int) rfl (by rw [HQL.out]; omega) hb11 ?_; intro A10 c10 w12 O12 g12)
                            refine ⟨⟨q + 1, by go_num, by omega, fun q' h h2 => ?_, ⟨A10, c10, by rw [plc_len, show min q fm.length = q by omega], ?_⟩, app_below B11 (Nat.le_refl _) hb11 O11a g12⟩, by simp [intOf]; omega⟩
                            · rcases Nat.lt_or_ge q' q with h3 | h3
                              · exact HFQ.out q' h h3
                              · obtain rfl : q' = q := by omega
                                exact HYQ.out
                            · rw [take_one_more _ q (by rw [plc_len]; exact hq2), List.map_append, HP9.out]
                              rw [HQL.out] at O12
                              exact O12
                      · obtain rfl : q = fm.length := by omega
                        have HFIT := Lib.hid (fit_all (fun q' h => HFQ.out q' h h))
                        have HBF := Lib.hid (HYES.out HFIT.out)
                        have hplf := fun x (hx : x ∈ plcL W k fm) => plc_free HFIT.out hx
                        have HNX := Lib.hid (HST.out.next HFIT.out hlt2)
                        obtain ⟨L9, hL9⟩ : ∃ L9, plcL W k fm = L9 := ⟨_, rfl⟩
                        have hll : L9.length = fm.length := by rw [← hL9, plc_len]
                        rw [hL9] at O9 HBF hplf HNX
                        rw [List.take_of_length_le (by omega)] at O9
                        have HPF := Lib.hid (fun x (hx : x ∈ L9) => show x < n ∧ fill.getD x 0 = -1 from by
                          have h1 := hplf x hx
                          have h2 := freK_lt h1
                          refine ⟨by rw [← HN.out]; exact h2, ?_⟩
                          rcases HST.out.each x h2 with h3 | ⟨-, n', -, -, h3⟩
                          · exact h3
                          · have := (freK_iff.1 h1).2; omega)
                        have HLL := Lib.hid hll
                        have HL9 := Lib.hid hL9
                        have RPc : Rd wc A9 (L9.map fun x : Nat => Value.int .i64 (x : Int)) := by have := O9.rd.2; rw [List.map_map] at this; exact this
                        have hA9 := O9.lt
                        have hown3 := fun b e => (S7.gr.own.lt b e).2
                        have HA9 := Lib.hid (fun ad (e : A9 = some ad) => show ad.block < wc.heap.size ∧ ad.block ≠ F ∧ ad.block ≠ U ∧ ad.block ≠ bO ∧ v3.ownBlock ≠ some ad.block from by
                          obtain ⟨h1, h2⟩ := hA9 ad e
                          have h3 := S7.d
                          have h4 := S7.big
                          unfold FlD at h3
                          refine ⟨h2, by omega, by omega, by omega, fun e => by have := hown3 _ e; omega⟩)
                        clear hplf hll hL9 O9 hA9 hown3 HNOF HYES CAT HED HFQ g0a g0b RF8
                        have cus8 := S8.us
                        have cu8 := S8.use.rd.cellEM (k := k2) k2u
                        rw [HUE.out] at cu8
                        simp only [Nat.zero_add] at cu8
                        obtain ⟨gU, eU, -, -, fU⟩ := S8.use.form (by intro e; have := congrArg List.length e; simp at this; rw [this] at k2u; simp at k2u)
                        injection eU with eU
                        injection eU with eU
                        subst eU
                        have fU2 := fU k2
                        clear fU
                        have S9 := S8.setU_ k2 true
                        have T9 := (FrmF.refl F U bO v3 wc).set k2 (.bool true) (.inr (.inl rfl))
                        go_wp2_with fail
                        go_loopw [137] (fun i wr => LpF (fun q => q ≤ fm.length ∧ FlSt w0 B F U bF bO bU bK n pss.length cF cU Kv (setF fill (L9.take q) k2) (used.set k2 true) v3 xs3 ((L ++ (List.range k2).flatMap (pcF W T bs pss false (m' + 1) fill used)) ++ (fs.take j).flatMap (brF W T bs pss false (m' + 1) fill used k2)) wr ∧ FrmF F U bO v3 wc v3 wr) i) (fun i _ => fm.length - (intOf i).toNat)
                        case atStart => exact ⟨0, rfl, Nat.zero_le _, S9, T9⟩
                        case round =>
                          clear S9 T9 cu8 cus8 fU2
                          obtain ⟨q, rfl, hq, S10, T10⟩ := hrel
                          have RP := RPc.frm T10 HA9.out
                          by_cases hq2 : q < fm.length
                          · have hIq : (q : Int) < (fm.length : Int) := by omega
                            have hqL : q < L9.length := by rw [HLL.out]; exact hq2
                            obtain ⟨b9, o9, rfl, cq⟩ := RP.atEM hqL
                            obtain ⟨hxn, -⟩ := HPF.out L9[q] (List.getElem_mem hqL)
                            have HST2 := Lib.hid (setF_take fill L9 (k2 : Int) hqL)
                            obtain ⟨x9, hx9⟩ : ∃ x9, L9[q] = x9 := ⟨_, rfl⟩
                            rw [hx9] at cq hxn HST2
                            clear hx9
                            have hxI : (x9 : Int) < (n : Int) := by omega
                            have cfl10 := S10.fl
                            have hlen10 : x9 < (setF fill (L9.take q) k2).length := by rw [setF_len, HFL.out]; exact hxn
                            have cx := S10.fil.rd.cellEM (k := x9) hlen10
                            simp only [Nat.zero_add] at cx
                            obtain ⟨u9, cu9⟩ : ∃ u9, wr.cell? ⟨F, x9, none⟩ = some u9 := ⟨_, cx⟩
                            clear cx
                            obtain ⟨gF, eF, -, -, fF⟩ := S10.fil.form (by intro e; have := congrArg List.length e; simp at this; rw [this] at hlen10; simp at hlen10)
                            injection eF with eF
                            injection eF with eF
                            subst eF
                            have fF9 := fF x9
                            have S11 := S10.setF_ x9 k2
                            rw [← HST2.out] at S11
                            have T11 := T10.set x9 (.int .i64 k2) (.inl rfl)
                            clear fF hlen10 S10 T10 RP
                            go_wp2_with fail
                            go_roundw
                            case rel => exact ⟨q + 1, by go_num, by omega, S11, T11⟩
                            case measure => simp [intOf]; omega
                          · obtain rfl : q = fm.length := by omega
                            rw [List.take_of_length_le (by rw [HLL.out]; exact Nat.le_refl _)] at S10
                            obtain ⟨wd, hwd⟩ : ∃ wd : World, wd = wr := ⟨_, rfl⟩
                            subst hwd
                            have wk10 := S10.wk
                            rw [HK.out] at wk10
                            have hun := unN_set HUG.out
                            have HCL := Lib.hid (HIH.out m' rfl wd _ _ v3 xs3 _ S10 HNX.out (by have := HU.out; omega) (by
                              have h1 := HPJ.out
                              have h2 := HL.out
                              rw [HBF.out] at h1
                              rw [HBR.out] at h2
                              rw [List.length_append, List.length_append]
                              omega))
                            have hsz10 := T10.size
                            have HA10 := Lib.hid (fun ad (e : A9 = some ad) => show ad.block < wd.heap.size ∧ ad.block ≠ F ∧ ad.block ≠ U ∧ ad.block ≠ bO ∧ v3.ownBlock ≠ some ad.block from by
                              obtain ⟨h1, h2⟩ := HA9.out ad e
                              exact ⟨by omega, h2⟩)
                            clear hun
                            go_wp2_with fail
                            refine HCL.out.mono ?_
                            rintro e w14 ⟨rfl, v4, xs4, S14, T14⟩
                            have RP14 := RP.frm T14 HA10.out
                            have hsz14 := T14.size
                            have HA14 := Lib.hid (fun ad (e : A9 = some ad) => show ad.block < w14.heap.size ∧ ad.block ≠ F ∧ ad.block ≠ U ∧ ad.block ≠ bO ∧ v4.ownBlock ≠ some ad.block from by
                              obtain ⟨h1, h2, h3, h4, h5⟩ := HA10.out ad e
                              refine ⟨by omega, h2, h3, h4, fun e9 => ?_⟩
                              rcases T14.own with e1 | ⟨b1, e1, e2⟩
                              · exact h5 (e1 ▸ e9)
                              · rw [e1] at e9; injection e9 with e9; omega)
                            have GT := (G7.below B9).trans (T10.trans T14)
                            have T14b := FrmF.refl F U bO v4 w14
                            clear HCL wk10 S10 T10 RP T14 HA9 HA10 RPc
                            go_wp2_with fail
                            go_loopw [150] (fun i wr => LpF (fun q => q ≤ fm.length ∧ FlSt w0 B F U bF bO bU bK n pss.length cF cU Kv (setF (setF fill L9 k2) (L9.take q) (-1)) (used.set k2 true) v4 xs4 (((L ++ (List.range k2).flatMap (pcF W T bs pss false (m' + 1) fill used)) ++ (fs.take j).flatMap (brF W T bs pss false (m' + 1) fill used k2)) ++ fillsN W T bs pss false m' (setF fill L9 k2) (used.set k2 true)) wr ∧ FrmF F U bO v4 w14 v4 wr) i) (fun i _ => fm.length - (intOf i).toNat)
                            case atStart => exact ⟨0, rfl, Nat.zero_le _, S14, T14b⟩
                            case round =>
                              clear S14 T14b
                              obtain ⟨q, rfl, hq, S15, T15⟩ := hrel
                              have RP := RP14.frm T15 HA14.out
                              by_cases hq2 : q < fm.length
                              · have hIq : (q : Int) < (fm.length : Int) := by omega
                                have hqL : q < L9.length := by rw [HLL.out]; exact hq2
                                obtain ⟨b9, o9, rfl, cq⟩ := RP.atEM hqL
                                obtain ⟨hxn, -⟩ := HPF.out L9[q] (List.getElem_mem hqL)
                                have HST2 := Lib.hid (setF_take (setF fill L9 k2) L9 (-1) hqL)
                                obtain ⟨x9, hx9⟩ : ∃ x9, L9[q] = x9 := ⟨_, rfl⟩
                                rw [hx9] at cq hxn HST2
                                clear hx9
                                have hxI : (x9 : Int) < (n : Int) := by omega
                                have cfl10 := S15.fl
                                have hlen10 : x9 < (setF (setF fill L9 k2) (L9.take q) (-1)).length := by rw [setF_len, setF_len, HFL.out]; exact hxn
                                have cx := S15.fil.rd.cellEM (k := x9) hlen10
                                simp only [Nat.zero_add] at cx
                                obtain ⟨u9, cu9⟩ : ∃ u9, wr.cell? ⟨F, x9, none⟩ = some u9 := ⟨_, cx⟩
                                clear cx
                                obtain ⟨gF, eF, -, -, fF⟩ := S15.fil.form (by intro e; have := congrArg List.length e; simp at this; rw [this] at hlen10; simp at hlen10)
                                injection eF with eF
                                injection eF with eF
                                subst eF
                                have fF9 := fF x9
                                have S16 := S15.setF_ x9 (-1)
                                rw [← HST2.out] at S16
                                have T16 := T15.set x9 (.int .i64 (-1)) (.inl rfl)
                                clear fF hlen10 S15 T15 RP
                                go_wp2_with fail
                                go_roundw
                                case rel => exact ⟨q + 1, by go_num, by omega, S16, T16⟩
                                case measure => simp [intOf]; omega
                              · obtain rfl : q = fm.length := by omega
                                have hle : L9.length ≤ fm.length := by rw [HLL.out]; exact Nat.le_refl _
                                have HSB := set_back (bs := bs) (fill := fill) (L := L9) (v := (k2 : Int)) HST.out.len (fun x hx => (HPF.out x hx).2) (fun x hx => by have := (HPF.out x hx).1; have := HN.out; omega)
                                rw [List.take_of_length_le hle, HSB] at S15
                                clear hle HSB
                                have cus15 := S15.us
                                have k2u2 : k2 < (used.set k2 true).length := by rw [List.length_set]; exact k2u
                                have cu15 := S15.use.rd.cellEM (k := k2) k2u2
                                simp only [Nat.zero_add, List.getElem_set_self] at cu15
                                obtain ⟨gU, eU, -, -, fU⟩ := S15.use.form (by intro e; have := congrArg List.length e; simp at this; rw [this] at k2u; simp at k2u)
                                injection eU with eU
                                injection eU with eU
                                subst eU
                                have fU2 := fU k2
                                have S16 := S15.setU_ k2 false
                                rw [set_backB HUG.out] at S16
                                have GT2 := (GT.trans T15).set k2 (.bool false) (.inr (.inl rfl))
                                have HTK2 := Lib.hid (show (L ++ (List.range k2).flatMap (pcF W T bs pss false (m' + 1) fill used)) ++ (fs.take (j + 1)).flatMap (brF W T bs pss false (m' + 1) fill used k2) = ((L ++ (List.range k2).flatMap (pcF W T bs pss false (m' + 1) fill used)) ++ (fs.take j).flatMap (brF W T bs pss false (m' + 1) fill used k2)) ++ fillsN W T bs pss false m' (setF fill L9 k2) (used.set k2 true) by rw [HTK.out, HBF.out, List.append_assoc, List.append_assoc, List.append_assoc])
                                rw [← HTK2.out] at S16
                                clear fU k2u2 S15 T15 RP GT RP14
                                go_wp2_with fail
                                go_roundw
                                case rel => exact ⟨j + 1, by go_num, by omega, v4, xs4, S16, GT2⟩
                                case measure => simp [intOf]; omega
                  · obtain rfl : j = fs.length := by omega
                    go_wp2_with fail
                    go_roundw
                    case rel => exact ⟨k2 + 1, by go_num, by omega, v3, xs3, by rw [flat_range, HPC.out, ← List.append_assoc]; rw [List.take_length] at S7; exact S7, G7⟩
                    case measure => simp [intOf]; omega
            · obtain rfl : k2 = pss.length := by omega
              go_wp2
              refine bodyPost_ret (v := .tuple #[]) (by simp [results, Tryz.results76, go_sem]) rfl ⟨rfl, v2, xs2, ?_, G6⟩
              rw [HBR.out]
              exact S6
    · obtain rfl : n = k := by omega
      have HAT := Lib.hid (show atF bs fill = bs.length from by
        rw [HN.out]
        exact atF_eq (by rw [HN.out]; exact Nat.le_refl _) HKF.out (fun h => by have := HN.out; omega))
      have HLF := Lib.hid (fills_leaf (W := W) (T := T) (pss := pss) (m := m) (used := used) HAT.out)
      clear r0 r1 r2
      obtain ⟨xo, fo⟩ := boxF S.out
      have hxl : xs.length + 1 ≤ 1000000000000 := by have h1 := HL.out; rw [HLF.out, List.length_singleton] at h1; have := S.gr.hd.1; omega
      have CI := Lib.hid (cloneI_any ⟨F, 0, none⟩ n cF fill w.drew S.fil.rd HFL.out n1 (by omega))
      go_wp2_with fail
      go_region_law (first
        | (go_simp
           go_at_call 77
           refine CI.out.mono ?_
           rintro e w1 ⟨g1, rfl, W1, hg1, hg2, b1⟩
           have b1' : Below w.heap.size w w1 := bl_go (Below.refl w.heap.size w).drew b1
           have S1 := S.belo b1'
           have S2 := S1.belo (bl_alloc (Below.refl w1.heap.size w1) (.cells #[.slice (some ⟨g1, 0, none⟩) n n] 27))
           obtain ⟨xo1, -⟩ := boxF S1.out
           obtain ⟨xo2, -⟩ := boxF S2.out)
        | (refine step_headsL _ rfl _ _ rfl B v xs rfl S2.gr.own ⟨w1.heap.size, 0, none⟩ 1 1 [.slice (some ⟨g1, 0, none⟩) n n] rfl rfl (one_atL _ _ _) (one_oneL _ _ _) hxl S2.big ?_
           intro v3 w3 o3 g3 e3
           obtain ⟨A3, c3, rfl, -⟩ := id o3
           obtain ⟨R3, T3⟩ := S.tell HFL.out n36 W1 hg1 hg2 b1' o3 g3 e3
           obtain ⟨xo3, fo3⟩ := boxF ((g3.block bO (heap_ltF S2.out) (fun e => by have h1 := (S2.gr.own.lt _ e.symm).1; have h2 := S.d; unfold FlD at h2; omega)).trans S2.out)))
      all_goals (
        rw [List.length_append, List.length_singleton] at R3 T3
        go_wp2
        refine bodyPost_ret (v := .tuple #[]) (by simp [results, Tryz.results76, go_sem]) rfl ⟨rfl, _, xs ++ [.slice (some ⟨g1, 0, none⟩) n n], ?_, T3⟩
        rw [HLF.out]
        exact R3)
end Go.Proofs.YtejkbjcmndnfeaaGreat

/- Contract: the program's FillOk. -/
namespace Go.Proofs.YtejkbjcmndnfeaaGreat
open Go.RowKit Go.Sort

theorem fillOkB_f {W T : Int} {bs : List Bool} {pss : List (List Ce)} {fs : List Int} (h : validB W T bs = false ∨ (decide (pss.length ≤ 6) && piecesB pss) = false ∨ fs.length ≠ bs.length) : fillOkB W T bs pss fs = false := by
  unfold fillOkB
  rcases h with h | h | h
  · rw [h]; rfl
  · rw [h]; simp
  · rw [decide_eq_false h]; simp
theorem fillOkB_t {W T : Int} {bs : List Bool} {pss : List (List Ce)} {fs : List Int} (h1 : validB W T bs = true) (h2 : (decide (pss.length ≤ 6) && piecesB pss) = true) (h3 : fs.length = bs.length) : fillOkB W T bs pss fs = fillB W bs pss fs := by
  unfold fillOkB; rw [h1, h2, decide_eq_true h3]; rfl
theorem got_zero (m : Nat) : ∀ n, n < m → ((madeCells (Value.slice none 0 0).cells (m * 1)).toList)[n]? = some (.slice none 0 0) := fun n hn => by
  rw [show (Value.slice none 0 0).cells = #[.slice none 0 0] from rfl, toList_madeCells_one]
  simp [hn]
set_option maxRecDepth 100000 in
set_option maxHeartbeats 2000000 in
theorem iFillOk_f (W T : Int) (A A' A9 : Option Addr) (c c' c9 : Nat) (bs : List Bool) (pss : List (List Ce)) (fs : List Int) (w : World) (hr : Rd w A (bs.map .bool)) (hn : bs.length ≤ maxLen) (hr' : RdSS w A' pss) (hn' : pss.length ≤ maxLen) (_hn9 : fs.length ≤ maxLen)
    (h : validB W T bs = false ∨ (decide (pss.length ≤ 6) && piecesB pss) = false ∨ fs.length ≠ bs.length) :
    Calls Tryz.prog 12 #[.agg #[.int .i64 W, .int .i64 T, .slice A bs.length c], .slice A' pss.length c', .slice A9 fs.length c9] w fun e w' => e = .returned (.bool (fillOkB W T bs pss fs)) ∧ Below w.heap.size w w' := by
  rw [fillOkB_f h]
  have X0 := C3.new w (.int .i64 W) (.int .i64 T) (.slice A bs.length c) 25
  have Z0 := bl_alloc (Below.refl w.heap.size w) (.cells #[.int .i64 W, .int .i64 T, .slice A bs.length c] 25)
  obtain ⟨x0, x1, x2⟩ := id X0
  cases hv : validB W T bs with
  | false =>
    have HV := Lib.hid hv
    clear hv h
    go_enter Tryz.func12, Tryz.ntmps12
    go_wp2_with fail
    refine (iRegionValid_any W T A c bs _ (hr.alloc _) hn).mono ?_
    rintro e w1 ⟨rfl, b1⟩
    rw [HV.out]
    have Z1 := bl_go Z0 b1
    clear x0 x1 x2
    obtain ⟨x0, x1, x2⟩ := X0.belo b1
    go_wp2_with fail
    go_ret
    exact ⟨rfl, Z1⟩
  | true =>
    have HV := Lib.hid hv
    clear hv
    cases hp : (decide (pss.length ≤ 6) && piecesB pss) with
    | false =>
      have HP := Lib.hid hp
      clear hp h
      go_enter Tryz.func12, Tryz.ntmps12
      go_wp2_with fail
      refine (iRegionValid_any W T A c bs _ (hr.alloc _) hn).mono ?_
      rintro e w1 ⟨rfl, b1⟩
      rw [HV.out]
      have Z1 := bl_go Z0 b1
      have R1 := hr'.belo Z1
      have X1 := X0.belo b1
      clear x0 x1 x2 X0 b1 Z0
      obtain ⟨x0, x1, x2⟩ := id X1
      go_wp2_with fail
      refine (iPiecesValid_any _ _ _ _ R1 hn').mono ?_
      rintro e w2 ⟨rfl, b2⟩
      rw [HP.out]
      have Z2 := bl_go Z1 b2
      clear x0 x1 x2
      obtain ⟨x0, x1, x2⟩ := X1.belo b2
      go_wp2_with fail
      go_ret
      exact ⟨rfl, Z2⟩
    | true =>
      have HP := Lib.hid hp
      have hne : fs.length ≠ bs.length := by
        rcases h with h | h | h
        · rw [HV.out] at h; cases h
        · rw [hp] at h; cases h
        · exact h
      have hbe : ((fs.length : Int) == (bs.length : Int)) = false := by rw [beq_eq_false_iff_ne]; omega
      clear hp h hne
      go_enter Tryz.func12, Tryz.ntmps12
      go_wp2_with fail
      refine (iRegionValid_any W T A c bs _ (hr.alloc _) hn).mono ?_
      rintro e w1 ⟨rfl, b1⟩
      rw [HV.out]
      have Z1 := bl_go Z0 b1
      have R1 := hr'.belo Z1
      have X1 := X0.belo b1
      clear x0 x1 x2 X0 b1 Z0
      obtain ⟨x0, x1, x2⟩ := id X1
      go_wp2_with fail
      refine (iPiecesValid_any _ _ _ _ R1 hn').mono ?_
      rintro e w2 ⟨rfl, b2⟩
      rw [HP.out]
      have Z2 := bl_go Z1 b2
      clear x0 x1 x2
      obtain ⟨x0, x1, x2⟩ := X1.belo b2
      go_wp2_with fail
      go_ret
      exact ⟨rfl, Z2⟩
set_option maxRecDepth 100000 in
set_option maxHeartbeats 8000000 in
theorem iFillOk_t (W T : Int) (A A' A9 : Option Addr) (c c' c9 : Nat) (bs : List Bool) (pss : List (List Ce)) (fs : List Int) (w : World) (hr : Rd w A (bs.map .bool)) (hn : bs.length ≤ maxLen) (hr' : RdSS w A' pss) (hn' : pss.length ≤ maxLen) (hr9 : Rd w A9 (fs.map (.int .i64)))
    (hv : validB W T bs = true) (hp : (decide (pss.length ≤ 6) && piecesB pss) = true) (hl : fs.length = bs.length) :
    Calls Tryz.prog 12 #[.agg #[.int .i64 W, .int .i64 T, .slice A bs.length c], .slice A' pss.length c', .slice A9 bs.length c9] w fun e w' => e = .returned (.bool (fillB W bs pss fs)) ∧ Below w.heap.size w w' := by
  have X0 := C3.new w (.int .i64 W) (.int .i64 T) (.slice A bs.length c) 25
  have Z0 := bl_alloc (Below.refl w.heap.size w) (.cells #[.int .i64 W, .int .i64 T, .slice A bs.length c] 25)
  obtain ⟨x0, x1, x2⟩ := id X0
  have HV := Lib.hid hv
  have HP := Lib.hid hp
  have HL := Lib.hid hl
  have m6 : pss.length ≤ 6 := by rw [Bool.and_eq_true, decide_eq_true_eq] at hp; exact hp.1
  obtain ⟨⟨q1, q6⟩, ⟨t1, t6⟩, hlen, -⟩ := validB_iff.1 hv
  have n36 : bs.length ≤ 36 := by have := mul_bd q1 q6 t1 t6; omega
  have hbe : ((bs.length : Int) == (bs.length : Int)) = true := by simp
  obtain ⟨i0, hi, hz0, hz1, hz2⟩ := info_parts Tryz.infoSC
  have hb1 : i0.bytes * pss.length ≤ 281474976710656 := by rw [hz2]; omega
  have HZ := Lib.hid (And.intro hz0 (And.intro hz1 hz2))
  clear hv hp hl hlen t1 t6 hz0 hz1 hz2
  go_enter Tryz.func12, Tryz.ntmps12
  go_wp2_with fail
  refine (iRegionValid_any W T A c bs _ (hr.alloc _) hn).mono ?_
  rintro e w1 ⟨rfl, b1⟩
  rw [HV.out]
  have Z1 := bl_go Z0 b1
  have R1 := hr'.belo Z1
  have X1 := X0.belo b1
  clear x0 x1 x2 X0 b1 Z0
  obtain ⟨x0, x1, x2⟩ := id X1
  go_wp2_with fail
  refine (iPiecesValid_any _ _ _ _ R1 hn').mono ?_
  rintro e w2 ⟨rfl, b2⟩
  rw [HP.out]
  have Z2 := bl_go Z1 b2
  have X2 := X1.belo b2
  clear x0 x1 x2 X1 Z1 R1 b2
  obtain ⟨x0, x1, x2⟩ := id X2
  have r2 := hr.belo Z2
  have r2' := hr'.belo Z2
  have r29 := hr9.belo Z2
  clear hr hr' hr9
  go_wp2_with (at_make; refine wpList_make_full _ rfl _ _ 26 rfl w2.heap.size 32 i0 (.slice none 0 0) 1 Tryz.underlying26 hi HZ.out.1 HZ.out.2.1 .i64 .i64 _ _ pss.length rfl rfl rfl rfl hb1 (by unfold maxLen; omega) (Nat.le_refl _) ?_; intro w3 hown3 hgrow3)
  have G3 := GotS.start hown3 (got_zero _)
  have Z3 : Below w2.heap.size w2 w3 := (Below.refl _ _).grown hgrow3 (Nat.le_refl _) (fun k hk => by cases hk)
  clear hown3 hgrow3 x0 x1 x2
  go_loopw [35] (fun i wr => ∃ (k : Nat) (L : List Value), k ≤ bs.length ∧ i = .int .i64 k ∧ GotS wr w2.heap.size pss.length L (fun n : Nat => cellsT W fs n k) ∧ Hid (∀ j (h : j < bs.length) (h2 : j < fs.length), j < k → cellOk pss.length bs[j] fs[j]) ∧ Below w2.heap.size w2 wr) (fun i _ => bs.length - (intOf i).toNat)
  case atStart => exact ⟨0, _, Nat.zero_le _, rfl, G3, fun j _ _ h => by omega, Z3⟩
  case round =>
    clear Z3 G3
    obtain ⟨k, L, hk, rfl, GS, HK, Z4⟩ := hrel
    obtain ⟨x0, x1, x2⟩ := X2.belo Z4
    by_cases hlt : k < bs.length
    · have kf : k < fs.length := by rw [HL.out]; exact hlt
      obtain ⟨b, off, rfl, cb⟩ := (r2.belo Z4).atEM hlt
      obtain ⟨b9, off9, rfl, cf⟩ := (r29.belo Z4).atEM kf
      obtain ⟨f, hf⟩ : ∃ f, fs[k] = f := ⟨_, rfl⟩
      rw [hf] at cf
      have HF := Lib.hid hf
      have HFQ := Lib.hid (show fs[k]? = some f by rw [List.getElem?_eq_getElem kf, hf])
      clear hf
      cases hb : bs[k] with
      | false =>
        rw [hb] at cb
        have HB := Lib.hid hb
        clear hb
        cases hv1 : (f == -1) with
        | true =>
          have hfe : f = -1 := by simpa using hv1
          have HOK := Lib.hid (show cellOk pss.length bs[k] fs[k] by rw [HB.out, HF.out]; exact ⟨fun e => (by cases e), fun _ => hfe⟩)
          have hge : decide (0 ≤ f) = false := by simp; omega
          clear hfe
          go_wp2_with fail
          go_roundw
          case rel =>
            refine ⟨k + 1, L, by omega, by go_num, GS.cast (fun n _ => (cellsT_no (by rw [HFQ.out]; intro e; injection e with e; rw [beq_iff_eq] at hv1; omega)).symm), fun j h h2 h3 => ?_, Z4⟩
            rcases Nat.lt_or_ge j k with h4 | h4
            · exact HK.out j h h2 h4
            · obtain rfl : j = k := by omega
              exact HOK.out
          case measure => simp [intOf]; omega
        | false =>
          have HNO := Lib.hid (fillB_f1 (W := W) (bs := bs) (pss := pss) (fs := fs) k hlt (by rw [HL.out]; exact hlt) (by rw [HB.out, HF.out]; intro h; have := h.2 rfl; rw [this] at hv1; simp at hv1))
          go_wp2_with fail
          go_ret
          exact ⟨ret_b HNO.out.symm, bl_go Z2 Z4⟩
      | true =>
        rw [hb] at cb
        have HB := Lib.hid hb
        clear hb
        by_cases hin : 0 ≤ f ∧ f ≤ (pss.length : Int) - 1
        · obtain ⟨fn, rfl⟩ := Int.eq_ofNat_of_zero_le hin.1
          have hfm : fn < pss.length := by omega
          have HOK := Lib.hid (show cellOk pss.length bs[k] fs[k] by rw [HB.out, HF.out]; exact ⟨fun _ => hin, fun e => by cases e⟩)
          have hge : decide (0 ≤ (fn : Int)) = true := by simp
          obtain ⟨i1, i2⟩ := hin
          go_wp2_with (go_at_call 67; refine (in_t _ _ _ _ i1 i2).mono ?_; rintro e w' ⟨rfl, rfl⟩)
          refine (xy_any W T _ k _ q1 q6 (by omega) (by omega)).mono ?_
          rintro e w5 ⟨rfl, b5⟩
          have G5 := GS.belo b5
          obtain ⟨y0, y1, y2⟩ := X2.belo (bl_go Z4 b5)
          obtain ⟨A5, c5, hL5, o5, d5, f5, cap5, lt5⟩ := G5.at_ hfm
          have hcl := cellsT_len W fs fn k
          have BA := bl_alloc (Below.refl w5.heap.size w5) (.cells #[.int .i64 ((k : Int) % W), .int .i64 ((k : Int) / W)] 89)
          go_wp2_with (at_builtin; refine wpList_cell1 _ rfl _ _ rfl (w2.heap.size + 1) (.slice A5 (cellsT W fs fn k).length c5) (cellsT W fs fn k) rfl (o5.alloc _) _ _ w5.heap.size rfl (cell_of_row _ _ _ _ _ _ (heap_alloc_new w5 _)) (cell_of_row _ _ _ _ _ _ (heap_alloc_new w5 _)) (by omega) (by simp; omega) ?_; intro A6 c6 w6 o6 g6 e6; obtain ⟨p6, s6⟩ := G5.row2 BA hfm hL5 g6)
          go_roundw
          case rel =>
            refine ⟨k + 1, _, by omega, by go_num, (G5.put BA hfm hL5 o6 g6 e6).cast (fun n _ => ?_), fun j h h2 h3 => ?_, G5.below (bl_go Z4 b5) (Nat.le_refl _) BA hfm hL5 g6 (by omega)⟩
            · by_cases hnf : n = fn
              · rw [if_pos hnf, hnf]; exact (cellsT_yes HFQ.out).symm
              · rw [if_neg hnf]; exact (cellsT_no (by rw [HFQ.out]; intro e; injection e with e; omega)).symm
            · rcases Nat.lt_or_ge j k with h4 | h4
              · exact HK.out j h h2 h4
              · obtain rfl : j = k := by omega
                exact HOK.out
          case measure => simp [intOf]; omega
        · have HNO := Lib.hid (fillB_f1 (W := W) (bs := bs) (pss := pss) (fs := fs) k hlt (by rw [HL.out]; exact hlt) (by rw [HB.out, HF.out]; intro h; exact hin (h.1 rfl)))
          have hout : f < 0 ∨ (pss.length : Int) - 1 < f := by omega
          go_wp2_with (go_at_call 67; refine (in_f _ _ _ _ hout).mono ?_; rintro e w' ⟨rfl, rfl⟩)
          go_ret
          exact ⟨ret_b HNO.out.symm, bl_go Z2 Z4⟩
    · obtain rfl : k = bs.length := by omega
      have HD := Lib.hid (show fillD pss.length bs fs from fun j h h2 => HK.out j h h2 h)
      have HCC := Lib.hid (fun n : Nat => show cellsT W fs n bs.length = cellsT W fs n fs.length by rw [HL.out])
      have r4 := r2'.belo Z4
      have Z5 := bl_go Z2 Z4
      clear x0 x1 x2 HK hk r2 r2' r29 X2 Z2 Z4
      obtain ⟨w4, hw4⟩ : ∃ w4 : World, w4 = wr := ⟨_, rfl⟩
      subst hw4
      go_wp2_with fail
      go_loopw [88] (fun i wr => ∃ k : Nat, k ≤ pss.length ∧ i = .int .i64 k ∧ Hid (∀ j (h : j < pss.length), j < k → sameV pss[j] (cellsT W fs j fs.length) = true) ∧ Below w4.heap.size w4 wr) (fun i _ => pss.length - (intOf i).toNat)
      case atStart => exact ⟨0, Nat.zero_le _, rfl, fun j _ h => by omega, Below.refl _ _⟩
      case round =>
        obtain ⟨k, hk, rfl, HK, Z6⟩ := hrel
        by_cases hlt : k < pss.length
        · obtain ⟨b, off, A', c1, rfl, h1, h2, h3, h4⟩ := (r4.belo Z6) k hlt
          obtain ⟨A5, c5, -, o5, d5, -, cap5, -⟩ := (GS.belo Z6).at_ hlt
          have hcl := cellsT_len W fs k bs.length
          obtain ⟨ps, hps⟩ : ∃ ps, pss[k] = ps := ⟨_, rfl⟩
          have HPS := Lib.hid hps
          rw [hps] at h1 h2 h3 h4
          clear hps
          have CC := Lib.hid (fun (z : World) (R : RdC z A' ps) (R' : RdC z A5 (cellsT W fs k bs.length)) => iSamePiece_any A' A5 c1 c5 ps (cellsT W fs k bs.length) z R R' h3 (by unfold maxLen; omega) h2 cap5)
          have R5 := o5.rd
          have SV := Lib.hid (show sameV ps (cellsT W fs k bs.length) = sameV pss[k] (cellsT W fs k fs.length) by rw [HPS.out, HCC.out])
          cases hs : sameV ps (cellsT W fs k bs.length) with
          | true =>
            have HS := Lib.hid hs
            clear hs h2 h3 cap5 o5
            go_wp2_with fail
            refine (CC.out _ h4 R5).mono ?_
            rintro e w7 ⟨rfl, b7⟩
            rw [HS.out]
            go_wp2_with fail
            go_roundw
            case rel =>
              refine ⟨k + 1, by omega, by go_num, fun j h h5 => ?_, bl_go Z6 b7⟩
              rcases Nat.lt_or_ge j k with h6 | h6
              · exact HK.out j h h6
              · obtain rfl : j = k := by omega
                rw [← SV.out, HS.out]
            case measure => simp [intOf]; omega
          | false =>
            have HS := Lib.hid hs
            have HNO := Lib.hid (fillB_f2 (W := W) (bs := bs) (pss := pss) (fs := fs) k hlt (by rw [← SV.out, hs]))
            clear hs h2 h3 cap5 o5
            go_wp2_with fail
            refine (CC.out _ h4 R5).mono ?_
            rintro e w7 ⟨rfl, b7⟩
            rw [HS.out]
            go_wp2_with fail
            go_ret
            exact ⟨ret_b HNO.out.symm, bl_go Z5 (bl_go Z6 b7)⟩
        · obtain rfl : k = pss.length := by omega
          have HB := Lib.hid (fillB_t (W := W) (bs := bs) (pss := pss) (fs := fs) HD.out (fun n h => HK.out n h h))
          go_wp2_with fail
          go_ret
          exact ⟨ret_b HB.out.symm, bl_go Z5 Z6⟩
/-- whether a list fills a region -/
theorem iFillOk_any (W T : Int) (A A' A9 : Option Addr) (c c' c9 : Nat) (bs : List Bool) (pss : List (List Ce)) (fs : List Int) (w : World) (hr : Rd w A (bs.map .bool)) (hn : bs.length ≤ maxLen) (hr' : RdSS w A' pss) (hn' : pss.length ≤ maxLen) (hr9 : Rd w A9 (fs.map (.int .i64))) (hn9 : fs.length ≤ maxLen) :
    Calls Tryz.prog 12 #[.agg #[.int .i64 W, .int .i64 T, .slice A bs.length c], .slice A' pss.length c', .slice A9 fs.length c9] w fun e w' => e = .returned (.bool (fillOkB W T bs pss fs)) ∧ Below w.heap.size w w' := by
  by_cases h : validB W T bs = false ∨ (decide (pss.length ≤ 6) && piecesB pss) = false ∨ fs.length ≠ bs.length
  · exact iFillOk_f W T A A' A9 c c' c9 bs pss fs w hr hn hr' hn' hn9 h
  · have h1 : validB W T bs = true := by simpa using fun e => h (.inl e)
    have h2 : (decide (pss.length ≤ 6) && piecesB pss) = true := by
      cases e : (decide (pss.length ≤ 6) && piecesB pss) with
      | true => rfl
      | false => exact absurd (.inr (.inl e)) h
    have h3 : fs.length = bs.length := Classical.byContradiction fun e => h (.inr (.inr e))
    rw [fillOkB_t h1 h2 h3, h3]
    exact iFillOk_t W T A A' A9 c c' c9 bs pss fs w hr hn hr' hn' hr9 h1 h2 h3
end Go.Proofs.YtejkbjcmndnfeaaGreat

/- Contract: slices.Repeat of one number. -/
namespace Go.Proofs.YtejkbjcmndnfeaaGreat
open Go.RowKit

theorem and_low (n : Nat) (hn : n ≤ 64) : bits BinOp.and IntKind.u64 (n : Int) 4294967295 = (n : Int) := by
  revert n; decide +kernel
set_option maxHeartbeats 1000000 in
theorem mul64_one (n : Nat) (hn : n ≤ 64) (w : World) :
    Calls Tryz.prog 206 #[.int .u64 1, .int .u64 n] w fun e w' => e = .returned (.tuple #[.int .u64 0, .int .u64 n]) ∧ w = w' := by
  have a1 : bits BinOp.and IntKind.u64 1 4294967295 = 1 := by decide +kernel
  have a2 := and_low n hn
  have a3 : (n : Int) / 4294967296 = 0 := by omega
  have a4 : IntKind.u64.wrap (n : Int) = (n : Int) := by revert n; decide +kernel
  have a5 : bits BinOp.and IntKind.u64 0 4294967295 = 0 := by decide +kernel
  go_enter Tryz.func206, Tryz.ntmps206
  go_wp2
  go_ret2
  exact ⟨rfl, rfl⟩
set_option maxHeartbeats 1000000 in
theorem mul_one_any (n : Nat) (hn : n ≤ 64) (w : World) :
    Calls Tryz.prog 152 #[.int .u64 1, .int .u64 n] w fun e w' => e = .returned (.tuple #[.int .u64 0, .int .u64 n]) ∧ w = w' := by
  go_enter Tryz.func152, Tryz.ntmps152
  go_wp2_with (go_at_call 206; refine (mul64_one n hn _).mono ?_; rintro e w' ⟨rfl, rfl⟩)
  go_ret2
  exact ⟨rfl, rfl⟩
/-- k numbers written, the others still as they were made -/
def repL (v : Int) (n k : Nat) : List Value := (List.replicate k (Value.int .i64 v)) ++ List.replicate (n - k) (.int .i64 0)
theorem repL_len (v : Int) {n k : Nat} (hk : k ≤ n) : (repL v n k).length = n := by unfold repL; simp; omega
theorem repL_one (v : Int) {n k m : Nat} (hm : k + m ≤ n) : splice (repL v n k) k (List.replicate m (Value.int .i64 v)) = repL v n (k + m) := by
  unfold splice repL
  have e1 : (List.replicate k (Value.int .i64 v) ++ List.replicate (n - k) (Value.int .i64 0)).take k = List.replicate k (Value.int .i64 v) := List.take_left' (by simp)
  rw [e1, List.length_replicate, List.drop_append, List.drop_of_length_le (by simp), List.nil_append, List.length_replicate, List.drop_replicate, ← List.append_assoc, List.replicate_append_replicate]
  congr 2
  omega
theorem repL_all (v : Int) (n : Nat) : repL v n n = (List.replicate n v).map (.int .i64) := by unfold repL; simp
theorem repL_get {v : Int} {n k j : Nat} {u : Value} {m : Nat} (hm : m ≤ k) (h : (List.replicate m (Value.int .i64 v))[j]? = some u) : (repL v n k)[j]? = some u := by
  have hj : j < m := by
    rcases Nat.lt_or_ge j m with h1 | h1
    · exact h1
    · rw [List.getElem?_eq_none (by simpa using h1)] at h; cases h
  rw [List.getElem?_replicate, if_pos hj] at h
  unfold repL
  rw [List.getElem?_append_left (by simp; omega), List.getElem?_replicate, if_pos (by omega)]; exact h
theorem made_row {v : Int} {w1 : World} {g n : Nat} {e : TypeId} (h : w1.ownsRow g e 1 (.slice (some ⟨g, 0, none⟩) n n) n (madeCells (Value.int .i64 0).cells (n * 1)).toList) : Hid (w1.heap[g]? = some (.cells (repL v n 0).toArray e (0, 0))) := by
  rcases h.2 with ⟨e, -⟩ | ⟨g', cap, cur, hv, hg, hh, h1, h2, h3, h4⟩
  · cases e
  · injection hv with ha hb hc
    injection ha with ha; injection ha with ha
    subst ha; subst hc
    show _ = _
    rw [hh]
    have e1 : cur.toList = repL v n 0 := by
      rw [Nat.mul_one] at h4
      rw [List.take_of_length_le (by simp; omega)] at h4
      rw [h4, show (Value.int .i64 0).cells = #[.int .i64 0] from rfl, toList_madeCells_one]
      unfold repL; simp
    rw [← e1]
theorem one_cell {w : World} {b off : Nat} {v : Int} (h : w.cell? ⟨b, off, none⟩ = some (.int .i64 v)) : ∀ j u, [Value.int .i64 v][j]? = some u → w.cell? ((⟨b, off, none⟩ : Addr).add j) = some u := by
  intro j u hu
  match j, hu with
  | 0, hu => simp at hu; subst hu; rw [add_zero']; exact h
theorem rep_run (W : World) (hsz : (Tryz.prog.info? 3).map (·.size) = some 1) (v : Int) (n k m g : Nat) (hm : m = min k (n - k)) (hk : k ≤ n) (w0 : World)
    (hg : Hid (W.heap[g]? = some (.cells (repL v n k).toArray 3 (0, 0)))) (hb : Below w0.heap.size w0 W) (hB : w0.heap.size ≤ g) :
    ∃ w', Sem.run Tryz.prog (Builtin.copy_ #[27, 27] 3 #[.slice (some ⟨g, k, none⟩) (n - k) (n - k), .slice (some ⟨g, 0, none⟩) k n]) W = .ok (.int .i64 m) w' ∧ Hid (w'.heap[g]? = some (.cells (repL v n (k + m)).toArray 3 (0, 0))) ∧ Below w0.heap.size w0 w' := by
  have h := run_copy_row (P := Tryz.prog) W 27 27 3 3 g k (n - k) (n - k) ⟨g, 0, none⟩ k n (repL v n k).toArray 3 (List.replicate m (Value.int .i64 v)) Tryz.underlying27 hsz hg.out
    (by rw [List.length_replicate]; exact hm) (fun j u hu => by
      rw [add_ofs, Nat.zero_add, cell_of_row _ _ _ _ _ _ hg.out]
      have := repL_get (n := n) (show m ≤ k by omega) hu
      simpa using this) (by rw [List.length_replicate]; simp [repL_len v hk]; omega) (by intro u hu; rw [List.eq_of_mem_replicate hu]; rfl)
  rw [List.length_replicate] at h
  refine ⟨_, h, ?_, below_setRow hb hB _⟩
  show _ = _
  rw [← repL_one v (show k + m ≤ n by omega)]
  simpa [splice] using setRow_heap W g _ ((repL v n k).take k ++ (List.replicate m (Value.int .i64 v) ++ (repL v n k).drop (k + m))).toArray 3 _ hg.out
set_option maxRecDepth 100000 in
set_option maxHeartbeats 2000000 in
theorem repeat_one (A : Option Addr) (c : Nat) (v : Int) (n : Nat) (h1 : 1 ≤ n) (hn : n ≤ 64) (w : World) (hr : Rd w A [.int .i64 v]) :
    Calls Tryz.prog 75 #[.slice A 1 c, .int .i64 n] w (NewW (List.replicate n v) w) := by
  obtain ⟨i0, hi, hz0, hz1, hz2⟩ := info_parts Tryz.infoI
  have hb1 : i0.bytes * n ≤ 281474976710656 := by rw [hz2]; omega
  have hsz : (Tryz.prog.info? 3).map (·.size) = some 1 := by rw [hi]; simp [hz1]
  have HZ := Lib.hid (And.intro hz0 (And.intro hz1 hz2))
  clear hz0 hz1 hz2
  obtain ⟨b, off, e0, hc⟩ := hr.atE (k := 0) (by simp)
  subst e0
  simp only [List.getElem_cons_zero, Nat.add_zero] at hc
  have hbw : b < w.heap.size := by have := World.block_lt_of_cell? w _ hc; simpa using this
  clear hr
  go_enter Tryz.func75, Tryz.ntmps75
  go_wp2_with (first
    | (go_at_call 152; refine (mul_one_any n hn _).mono ?_; rintro e w' ⟨rfl, rfl⟩)
    | (at_make; refine wpList_make_full _ rfl _ _ 27 rfl w.heap.size 3 i0 (.int .i64 0) 1 Tryz.underlying27 hi HZ.out.1 HZ.out.2.1 .i64 .i64 _ _ n rfl rfl rfl rfl hb1 (by unfold maxLen; omega) (Nat.le_refl _) ?_; intro w1 hown1 hgrow1; have HG := made_row (v := v) hown1; have BG := (Below.refl w.heap.size w).grown hgrow1 (Nat.le_refl _) (fun k hk => by cases hk); have hc1 := (BG.cell (p := ⟨b, off, none⟩) hbw).trans hc; clear hown1 hgrow1)
    | (refine wpList_copy_splice (o := ⟨some 33, _, _, _, _, _⟩) rfl (.tmp 31) (.tmp 32) 27 27 rfl 3 Tryz.underlying27 hsz _ _ _ _ _ _ rfl rfl w.heap.size 0 (repL v n 0) 3 HG.out [.int .i64 v] (by show 1 = min 1 n; omega) (fun _ => ⟨rfl, _, rfl, one_cell hc1⟩) (by rw [repL_len v (Nat.zero_le n)]; simp; omega) (by simp; rfl) w.heap.size w BG (Nat.le_refl _) ?_; intro w2 HG2 hB2))
  have HG2' : Hid (w2.heap[w.heap.size]? = some (.cells (repL v n 1).toArray 3 (0, 0))) := by
    have e := repL_one v (n := n) (k := 0) (m := 1) (by omega)
    rw [Nat.zero_add] at e
    show _ = _
    rw [← e]; exact HG2.out
  clear HG2 HG BG hc1 hb1 hi HZ
  go_loopw [8] (fun t8 wr => ∃ k : Nat, 1 ≤ k ∧ k ≤ n ∧ t8 = .int .i64 k ∧ Hid (wr.heap[w.heap.size]? = some (.cells (repL v n k).toArray 3 (0, 0))) ∧ Below w.heap.size w wr) (fun t8 _ => n - (intOf t8).toNat)
  case atStart => exact ⟨1, Nat.le_refl _, h1, by simp, HG2', hB2⟩
  case round =>
    clear HG2' hB2
    obtain ⟨k, k1, k2, rfl, HK, bk⟩ := hrel
    by_cases hlt : k < n
    · obtain ⟨m, hm⟩ : ∃ m, m = min k (n - k) := ⟨_, rfl⟩
      have hm1 : 1 ≤ m := by omega
      have hm3 : k + m ≤ n := by omega
      have HKd : Hid (wr.drew.heap[w.heap.size]? = some (.cells (repL v n k).toArray 3 (0, 0))) := HK
      have bkd : Below w.heap.size w wr.drew := ⟨bk.os, bk.tape, bk.output, bk.size, bk.block⟩
      obtain ⟨w4, hrun, HG4, hB4⟩ := rep_run wr.drew hsz v n k m w.heap.size hm k2 w HKd bkd (Nat.le_refl _)
      clear hm HKd bkd HK bk
      have hck : ¬ n = k := by omega
      have hkI : (k : Int) < (n : Int) := by omega
      go_wp2_with fail
      go_region
      all_goals go_wp2_with fail
      exact ⟨⟨k + m, by omega, hm3, by go_num, HG4, hB4⟩, by simp [intOf]; omega⟩
    · obtain rfl : k = n := by omega
      go_wp2
      go_ret
      refine ⟨some ⟨w.heap.size, 0, none⟩, by simp, ?_, bk⟩
      refine ⟨fun ad ha => by injection ha with ha; subst ha; exact Nat.le_refl _, fun _ => ⟨w.heap.size, _, rfl, HK.out, ?_⟩⟩
      rw [← repL_all, repL_len v (Nat.le_refl _)]
      exact List.take_of_length_le (by simp [repL_len v (Nat.le_refl k)])
end Go.Proofs.YtejkbjcmndnfeaaGreat

/- Contracts: steps from cell to cell, the program's and the reference's. -/
namespace Go.Proofs.YtejkbjcmndnfeaaGreat
open Go.RowKit

set_option maxHeartbeats 400000 in
theorem iback_any (d : Int) (w : World) (h1 : 0 ≤ d) (h2 : d ≤ 1000) :
    Calls Tryz.prog 225 #[.int .i64 d] w fun e w' => e = .returned (.int .i64 (backZ d)) ∧ w = w' := by
  go_enter Tryz.func225, Tryz.ntmps225
  go_wp2
  go_ret
  exact ⟨ret_i (by unfold backZ; rfl), rfl⟩
set_option maxHeartbeats 400000 in
theorem sback_any (d : Int) (w : World) (h1 : 0 ≤ d) (h2 : d ≤ 1000) :
    Calls Tryz.prog 230 #[.int .i64 d] w fun e w' => e = .returned (.int .i64 (backZ d)) ∧ w = w' := by
  go_enter Tryz.func230, Tryz.ntmps230
  go_wp2
  go_ret
  exact ⟨ret_i (by unfold backZ; rfl), rfl⟩
set_option maxHeartbeats 400000 in
theorem has_any (W T : Int) (A : Option Addr) (n c : Nat) (cell : Int) (w : World) (hn : n ≤ 1000000000000) :
    Calls Tryz.prog 252 #[.agg #[.int .i64 W, .int .i64 T, .slice A n c], .int .i64 cell] w fun e w' => e = .returned (.bool (inB cell 0 ((n : Int) - 1))) ∧ Below w.heap.size w w' := by
  go_enter Tryz.func252, Tryz.ntmps252
  go_wp2_with (go_at_call 67; refine (in_any _ _ _ _).mono ?_; rintro e w' ⟨rfl, rfl⟩)
  go_ret
  exact ⟨rfl, bl_alloc (Below.refl _ _) _⟩
set_option maxHeartbeats 1000000 in
/-- a step, the direction and whether it stays inside decided -/
theorem step_any (W T : Int) (S : Value) (c d : Int) (w : World) (h1 : 1 ≤ W) (h2 : W ≤ 6) (h3 : 1 ≤ T) (h4 : T ≤ 6) (c0 : 0 ≤ c) (c1 : c < W * T) :
    Calls Tryz.prog 209 #[.agg #[.int .i64 W, .int .i64 T, S], .int .i64 c, .int .i64 d] w fun e w' => e = .returned (.int .i64 (stepZ W T c d)) ∧ Below w.heap.size w w' := by
  obtain ⟨X, Y, eX, eY, x0, x1, y0, y1, ec, m0, m1, c2⟩ := cell_xy h1 h2 h3 h4 c0 c1
  obtain ⟨m2, m3⟩ := xy_cell h1 h2 h3 h4 x0 x1 y0 y1
  have XY := Lib.hid (fun w => by have := xy_any W T S c w h1 h2 c0 (by omega); rw [eX, eY] at this; exact this)
  have X0 := C3.new w (.int .i64 W) (.int .i64 T) S 25
  have CL := Lib.hid c1
  clear c1 m2 m3
  rcases (show d = 1 ∨ d = 2 ∨ d = 3 ∨ d = 4 ∨ (d < 1 ∨ 4 < d) from by omega) with rfl | rfl | rfl | rfl | hd
  · have HS := Lib.hid (step1 (W := W) (T := T) (c := c))
    by_cases hx : X < W - 1
    · have HR := Lib.hid (show Y * W + (X + 1) = stepZ W T c 1 by rw [HS.out, eX, if_pos hx]; omega)
      clear HS eX eY ec
      go_enter Tryz.func209, Tryz.ntmps209
      go_wp2_with fail
      refine (XY.out _).mono ?_
      rintro e w1 ⟨rfl, b1⟩
      have B1 := bl_go (bl_alloc (Below.refl w.heap.size w) _) b1
      obtain ⟨z0, z1, z2⟩ := X0.belo b1
      go_wp2_with (go_at_call 67; refine (in_t _ _ _ _ (by omega) (by omega)).mono ?_; rintro e w' ⟨rfl, rfl⟩)
      go_ret
      exact ⟨ret_i HR.out, B1⟩
    · have HR := Lib.hid (show -1 = stepZ W T c 1 by rw [HS.out, eX, if_neg hx])
      clear HS eX eY ec
      go_enter Tryz.func209, Tryz.ntmps209
      go_wp2_with fail
      refine (XY.out _).mono ?_
      rintro e w1 ⟨rfl, b1⟩
      have B1 := bl_go (bl_alloc (Below.refl w.heap.size w) _) b1
      obtain ⟨z0, z1, z2⟩ := X0.belo b1
      go_wp2_with (go_at_call 67; refine (in_f _ _ _ _ (by omega)).mono ?_; rintro e w' ⟨rfl, rfl⟩)
      go_ret
      exact ⟨ret_i HR.out, B1⟩
  · have HS := Lib.hid (step2 (W := W) (T := T) (c := c))
    have mY : (Y + 1) * W = Y * W + W := by rw [Int.add_mul]; omega
    by_cases hy : Y < T - 1
    · have HR := Lib.hid (show (Y + 1) * W + X = stepZ W T c 2 by rw [HS.out, eY, if_pos hy]; omega)
      have n0 : 0 ≤ (Y + 1) * W := by omega
      have n1 : (Y + 1) * W ≤ 50 := by omega
      clear HS eX eY ec mY
      go_enter Tryz.func209, Tryz.ntmps209
      go_wp2_with fail
      refine (XY.out _).mono ?_
      rintro e w1 ⟨rfl, b1⟩
      have B1 := bl_go (bl_alloc (Below.refl w.heap.size w) _) b1
      obtain ⟨z0, z1, z2⟩ := X0.belo b1
      go_wp2_with (go_at_call 67; refine (in_t _ _ _ _ (by omega) (by omega)).mono ?_; rintro e w' ⟨rfl, rfl⟩)
      go_ret
      exact ⟨ret_i HR.out, B1⟩
    · have HR := Lib.hid (show -1 = stepZ W T c 2 by rw [HS.out, eY, if_neg hy])
      clear HS eX eY ec mY
      go_enter Tryz.func209, Tryz.ntmps209
      go_wp2_with fail
      refine (XY.out _).mono ?_
      rintro e w1 ⟨rfl, b1⟩
      have B1 := bl_go (bl_alloc (Below.refl w.heap.size w) _) b1
      obtain ⟨z0, z1, z2⟩ := X0.belo b1
      go_wp2_with (first | (go_at_call 67; refine (in_t _ _ _ _ (by omega) (by omega)).mono ?_; rintro e w' ⟨rfl, rfl⟩) | (go_at_call 67; refine (in_f _ _ _ _ (by omega)).mono ?_; rintro e w' ⟨rfl, rfl⟩))
      go_ret
      exact ⟨ret_i HR.out, B1⟩
  · have HS := Lib.hid (step3 (W := W) (T := T) (c := c))
    by_cases hx : 0 < X
    · have HR := Lib.hid (show Y * W + (X - 1) = stepZ W T c 3 by rw [HS.out, eX, if_pos hx]; omega)
      clear HS eX eY ec
      go_enter Tryz.func209, Tryz.ntmps209
      go_wp2_with fail
      refine (XY.out _).mono ?_
      rintro e w1 ⟨rfl, b1⟩
      have B1 := bl_go (bl_alloc (Below.refl w.heap.size w) _) b1
      obtain ⟨z0, z1, z2⟩ := X0.belo b1
      go_wp2_with (go_at_call 67; refine (in_t _ _ _ _ (by omega) (by omega)).mono ?_; rintro e w' ⟨rfl, rfl⟩)
      go_ret
      exact ⟨ret_i HR.out, B1⟩
    · have HR := Lib.hid (show -1 = stepZ W T c 3 by rw [HS.out, eX, if_neg hx])
      clear HS eX eY ec
      go_enter Tryz.func209, Tryz.ntmps209
      go_wp2_with fail
      refine (XY.out _).mono ?_
      rintro e w1 ⟨rfl, b1⟩
      have B1 := bl_go (bl_alloc (Below.refl w.heap.size w) _) b1
      obtain ⟨z0, z1, z2⟩ := X0.belo b1
      go_wp2_with (go_at_call 67; refine (in_f _ _ _ _ (by omega)).mono ?_; rintro e w' ⟨rfl, rfl⟩)
      go_ret
      exact ⟨ret_i HR.out, B1⟩
  · have HS := Lib.hid (step4 (W := W) (T := T) (c := c))
    have mY : (Y - 1) * W = Y * W - W := by rw [Int.sub_mul]; omega
    by_cases hy : 0 < Y
    · have hW : W ≤ Y * W := by
        have := Int.mul_le_mul_of_nonneg_right (show (1 : Int) ≤ Y by omega) (show (0 : Int) ≤ W by omega)
        omega
      have HR := Lib.hid (show (Y - 1) * W + X = stepZ W T c 4 by rw [HS.out, eY, if_pos hy]; omega)
      have n0 : 0 ≤ (Y - 1) * W := by omega
      have n1 : (Y - 1) * W ≤ 50 := by omega
      clear HS eX eY ec mY
      go_enter Tryz.func209, Tryz.ntmps209
      go_wp2_with fail
      refine (XY.out _).mono ?_
      rintro e w1 ⟨rfl, b1⟩
      have B1 := bl_go (bl_alloc (Below.refl w.heap.size w) _) b1
      obtain ⟨z0, z1, z2⟩ := X0.belo b1
      go_wp2_with (go_at_call 67; refine (in_t _ _ _ _ (by omega) (by omega)).mono ?_; rintro e w' ⟨rfl, rfl⟩)
      go_ret
      exact ⟨ret_i HR.out, B1⟩
    · have HR := Lib.hid (show -1 = stepZ W T c 4 by rw [HS.out, eY, if_neg hy])
      clear HS eX eY ec mY
      go_enter Tryz.func209, Tryz.ntmps209
      go_wp2_with fail
      refine (XY.out _).mono ?_
      rintro e w1 ⟨rfl, b1⟩
      have B1 := bl_go (bl_alloc (Below.refl w.heap.size w) _) b1
      obtain ⟨z0, z1, z2⟩ := X0.belo b1
      go_wp2_with (first | (go_at_call 67; refine (in_t _ _ _ _ (by omega) (by omega)).mono ?_; rintro e w' ⟨rfl, rfl⟩) | (go_at_call 67; refine (in_f _ _ _ _ (by omega)).mono ?_; rintro e w' ⟨rfl, rfl⟩))
      go_ret
      exact ⟨ret_i HR.out, B1⟩
  · have HR := Lib.hid (show -1 = stepZ W T c d from (step0 hd).symm)
    have t1 : (d == 1) = false := by rw [beq_eq_false_iff_ne]; omega
    have t2 : (d == 2) = false := by rw [beq_eq_false_iff_ne]; omega
    have t3 : (d == 3) = false := by rw [beq_eq_false_iff_ne]; omega
    have t4 : (d == 4) = false := by rw [beq_eq_false_iff_ne]; omega
    clear eX eY ec hd
    go_enter Tryz.func209, Tryz.ntmps209
    go_wp2_with fail
    refine (XY.out _).mono ?_
    rintro e w1 ⟨rfl, b1⟩
    have B1 := bl_go (bl_alloc (Below.refl w.heap.size w) _) b1
    go_wp2
    go_ret
    exact ⟨ret_i HR.out, B1⟩
set_option maxHeartbeats 1000000 in
theorem l2step_any (W T : Int) (S : Value) (c d : Int) (w : World) (h1 : 1 ≤ W) (h2 : W ≤ 6) (h3 : 1 ≤ T) (h4 : T ≤ 6) (c0 : 0 ≤ c) (c1 : c < W * T) :
    Calls Tryz.prog 214 #[.agg #[.int .i64 W, .int .i64 T, S], .int .i64 c, .int .i64 d] w fun e w' => e = .returned (.int .i64 (stepZ W T c d)) ∧ Below w.heap.size w w' := by
  obtain ⟨X, Y, eX, eY, x0, x1, y0, y1, ec, m0, m1, c2⟩ := cell_xy h1 h2 h3 h4 c0 c1
  have CL := Lib.hid c1
  have B0 := bl_alloc (Below.refl w.heap.size w) (.cells #[.int .i64 W, .int .i64 T, S] 25)
  clear c1
  have TM := Lib.hid (show c.tmod W = X by rw [Int.tmod_eq_emod_of_nonneg c0]; exact eX)
  have TD := Lib.hid (show c.tdiv W = Y by rw [Int.tdiv_eq_ediv_of_nonneg c0]; exact eY)
  have E1 := Lib.hid (show IntKind.i64.wrap X = X from IntWalk.i64_in _ (by omega))
  have E2 := Lib.hid (show IntKind.i64.wrap Y = Y from IntWalk.i64_in _ (by omega))
  have E3 := Lib.hid (show IntKind.i64.wrap (W - 1) = W - 1 from IntWalk.i64_in _ (by omega))
  have E4 := Lib.hid (show IntKind.i64.wrap (T - 1) = T - 1 from IntWalk.i64_in _ (by omega))
  have w0 : ¬ (W = 0) := by omega
  rcases (show d = 1 ∨ d = 2 ∨ d = 3 ∨ d = 4 ∨ (d < 1 ∨ 4 < d) from by omega) with rfl | rfl | rfl | rfl | hd
  · have HS := Lib.hid (step1 (W := W) (T := T) (c := c))
    by_cases hx : X < W - 1
    · have HR := Lib.hid (show c + 1 = stepZ W T c 1 by rw [HS.out, eX, if_pos hx])
      have hd0 : decide (X < W - 1) = true := by simpa using hx
      clear HS ec eX eY
      go_enter Tryz.func214, Tryz.ntmps214
      go_wp2_with fail
      have t1 := TM.out
      have t2 := TD.out
      have e1 := E1.out
      have e2 := E2.out
      have e3 := E3.out
      have e4 := E4.out
      go_quiet (fail)
      clear t1 t2 e1 e2 e3 e4
      go_wp2_with fail
      go_wp2
      go_ret
      exact ⟨ret_i HR.out, by first | exact below_drewN (below_drewN B0 _) _ | exact below_drewN B0 _⟩
    · have HR := Lib.hid (show -1 = stepZ W T c 1 by rw [HS.out, eX, if_neg hx])
      have hd0 : decide (X < W - 1) = false := by simpa using hx
      clear HS ec hx eX eY
      go_enter Tryz.func214, Tryz.ntmps214
      go_wp2_with fail
      have t1 := TM.out
      have t2 := TD.out
      have e1 := E1.out
      have e2 := E2.out
      have e3 := E3.out
      have e4 := E4.out
      go_quiet (fail)
      clear t1 t2 e1 e2 e3 e4
      go_wp2_with fail
      go_quiet (fail)
      go_wp2
      go_ret
      exact ⟨ret_i HR.out, by first | exact below_drewN (below_drewN B0 _) _ | exact below_drewN B0 _⟩
  · have HS := Lib.hid (step2 (W := W) (T := T) (c := c))
    by_cases hy : Y < T - 1
    · have HR := Lib.hid (show c + W = stepZ W T c 2 by rw [HS.out, eY, if_pos hy])
      have hd0 : decide (Y < T - 1) = true := by simpa using hy
      clear HS ec eX eY
      go_enter Tryz.func214, Tryz.ntmps214
      go_wp2_with fail
      go_quiet (fail)
      go_wp2_with fail
      have t1 := TM.out
      have t2 := TD.out
      have e1 := E1.out
      have e2 := E2.out
      have e3 := E3.out
      have e4 := E4.out
      go_quiet (fail)
      clear t1 t2 e1 e2 e3 e4
      go_wp2
      go_ret
      exact ⟨ret_i HR.out, by first | exact below_drewN (below_drewN B0 _) _ | exact below_drewN B0 _⟩
    · have HR := Lib.hid (show -1 = stepZ W T c 2 by rw [HS.out, eY, if_neg hy])
      have hd0 : decide (Y < T - 1) = false := by simpa using hy
      clear HS ec hy eX eY
      go_enter Tryz.func214, Tryz.ntmps214
      go_wp2_with fail
      go_quiet (fail)
      go_wp2_with fail
      have t1 := TM.out
      have t2 := TD.out
      have e1 := E1.out
      have e2 := E2.out
      have e3 := E3.out
      have e4 := E4.out
      go_quiet (fail)
      clear t1 t2 e1 e2 e3 e4
      go_wp2
      go_ret
      exact ⟨ret_i HR.out, by first | exact below_drewN (below_drewN B0 _) _ | exact below_drewN B0 _⟩
  · have HS := Lib.hid (step3 (W := W) (T := T) (c := c))
    by_cases hx : 0 < X
    · have HR := Lib.hid (show c - 1 = stepZ W T c 3 by rw [HS.out, eX, if_pos hx])
      clear HS ec
      go_enter Tryz.func214, Tryz.ntmps214
      go_wp2_with fail
      go_quiet (fail)
      go_wp2_with fail
      go_quiet (fail)
      go_wp2
      go_ret
      exact ⟨ret_i HR.out, by first | exact below_drewN (below_drewN B0 _) _ | exact below_drewN B0 _⟩
    · have HR := Lib.hid (show -1 = stepZ W T c 3 by rw [HS.out, eX, if_neg hx])
      have hd0 : decide (0 < X) = false := by simpa using hx
      clear HS ec hx
      go_enter Tryz.func214, Tryz.ntmps214
      go_wp2_with fail
      go_quiet (fail)
      go_wp2_with fail
      go_quiet (fail)
      go_wp2
      go_ret
      exact ⟨ret_i HR.out, by first | exact below_drewN (below_drewN B0 _) _ | exact below_drewN B0 _⟩
  · have HS := Lib.hid (step4 (W := W) (T := T) (c := c))
    by_cases hy : 0 < Y
    · have HR := Lib.hid (show c - W = stepZ W T c 4 by rw [HS.out, eY, if_pos hy])
      clear HS ec
      go_enter Tryz.func214, Tryz.ntmps214
      go_wp2_with fail
      go_quiet (fail)
      go_wp2_with fail
      go_quiet (fail)
      go_wp2
      go_ret
      exact ⟨ret_i HR.out, by first | exact below_drewN (below_drewN B0 _) _ | exact below_drewN B0 _⟩
    · have HR := Lib.hid (show -1 = stepZ W T c 4 by rw [HS.out, eY, if_neg hy])
      have hd0 : decide (0 < Y) = false := by simpa using hy
      clear HS ec hy
      go_enter Tryz.func214, Tryz.ntmps214
      go_wp2_with fail
      go_quiet (fail)
      go_wp2_with fail
      go_quiet (fail)
      go_wp2
      go_ret
      exact ⟨ret_i HR.out, by first | exact below_drewN (below_drewN B0 _) _ | exact below_drewN B0 _⟩
  · have HR := Lib.hid (show -1 = stepZ W T c d from (step0 hd).symm)
    have t1 : (d == 1) = false := by rw [beq_eq_false_iff_ne]; omega
    have t2 : (d == 2) = false := by rw [beq_eq_false_iff_ne]; omega
    have t3 : (d == 3) = false := by rw [beq_eq_false_iff_ne]; omega
    have t4 : (d == 4) = false := by rw [beq_eq_false_iff_ne]; omega
    clear eX eY ec hd
    go_enter Tryz.func214, Tryz.ntmps214
    go_wp2_with fail
    go_quiet (fail)
    go_wp2_with fail
    go_quiet (fail)
    go_wp2
    go_ret
    exact ⟨ret_i HR.out, by first | exact below_drewN (below_drewN B0 _) _ | exact below_drewN B0 _⟩
end Go.Proofs.YtejkbjcmndnfeaaGreat

/- Contracts: copies of lists of truths; a region with a cell or without it. -/
namespace Go.Proofs.YtejkbjcmndnfeaaGreat
open Go.RowKit

theorem set3 {w : World} {b g o : Nat} {u0 u1 u2 v : Value} (h : w.cell? ⟨b, o, none⟩ = some v) (hb : b < g) : (((w.setCell ⟨g, 0, none⟩ u0).setCell ⟨g, 1, none⟩ u1).setCell ⟨g, 2, none⟩ u2).cell? ⟨b, o, none⟩ = some v := by
  rw [World.cell?_setCell_other _ _ _ _ (by intro e; injection e with e; omega), World.cell?_setCell_other _ _ _ _ (by intro e; injection e with e; omega), World.cell?_setCell_other _ _ _ _ (by intro e; injection e with e; omega)]; exact h
theorem al_cell {w : World} {o : Obj} {p : Addr} {v : Value} (h : w.cell? p = some v) : (w.alloc o).cell? p = some v := (World.cell?_alloc_lt w o p (World.block_lt_of_cell? w _ h)).trans h
theorem dr_cell {w : World} {p : Addr} {v : Value} (h : w.cell? p = some v) : w.drew.cell? p = some v := h
theorem kb1 {w w' : World} {p : Addr} {v : Value} (hb : Below w.drew.heap.size w.drew w') (h : w.cell? p = some v) : w'.cell? p = some v := (hb.cell (World.block_lt_of_cell? w _ h)).trans h
theorem kb2 {w w' : World} {o : Obj} {p : Addr} {v : Value} (hb : Below (w.alloc o).drew.heap.size (w.alloc o).drew w') (h : w.cell? p = some v) : w'.cell? p = some v :=
  (hb.cell (World.block_lt_of_cell? (w.alloc o) _ (al_cell h))).trans (al_cell h)
/-- a new list of truths that may be written -/
def NewWB (xs : List Bool) (w : World) (e : Ending) (w' : World) : Prop :=
  ∃ A : Option Addr, e = .returned (.slice A xs.length xs.length) ∧ Wr w' w.heap.size 4 A (xs.map .bool) ∧ Below w.heap.size w w'
set_option maxRecDepth 100000 in
set_option maxHeartbeats 1000000 in
theorem cloneB0_any (ad : Addr) (c : Nat) (bs : List Bool) (w : World) (hr : Rd w (some ad) (bs.map .bool)) (hne : bs ≠ []) (hn : bs.length ≤ 1000000) :
    Calls Tryz.prog 210 #[.slice (some ad) bs.length c] w fun e w' => ∃ (A' : Option Addr) (c' : Nat), e = .returned (.slice A' bs.length c') ∧ OwnB w' w.heap.size (.slice A' bs.length c') bs ∧ bs.length ≤ c' ∧ Below w.heap.size w w' := by
  obtain ⟨i0, hi, hz0, hz1, hz2⟩ := info_parts Tryz.infoB
  have HZ := Lib.hid (And.intro hz0 (And.intro hz1 hz2))
  have hnil : ∀ w, (binOp .eql 23 (.slice (some ad) bs.length c) (.slice none 0 0)).run Tryz.prog w = .ok (.bool false) w := fun w => Lib.run_eql_slice_nil w 23 4 _ _ _ _ _ Tryz.underlying23
  clear hz0 hz1 hz2
  have hown0 : (w.alloc (.cells #[] 4)).ownsRow w.heap.size 4 1 (.slice (some ⟨w.heap.size, 0, none⟩) 0 0) 0 [] := World.ownsRow_lit w #[] 0 (Nat.le_refl _) (by simp) (by simp)
  obtain ⟨ad', e', hcell⟩ := (hr.alloc (.cells #[] 4)) (by simpa using hne)
  have HC := Lib.hid (show ∀ j y, (bs.map Value.bool)[j]? = some y → (w.alloc (.cells #[] 4)).cell? (ad.add j) = some y from fun j y hy => by injection e' with e'; rw [e']; exact hcell j y hy)
  clear hcell e' hr
  have h0 : 0 < bs.length := List.length_pos_iff.2 hne
  go_enter Tryz.func210, Tryz.ntmps210
  go_wp2_with (at_builtin; refine wpList_append_own _ rfl _ _ 23 rfl w.heap.size 4 i0 (.bool false) 1 1 Tryz.underlying23 hi HZ.out.1 HZ.out.2.1 HZ.out.2.2 rfl (by decide) _ _ _ rfl hown0 ad bs.length c (bs.map .bool) rfl (by simp) HC.out (by intro y hy; obtain ⟨b, _, rfl⟩ := List.mem_map.1 hy; rfl) (by unfold maxLen; omega) (by omega) (by simp) ?_; intro v' w3 hown3 hg3 _)
  simp only [Nat.zero_add, List.nil_append] at hown3
  obtain ⟨g, cap, rfl, hg, hlt⟩ := hown3.form h0
  go_ret
  refine ⟨_, _, rfl, ⟨_, _, rfl, hown3⟩, ?_, ?_⟩
  · rcases hown3.2 with ⟨e, e2⟩ | ⟨g, cap, cur, e, _, _, h3, _⟩
    · omega
    · injection e with _ _ e3; omega
  · exact ((Below.refl w.heap.size w).alloc (Nat.le_refl _) _).grown hg3 (by simp) (fun k hk => by have h2 : some w.heap.size = some k := hk; injection h2 with h2; omega)
/-- a region, and whether there is one -/
def SetRet (W T : Int) (bs : List Bool) (ok : Bool) (w : World) (e : Ending) (w' : World) : Prop :=
  ∃ (A : Option Addr) (c : Nat), e = .returned (.tuple #[.agg #[.int .i64 W, .int .i64 T, .slice A bs.length c], .bool ok]) ∧ Wr w' w.heap.size 4 A (bs.map .bool) ∧ Below w.heap.size w w'
end Go.Proofs.YtejkbjcmndnfeaaGreat

/- Contract: the program's FillsAll. -/
namespace Go.Proofs.YtejkbjcmndnfeaaGreat
open Go.RowKit Go.Sort

theorem Tryz.infoSSC : (Tryz.prog.info? 26).map (fun i => (i.zero, i.size, i.bytes)) = some (some (.slice none 0 0), 1, 24) := by kernel_rfl
theorem fl_all {W T : Int} {n c0 : Nat} {bs : List Bool} {A : Option Addr} {pss : List (List Ce)} {A' : Option Addr} {c' : Nat} {AA : Option Addr} {cA bR bP bA : Nat} {w0 : World} {B F U bF bO bU bK cF cU : Nat} {Kv : Value}
    (C : FlC W T n c0 bs A pss A' c' AA cA bR bP bA w0) (hf : FldF W T bs.length) (hn : bs.length = n) (hp : ∀ k, k < pss.length → PieceOk (pss.getD k [])) (hP6 : pss.length ≤ 6)
    (hK : Kv = .func (.func 76) #[] #[.pointer (some ⟨bF, 0, none⟩), .pointer (some ⟨bR, 0, none⟩), .pointer (some ⟨bO, 0, none⟩), .pointer (some ⟨bP, 0, none⟩), .pointer (some ⟨bA, 0, none⟩), .pointer (some ⟨bU, 0, none⟩), .pointer (some ⟨bK, 0, none⟩)]) :
    ∀ m, FlOk W T bs pss bR bP bA w0 B F U bF bO bU bK n cF cU Kv m
  | 0 => fl_step C hf hn hp hP6 hK (fun m' h => by omega)
  | m + 1 => fl_step C hf hn hp hP6 hK (fun m' h => by obtain rfl : m = m' := by omega
                                                       exact fl_all C hf hn hp hP6 hK m)
theorem rdSS_of {w : World} {A : Option Addr} {xs : List Value} {pss : List (List Ce)} (hr : Rd w A xs) (h : HeadsR w xs pss) : RdSS w A pss := fun k hk => by
  have hx : k < xs.length := by rw [h.1]; exact hk
  obtain ⟨B, c', h1, h2, h3, h4⟩ := h.at_ hk hx
  obtain ⟨b, off, e, hc⟩ := hr.atE hx
  exact ⟨b, off, B, c', e, by rw [hc, h1], h2, by unfold maxLen; omega, h4⟩
theorem Rd.set_ {w : World} {A : Option Addr} {xs : List Value} (hr : Rd w A xs) {g k : Nat} {u : Value} (hA : ∀ ad, A = some ad → ad.block ≠ g) : Rd (w.setCell ⟨g, k, none⟩ u) A xs := fun hne => by
  obtain ⟨ad, e, hc⟩ := hr hne
  refine ⟨ad, e, fun j v hv => ?_⟩
  have hcj := hc j v hv
  have hz : (ad.add j).block = ad.block := by unfold Addr.add; split <;> rfl
  rw [World.cell?_of_block (Below.heap_setCell _ _ _ _ (by rw [hz]; exact hA ad e))]
  exact hcj
/-- lists of cells that lie in new blocks -/
def UpSS (N : Nat) (w : World) (A : Option Addr) (pss : List (List Ce)) : Prop :=
  ∃ xs : List Value, Rd w A xs ∧ (∀ ad, A = some ad → N ≤ ad.block) ∧ xs.length = pss.length ∧ ∀ k (h : k < pss.length), ∃ gk : Nat, xs[k]? = some (.slice (some ⟨gk, 0, none⟩) pss[k].length pss[k].length) ∧ pss[k].length ≤ 7 ∧ N ≤ gk ∧ Wr w N 89 (some ⟨gk, 0, none⟩) (cellsV pss[k])
theorem UpSS.ss {N : Nat} {w : World} {A : Option Addr} {pss : List (List Ce)} (h : UpSS N w A pss) : RdSS w A pss := fun k hk => by
  obtain ⟨xs, h1, h2, h3, h4⟩ := h
  obtain ⟨gk, e, h5, h6, h7⟩ := h4 k hk
  have hx : k < xs.length := by rw [h3]; exact hk
  obtain ⟨b, off, e2, hc⟩ := h1.atE hx
  rw [List.getElem?_eq_getElem hx] at e
  injection e with e
  exact ⟨b, off, _, _, e2, by rw [hc, e], Nat.le_refl _, by unfold maxLen; omega, h7.rd⟩
theorem UpSS.belo {N : Nat} {w w' : World} {A : Option Addr} {pss : List (List Ce)} (h : UpSS N w A pss) (hb : Below w.heap.size w w') : UpSS N w' A pss := by
  obtain ⟨xs, h1, h2, h3, h4⟩ := h
  exact ⟨xs, h1.belo hb, h2, h3, fun k hk => by obtain ⟨gk, a, b, c, d⟩ := h4 k hk; exact ⟨gk, a, b, c, d.belo hb⟩⟩
theorem UpSS.set_ {N : Nat} {w : World} {A : Option Addr} {pss : List (List Ce)} (h : UpSS N w A pss) {g k : Nat} {u : Value} (hg : g < N) : UpSS N (w.setCell ⟨g, k, none⟩ u) A pss := by
  obtain ⟨xs, h1, h2, h3, h4⟩ := h
  refine ⟨xs, h1.set_ (fun ad e => by have := h2 ad e; omega), h2, h3, fun j hj => ?_⟩
  obtain ⟨gk, a, b, c, d⟩ := h4 j hj
  refine ⟨gk, a, b, c, d.keep fun q hq _ => Below.heap_setCell _ _ _ _ ?_⟩
  injection hq with hq; injection hq with hq
  show q ≠ g
  omega
theorem UpSS.of_new {N : Nat} {w w' : World} {A : Option Addr} {xs : List Value} {F : List (List Ce)} (hr : Rd w' A xs) (hA : ∀ ad, A = some ad → w.heap.size ≤ ad.block ∧ ad.block < w'.heap.size) (hh : HeadsR w' xs F) (hf : Fresh w' w.heap.size F.length A xs F) (hN : N ≤ w.heap.size) : UpSS N w' A F :=
  ⟨xs, hr, fun ad e => by have := (hA ad e).1; omega, hh.1, fun k hk => by
    obtain ⟨gk, e, h1, -⟩ := hf k hk hk
    obtain ⟨-, -, -, -, h7, -⟩ := hh.2 k hk
    have := h1.1 _ rfl
    exact ⟨gk, e, h7, by simp only at this; omega, h1.lower hN⟩⟩
/-- the forms of the first pieces -/
def AllF (N : Nat) (w : World) (xs : List Value) (pss : List (List Ce)) (k : Nat) : Prop := ∀ i, i < k → ∃ (Bk : Option Addr) (ck : Nat), xs[i]? = some (.slice Bk (formsV (pss.getD i [])).length ck) ∧ UpSS N w Bk (formsV (pss.getD i []))
theorem AllF.belo {N : Nat} {w w' : World} {xs : List Value} {pss : List (List Ce)} {k : Nat} (h : AllF N w xs pss k) (hb : Below w.heap.size w w') : AllF N w' xs pss k := fun i hi => by
  obtain ⟨Bk, ck, h1, h2⟩ := h i hi
  exact ⟨Bk, ck, h1, h2.belo hb⟩
theorem AllF.put {N : Nat} {w : World} {xs : List Value} {pss : List (List Ce)} {k : Nat} (h : AllF N w xs pss k) (hk : k < xs.length) {g : Nat} (hg : g < N) {Bk : Option Addr} {ck : Nat} (hu : UpSS N w Bk (formsV (pss.getD k []))) :
    AllF N (w.setCell ⟨g, k, none⟩ (.slice Bk (formsV (pss.getD k [])).length ck)) (xs.set k (.slice Bk (formsV (pss.getD k [])).length ck)) pss (k + 1) := fun i hi => by
  rcases Nat.lt_or_ge i k with h1 | h1
  · obtain ⟨B, c, a, b⟩ := h i h1
    exact ⟨B, c, by rw [List.getElem?_set_ne (by omega)]; exact a, b.set_ hg⟩
  · obtain rfl : i = k := by omega
    exact ⟨Bk, ck, List.getElem?_set_self hk, hu.set_ hg⟩
def sumT (pss : List (List Ce)) (k : Nat) : Nat := ((pss.take k).map List.length).sum
theorem sumT_zero (pss : List (List Ce)) : sumT pss 0 = 0 := rfl
theorem sumT_all (pss : List (List Ce)) : sumT pss pss.length = (pss.map List.length).sum := by unfold sumT; rw [List.take_length]
theorem sum_len_snoc (pss : List (List Ce)) {k : Nat} (hk : k < pss.length) : sumT pss (k + 1) = sumT pss k + pss[k].length := by
  unfold sumT
  rw [take_one_more pss k hk, List.map_append, List.sum_append]; simp
theorem sum_len_bd {pss : List (List Ce)} (hp : ∀ k, k < pss.length → PieceOk (pss.getD k [])) : ∀ k, k ≤ pss.length → sumT pss k ≤ 5 * k := by
  intro k
  induction k with
  | zero => intro _; rw [sumT_zero]; omega
  | succ k ih =>
    intro hk
    have h1 := ih (by omega)
    have h2 := (hp k (by omega)).1.2
    rw [List.getD_eq_getElem?_getD, List.getElem?_eq_getElem (by omega)] at h2
    rw [sum_len_snoc pss (by omega)]
    simp only [Option.getD_some] at h2
    omega
/-- all fills, none of another region or other pieces -/
noncomputable def fillsW (W T : Int) (bs : List Bool) (pss : List (List Ce)) : List (List Int) := if validB W T bs = true ∧ (decide (pss.length ≤ 6) && piecesB pss) = true then fillsV W T bs pss else []
theorem fillsW_f {W T : Int} {bs : List Bool} {pss : List (List Ce)} (h : ¬ (validB W T bs = true ∧ (decide (pss.length ≤ 6) && piecesB pss) = true)) : fillsW W T bs pss = [] := by unfold fillsW; rw [if_neg h]
theorem fillsW_t {W T : Int} {bs : List Bool} {pss : List (List Ce)} (h1 : validB W T bs = true) (h2 : (decide (pss.length ≤ 6) && piecesB pss) = true) : fillsW W T bs pss = fillsV W T bs pss := by unfold fillsW; rw [if_pos ⟨h1, h2⟩]
theorem NewRI.nil {w w' : World} (hb : Below w.heap.size w w') : NewRI [] w (.returned (.slice none 0 0)) w' := ⟨none, 0, [], rfl, Nat.le_refl _, fun h => absurd rfl h, HeadsI.nil _, RowsI.nil _ _, fun _ h => (by cases h), hb⟩
theorem pieces_ok {pss : List (List Ce)} (h : (decide (pss.length ≤ 6) && piecesB pss) = true) : pss.length ≤ 6 ∧ ∀ k, k < pss.length → PieceOk (pss.getD k []) := by
  rw [Bool.and_eq_true, decide_eq_true_eq] at h
  refine ⟨h.1, fun k hk => ok_of_pieceB ?_⟩
  have h2 := h.2
  unfold piecesB at h2
  have h3 := @of_decide_eq_true _ (Classical.propDecidable _) h2
  rw [List.getD_eq_getElem?_getD, List.getElem?_eq_getElem hk]
  exact h3 _ (List.getElem_mem hk)
set_option maxRecDepth 100000 in
set_option maxHeartbeats 2000000 in
theorem iFillsAll_f (W T : Int) (A A' : Option Addr) (c c' : Nat) (bs : List Bool) (pss : List (List Ce)) (w : World) (hr : Rd w A (bs.map .bool)) (hn : bs.length ≤ maxLen) (hr' : RdSS w A' pss) (hn' : pss.length ≤ maxLen)
    (h : validB W T bs = false ∨ (decide (pss.length ≤ 6) && piecesB pss) = false) :
    Calls Tryz.prog 15 #[.agg #[.int .i64 W, .int .i64 T, .slice A bs.length c], .slice A' pss.length c'] w (NewRI [] w) := by
  have X0 := (C3.new w (.int .i64 W) (.int .i64 T) (.slice A bs.length c) 25).alloc (.cells #[.slice A' pss.length c'] 26)
  have Z0 := bl_alloc (bl_alloc (Below.refl w.heap.size w) (.cells #[.int .i64 W, .int .i64 T, .slice A bs.length c] 25)) (.cells #[.slice A' pss.length c'] 26)
  have zs : (w.alloc (.cells #[.int .i64 W, .int .i64 T, .slice A bs.length c] 25)).heap.size = w.heap.size + 1 := by simp
  have y0 : ((w.alloc (.cells #[.int .i64 W, .int .i64 T, .slice A bs.length c] 25)).alloc (.cells #[.slice A' pss.length c'] 26)).cell? ⟨w.heap.size + 1, 0, none⟩ = some (.slice A' pss.length c') := by
    rw [← zs, cell_of_row _ _ _ _ _ _ (heap_alloc_new _ _)]; rfl
  obtain ⟨x0, x1, x2⟩ := id X0
  cases hv : validB W T bs with
  | false =>
    have HV := Lib.hid hv
    clear hv h
    go_enter Tryz.func15, Tryz.ntmps15
    go_wp2_with fail
    refine (iRegionValid_any W T A c bs _ ((hr.alloc _).alloc _) hn).mono ?_
    rintro e w1 ⟨rfl, b1⟩
    rw [HV.out]
    have Z1 := bl_go Z0 b1
    go_wp2_with fail
    go_ret
    exact NewRI.nil Z1
  | true =>
    have HV := Lib.hid hv
    have hp : (decide (pss.length ≤ 6) && piecesB pss) = false := by
      rcases h with h | h
      · rw [hv] at h; cases h
      · exact h
    have HP := Lib.hid hp
    clear hv h hp
    go_enter Tryz.func15, Tryz.ntmps15
    go_wp2_with fail
    refine (iRegionValid_any W T A c bs _ ((hr.alloc _).alloc _) hn).mono ?_
    rintro e w1 ⟨rfl, b1⟩
    rw [HV.out]
    have Z1 := bl_go Z0 b1
    have R1 := hr'.belo Z1
    have y1 := cellB b1 y0
    go_wp2_with fail
    refine (iPiecesValid_any _ _ _ _ R1 hn').mono ?_
    rintro e w2 ⟨rfl, b2⟩
    rw [HP.out]
    have Z2 := bl_go Z1 b2
    go_wp2_with fail
    go_ret
    exact NewRI.nil Z2
set_option maxHeartbeats 400000 in
theorem clipLL_any (A : Option Addr) (n c : Nat) (w : World) (h : n ≤ c) :
    Calls Tryz.prog 79 #[.slice A n c] w fun e w' => e = .returned (.slice A n n) ∧ w = w' := by
  go_enter Tryz.func79, Tryz.ntmps79
  go_wp2
  go_ret
  exact ⟨rfl, rfl⟩
set_option maxRecDepth 100000 in
set_option maxHeartbeats 8000000 in
theorem iFillsAll_t (W T : Int) (A A' : Option Addr) (c c' : Nat) (bs : List Bool) (pss : List (List Ce)) (w : World) (hr : Rd w A (bs.map .bool)) (hn : bs.length ≤ maxLen) (hr' : RdSS w A' pss) (hn' : pss.length ≤ maxLen)
    (hv : validB W T bs = true) (hp : (decide (pss.length ≤ 6) && piecesB pss) = true) :
    Calls Tryz.prog 15 #[.agg #[.int .i64 W, .int .i64 T, .slice A bs.length c], .slice A' pss.length c'] w (NewRI (fillsV W T bs pss) w) := by
  obtain ⟨P6, hok⟩ := pieces_ok hp
  have HOK := Lib.hid hok
  have HSB := Lib.hid (sum_len_bd hok)
  have X0 := (C3.new w (.int .i64 W) (.int .i64 T) (.slice A bs.length c) 25).alloc (.cells #[.slice A' pss.length c'] 26)
  have Z0 := bl_alloc (bl_alloc (Below.refl w.heap.size w) (.cells #[.int .i64 W, .int .i64 T, .slice A bs.length c] 25)) (.cells #[.slice A' pss.length c'] 26)
  have zs : (w.alloc (.cells #[.int .i64 W, .int .i64 T, .slice A bs.length c] 25)).heap.size = w.heap.size + 1 := by simp
  have y0 : ((w.alloc (.cells #[.int .i64 W, .int .i64 T, .slice A bs.length c] 25)).alloc (.cells #[.slice A' pss.length c'] 26)).cell? ⟨w.heap.size + 1, 0, none⟩ = some (.slice A' pss.length c') := by
    rw [← zs, cell_of_row _ _ _ _ _ _ (heap_alloc_new _ _)]; rfl
  obtain ⟨x0, x1, x2⟩ := id X0
  have HV := Lib.hid hv
  have HP := Lib.hid hp
  obtain ⟨⟨q1, q6⟩, ⟨t1, t6⟩, hlen, -⟩ := validB_iff.1 hv
  have n36 : bs.length ≤ 36 := by have := mul_bd q1 q6 t1 t6; omega
  have HLEN := Lib.hid hlen
  obtain ⟨i0, hi, hz0, hz1, hz2⟩ := info_parts Tryz.infoSSC
  have hb1 : i0.bytes * pss.length ≤ 281474976710656 := by rw [hz2]; omega
  have HZ := Lib.hid (And.intro hz0 (And.intro hz1 hz2))
  clear hv hp hlen hz0 hz1 hz2 hok zs
  go_enter Tryz.func15, Tryz.ntmps15
  go_wp2_with fail
  refine (iRegionValid_any W T A c bs _ ((hr.alloc _).alloc _) hn).mono ?_
  rintro e w1 ⟨rfl, b1⟩
  rw [HV.out]
  have Z1 := bl_go Z0 b1
  have R1 := hr'.belo Z1
  have y1 := cellB b1 y0
  have X1 := X0.belo b1
  clear x0 x1 x2 X0 y0 b1 Z0
  go_wp2_with fail
  refine (iPiecesValid_any _ _ _ _ R1 hn').mono ?_
  rintro e w2 ⟨rfl, b2⟩
  rw [HP.out]
  have Z2 := bl_go Z1 b2
  have X2 := X1.belo b2
  have y2 := cellB b2 y1
  have r2' := hr'.belo Z2
  have r2 := hr.belo Z2
  clear X1 y1 R1 Z1 b2 hr hr'
  go_wp2_with (at_make; refine wpList_make_full _ rfl _ _ 92 rfl w2.heap.size 26 i0 (.slice none 0 0) 1 Tryz.underlying92 hi HZ.out.1 HZ.out.2.1 .i64 .i64 _ _ pss.length rfl rfl rfl rfl hb1 (by unfold maxLen; omega) (Nat.le_refl _) ?_; intro w3 hown3 hgrow3; have y3 := cellB ((Below.refl w2.heap.size w2).grown hgrow3 (Nat.le_refl _) (fun k hk => by cases hk)) y2; have hy3 := World.block_lt_of_cell? w3 _ y3; simp only at hy3)
  have Wg := (Wr.of_own hown3).belo (bl_alloc (Below.refl w3.heap.size w3) (.cells #[.slice (some ⟨w2.heap.size, 0, none⟩) pss.length pss.length] 92))
  have B3 : Below w2.heap.size w2 (w3.alloc (.cells #[.slice (some ⟨w2.heap.size, 0, none⟩) pss.length pss.length] 92)) := bl_alloc ((Below.refl w2.heap.size w2).grown hgrow3 (Nat.le_refl _) (fun k hk => by cases hk)) _
  have cA3 : (w3.alloc (.cells #[.slice (some ⟨w2.heap.size, 0, none⟩) pss.length pss.length] 92)).cell? ⟨w3.heap.size, 0, none⟩ = some (.slice (some ⟨w2.heap.size, 0, none⟩) pss.length pss.length) := by
    rw [cell_of_row _ _ _ _ _ _ (heap_alloc_new _ _)]; rfl
  have hz3 : w2.heap.size ≤ w3.heap.size := hgrow3.size
  have hmade : (madeCells (Value.slice none 0 0).cells (pss.length * 1)).toList.length = pss.length := by have := hown3.1; omega
  have hGb : pss.length = 0 ∨ w2.heap.size < w3.heap.size := by
    rcases Nat.eq_zero_or_pos pss.length with h | h
    · exact .inl h
    · exact .inr (hown3.lt w2.heap.size rfl).2
  generalize (madeCells (Value.slice none 0 0).cells (pss.length * 1)).toList = xs0 at *
  have hzb : (w3.alloc (.cells #[.slice (some ⟨w2.heap.size, 0, none⟩) pss.length pss.length] 92)).heap.size = w3.heap.size + 1 := by simp
  obtain ⟨N, hN⟩ : ∃ N, w3.heap.size = N := ⟨_, rfl⟩
  rw [hN] at cA3 hzb hz3 hGb
  clear hown3 hgrow3 y3 hy3
  generalize hwb : w3.alloc (.cells #[.slice (some ⟨w2.heap.size, 0, none⟩) pss.length pss.length] 92) = wb at *
  simp only [hN]
  clear hwb hN
  go_loopw [6, 26] (fun s i wr => LpF (fun k => k ≤ pss.length ∧ s = .int .i64 ((sumT pss k : Nat) : Int) ∧ ∃ xs, Hid (xs.length = pss.length) ∧ Wr wr w2.heap.size 26 (some ⟨w2.heap.size, 0, none⟩) xs ∧ AllF (N + 1) wr xs pss k ∧ wr.cell? ⟨N, 0, none⟩ = some (.slice (some ⟨w2.heap.size, 0, none⟩) pss.length pss.length) ∧ Below w2.heap.size w2 wr ∧ N + 1 ≤ wr.heap.size) i) (fun _ i _ => pss.length - (intOf i).toNat)
  case atStart => exact ⟨0, rfl, Nat.zero_le _, rfl, xs0, hmade, Wg, fun i hi => by omega, cA3, B3, by omega⟩
  case round =>
    clear hmade Wg B3 cA3 hzb
    obtain ⟨k, rfl, hk, rfl, xs, HX, Wx, FX, cA, BX, hN⟩ := hrel
    have X4 := X2.belo BX
    have y4 := cellB BX y2
    have r4' := r2'.belo BX
    have hsb := HSB.out k hk
    by_cases hlt : k < pss.length
    · obtain ⟨b, off, Ak, ck, e, h1, h2, h3, h4⟩ := r4' k hlt
      subst e
      have HPK := Lib.hid (show pss.getD k [] = pss[k] by rw [List.getD_eq_getElem?_getD, List.getElem?_eq_getElem hlt]; rfl)
      have hpk := HOK.out k hlt
      have HSN := Lib.hid (sum_len_snoc pss hlt)
      obtain ⟨ps, hps⟩ : ∃ ps, pss[k] = ps := ⟨_, rfl⟩
      rw [hps] at h1 h2 h3 h4 HPK HSN
      rw [HPK.out] at hpk
      clear hps
      have hl5 := hpk.1.2
      have kI : (k : Int) < (pss.length : Int) := by omega
      have CF := Lib.hid (fun (z : World) (R : RdC z Ak ps) => forms_any Ak ck ps z R hpk)
      have hkx : k < xs.length := by rw [HX.out]; exact hlt
      have hne : xs ≠ [] := by intro e; rw [e] at hkx; simp at hkx
      obtain ⟨g0, e0, -, hg0, hfr⟩ := Wx.form hne
      injection e0 with e0
      injection e0 with e0
      subst e0
      have hNg : ¬ (N = w2.heap.size) := by omega
      have cx := Wx.rd.cellE hkx
      simp only [Nat.zero_add] at cx
      obtain ⟨ov, hov⟩ : ∃ ov, wr.cell? ⟨w2.heap.size, k, none⟩ = some ov := ⟨_, cx⟩
      have hfk := hfr k
      have HNE := Lib.hid hne
      clear cx hfr hne hpk
      go_wp2_with fail
      go_region_held3 (fun w' => w'.cell? ⟨N, 0, none⟩ = some (.slice (some ⟨w2.heap.size, 0, none⟩) pss.length pss.length))
        (first | (with_reducible exact cA) | (with_reducible exact dr_cell cA) | (with_reducible exact y5) | (with_reducible exact cellS hNg y5) | go_keep)
        ((go_at_call 73; refine (CF.out wr.drew h4).mono ?_; rintro e w5 ⟨Bk, xk, rfl, Rk, Ok, Hk, Fk, b5⟩; have b5' : Below wr.heap.size wr w5 := bl_go (Below.refl wr.heap.size wr).drew b5; have y5 := kb1 b5 cA; have c5 := kb1 b5 hov; have q5 := Wx.belo b5'; have fr5 : w5.frozen? ⟨w2.heap.size, k, none⟩ = false := by (obtain ⟨g', e', -, -, h'⟩ := q5.form HNE.out; injection e' with e'; injection e' with e' _ _; rw [e']; exact h' k)))
      have U5 : UpSS (N + 1) w5 Bk (formsV ps) := UpSS.of_new (w := wr.drew) Rk Ok Hk Fk hN
      have F6 := (FX.belo b5').put (ck := (formsV ps).length) hkx (show w2.heap.size < N + 1 by omega) (by rw [HPK.out]; exact U5)
      rw [HPK.out] at F6
      have B6 := (bl_go BX b5').setCell (p := ⟨w2.heap.size, k, none⟩) (Nat.le_refl _) (.slice Bk (formsV ps).length (formsV ps).length)
      have hs5 := b5'.size
      have hl5s := HSN.out
      have W6 := q5.store k (.slice Bk (formsV ps).length (formsV ps).length)
      have cA6 : (w5.setCell ⟨w2.heap.size, k, none⟩ (.slice Bk (formsV ps).length (formsV ps).length)).cell? ⟨N, 0, none⟩ = some (.slice (some ⟨w2.heap.size, 0, none⟩) pss.length pss.length) := cellS hNg y5
      go_wp2_with fail
      go_roundw
      case rel => exact ⟨k + 1, by go_num, by omega, by rw [HSN.out, Int.natCast_add], _, by show _ = _; rw [List.length_set, HX.out], W6, F6, cA6, B6, by simp; omega⟩
      case measure => simp [intOf]; omega
    · obtain rfl : k = pss.length := by omega
      have HCNT := Lib.hid (fun (z : World) (R : Rd z A (bs.map .bool)) => many_any A c bs z R hn)
      have rX := r2.belo BX
      obtain ⟨x0, x1, x2⟩ := id X4
      go_wp2_with fail
      refine (HCNT.out _ rX).mono ?_
      rintro e w6 ⟨rfl, rfl⟩
      by_cases hsum : ((sumT pss pss.length : Nat) : Int) = cnt bs
      · have HSUM := Lib.hid (show (((pss.map List.length).sum : Nat) : Int) = cnt bs by rw [← sumT_all]; exact hsum)
        have hq : (((sumT pss pss.length : Nat) : Int) == cnt bs) = true := by rw [beq_iff_eq]; exact hsum
        have n1 : 1 ≤ bs.length := by
          have h1 := Int.mul_le_mul q1 t1 (by omega) (by omega)
          have := HLEN.out
          omega
        obtain ⟨hS, hS2⟩ : ∃ s, sumT pss pss.length = s := ⟨_, rfl⟩
        have CREP := Lib.hid (fun (z : World) (A : Option Addr) (c : Nat) (R : Rd z A [.int .i64 (-1)]) => repeat_one A c (-1) bs.length n1 (by omega) z R)
        have R1 : Rd (wr.alloc (.cells #[.int .i64 (-1)] 3)) (some ⟨wr.heap.size, 0, none⟩) [.int .i64 (-1)] := fun _ => ⟨_, rfl, one_atL _ _ _⟩
        have hx9 := World.block_lt_of_cell? wr _ x2
        simp only at hx9
        clear hsum HCNT HSB hsb
        go_wp2_with fail
        refine (CREP.out _ _ _ R1).mono ?_
        rintro e w7 ⟨A7, rfl, W7, b7⟩
        simp only [List.length_replicate]
        have b7' : Below wr.heap.size wr w7 := (bl_alloc (Below.refl wr.heap.size wr) (.cells #[.int .i64 (-1)] 3)).trans (b7.mono (by simp))
        obtain ⟨F, rfl, hF1, hF2, -⟩ := W7.form (by intro e; have h2 := congrArg List.length e; rw [List.length_map, List.length_replicate, List.length_nil] at h2; omega)
        have hF1' : wr.heap.size < F := by have h := hF1; simp at h; omega
        have y7 := cellB b7' y4
        have hy7 := World.block_lt_of_cell? w7 _ y7
        simp only at hy7
        obtain ⟨ib, hib, hbz0, hbz1, hbz2⟩ := info_parts Tryz.infoB
        have hbb : ib.bytes * pss.length ≤ 281474976710656 := by rw [hbz2]; omega
        have HBZ := Lib.hid (And.intro hbz0 (And.intro hbz1 hbz2))
        clear hbz0 hbz1 hbz2 CREP R1
        go_wp2_with (at_make; refine wpList_make_full _ rfl _ _ 23 rfl (w7.heap.size + 1) 4 ib (.bool false) 1 Tryz.underlying23 hib HBZ.out.1 HBZ.out.2.1 .i64 .i64 _ _ pss.length rfl rfl rfl rfl hbb (by unfold maxLen; omega) (by simp) ?_; intro w8 hown8 hgrow8)
        rw [show (w7.alloc (.cells #[.slice (some ⟨F, 0, none⟩) bs.length bs.length] 27)).heap.size = w7.heap.size + 1 by simp] at hown8
        have hU8 : w7.heap.size + 1 < w8.heap.size := (hown8.lt (w7.heap.size + 1) rfl).2
        have W8 := Wr.of_own hown8
        rw [show (Value.bool false).cells = #[.bool false] from rfl, toList_madeCells_one, show List.replicate (pss.length * 1) (Value.bool false) = (used0 pss.length).map .bool by unfold used0; simp] at W8
        have b8 : Below w7.heap.size w7 w8 := (bl_alloc (Below.refl w7.heap.size w7) (.cells #[.slice (some ⟨F, 0, none⟩) bs.length bs.length] 27)).grown hgrow8 (by simp) (fun k hk => by cases hk)
        have cF8 : w8.cell? ⟨w7.heap.size, 0, none⟩ = some (.slice (some ⟨F, 0, none⟩) bs.length bs.length) :=
          cellH (hgrow8.block w7.heap.size (by simp) (fun e => by cases e)) (by rw [cell_of_row _ _ _ _ _ _ (heap_alloc_new w7 _)]; rfl)
        have bW1 := bl_alloc (Below.refl w8.heap.size w8) (.cells #[.slice (some ⟨w7.heap.size + 1, 0, none⟩) pss.length pss.length] 23)
        have bW2 := bl_alloc bW1 (.cells #[.slice none 0 0] 33)
        have bW : Below w8.heap.size w8 (((w8.alloc (.cells #[.slice (some ⟨w7.heap.size + 1, 0, none⟩) pss.length pss.length] 23)).alloc (.cells #[.slice none 0 0] 33)).alloc (.cells #[.func (.func 76) #[] #[.pointer (some ⟨w7.heap.size, 0, none⟩), .pointer (some ⟨w.heap.size, 0, none⟩), .pointer (some ⟨w8.heap.size + 1, 0, none⟩), .pointer (some ⟨w.heap.size + 1, 0, none⟩), .pointer (some ⟨N, 0, none⟩), .pointer (some ⟨w8.heap.size, 0, none⟩), .pointer (some ⟨w8.heap.size + 1 + 1, 0, none⟩)]] 1)) := bl_alloc bW2 _
        have zW1 : (w8.alloc (.cells #[.slice (some ⟨w7.heap.size + 1, 0, none⟩) pss.length pss.length] 23)).heap.size = w8.heap.size + 1 := by simp
        have zW2 : ((w8.alloc (.cells #[.slice (some ⟨w7.heap.size + 1, 0, none⟩) pss.length pss.length] 23)).alloc (.cells #[.slice none 0 0] 33)).heap.size = w8.heap.size + 1 + 1 := by simp
        have zW : ((((w8.alloc (.cells #[.slice (some ⟨w7.heap.size + 1, 0, none⟩) pss.length pss.length] 23)).alloc (.cells #[.slice none 0 0] 33)).alloc (.cells #[.func (.func 76) #[] #[.pointer (some ⟨w7.heap.size, 0, none⟩), .pointer (some ⟨w.heap.size, 0, none⟩), .pointer (some ⟨w8.heap.size + 1, 0, none⟩), .pointer (some ⟨w.heap.size + 1, 0, none⟩), .pointer (some ⟨N, 0, none⟩), .pointer (some ⟨w8.heap.size, 0, none⟩), .pointer (some ⟨w8.heap.size + 1 + 1, 0, none⟩)]] 1))).heap.size = w8.heap.size + 1 + 1 + 1 := by simp
        have cU : ((((w8.alloc (.cells #[.slice (some ⟨w7.heap.size + 1, 0, none⟩) pss.length pss.length] 23)).alloc (.cells #[.slice none 0 0] 33)).alloc (.cells #[.func (.func 76) #[] #[.pointer (some ⟨w7.heap.size, 0, none⟩), .pointer (some ⟨w.heap.size, 0, none⟩), .pointer (some ⟨w8.heap.size + 1, 0, none⟩), .pointer (some ⟨w.heap.size + 1, 0, none⟩), .pointer (some ⟨N, 0, none⟩), .pointer (some ⟨w8.heap.size, 0, none⟩), .pointer (some ⟨w8.heap.size + 1 + 1, 0, none⟩)]] 1))).cell? ⟨w8.heap.size, 0, none⟩ = some (.slice (some ⟨w7.heap.size + 1, 0, none⟩) pss.length pss.length) := by
          rw [World.cell?_alloc_old _ _ _ (by rw [zW2]; simp only; omega), World.cell?_alloc_old _ _ _ (by rw [zW1]; simp only; omega), cell_of_row _ _ _ _ _ _ (heap_alloc_new w8 _)]; rfl
        have oO : ((((w8.alloc (.cells #[.slice (some ⟨w7.heap.size + 1, 0, none⟩) pss.length pss.length] 23)).alloc (.cells #[.slice none 0 0] 33)).alloc (.cells #[.func (.func 76) #[] #[.pointer (some ⟨w7.heap.size, 0, none⟩), .pointer (some ⟨w.heap.size, 0, none⟩), .pointer (some ⟨w8.heap.size + 1, 0, none⟩), .pointer (some ⟨w.heap.size + 1, 0, none⟩), .pointer (some ⟨N, 0, none⟩), .pointer (some ⟨w8.heap.size, 0, none⟩), .pointer (some ⟨w8.heap.size + 1 + 1, 0, none⟩)]] 1))).heap[w8.heap.size + 1]? = some (.cells #[.slice none 0 0] 33 (0, 0)) := by
          have h := heap_alloc_new (w8.alloc (.cells #[.slice (some ⟨w7.heap.size + 1, 0, none⟩) pss.length pss.length] 23)) (.cells #[.slice none 0 0] 33)
          rw [zW1] at h
          rw [← h]
          exact (bl_alloc (Below.refl _ _) _).block _ (by rw [zW2]; omega)
        have cK : ((((w8.alloc (.cells #[.slice (some ⟨w7.heap.size + 1, 0, none⟩) pss.length pss.length] 23)).alloc (.cells #[.slice none 0 0] 33)).alloc (.cells #[.func (.func 76) #[] #[.pointer (some ⟨w7.heap.size, 0, none⟩), .pointer (some ⟨w.heap.size, 0, none⟩), .pointer (some ⟨w8.heap.size + 1, 0, none⟩), .pointer (some ⟨w.heap.size + 1, 0, none⟩), .pointer (some ⟨N, 0, none⟩), .pointer (some ⟨w8.heap.size, 0, none⟩), .pointer (some ⟨w8.heap.size + 1 + 1, 0, none⟩)]] 1))).cell? ⟨w8.heap.size + 1 + 1, 0, none⟩ = some (.func (.func 76) #[] #[.pointer (some ⟨w7.heap.size, 0, none⟩), .pointer (some ⟨w.heap.size, 0, none⟩), .pointer (some ⟨w8.heap.size + 1, 0, none⟩), .pointer (some ⟨w.heap.size + 1, 0, none⟩), .pointer (some ⟨N, 0, none⟩), .pointer (some ⟨w8.heap.size, 0, none⟩), .pointer (some ⟨w8.heap.size + 1 + 1, 0, none⟩)]) := by
          rw [← zW2, cell_of_row _ _ _ _ _ _ (heap_alloc_new _ _)]; rfl
        have b7z := b7'.size
        have b78 : Below wr.heap.size wr (((w8.alloc (.cells #[.slice (some ⟨w7.heap.size + 1, 0, none⟩) pss.length pss.length] 23)).alloc (.cells #[.slice none 0 0] 33)).alloc (.cells #[.func (.func 76) #[] #[.pointer (some ⟨w7.heap.size, 0, none⟩), .pointer (some ⟨w.heap.size, 0, none⟩), .pointer (some ⟨w8.heap.size + 1, 0, none⟩), .pointer (some ⟨w.heap.size + 1, 0, none⟩), .pointer (some ⟨N, 0, none⟩), .pointer (some ⟨w8.heap.size, 0, none⟩), .pointer (some ⟨w8.heap.size + 1 + 1, 0, none⟩)]] 1)) := bl_go (bl_go b7' b8) bW
        have WF := ((W7.belo b8).belo bW).lower (show wr.heap.size ≤ (wr.alloc (.cells #[.int .i64 (-1)] 3)).heap.size by simp)
        have WU := (W8.belo bW).lower (show wr.heap.size ≤ w7.heap.size + 1 by omega)
        have Fl0 : FlSt wr (w8.heap.size + 1 + 1 + 1) F (w7.heap.size + 1) w7.heap.size (w8.heap.size + 1) w8.heap.size (w8.heap.size + 1 + 1) bs.length pss.length bs.length pss.length (.func (.func 76) #[] #[.pointer (some ⟨w7.heap.size, 0, none⟩), .pointer (some ⟨w.heap.size, 0, none⟩), .pointer (some ⟨w8.heap.size + 1, 0, none⟩), .pointer (some ⟨w.heap.size + 1, 0, none⟩), .pointer (some ⟨N, 0, none⟩), .pointer (some ⟨w8.heap.size, 0, none⟩), .pointer (some ⟨w8.heap.size + 1 + 1, 0, none⟩)]) (fill0 bs.length) (used0 pss.length) (.slice none 0 0) [] [] (((w8.alloc (.cells #[.slice (some ⟨w7.heap.size + 1, 0, none⟩) pss.length pss.length] 23)).alloc (.cells #[.slice none 0 0] 33)).alloc (.cells #[.func (.func 76) #[] #[.pointer (some ⟨w7.heap.size, 0, none⟩), .pointer (some ⟨w.heap.size, 0, none⟩), .pointer (some ⟨w8.heap.size + 1, 0, none⟩), .pointer (some ⟨w.heap.size + 1, 0, none⟩), .pointer (some ⟨N, 0, none⟩), .pointer (some ⟨w8.heap.size, 0, none⟩), .pointer (some ⟨w8.heap.size + 1 + 1, 0, none⟩)]] 1)) :=
          ⟨b78, cellB bW cF8, cU, cK, WF, WU, oO, GrL.nil _ _, fun _ h => absurd h AtL.nil, RowsI.nil _ _, by rw [zW]; exact Nat.le_refl _, by unfold FlD; omega⟩
        have FC : FlC W T bs.length c bs A pss A' c' (some ⟨w2.heap.size, 0, none⟩) pss.length w.heap.size (w.heap.size + 1) N wr :=
          ⟨X4, rX, y4, cA, fun k hk => by
            obtain ⟨Bk, ck, h1, h2⟩ := FX k hk
            obtain ⟨hxk, h1⟩ := List.getElem?_eq_some_iff.1 h1
            have h3 := Wx.rd.cellE hxk
            rw [Nat.zero_add, h1] at h3
            exact ⟨w2.heap.size, 0, Bk, ck, rfl, by rw [Nat.zero_add]; exact h3, h2.ss⟩⟩
        have HCL := Lib.hid (fl_all FC ⟨q1, q6, t1, t6, HLEN.out⟩ rfl HOK.out P6 rfl pss.length _ _ _ _ _ _ Fl0 (st_0 bs pss.length) (by rw [unN_0]; exact Nat.le_refl _) (by have := fills_max W T bs pss false P6 P6 (fill0 bs.length) (used0 pss.length); simp; omega))
        have HV2 := Lib.hid (fillsV_chk (W := W) (T := T) (bs := bs) (pss := pss) ⟨q1, q6, t1, t6, HLEN.out⟩ HOK.out HSUM.out)
        have ZZ := bl_go (bl_go Z2 BX) b78
        refine HCL.out.mono ?_
        rintro e w9 ⟨rfl, v9, xs9, S9, T9⟩
        rw [List.nil_append, HV2.out] at S9
        obtain ⟨xo9, -⟩ := boxF S9.out
        obtain ⟨A9, c9, rfl, hc9, -, -⟩ := S9.gr.form
        obtain ⟨A9', c9', e9, own9⟩ := id S9.gr.own
        have hl9 := S9.gr.hd.1
        injection e9 with e9 e9b e9c
        subst e9
        subst e9c
        rw [hl9] at own9
        have RD9 : Rd w9 A9 xs9 := Rd.own own9
        have HRES := Lib.hid (show NewRI (fillsV W T bs pss) w (.returned (.slice A9 (fillsV W T bs pss).length (fillsV W T bs pss).length)) w9 from by
          refine ⟨A9, _, xs9, rfl, Nat.le_refl _, RD9, S9.gr.hd, S9.row.lower (by have := X4.lt; omega), fun ad ha => ?_, bl_go (bl_go Z2 BX) S9.ok⟩
          have h1 := S9.gr.own.lt ad.block (by rw [ha]; rfl)
          refine ⟨by have := X4.lt; omega, h1.2, fun h => (S9.gr.pt _ h).2 (by rw [ha]; rfl)⟩)
        clear S9 T9 own9 RD9 hl9 ZZ HCL e9b Fl0 FC WF WU b78 cU oO cK zW zW1 zW2 bW bW1 bW2 cF8 b8 W8 hown8 hgrow8 hU8 b7z y7 hy7 W7 b7 b7' x0 x1 x2 X4 y4 r4' cA Wx FX rX
        go_wp2_with (go_at_call 79; refine (clipLL_any _ _ _ _ hc9).mono ?_; rintro e w' ⟨rfl, rfl⟩)
        go_ret
        exact HRES.out
      · have HNO := Lib.hid (fillsV_none (W := W) (T := T) (bs := bs) (pss := pss) ⟨q1, q6, t1, t6, HLEN.out⟩ (by rw [← sumT_all]; exact hsum))
        have hq : (((sumT pss pss.length : Nat) : Int) == cnt bs) = false := by rw [beq_eq_false_iff_ne]; exact hsum
        go_wp2_with fail
        go_ret
        rw [HNO.out]
        exact NewRI.nil (bl_go Z2 BX)
theorem iFillsAll_any (W T : Int) (A A' : Option Addr) (c c' : Nat) (bs : List Bool) (pss : List (List Ce)) (w : World) (hr : Rd w A (bs.map .bool)) (hn : bs.length ≤ maxLen) (hr' : RdSS w A' pss) (hn' : pss.length ≤ maxLen) :
    Calls Tryz.prog 15 #[.agg #[.int .i64 W, .int .i64 T, .slice A bs.length c], .slice A' pss.length c'] w (NewRI (fillsW W T bs pss) w) := by
  cases h1 : validB W T bs with
  | false =>
    rw [fillsW_f (fun h => by rw [h1] at h; cases h.1)]
    exact iFillsAll_f W T A A' c c' bs pss w hr hn hr' hn' (.inl h1)
  | true =>
    cases h2 : (decide (pss.length ≤ 6) && piecesB pss) with
    | false =>
      rw [fillsW_f (fun h => by rw [h2] at h; cases h.2)]
      exact iFillsAll_f W T A A' c c' bs pss w hr hn hr' hn' (.inr h2)
    | true =>
      rw [fillsW_t h1 h2]
      exact iFillsAll_t W T A A' c c' bs pss w hr hn hr' hn' h1 h2
end Go.Proofs.YtejkbjcmndnfeaaGreat

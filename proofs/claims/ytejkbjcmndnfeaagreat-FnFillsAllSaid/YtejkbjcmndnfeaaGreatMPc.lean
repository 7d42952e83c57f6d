
/- FnFillsAll: joined from FlsS, FlsT, PiecesL, FillsD, TilI, TilC, TilM, LFillsAll. -/
import Derived.Test.YtejkbjcmndnfeaaGreatMOa
import Derived.Test.YtejkbjcmndnfeaaGreatFormU
import Derived.Test.YtejkbjcmndnfeaaGreatMarkSS
import Derived.Deep.RegionHeld3
import Derived.Test.YtejkbjcmndnfeaaGreatMemE
import Derived.Test.YtejkbjcmndnfeaaGreatSet
import Derived.Test.YtejkbjcmndnfeaaGreatStep
import Derived.Test.YtejkbjcmndnfeaaGreatGb
import Derived.Maps.OwnOps
import Derived.Maps.OwnSet
import Derived.Laws.IdiomStrings
import Derived.Test.YtejkbjcmndnfeaaGreatDark
import Derived.Laws.EntriesVeiled
import Derived.Test.YtejkbjcmndnfeaaGreatMOb
import Derived.Test.YtejkbjcmndnfeaaGreatAlive
/- Contract: the reference's search for fills. -/
namespace Go.Proofs.YtejkbjcmndnfeaaGreat
open Go.RowKit Go.Sort

/-- the search from some on is right -/
def FsOk (W T : Int) (n c c' : Nat) (bs : List Bool) (pss : List (List Ce)) (A A' : Option Addr) (m : Nat) : Prop :=
  ∀ (w : World) (Af : Option Addr) (cf u : Nat) (fill : List Int) (used : List Bool), Rd w A (bs.map .bool) → RdSS w A' pss → Rd w Af (fill.map (.int .i64)) → n ≤ cf → StF bs pss.length fill used → unN used ≤ m → u = mskN used →
    Calls Tryz.prog 82 #[.agg #[.int .i64 W, .int .i64 T, .slice A n c], .slice A' pss.length c', .slice Af n cf, .int .i64 u] w (FsR (fillsN W T bs pss true m fill used) Af w)
set_option maxRecDepth 100000 in
set_option maxHeartbeats 8000000 in
theorem fs_step {W T : Int} {n c c' : Nat} {bs : List Bool} {pss : List (List Ce)} {A A' : Option Addr} {m : Nat} (hf : FldF W T bs.length) (hn : bs.length = n) (hp : ∀ k, k < pss.length → PieceOk (pss.getD k [])) (hP6 : pss.length ≤ 6) (hm6 : m ≤ 6)
    (IH : ∀ m', m = m' + 1 → FsOk W T n c c' bs pss A A' m') : FsOk W T n c c' bs pss A A' m := by
  intro w Af cf u fill used hr hr' hrF hcf St hu hm
  have n36 : n ≤ 36 := by have := hf.bd; omega
  have n1 : 1 ≤ n := by
    have h1 := Int.mul_le_mul hf.w1 hf.t1 (by omega) (by have := hf.w1; omega)
    have := hf.len
    omega
  have X0 := C3.new w (.int .i64 W) (.int .i64 T) (.slice A n c) 25
  have B0 := bl_alloc (Below.refl w.heap.size w) (.cells #[.int .i64 W, .int .i64 T, .slice A n c] 25)
  have zs : (w.alloc (.cells #[.int .i64 W, .int .i64 T, .slice A n c] 25)).heap.size = w.heap.size + 1 := by simp
  obtain ⟨W0, hW0⟩ : ∃ W0, w.alloc (.cells #[.int .i64 W, .int .i64 T, .slice A n c] 25) = W0 := ⟨_, rfl⟩
  rw [hW0] at X0 B0 zs
  have hown0 : (W0.alloc (.cells #[] 27)).ownsRow W0.heap.size 27 1 (.slice (some ⟨W0.heap.size, 0, none⟩) 0 0) 0 [] := World.ownsRow_lit _ #[] 0 (Nat.le_refl _) (by unfold maxLen; omega) (by simp)
  have B1 := bl_alloc (Below.refl W0.heap.size W0) (.cells #[] 27)
  have hu63 : u ≤ 63 := by
    have h1 := mskN_lt used
    rw [St.ulen] at h1
    have h2 : 2 ^ pss.length ≤ 2 ^ 6 := Nat.pow_le_pow_right (by omega) hP6
    rw [hm]; omega
  have O1 : OutF W0 Af (.slice (some ⟨W0.heap.size, 0, none⟩) 0 0) [] [] (W0.alloc (.cells #[] 27)) :=
    ⟨⟨⟨_, _, rfl, hown0⟩, HeadsI.nil _, fun _ h => absurd h AtL.nil⟩, fun _ h => absurd h AtL.nil, B1⟩
  have hmx := fills_max W T bs pss true hP6 hm6
  have HN := Lib.hid hn
  have HFL := Lib.hid (show fill.length = n by rw [St.len, hn])
  have HIH := Lib.hid IH
  have HU := Lib.hid hu
  have HST := Lib.hid St
  have HF := Lib.hid hf
  have HP := Lib.hid hp
  have HM := Lib.hid hm
  have HMX := Lib.hid (show (fillsN W T bs pss true m fill used).length ≤ 900000000000 by have := hmx fill used; omega)
  clear hn IH hu hp hown0 hm hmx
  have hrW := hr.belo B0
  have hrW' := hr'.belo B0
  have hrFW := hrF.belo B0
  have hAf := hrF
  have HAF := Lib.hid (fun ad (e : Af = some ad) => show ad.block < w.heap.size from hrF.lt e (by intro e2; have := congrArg List.length e2; rw [List.length_map, HFL.out] at this; simp at this; omega))
  have HZS := Lib.hid zs
  have HB0 := Lib.hid B0
  clear hr hr' hrF zs B0
  go_enter Tryz.func82, Tryz.ntmps82
  go_wp2_with fail
  clear hW0
  obtain ⟨W1, hW1⟩ : ∃ W1, W0.alloc (.cells #[] 27) = W1 := ⟨_, rfl⟩
  rw [hW1] at O1 B1 ⊢
  clear hW1
  have hrF1 := hrFW.belo B1
  have hr1 := hrW.belo B1
  obtain ⟨r0, r1, r2⟩ := X0.belo B1
  go_loop [10] (fun v => ∃ k : Nat, k ≤ n ∧ v = .int .i64 k ∧ Hid (∀ j, j < k → freK bs fill j = false)) (fun v => n - (intOf v).toNat)
  case atStart => exact ⟨0, Nat.zero_le _, rfl, fun j h => by omega⟩
  case round =>
    obtain ⟨k, hk, rfl, HKF⟩ := hrel
    by_cases hlt : k < n
    · have kb : k < bs.length := by have := HN.out; omega
      have kf : k < fill.length := by have := HFL.out; omega
      obtain ⟨b, off, rfl, cb⟩ := hr1.atEM kb
      obtain ⟨bf, offf, rfl, cf9⟩ := hrF1.atEM kf
      have kI : (k : Int) < (n : Int) := by omega
      have HG1 := Lib.hid (show bs.getD k false = bs[k] by rw [List.getD_eq_getElem?_getD, List.getElem?_eq_getElem kb]; rfl)
      have HG2 := Lib.hid (show fill.getD k 0 = fill[k] by rw [List.getD_eq_getElem?_getD, List.getElem?_eq_getElem kf]; rfl)
      obtain ⟨bb, hbb⟩ : ∃ bb, bs[k] = bb := ⟨_, rfl⟩
      obtain ⟨ff, hff⟩ : ∃ ff, fill[k] = ff := ⟨_, rfl⟩
      rw [hbb] at cb HG1
      rw [hff] at cf9 HG2
      clear hbb hff
      cases bb with
      | false =>
        have HF := Lib.hid (show freK bs fill k = false by unfold freK; rw [HG1.out]; rfl)
        go_wp2_with fail
        go_round
        case rel =>
          refine ⟨k + 1, by omega, by go_num, fun j hj => ?_⟩
          rcases Nat.lt_or_ge j k with h | h
          · exact HKF.out j h
          · obtain rfl : j = k := by omega
            exact HF.out
        case measure => simp [intOf]; omega
      | true =>
        cases hge : decide (0 ≤ ff) with
        | true =>
          have hge' : 0 ≤ ff := of_decide_eq_true hge
          have HF := Lib.hid (show freK bs fill k = false by unfold freK; rw [HG1.out, HG2.out, decide_eq_false (by omega)]; rfl)
          go_wp2_with fail
          go_round
          case rel =>
            refine ⟨k + 1, by omega, by go_num, fun j hj => ?_⟩
            rcases Nat.lt_or_ge j k with h | h
            · exact HKF.out j h
            · obtain rfl : j = k := by omega
              exact HF.out
          case measure => simp [intOf]; omega
        | false =>
          have hge' : ¬ 0 ≤ ff := of_decide_eq_false hge
          have HFT := show freK bs fill k = true by unfold freK; rw [HG1.out, HG2.out, decide_eq_true (by omega)]; rfl
          have HAT := Lib.hid (atF_eq (bs := bs) (fill := fill) (c := k) (by omega) HKF.out (fun _ => HFT))
          have hkn : ((k : Int) == (n : Int)) = false := by rw [beq_eq_false_iff_ne]; omega
          have HBR := Lib.hid (fills_branch (W := W) (T := T) (bs := bs) (pss := pss) (chk := true) (m := m) (fill := fill) (used := used) (by rw [HAT.out, HN.out]; exact hlt) HU.out)
          clear HFT hf
          go_wp2_with fail
          clear r0 r1 r2 cb cf9 hge hge' hrF1 hr1 B1
          go_loopw [9, 11] (fun out i wr => LpF (fun k2 => k2 ≤ pss.length ∧ ∃ v2 xs2, v2 = out ∧ OutF W0 (some ⟨bf, offf, none⟩) v2 xs2 ((List.range k2).flatMap (pcF W T bs pss true m fill used)) wr) i) (fun _ i _ => pss.length - (intOf i).toNat)
          case atStart => exact ⟨0, rfl, Nat.zero_le _, _, [], rfl, O1⟩
          case round =>
            clear O1
            obtain ⟨k2, rfl, hk2, out2, xs2, hout2, O2⟩ := hrel
            subst hout2
            obtain ⟨wa, hwa⟩ : ∃ wa : World, wa = wr := ⟨_, rfl⟩
            subst hwa
            by_cases hlt2 : k2 < pss.length
            · have hI2 : (k2 : Int) < (pss.length : Int) := by omega
              have O2b := O2.ok
              obtain ⟨b2, o2, A2, c2, eA, cA2, hA2c, hA2m, RA2⟩ := (hrW'.belo O2b) k2 hlt2
              subst eA
              have k2u : k2 < used.length := by rw [HST.out.ulen]; exact hlt2
              have HUG := Lib.hid (show used.getD k2 true = used[k2] by rw [List.getD_eq_getElem?_getD, List.getElem?_eq_getElem k2u]; rfl)
              have HUG2 := Lib.hid (show used.getD k2 false = used[k2] by rw [List.getD_eq_getElem?_getD, List.getElem?_eq_getElem k2u]; rfl)
              have HPD := Lib.hid (show pss.getD k2 [] = pss[k2] by rw [List.getD_eq_getElem?_getD, List.getElem?_eq_getElem hlt2]; rfl)
              have hpb : pieceB pss[k2] = true := by have := pieceB_t (HP.out k2 hlt2); rw [HPD.out] at this; exact this
              have CPF := Lib.hid (fun (z : World) (R : RdC z A2 pss[k2]) => sPieceForms_n A2 c2 pss[k2] z R hA2m hA2c hpb)
              obtain ⟨ps, hps⟩ : ∃ ps, pss[k2] = ps := ⟨_, rfl⟩
              rw [hps] at cA2 RA2 HPD CPF
              obtain ⟨fs, hfs⟩ : ∃ fs, formsV ps = fs := ⟨_, rfl⟩
              rw [hfs] at CPF
              have HFS := Lib.hid (show formsV (pss.getD k2 []) = fs by rw [HPD.out, hfs])
              have hf8 : fs.length ≤ 8 := by rw [← hfs]; exact formsV_len_le _
              have HOWN := Lib.hid (fun q (e : out2.ownBlock = some q) => O2.gr.own.lt q e)
              clear hps hfs hpb hA2m hA2c
              go_wp2_with fail
              refine (CPF.out _ RA2).mono ?_
              rintro e w5 ⟨b5, c5, xs5, rfl, hc5, R5, H5, B5, nb5, nx5⟩
              have O5 := O2.belo B5
              have F5 : FrmR wa.heap.size w5 out2 w5 := ⟨fun _ _ _ => rfl, fun q hq => .inl (HOWN.out q hq).2, Nat.le_refl _⟩
              have H5x := Lib.hid H5
              have HR5 := Lib.hid R5
              have HN5 := Lib.hid nx5
              clear cA2 RA2 CPF O2 O2b H5 R5 nx5
              have HBIT := Lib.hid (msk_bit (k := k2) HM.out)
              cases huu : used[k2] with
              | true =>
                have HPC := Lib.hid (show pcF W T bs pss true m fill used k2 = [] by unfold pcF; rw [HUG.out, huu]; rfl)
                go_wp2_with fail
                go_loop [9, 13] (fun o i => out2 = o ∧ i = .int .i64 0) (fun _ _ => 0)
                case atStart => exact ⟨rfl, rfl⟩
                case round =>
                  obtain ⟨rfl, rfl⟩ := hrel
                  by_cases hf0 : 0 < fs.length
                  · have hI0 : (0 : Int) < (fs.length : Int) := by omega
                    have hbit := HBIT.out.trans (by rw [HUG2.out, huu]; rfl : (!used.getD k2 false) = false)
                    go_wp2_with fail
                    go_roundw
                    case rel => exact ⟨k2 + 1, by go_num, by omega, _, xs2, rfl, by rw [flat_range, HPC.out, List.append_nil]; exact O5⟩
                    case measure => simp [intOf]; omega
                  · have hI0 : fs.length = 0 := by omega
                    go_wp2_with fail
                    go_roundw
                    case rel => exact ⟨k2 + 1, by go_num, by omega, _, xs2, rfl, by rw [flat_range, HPC.out, List.append_nil]; exact O5⟩
                    case measure => simp [intOf]; omega
              | false =>
                have HPC := Lib.hid (show pcF W T bs pss true m fill used k2 = fs.flatMap (brF W T bs pss true m fill used k2) by unfold pcF; rw [HUG.out, huu, HFS.out]; rfl)
                have HPRE := Lib.hid (fun j (hj : j < fs.length) => by have := pre_le (W := W) (T := T) (bs := bs) (pss := pss) (chk := true) (m := m) (fill := fill) (used := used) (k := k2) (j := j) hlt2 (by rw [HUG.out, huu]) (by rw [HFS.out]; exact hj); simp only [HFS.out] at this; exact this)
                have HFO := Lib.hid (fun j (hj : j < fs.length) => by have := forms_of_form (ps := pss.getD k2 []) (x := fs[j]) (by rw [HFS.out]; exact List.getElem_mem hj); exact this)
                have HFE := Lib.hid (fun j (hj : j < fs.length) => form_edge (p := pss.getD k2 []) (x := fs[j]) (by rw [HFS.out]; exact List.getElem_mem hj))
                have hun := unN_set (used := used) (n := k2) (by rw [HUG.out, huu])
                obtain ⟨m', rfl⟩ : ∃ m', m = m' + 1 := ⟨m - 1, by have := HU.out; omega⟩
                have HUN := Lib.hid (show unN (used.set k2 true) ≤ m' by have := HU.out; omega)
                have HMS := Lib.hid (mskN_set used k2 k2u (by rw [HUG.out, huu]))
                have HUU := Lib.hid huu
                clear hun huu
                have O5' := O5
                go_wp2_with fail
                go_loopw [9, 13] (fun o i wr => LpF (fun j => j ≤ fs.length ∧ ∃ v3 xs3, v3 = o ∧ OutF W0 (some ⟨bf, offf, none⟩) v3 xs3 ((List.range k2).flatMap (pcF W T bs pss true (m' + 1) fill used) ++ (fs.take j).flatMap (brF W T bs pss true (m' + 1) fill used k2)) wr ∧ FrmR wa.heap.size w5 v3 wr) i) (fun _ i _ => fs.length - (intOf i).toNat)
                case atStart => exact ⟨0, rfl, Nat.zero_le _, out2, xs2, rfl, by simpa using O5', F5⟩
                case round =>
                  clear O5 O5' F5
                  obtain ⟨j, rfl, hj, v3, xs3, hv3, O6, F6⟩ := hrel
                  subst hv3
                  obtain ⟨wb, hwb⟩ : ∃ wb : World, wb = wr := ⟨_, rfl⟩
                  subst hwb
                  by_cases hltj : j < fs.length
                  · have hIj : (j : Int) < (fs.length : Int) := by omega
                    have hbit := HBIT.out.trans (by rw [HUG2.out, HUU.out]; rfl : (!used.getD k2 false) = true)
                    obtain ⟨Bk, ck, e5, hle7, RCk⟩ := H5x.out.2 j hltj
                    obtain ⟨b5', o5', eb, cb5⟩ := rd_cellE HR5.out e5
                    injection eb with eb
                    injection eb with eb1 eb2 eb3
                    subst eb1
                    subst eb2
                    rw [Nat.zero_add] at cb5
                    have hb5 : b5 < w5.heap.size := World.block_lt_of_cell? w5 _ cb5
                    have cbj := cellH (F6.blk b5 nb5 hb5) cb5
                    have hbl6 : b5 < wb.heap.size := Nat.lt_of_lt_of_le hb5 F6.size
                    have RCb : RdC wb Bk fs[j] := Rd.blk (show Rd w5 Bk (cellsV fs[j]) from RCk) (fun hne ad e => F6.blk ad.block (HN5.out ad fs[j].length ck (by rw [← e]; exact List.mem_of_getElem? e5)) (Rd.lt RCk e hne))
                    obtain ⟨-, hok⟩ := HFO.out j hltj
                    have hhd := form_head (HP.out k2 hlt2) (x := fs[j]) (by rw [HFS.out]; exact List.getElem_mem hltj)
                    have CP := Lib.hid (fun (z : World) (hb : Below wb.heap.size wb z) => sPut_any W T (some ⟨b, off, none⟩) (some ⟨bf, offf, none⟩) Bk c cf ck n k k2 bs fill fs[j] z ((hrW.belo O6.ok).belo hb) ((hrFW.belo O6.ok).belo hb) (RCb.belo hb) HF.out HN.out HFL.out hlt (by have := hok.1.2; omega) (fun q hq => by have := hok.2.1 q hq; omega) hhd hok.2.2.1)
                    have HTK := Lib.hid (flat_take fs (brF W T bs pss true (m' + 1) fill used k2) hltj)
                    have HPJ := Lib.hid (HPRE.out j hltj)
                    have HBR0 := Lib.hid (show brF W T bs pss true (m' + 1) fill used k2 fs[j] = if fitF W T bs fill k fs[j] = true then fillsN W T bs pss true m' (setF fill (plcL W k fs[j]) k2) (used.set k2 true) else [] by rw [← HAT.out]; rfl)
                    have HNX := Lib.hid (fun (h : fitF W T bs fill k fs[j] = true) => HST.out.next h hlt2)
                    obtain ⟨fm, hfm⟩ : ∃ fm, fs[j] = fm := ⟨_, rfl⟩
                    rw [hfm] at cbj CP HTK HPJ HBR0 HNX
                    have KS := Lib.hid (fun (z : World) (hb : Below wb.heap.size wb z) => show (z.cell? ⟨w.heap.size, 0, none⟩ = some (.int .i64 W) ∧ z.cell? ⟨w.heap.size, 1, none⟩ = some (.int .i64 T) ∧ z.cell? ⟨w.heap.size, 2, none⟩ = some (.slice (some ⟨b, off, none⟩) n c)) ∧ z.cell? ⟨b5, j, none⟩ = some (.slice Bk fm.length ck) from ⟨(X0.belo O6.ok).belo hb, cellB hb cbj⟩)
                    clear hfm e5 RCk cb5 RCb hok hhd
                    obtain ⟨⟨x0, x1, x2⟩, x3⟩ := KS.out _ (Below.refl wb.heap.size wb)
                    cases hfit : fitF W T bs fill k fm with
                    | false =>
                      rw [hfit] at CP
                      have HB0' := Lib.hid (show brF W T bs pss true (m' + 1) fill used k2 fm = [] by rw [HBR0.out, hfit]; rfl)
                      clear hfit
                      go_wp2_with fail
                      go_region_held3 (fun w' => (w'.cell? ⟨w.heap.size, 0, none⟩ = some (.int .i64 W) ∧ w'.cell? ⟨w.heap.size, 1, none⟩ = some (.int .i64 T) ∧ w'.cell? ⟨w.heap.size, 2, none⟩ = some (.slice (some ⟨b, off, none⟩) n c)) ∧ w'.cell? ⟨b5, j, none⟩ = some (.slice Bk fm.length ck))
                        (first | exact KS.out _ b7' | exact KS.out _ (Below.refl _ _) | exact KS.out _ (Below.refl _ _).drew)
                        ((go_at_call 133; refine (CP.out wb.drew (Below.refl wb.heap.size wb).drew).mono ?_; rintro e w7 ⟨-, hp2, b7⟩; have he := hp2 rfl; subst he; have b7' : Below wb.heap.size wb w7 := bl_go (Below.refl wb.heap.size wb).drew b7))
                      have O7 := O6.belo b7'
                      have F7 := F6.belo b7'
                      clear x0 x1 x2 x3 KS CP
                      go_wp2_with fail
                      go_roundw
                      case rel => exact ⟨j + 1, by go_num, by omega, v3, xs3, rfl, by rw [HTK.out, HB0'.out, List.append_nil]; exact O7, F7⟩
                      case measure => simp [intOf]; omega
                    | true =>
                      rw [hfit] at CP
                      have HB1' := Lib.hid (show brF W T bs pss true (m' + 1) fill used k2 fm = fillsN W T bs pss true m' (setF fill (plcL W k fm) k2) (used.set k2 true) by rw [HBR0.out, hfit]; rfl)
                      have HNX' := Lib.hid (HNX.out hfit)
                      clear hfit HNX
                      go_wp2_with fail
                      go_region_held3 (fun w' => (w'.cell? ⟨w.heap.size, 0, none⟩ = some (.int .i64 W) ∧ w'.cell? ⟨w.heap.size, 1, none⟩ = some (.int .i64 T) ∧ w'.cell? ⟨w.heap.size, 2, none⟩ = some (.slice (some ⟨b, off, none⟩) n c)) ∧ w'.cell? ⟨b5, j, none⟩ = some (.slice Bk fm.length ck))
                        (first | exact KS.out _ b7' | exact KS.out _ (Below.refl _ _) | exact KS.out _ (Below.refl _ _).drew)
                        ((go_at_call 133; refine (CP.out wb.drew (Below.refl wb.heap.size wb).drew).mono ?_; rintro e w7 ⟨hp1, -, b7⟩; obtain ⟨g, cc, he, hcc, Wg, hg⟩ := hp1 rfl; subst he; have b7' : Below wb.heap.size wb w7 := bl_go (Below.refl wb.heap.size wb).drew b7))
                      have O7 := O6.belo b7'
                      have F7 := F6.belo b7'
                      have hgb : wb.heap.size ≤ g := Wg.1 _ rfl
                      have HOW := Lib.hid (fun q (e : v3.ownBlock = some q) => (O6.gr.own.lt q e).2)
                      have hx3 := O6.gr.hd.1
                      have HXS := Lib.hid (show xs3.length + (fillsN W T bs pss true m' (setF fill (plcL W k fm) k2) (used.set k2 true)).length ≤ 1000000000000 by
                        have h1 := HPJ.out
                        have h2 := HMX.out
                        rw [HB1'.out] at h1
                        rw [HBR.out] at h2
                        rw [List.length_append] at hx3
                        omega)
                      obtain ⟨q2, hq2⟩ : ∃ q, 2 ^ k2 = q := ⟨_, rfl⟩
                      have hw2 := wrap2 (P := k2) (by omega)
                      rw [hq2] at hw2
                      have HQ2 := Lib.hid hq2
                      obtain ⟨w1', hq64⟩ := hw2
                      have w1'' : IntKind.i64.wrap ((2 : Int) ^ k2) = (q2 : Int) := (IntWalk.i64_left _).trans w1'
                      obtain ⟨w2', w2''⟩ := wsum hu63 hq64
                      have CF7 := Lib.hid (fun (z : World) (hb : Below w7.heap.size w7 z) => HIH.out m' rfl z (some ⟨g, 0, none⟩) cc (u + q2) _ (used.set k2 true) ((hrW.belo O7.ok).belo hb) ((hrW'.belo O7.ok).belo hb) (Wg.rd.belo hb) hcc HNX'.out HUN.out (by rw [HMS.out, HM.out, HQ2.out]))
                      have KS7 := Lib.hid (fun (z : World) (hb : Below w7.heap.size w7 z) => show z.cell? ⟨w.heap.size, 0, none⟩ = some (.int .i64 W) ∧ z.cell? ⟨w.heap.size, 1, none⟩ = some (.int .i64 T) ∧ z.cell? ⟨w.heap.size, 2, none⟩ = some (.slice (some ⟨b, off, none⟩) n c) from (X0.belo O7.ok).belo hb)
                      clear x0 x1 x2 x3 KS CP hq2 hx3
                      obtain ⟨x0, x1, x2⟩ := KS7.out _ (Below.refl w7.heap.size w7)
                      go_wp2_with fail
                      go_region_held3 (fun w' => w'.cell? ⟨w.heap.size, 0, none⟩ = some (.int .i64 W) ∧ w'.cell? ⟨w.heap.size, 1, none⟩ = some (.int .i64 T) ∧ w'.cell? ⟨w.heap.size, 2, none⟩ = some (.slice (some ⟨b, off, none⟩) n c))
                        (first | exact KS9.out | exact KS7.out _ b8' | exact KS7.out _ (Below.refl _ _) | exact KS7.out _ (Below.refl _ _).drew)
                        ((first
                          | (go_at_call 82; refine (CF7.out w7.drew (Below.refl w7.heap.size w7).drew).mono ?_; rintro e w8 ⟨A8, c8, xs8, he, hc8, hA8, R8, H8, T8, b8⟩; subst he; have b8' : Below w7.heap.size w7 w8 := bl_go (Below.refl w7.heap.size w7).drew b8; have O8 := O7.belo b8')
                          | (refine step_headsR _ (by rfl) _ _ (by rfl) W0.heap.size v3 xs3 (by rfl) O8.gr.own A8 _ c8 xs8 (by rfl) H8.1 hA8 R8 H8.cell HXS.out O8.ok.size ?_; intro v9 w9 o9 g9 e9; have O9 := O8.app H8 (fun q hq => by
                              obtain ⟨t1, t2⟩ := T8 q hq
                              have t0 := b7'.size
                              have t00 := O6.ok.size
                              have t5 : wb.heap.size ≤ q := by
                                rcases t2 with ⟨ad, t3, t4⟩ | t3
                                · injection t3 with t3
                                  rw [← t3] at t4
                                  simp only at t4
                                  omega
                                · have t3' : w7.heap.size ≤ q := t3
                                  omega
                              exact ⟨t1, fun e => by have := HOW.out q e; omega, .inr (by omega)⟩) o9 g9 e9; have KS9 := Lib.hid (show w9.cell? ⟨w.heap.size, 0, none⟩ = some (.int .i64 W) ∧ w9.cell? ⟨w.heap.size, 1, none⟩ = some (.int .i64 T) ∧ w9.cell? ⟨w.heap.size, 2, none⟩ = some (.slice (some ⟨b, off, none⟩) n c) from X0.belo O9.ok))))
                      have F9 := (F7.belo b8').app g9 e9
                      clear KS9 KS7 CF7 o9 g9 e9 x0 x1 x2 O8 O7 F7 R8 H8 T8
                      go_wp2_with fail
                      go_roundw
                      case rel => exact ⟨j + 1, by go_num, by omega, v9, xs3 ++ xs8, rfl, by rw [HTK.out, HB1'.out, ← List.append_assoc]; exact O9, F9⟩
                      case measure => simp [intOf]; omega
                  · obtain rfl : j = fs.length := by omega
                    go_wp2_with fail
                    go_roundw
                    case rel => exact ⟨k2 + 1, by go_num, by omega, v3, xs3, rfl, by rw [flat_range, HPC.out]; rw [List.take_length] at O6; exact O6⟩
                    case measure => simp [intOf]; omega
            · obtain rfl : k2 = pss.length := by omega
              obtain ⟨A9, c9, rfl, hres⟩ := O2.res
              have HRS := Lib.hid hres
              clear O2 hres
              go_wp2_with fail
              go_ret
              rw [HBR.out]
              exact HRS.out.lower HB0.out
    · obtain rfl : k = n := by omega
      have HAT := Lib.hid (show atF bs fill = bs.length from by
        rw [HN.out]
        exact atF_eq (by rw [HN.out]; exact Nat.le_refl _) HKF.out (fun h => by have := HN.out; omega))
      have HLF := Lib.hid (fills_leafT (W := W) (T := T) (pss := pss) (m := m) (used := used) HAT.out)
      have HTS := Lib.hid (msk_test HST.out.ulen hP6 HM.out)
      have O2 := O1.belo (bl_alloc (Below.refl W1.heap.size W1) (.cells #[.slice Af k cf] 27))
      have hs2 : W0.heap.size ≤ (W1.alloc (.cells #[.slice Af k cf] 27)).heap.size := O2.ok.size
      cases hall : used.all id with
      | true =>
        have hq := HTS.out.trans hall
        rw [hall] at HLF
        go_wp2_with (at_builtin; refine wpList_headsL _ rfl _ _ rfl W0.heap.size _ [] rfl O2.gr.own ⟨W1.heap.size, 0, none⟩ 1 1 [.slice Af k cf] rfl rfl (one_atL _ _ _) (one_oneL _ _ _) (by simp) hs2 ?_; intro v3 w3 o3 g3 e3)
        have O3 := O2.app (G := [fill]) (HeadsI.one ⟨_, _, by rw [HFL.out], by rw [HFL.out]; exact hcf, by rw [HFL.out]; omega, hrFW.belo O2.ok⟩) (fun b hb => by
          obtain ⟨ad, e1, e2⟩ := hb.one
          have h1 := HAF.out ad e1
          have h2 := O2.ok.size
          have h3 := HZS.out
          refine ⟨by omega, fun e => ?_, .inl ⟨ad, e1, e2⟩⟩
          have := (O2.gr.own.lt b e).1
          omega) o3 g3 e3
        obtain ⟨A9, c9, rfl, hres⟩ := O3.res
        go_ret
        rw [HLF.out]
        exact hres.lower HB0.out
      | false =>
        have hq := HTS.out.trans hall
        rw [hall] at HLF
        have HRS := Lib.hid (show FsR [] Af W0 (.returned (.slice (some ⟨W0.heap.size, 0, none⟩) 0 0)) W1 from by
          obtain ⟨A9, c9, e9, hres⟩ := O1.res
          injection e9 with e9 _ e9c
          subst e9
          subst e9c
          exact hres)
        clear O1 O2 hs2 hall
        go_wp2_with fail
        go_ret
        rw [HLF.out]
        exact HRS.out.lower HB0.out
end Go.Proofs.YtejkbjcmndnfeaaGreat

/- Contract: the reference's FillsAll. -/
namespace Go.Proofs.YtejkbjcmndnfeaaGreat
open Go.RowKit Go.Sort

theorem fs_all {W T : Int} {n c c' : Nat} {bs : List Bool} {pss : List (List Ce)} {A A' : Option Addr} (hf : FldF W T bs.length) (hn : bs.length = n) (hp : ∀ k, k < pss.length → PieceOk (pss.getD k [])) (hP6 : pss.length ≤ 6) :
    ∀ m, m ≤ 6 → FsOk W T n c c' bs pss A A' m
  | 0, h => fs_step hf hn hp hP6 h (fun m' h => by omega)
  | m + 1, h => fs_step hf hn hp hP6 h (fun m' h' => by obtain rfl : m = m' := by omega
                                                        exact fs_all hf hn hp hP6 m (by omega))
theorem FsR.ll {fs : List (List Int)} {Af : Option Addr} {w w' : World} {e : Ending} (h : FsR fs Af w e w') : NewLL fs w e w' := by
  obtain ⟨A, c, xs, h1, h2, -, h4, h5, -, h7⟩ := h
  exact ⟨A, c, h1, h2, ⟨xs, h4, h5⟩, h7⟩
theorem NewLL.lower {fs : List (List Int)} {w0 w w' : World} {e : Ending} (h : NewLL fs w0 e w') (hb : Below w.heap.size w w0) : NewLL fs w e w' := by
  obtain ⟨A, c, h1, h2, h3, h4⟩ := h
  exact ⟨A, c, h1, h2, h3, bl_go hb h4⟩
set_option maxRecDepth 100000 in
set_option maxHeartbeats 2000000 in
theorem sFillsAll_f (W T : Int) (A A' : Option Addr) (c c' : Nat) (bs : List Bool) (pss : List (List Ce)) (w : World) (hr : Rd w A (bs.map .bool)) (hn : bs.length ≤ maxLen) (hr' : RdSS w A' pss) (hn' : pss.length ≤ maxLen)
    (h : validB W T bs = false ∨ (decide (pss.length ≤ 6) && piecesB pss) = false) :
    Calls Tryz.prog 20 #[.agg #[.int .i64 W, .int .i64 T, .slice A bs.length c], .slice A' pss.length c'] w (NewLL [] w) := by
  have X0 := C3.new w (.int .i64 W) (.int .i64 T) (.slice A bs.length c) 25
  have Z0 := bl_alloc (Below.refl w.heap.size w) (.cells #[.int .i64 W, .int .i64 T, .slice A bs.length c] 25)
  obtain ⟨x0, x1, x2⟩ := id X0
  cases hv : validB W T bs with
  | false =>
    have HV := Lib.hid hv
    clear hv h
    go_enter Tryz.func20, Tryz.ntmps20
    go_wp2_with fail
    refine (sRegionValid_any W T A c bs _ (hr.alloc _) hn).mono ?_
    rintro e w1 ⟨rfl, b1⟩
    rw [HV.out]
    have Z1 := bl_go Z0 b1
    go_wp2_with fail
    go_ret
    exact ⟨_, 0, rfl, Nat.le_refl _, ⟨[], Rd.nil _ _, HeadsI.nil _⟩, bl_alloc Z1 _⟩
  | true =>
    have HV := Lib.hid hv
    have hp : (decide (pss.length ≤ 6) && piecesB pss) = false := by
      rcases h with h | h
      · rw [hv] at h; cases h
      · exact h
    have HP := Lib.hid hp
    clear hv h hp
    go_enter Tryz.func20, Tryz.ntmps20
    go_wp2_with fail
    refine (sRegionValid_any W T A c bs _ (hr.alloc _) hn).mono ?_
    rintro e w1 ⟨rfl, b1⟩
    rw [HV.out]
    have Z1 := bl_go Z0 b1
    have R1 := hr'.belo Z1
    go_wp2_with fail
    refine (sPiecesValid_any _ _ _ _ R1 hn').mono ?_
    rintro e w2 ⟨rfl, b2⟩
    rw [HP.out]
    have Z2 := bl_go Z1 b2
    go_wp2_with fail
    go_ret
    exact ⟨_, 0, rfl, Nat.le_refl _, ⟨[], Rd.nil _ _, HeadsI.nil _⟩, bl_alloc Z2 _⟩
set_option maxRecDepth 100000 in
set_option maxHeartbeats 4000000 in
theorem sFillsAll_t (W T : Int) (A A' : Option Addr) (c c' : Nat) (bs : List Bool) (pss : List (List Ce)) (w : World) (hr : Rd w A (bs.map .bool)) (hn : bs.length ≤ maxLen) (hr' : RdSS w A' pss) (hn' : pss.length ≤ maxLen)
    (hv : validB W T bs = true) (hp : (decide (pss.length ≤ 6) && piecesB pss) = true) :
    Calls Tryz.prog 20 #[.agg #[.int .i64 W, .int .i64 T, .slice A bs.length c], .slice A' pss.length c'] w (NewLL (fillsV W T bs pss) w) := by
  obtain ⟨P6, hok⟩ := pieces_ok hp
  have X0 := C3.new w (.int .i64 W) (.int .i64 T) (.slice A bs.length c) 25
  have Z0 := bl_alloc (Below.refl w.heap.size w) (.cells #[.int .i64 W, .int .i64 T, .slice A bs.length c] 25)
  obtain ⟨x0, x1, x2⟩ := id X0
  have HV := Lib.hid hv
  have HP := Lib.hid hp
  obtain ⟨⟨q1, q6⟩, ⟨t1, t6⟩, hlen, -⟩ := validB_iff.1 hv
  have n36 : bs.length ≤ 36 := by have := mul_bd q1 q6 t1 t6; omega
  have HF := Lib.hid (show FldF W T bs.length from ⟨q1, q6, t1, t6, hlen⟩)
  have HOK := Lib.hid hok
  clear hv hp hlen hok
  go_enter Tryz.func20, Tryz.ntmps20
  go_wp2_with fail
  refine (sRegionValid_any W T A c bs _ (hr.alloc _) hn).mono ?_
  rintro e w1 ⟨rfl, b1⟩
  rw [HV.out]
  have Z1 := bl_go Z0 b1
  have R1 := hr'.belo Z1
  have X1 := X0.belo b1
  clear x0 x1 x2 X0 b1 Z0
  go_wp2_with fail
  refine (sPiecesValid_any _ _ _ _ R1 hn').mono ?_
  rintro e w2 ⟨rfl, b2⟩
  rw [HP.out]
  have Z2 := bl_go Z1 b2
  have X2 := X1.belo b2
  have hX2 := X2.lt
  clear X1 R1 Z1 b2
  have O2 := OwnI.empty w2
  have B2 := bl_alloc (Below.refl w2.heap.size w2) (.cells #[] 3)
  obtain ⟨x0, x1, x2⟩ := X2.belo B2
  go_wp2_with fail
  go_loopw [5, 6] (fun v i wr => LpF (fun k => k ≤ bs.length ∧ OwnI wr w2.heap.size v (List.replicate k (-1)) ∧ Below w2.heap.size w2 wr) i) (fun _ i _ => bs.length - (intOf i).toNat)
  case atStart => exact ⟨0, rfl, Nat.zero_le _, O2, B2⟩
  case round =>
    clear x0 x1 x2 O2 B2
    obtain ⟨k, rfl, hk, O3, B3⟩ := hrel
    obtain ⟨x0, x1, x2⟩ := X2.belo B3
    have HB3 := Lib.hid B3
    have hsz := B3.size
    by_cases hlt : k < bs.length
    · have kI : (k : Int) < (bs.length : Int) := by omega
      go_wp2_with (at_builtin; refine app_int _ rfl _ _ rfl w2.heap.size _ _ rfl O3 (-1) rfl (by rw [List.length_replicate]; omega) hsz ?_; intro A4 c4 w4 O4 g4)
      go_roundw
      case rel => exact ⟨k + 1, by go_num, by omega, by rw [List.replicate_succ']; rw [List.length_replicate] at O4; exact O4, app_below HB3.out (Nat.le_refl _) hsz O3 g4⟩
      case measure => simp [intOf]; omega
    · obtain rfl : k = bs.length := by omega
      obtain ⟨A4, c4, hv4, own4⟩ := id O3
      subst hv4
      have RF := Rd.own own4
      have hcap : bs.length ≤ c4 := by
        rcases own4.2 with ⟨e, e2⟩ | ⟨g, cap, cur, e, _, _, h3, _⟩
        · exfalso
          have h36 := mul_bd q1 q6 t1 t6
          have := HF.out.len
          rw [List.length_replicate] at e2
          omega
        · injection e with _ _ e3; rw [List.length_replicate] at h3; omega
      have HCF := Lib.hid (fs_all (c := c) (c' := c') (A := A) (A' := A') HF.out rfl HOK.out P6 pss.length P6 wr A4 c4 0 (fill0 bs.length) (used0 pss.length) (hr.belo (bl_go Z2 B3)) (hr'.belo (bl_go Z2 B3)) RF hcap (st_0 bs pss.length) (by rw [unN_0]; exact Nat.le_refl _) (mskN_0 _).symm)
      have ZZ := bl_go Z2 B3
      rw [List.length_replicate]
      clear O3 own4 RF
      go_wp2_with fail
      refine HCF.out.mono ?_
      rintro e w5 h5
      have h6 := (h5.ll).lower ZZ
      obtain ⟨A5, c5, rfl, h7, h8, h9⟩ := h6
      have HRS := Lib.hid (show NewLL (fillsV W T bs pss) w (.returned (.slice A5 (fillsV W T bs pss).length c5)) w5 from ⟨A5, c5, rfl, h7, h8, h9⟩)
      clear h5 h7 h8 h9 ZZ HCF
      go_wp2_with fail
      go_ret
      exact HRS.out
theorem sFillsAll_any (W T : Int) (A A' : Option Addr) (c c' : Nat) (bs : List Bool) (pss : List (List Ce)) (w : World) (hr : Rd w A (bs.map .bool)) (hn : bs.length ≤ maxLen) (hr' : RdSS w A' pss) (hn' : pss.length ≤ maxLen) :
    Calls Tryz.prog 20 #[.agg #[.int .i64 W, .int .i64 T, .slice A bs.length c], .slice A' pss.length c'] w (NewLL (fillsW W T bs pss) w) := by
  cases h1 : validB W T bs with
  | false =>
    rw [fillsW_f (fun h => by rw [h1] at h; cases h.1)]
    exact sFillsAll_f W T A A' c c' bs pss w hr hn hr' hn' (.inl h1)
  | true =>
    cases h2 : (decide (pss.length ≤ 6) && piecesB pss) with
    | false =>
      rw [fillsW_f (fun h => by rw [h2] at h; cases h.2)]
      exact sFillsAll_f W T A A' c c' bs pss w hr hn hr' hn' (.inr h2)
    | true =>
      rw [fillsW_t h1 h2]
      exact sFillsAll_t W T A A' c c' bs pss w hr hn hr' hn' h1 h2
end Go.Proofs.YtejkbjcmndnfeaaGreat

/- All pieces of so many cells, plainly: every piece's first form is one of them. -/
namespace Go.Proofs.YtejkbjcmndnfeaaGreat

theorem forms_mvd {p : List Ce} (h : PieceOk p) : formsV (mvd p) = formsV p := by
  have e : mvdV stayC p = mvd p := by rw [mvdV_ok stayC h, map_stay]
  have := (forms_of_form (moved_mem h)).1
  rwa [e] at this
theorem first_mvd {p q : List Ce} (hp : PieceOk p) (hq : PieceOk q) (h : mvd p = mvd q) : firstV p = firstV q := by
  unfold firstV
  rw [← forms_mvd hp, h, forms_mvd hq]
theorem ok_snocB {p : List Ce} (h : PieceOk p) (hl : p.length < 5) {c x : Ce} (hc : c ∈ p) (hx : adjC x c) (hn : x ∉ p) (hb : -9 ≤ x.1 ∧ x.1 ≤ 9 ∧ -9 ≤ x.2 ∧ x.2 ≤ 9) : PieceOk (p ++ [x]) := by
  obtain ⟨⟨l1, l2⟩, h2, h3, h4⟩ := h
  have hh : (p ++ [x]).headD (0, 0) = p.headD (0, 0) := by
    cases p with
    | nil => simp at l1
    | cons a l => rfl
  refine ⟨⟨by simp, by simp; omega⟩, ?_, ?_, ?_⟩
  · intro d hd
    rcases List.mem_append.1 hd with hd | hd
    · exact h2 d hd
    · simp at hd
      subst hd
      exact hb
  · rw [List.nodup_append]
    refine ⟨h3, by simp, fun a ha b hb e => ?_⟩
    simp at hb
    subst hb; subst e
    exact hn ha
  · rw [hh]
    intro a ha
    have hr : ∀ b ∈ p, ReachC (p ++ [x]) (p.headD (0, 0)) b := fun b hb => reach_mono (h4 b hb) (fun y hy => List.mem_append_left _ hy)
    rcases List.mem_append.1 ha with ha | ha
    · exact hr a ha
    · simp at ha
      subst ha
      exact .step c _ (hr c hc) (by simp) hx
/-- a part of a piece that hangs together can be grown within it -/
theorem part_more {p L : List Ce} (h : PieceOk p) (hL : PieceOk L) (hs : ∀ a ∈ L, a ∈ p) (hh : L.headD (0, 0) = p.headD (0, 0)) (hl : L.length < p.length) :
    ∃ a b, a ∈ L ∧ b ∈ p ∧ adjC b a ∧ b ∉ L ∧ PieceOk (L ++ [b]) := by
  obtain ⟨⟨l1, l2⟩, h2, h3, h4⟩ := h
  have hex : ∃ a b, a ∈ L ∧ b ∈ p ∧ adjC b a ∧ b ∉ L := by
    refine Classical.byContradiction fun hk => ?_
    have hcl : closedC p L := fun a ha b hb hab => Classical.byContradiction fun hn => hk ⟨a, b, ha, hb, hab, hn⟩
    have hstart : p.headD (0, 0) ∈ L := by
      rw [← hh]
      have := hL.1.1
      cases L with
      | nil => simp at this
      | cons a l => simp
    have hS : SoC p (p.headD (0, 0)) L := ⟨hL.2.2.1, hs, fun a ha => h4 a (hs a ha), hstart⟩
    have := nodup_le p L h3 (fun a ha => hS.all hcl a (h4 a ha))
    omega
  obtain ⟨a, b, ha, hb, hab, hn⟩ := hex
  exact ⟨a, b, ha, hb, hab, hn, ok_snocB hL (by omega) ha hab hn (h2 b hb)⟩
theorem part_ex {p : List Ce} (h : PieceOk p) : ∀ k, 1 ≤ k → k ≤ p.length → ∃ L, L.length = k ∧ PieceOk L ∧ (∀ a ∈ L, a ∈ p) ∧ L.headD (0, 0) = p.headD (0, 0)
  | 0, h0, _ => by omega
  | 1, _, _ => by
    obtain ⟨⟨l1, l2⟩, h2, -, -⟩ := h
    have hm : p.headD (0, 0) ∈ p := by cases p with | nil => simp at l1 | cons a l => simp
    refine ⟨[p.headD (0, 0)], rfl, ⟨⟨by simp, by simp⟩, ?_, by simp, ?_⟩, ?_, rfl⟩
    · intro c hc; rw [List.mem_singleton.1 hc]; exact h2 _ hm
    · intro c hc; rw [List.mem_singleton.1 hc]; exact .base
    · intro c hc; rw [List.mem_singleton.1 hc]; exact hm
  | k + 2, _, hk => by
    obtain ⟨L, e1, e2, e3, e4⟩ := part_ex h (k + 1) (by omega) (by omega)
    obtain ⟨a, b, ha, hb, hab, hn, hok⟩ := part_more h e2 e3 e4 (by omega)
    refine ⟨L ++ [b], by simp [e1], hok, fun c hc => ?_, ?_⟩
    · rcases List.mem_append.1 hc with hc | hc
      · exact e3 c hc
      · simp at hc; rw [hc]; exact hb
    · cases L with
      | nil => simp at e1
      | cons a l => exact e4
/-- the k-th turn or mirror -/
def gAt (k : Nat) : Ce → Ce := if k < 4 then turnN k else turnFlip (k - 4)
theorem walk_gAt (p : List Ce) (k : Nat) : walkF p k = mvd (p.map (gAt k)) := by
  unfold walkF gAt fmC
  split <;> rfl
theorem adj_turnN (n : Nat) {a b : Ce} (h : adjC a b) : adjC (turnN n a) (turnN n b) := by
  induction n with
  | zero => exact h
  | succ n ih => unfold turnN; unfold adjC turnC at *; simp only; omega
theorem adj_flip {a b : Ce} (h : adjC a b) : adjC (flipC a) (flipC b) := by unfold adjC flipC at *; simp only; omega
theorem adj_gAt (k : Nat) {a b : Ce} (h : adjC a b) : adjC (gAt k a) (gAt k b) := by
  unfold gAt
  split
  · exact adj_turnN k h
  · exact adj_turnN _ (adj_flip h)
theorem inj_turnN (n : Nat) {a b : Ce} (h : turnN n a = turnN n b) : a = b := by
  induction n with
  | zero => exact h
  | succ n ih =>
    unfold turnN turnC at h
    injection h with h1 h2
    exact ih (Prod.ext (by omega) (by omega))
theorem inj_gAt (k : Nat) {a b : Ce} (h : gAt k a = gAt k b) : a = b := by
  unfold gAt at h
  split at h
  · exact inj_turnN k h
  · have := inj_turnN _ h
    unfold flipC at this
    injection this with h1 h2
    exact Prod.ext (by omega) (by omega)
/-- every piece's first form is one of them -/
theorem first_in : ∀ n, ∀ p, PieceOk p → p.length = n → firstV p ∈ allP n
  | 0, p, h, hl => by have := h.1.1; omega
  | 1, p, h, hl => by
    have e : mvd p = mvd [((0 : Int), (0 : Int))] := by
      match p, hl with
      | [c], _ =>
        rw [← mvdK_eq, ← mvdK_eq]
        unfold mvdK loP loK subC
        simp [isortC, insC]
    rw [first_mvd h one_ok.ok e, one_ok.first]
    simp [allP]
  | n + 2, p, h, hl => by
    obtain ⟨L, e1, e2, e3, e4⟩ := part_ex h (n + 1) (by omega) (by omega)
    obtain ⟨a, b, ha, hb, hab, hn, hok⟩ := part_more h e2 e3 e4 (by omega)
    have hih := first_in (n + 1) L e2 e1
    have hAO := allP_ok (n + 1) (by have := h.1.2; omega) _ hih
    have hperm : (L ++ [b]).Perm p := perm_of_sub _ _ hok.2.2.1 (fun c hc => by
      rcases List.mem_append.1 hc with hc | hc
      · exact e3 c hc
      · simp at hc; rw [hc]; exact hb) (by simp; omega)
    have hpne : p ≠ [] := by rintro rfl; simp at hl
    have hfp : firstV (L ++ [b]) = firstV p := first_mvd hok h (mvd_perm hpne hperm)
    have hmem := first_mem e2
    rw [formsV_ok e2, incOf_mem, walkF_mem] at hmem
    obtain ⟨k, hk, ek⟩ := hmem
    obtain ⟨f, hf⟩ : ∃ f : Ce → Ce, f = fun c => subC (loP (L.map (gAt k))) (gAt k c) := ⟨_, rfl⟩
    have hFL : (firstV L).Perm (L.map f) := by
      rw [← ek, walk_gAt]
      have := mvd_perm0 (L.map (gAt k))
      rw [List.map_map] at this
      rw [hf]; exact this
    have hfadj : adjC (f b) (f a) := by
      have := adj_gAt k hab
      rw [hf]
      unfold adjC subC at *
      simp only at *
      omega
    have hfa : f a ∈ firstV L := hFL.mem_iff.2 (List.mem_map_of_mem ha)
    have hfn : f b ∉ firstV L := fun hm => by
      obtain ⟨c, hc, e⟩ := List.mem_map.1 (hFL.mem_iff.1 hm)
      rw [hf] at e
      have := inj_gAt k (subC_inj e)
      exact hn (this ▸ hc)
    have hQ : PieceOk (firstV L ++ [f b]) := ok_snoc hAO.ok (by rw [hAO.len]; have := h.1.2; omega) hfa hfadj hfn (fun d hd => by have := hAO.edge d hd; omega)
    have hQp : (firstV L ++ [f b]).Perm ((L ++ [b]).map f) := by
      rw [List.map_append]
      exact hFL.append_right _
    have hne : (L ++ [b]).map f ≠ [] := by simp
    have hne2 : (L ++ [b]).map (gAt k) ≠ [] := by simp
    have hQm : mvd (firstV L ++ [f b]) = walkF (L ++ [b]) k := by
      rw [mvd_perm hne hQp, walk_gAt]
      have : (L ++ [b]).map f = ((L ++ [b]).map (gAt k)).map (subC (loP (L.map (gAt k)))) := by
        rw [hf, List.map_map]; rfl
      rw [this, mvd_sub hne2]
    have hQf : firstV (firstV L ++ [f b]) = firstV (L ++ [b]) := by
      unfold firstV
      show (formsV (firstV L ++ [f b])).headD [] = _
      rw [← forms_mvd hQ, hQm, forms_of_walk hok hk]
    rw [← hfp, ← hQf]
    show _ ∈ incOf (growL (allP (n + 1)))
    rw [incOf_mem]
    unfold growL growV
    rw [List.mem_flatMap]
    refine ⟨firstV L, hih, ?_⟩
    rw [List.mem_flatMap]
    refine ⟨f a, hfa, ?_⟩
    rw [List.mem_map]
    refine ⟨f b, ?_, rfl⟩
    unfold newsC
    rw [List.mem_filter]
    exact ⟨adj_near hfadj, by simpa using hfn⟩
end Go.Proofs.YtejkbjcmndnfeaaGreat

/- All ways to fill a region with dominoes, plainly: as many as tilings, times the ways to order the dominoes. -/
namespace Go.Proofs.YtejkbjcmndnfeaaGreat
open Go.RowKit Go.Sort

def fct : Nat → Nat
  | 0 => 1
  | n + 1 => (n + 1) * fct n
def domH : List Ce := [(0, 0), (1, 0)]
def domV : List Ce := [(0, 0), (0, 1)]
theorem domH_ok : PieceOk domH := by
  refine ⟨by decide, by decide, by decide, fun a ha => ?_⟩
  have h0 : ReachC domH (0, 0) (0, 0) := .base
  have ha' : a = (0, 0) ∨ a = (1, 0) := by simpa [domH] using ha
  rcases ha' with rfl | rfl
  · exact h0
  · exact .step (0, 0) (1, 0) h0 (by decide) (by decide)
theorem domH_forms : formsV domH = [domV, domH] ∨ formsV domH = [domH, domV] := by
  rw [formsV_ok domH_ok, ← formsK_eq]
  decide +kernel
theorem dom_forms {p : List Ce} (h : PieceOk p) (hl : p.length = 2) : formsV p = [domV, domH] ∨ formsV p = [domH, domV] := by
  have h1 := first_in 2 p h hl
  have h2 := first_in 2 domH domH_ok rfl
  have h3 := all_len.2.1
  obtain ⟨x, hx⟩ : ∃ x, allP 2 = [x] := by
    cases e : allP 2 with
    | nil => rw [e] at h3; cases h3
    | cons x l => rw [e] at h3; cases l with
      | nil => exact ⟨x, rfl⟩
      | cons y l => simp at h3
  rw [hx, List.mem_singleton] at h1 h2
  rw [(same_forms h domH_ok (h1.trans h2.symm)).1]
  exact domH_forms
theorem sum_unN (X : Nat) : ∀ used : List Bool, (used.map fun b => if b = true then 0 else X).sum = unN used * X := by
  intro used
  unfold unN
  induction used with
  | nil => simp
  | cons b l ih =>
    rw [List.map_cons, List.sum_cons, ih]
    cases b
    · simp [Nat.add_mul, Nat.add_comm]
    · simp
theorem flat_unN {α : Type} {used : List Bool} {f : Nat → List α} {X : Nat} (h1 : ∀ n, n < used.length → used.getD n true = true → f n = []) (h2 : ∀ n, n < used.length → used.getD n true = false → (f n).length = X) :
    ((List.range used.length).flatMap f).length = unN used * X := by
  rw [List.length_flatMap, ← sum_unN]
  congr 1
  refine List.ext_getElem (by simp) fun k hk1 hk2 => ?_
  have hk : k < used.length := by simpa using hk2
  rw [List.getElem_map, List.getElem_map, List.getElem_range]
  have e : used.getD k true = used[k] := by rw [List.getD_eq_getElem?_getD, List.getElem?_eq_getElem hk]; rfl
  cases hu : used[k] with
  | true => rw [if_pos rfl, h1 k hk (e.trans hu)]; rfl
  | false => rw [if_neg (by simp)]; exact h2 k hk (e.trans hu)
/-- where the second cell of a domino comes -/
theorem dom_step {W T : Int} {n c : Nat} (hf : FldF W T n) (hc : c < n) {d : Int} {q : Ce} (hd : (d = 1 ∧ q = (1, 0)) ∨ (d = 2 ∧ q = (0, 1))) :
    (∃ s : Nat, stepZ W T c d = s ∧ s < n ∧ s ≠ c ∧ ((c : Int) / W + q.2) * W + ((c : Int) % W + q.1) = s ∧ (0 ≤ (c : Int) % W + q.1 ∧ (c : Int) % W + q.1 ≤ W - 1 ∧ 0 ≤ (c : Int) / W + q.2 ∧ (c : Int) / W + q.2 ≤ T - 1)) ∨
    (stepZ W T c d < 0 ∧ ¬ (0 ≤ (c : Int) % W + q.1 ∧ (c : Int) % W + q.1 ≤ W - 1 ∧ 0 ≤ (c : Int) / W + q.2 ∧ (c : Int) / W + q.2 ≤ T - 1)) := by
  obtain ⟨a1, a2, a3, a4, a5⟩ := hf.xy hc
  have hw := hf.w1
  rcases hd with ⟨rfl, rfl⟩ | ⟨rfl, rfl⟩
  · by_cases h : (c : Int) % W < W - 1
    · obtain ⟨s, e, hs, e1, e2⟩ := hf.at_ (x := (c : Int) % W + 1) (y := (c : Int) / W) (by omega) (by omega) a3 a4
      refine .inl ⟨s, ?_, hs, by omega, by simp only; rw [Int.add_zero]; exact e, by simp only; omega⟩
      unfold stepZ
      rw [if_pos rfl, if_pos h]; omega
    · refine .inr ⟨?_, by simp only; omega⟩
      unfold stepZ
      rw [if_pos rfl, if_neg h]; omega
  · by_cases h : (c : Int) / W < T - 1
    · obtain ⟨s, e, hs, e1, e2⟩ := hf.at_ (x := (c : Int) % W) (y := (c : Int) / W + 1) a1 a2 (by omega) (by omega)
      have e3 : ((c : Int) / W + 1) * W = (c : Int) / W * W + W := by rw [Int.add_mul, Int.one_mul]
      refine .inl ⟨s, ?_, hs, by omega, by simp only; rw [Int.add_zero]; exact e, by simp only; omega⟩
      unfold stepZ
      rw [if_neg (by omega), if_pos rfl, if_pos h]; omega
    · refine .inr ⟨?_, by simp only; omega⟩
      unfold stepZ
      rw [if_neg (by omega), if_pos rfl, if_neg h]; omega
theorem getF {bs : List Bool} {fill : List Int} {k : Nat} (hk : k < bs.length) : (freF bs fill).getD k false = freK bs fill k := by
  rw [List.getD_eq_getElem?_getD, List.getElem?_eq_getElem (by rw [freF_len]; exact hk), freF_get]; rfl
/-- a domino laid one way -/
theorem dom_branch {W T : Int} {bs : List Bool} {pss : List (List Ce)} {m n c : Nat} {fill : List Int} {used : List Bool} (hf : FldF W T bs.length) (hl : fill.length = bs.length) (hc : c < bs.length) (hfc : freK bs fill c = true) {d : Int} {q : Ce} (hd : (d = 1 ∧ q = (1, 0)) ∨ (d = 2 ∧ q = (0, 1))) (X : Nat)
    (ih : fitF W T bs fill c [(0, 0), q] = true → ((fillsN W T bs pss true m (setF fill (plcL W c [(0, 0), q]) n) (used.set n true)).length : Int) = X * tilN W T (freF bs (setF fill (plcL W c [(0, 0), q]) n))) :
    (((if fitF W T bs fill c [(0, 0), q] then fillsN W T bs pss true m (setF fill (plcL W c [(0, 0), q]) n) (used.set n true) else []).length : Nat) : Int) = X * partB W T 2 (tilN W T) (freF bs fill) c d := by
  obtain ⟨a1, a2, a3, a4, a5⟩ := hf.xy hc
  have hcF : c < (freF bs fill).length := by rw [freF_len]; exact hc
  have hFc : (freF bs fill)[c] = true := by rw [freF_get]; exact hfc
  have ex0 : fxC W c [(0, 0), q] (0, 0) = (c : Int) % W := by unfold fxC; simp
  have ey0 : fyC W c [(0, 0), q] (0, 0) = (c : Int) / W := by unfold fyC; simp
  have ex1 : fxC W c [(0, 0), q] q = (c : Int) % W + q.1 := by unfold fxC; simp
  have ey1 : fyC W c [(0, 0), q] q = (c : Int) / W + q.2 := by unfold fyC; simp
  have fit_eq : fitF W T bs fill c [(0, 0), q] = (decide (0 ≤ (c : Int) % W + q.1 ∧ (c : Int) % W + q.1 ≤ W - 1 ∧ 0 ≤ (c : Int) / W + q.2 ∧ (c : Int) / W + q.2 ≤ T - 1) && freK bs fill (((c : Int) / W + q.2) * W + ((c : Int) % W + q.1)).toNat) := by
    unfold fitF fitQ
    rw [List.all_cons, List.all_cons, List.all_nil, ex0, ey0, ex1, ey1, a5, Int.toNat_natCast, hfc, decide_eq_true ⟨a1, a2, a3, a4⟩]
    simp
  rcases dom_step hf hc hd with ⟨s, e1, e2, e3, e4, e5⟩ | ⟨e1, e2⟩
  · rw [decide_eq_true e5, e4, Int.toNat_natCast, Bool.true_and] at fit_eq
    cases hs : freK bs fill s with
    | false =>
      rw [fit_eq, hs, part_f hcF hFc (.inr (by rw [e1, Int.toNat_natCast, getF e2, hs]))]
      simp
    | true =>
      have hp : plcL W c [(0, 0), q] = [c, s] := by
        unfold plcL
        rw [List.map_cons, List.map_cons, List.map_nil, ex0, ey0, ex1, ey1, a5, e4, Int.toNat_natCast, Int.toNat_natCast]
      have hF : freF bs (setF fill [c, s] n) = ((freF bs fill).set c false).set s false := by
        show freF bs ((fill.set c (n : Int)).set s (n : Int)) = _
        rw [freF_set (by rw [List.length_set, hl]; exact e2) (by omega), freF_set (by rw [hl]; exact hc) (by omega)]
      rw [fit_eq, hs] at ih
      have := ih rfl
      rw [fit_eq, hs, if_pos rfl, this, hp, hF, part_t hcF hFc e1 (by rw [getF e2, hs])]
  · rw [decide_eq_false e2, Bool.false_and] at fit_eq
    rw [fit_eq, part_f hcF hFc (.inl e1)]
    simp
theorem fills_dom {W T : Int} {bs : List Bool} {pss : List (List Ce)} (hf : FldF W T bs.length) (hp : ∀ n, n < pss.length → PieceOk (pss.getD n [])) (h2 : ∀ n, n < pss.length → (pss.getD n []).length = 2) :
    ∀ (m : Nat) (fill : List Int) (used : List Bool), StF bs pss.length fill used → unN used ≤ m → cnt (freF bs fill) = 2 * (unN used : Int) → cnt (freF bs fill) ≤ 24 →
      ((fillsN W T bs pss true m fill used).length : Int) = fct (unN used) * tilN W T (freF bs fill) := by
  have leaf : ∀ (fill : List Int) (used : List Bool), StF bs pss.length fill used → cnt (freF bs fill) = 2 * (unN used : Int) → atF bs fill = bs.length →
      (((if true && !used.all id then ([] : List (List Int)) else [fill]).length : Nat) : Int) = fct (unN used) * tilN W T (freF bs fill) := fun fill used h he hc => by
    have h0 := free_full hc
    have hu : unN used = 0 := by omega
    have hall : used.all id = true := all_used.2 fun n => by
      cases e : used.getD n true with
      | true => rfl
      | false => have := unN_pos e; omega
    rw [hall, hu, tilN_none (by rw [freF_len]; exact hc)]
    rfl
  intro m
  induction m with
  | zero =>
    intro fill used h hu he hb
    unfold fillsN
    by_cases hc : atF bs fill = bs.length
    · rw [if_pos hc]; exact leaf fill used h he hc
    · exfalso
      have hc' : atF bs fill < bs.length := by have := atF_le bs fill; omega
      have := cnt_set_eq (freF bs fill) (atF bs fill) (by rw [freF_len]; exact hc') (by rw [freF_get]; exact atF_t hc')
      have := (cnt_le ((freF bs fill).set (atF bs fill) false)).1
      omega
  | succ m ih =>
    intro fill used h hu he hb
    unfold fillsN
    by_cases hc : atF bs fill = bs.length
    · rw [if_pos hc]; exact leaf fill used h he hc
    · rw [if_neg hc]
      have hc' : atF bs fill < bs.length := by have := atF_le bs fill; omega
      have hpos : 0 < unN used := by
        have := cnt_set_eq (freF bs fill) (atF bs fill) (by rw [freF_len]; exact hc') (by rw [freF_get]; exact atF_t hc')
        have := (cnt_le ((freF bs fill).set (atF bs fill) false)).1
        omega
      obtain ⟨u, hu1⟩ : ∃ u, unN used = u + 1 := ⟨unN used - 1, by omega⟩
      have hrec := tilN_rec (W := W) (T := T) (F := freF bs fill) (c := atF bs fill) hb rfl (by rw [freF_len]; exact hc')
      have br : ∀ n, n < pss.length → used.getD n true = false → ∀ (d : Int) (q : Ce), ((d = 1 ∧ q = (1, 0)) ∨ (d = 2 ∧ q = (0, 1))) → [(0, 0), q] ∈ formsV (pss.getD n []) →
          (((if fitF W T bs fill (atF bs fill) [(0, 0), q] then fillsN W T bs pss true m (setF fill (plcL W (atF bs fill) [(0, 0), q]) n) (used.set n true) else []).length : Nat) : Int) = fct u * partB W T 2 (tilN W T) (freF bs fill) (atF bs fill) d := fun n hn hun d q hd hx => by
        refine dom_branch hf h.len hc' (atF_t hc') hd (fct u) (fun hfit => ?_)
        have h3 := unN_set hun
        have h4 := free_setF (bs := bs) (v := (n : Int)) (by omega) (plcL W (atF bs fill) [(0, 0), q]) fill h.len (plc_nodup hf hfit (forms_of_form hx).2.2.2.1) (fun k hk => plc_free hfit hk)
        have h5 : (plcL W (atF bs fill) [(0, 0), q]).length = 2 := by unfold plcL; rw [List.length_map]; rfl
        have h6 := ih _ _ (h.next hfit hn) (by omega) (by rw [h5] at h4; omega) (by rw [h5] at h4; omega)
        rw [show unN (used.set n true) = u by omega] at h6
        exact h6
      obtain ⟨X, hX⟩ : ∃ X : Nat, (X : Int) = fct u * tilN W T (freF bs fill) := by
        have h0 := Int.mul_nonneg (show (0 : Int) ≤ (fct u : Int) by omega) (tilN_bd (W := W) (T := T) (freF bs fill)).1
        obtain ⟨X, e⟩ := Int.eq_ofNat_of_zero_le h0
        exact ⟨X, e.symm⟩
      have hsum : fct u * tilN W T (freF bs fill) = fct u * partB W T 2 (tilN W T) (freF bs fill) (atF bs fill) 1 + fct u * partB W T 2 (tilN W T) (freF bs fill) (atF bs fill) 2 := by
        rw [← Int.mul_add]
        congr 1
        rw [hrec]
        simp only [sumB]
        simp
      have hlen := flat_unN (used := used) (X := X) (f := fun n => if used.getD n true then [] else (formsV (pss.getD n [])).flatMap fun form =>
          if fitF W T bs fill (atF bs fill) form then fillsN W T bs pss true m (setF fill (plcL W (atF bs fill) form) n) (used.set n true) else [])
        (fun n _ hun => by simp only [hun]; rfl)
        (fun n hn hun => by
          rw [h.ulen] at hn
          simp only [hun]
          rw [if_neg (by simp)]
          have hH := fun hx => br n hn hun 1 (1, 0) (.inl ⟨rfl, rfl⟩) hx
          have hV := fun hx => br n hn hun 2 (0, 1) (.inr ⟨rfl, rfl⟩) hx
          rcases dom_forms (hp n hn) (h2 n hn) with e | e
          · rw [e] at hH hV ⊢
            have hH := hH (by simp [domH])
            have hV := hV (by simp [domV])
            rw [List.flatMap_cons, List.flatMap_cons, List.flatMap_nil, List.append_nil, List.length_append]
            show (_ : Nat) + (_ : Nat) = X
            unfold domH domV
            omega
          · rw [e] at hH hV ⊢
            have hH := hH (by simp [domH])
            have hV := hV (by simp [domV])
            rw [List.flatMap_cons, List.flatMap_cons, List.flatMap_nil, List.append_nil, List.length_append]
            show (_ : Nat) + (_ : Nat) = X
            unfold domH domV
            omega)
      rw [h.ulen] at hlen
      rw [hlen, hu1, Int.natCast_mul, hX, show fct (u + 1) = (u + 1) * fct u from rfl, Int.natCast_mul, Int.mul_assoc]
/-- as many as tilings, times the orders -/
theorem fillsV_dom {W T : Int} {bs : List Bool} {pss : List (List Ce)} (hf : FldF W T bs.length) (h24 : cnt bs ≤ 24) (hp : ∀ n, n < pss.length → PieceOk (pss.getD n [])) (h2 : ∀ n, n < pss.length → (pss.getD n []).length = 2) (hc : cnt bs = 2 * (pss.length : Int)) :
    ((fillsV W T bs pss).length : Int) = fct pss.length * tilN W T bs := by
  have := fills_dom hf hp h2 _ _ _ (st_0 bs _) (by rw [unN_0]; exact Nat.le_refl _) (by rw [fre_0, unN_0]; exact hc) (by rw [fre_0]; exact h24)
  rw [unN_0, fre_0] at this
  exact this
end Go.Proofs.YtejkbjcmndnfeaaGreat

/- Contract: the closure that counts tilings and knows what it has counted. -/
namespace Go.Proofs.YtejkbjcmndnfeaaGreat
open Go.RowKit

theorem Tryz.infoU8 : (Tryz.prog.info? 5).map (fun i => (i.zero, i.size, i.bytes)) = some (some (.int .u8 0), 1, 1) := by kernel_rfl
theorem keyS : Maps.Keyed Tryz.prog 9 := Maps.string_keyed Tryz.underlying9
theorem zeroI64 (w : World) : (zeroValue 3).run Tryz.prog w = .ok (.int .i64 0) w := by kernel_rfl
def kS (l : List UInt8) : Lit := .string l
theorem kS_lit (l : List UInt8) : WideAt.IsKeyLit (kS l) := by unfold kS; simp [WideAt.IsKeyLit]
theorem keyS_of {l : List UInt8} (h : l.length ≤ 1000) : keyOf Tryz.prog 9 (.string ⟨l.toArray⟩) = some (kS l) := by
  have := Go.WideMaps.keyOf_string_mk (P := Tryz.prog) (k := 9) Tryz.underlying9 (s := ⟨l.toArray⟩) (by unfold maxLen; simp [ByteArray.size]; omega)
  simpa [kS] using this
/-- block b of w is a map that tells counts -/
def KM (W T : Int) (bs : List Bool) (w : World) (b n : Nat) : Prop := ∃ D : DataW Unit, w.ownsMap Tryz.prog 9 (plainElem Tryz.prog 3) b n D ∧
  ∀ (c : Nat) (cov : List Bool), cov.length = bs.length → c < bs.length → firstB (freeL bs cov) = c → Maps.has D (kS (keyB c cov)) = true → ∀ z, D.atKey (kS (keyB c cov)) z = .lit (.int .i64 (tilN W T (freeL bs cov)))
theorem KM.kept {W T : Int} {bs : List Bool} {w w' : World} {b n : Nat} {row : Option Nat} (h : KM W T bs w b n) (hg : w.grownBy w' row) (hne : some b ≠ row) : KM W T bs w' b n := by
  obtain ⟨D, h1, h2⟩ := h; exact ⟨D, h1.kept hg hne, h2⟩
theorem KM.mono {W T : Int} {bs : List Bool} {w : World} {b n n' : Nat} (h : KM W T bs w b n) (hn : n ≤ n') : KM W T bs w b n' := by
  obtain ⟨D, h1, h2⟩ := h; exact ⟨D, h1.mono hn, h2⟩
theorem KM.lt {W T : Int} {bs : List Bool} {w : World} {b n : Nat} (h : KM W T bs w b n) : b < w.heap.size := by obtain ⟨D, h1, h2⟩ := h; exact h1.lt
theorem KM.made (W T : Int) (bs : List Bool) (w : World) : KM W T bs (w.alloc (.map #[] 0)) w.heap.size 0 := ⟨_, World.ownsMap_made w _ _ _, fun _ _ _ _ _ h => by cases h⟩
section
variable {w : World} {ops : Array Oper} {rest : List Oper} {o : Oper} {a : Act} {Q : Exit → Act → World → Prop}
set_option maxRecDepth 100000 in
theorem upd_k {W T : Int} {bs : List Bool} {b n c : Nat} {cov : List Bool} (h : KM W T bs w b n) (hn : n < 2000000000) (hcl : cov.length = bs.length) (hc : c < bs.length) (h36 : bs.length ≤ 36) (hf : firstB (freeL bs cov) = c) (hg : o.guard = none) (m x v : Operand) (hop : o.op = Op.mapUpdate 183 m x v) (hm : a.eval m = .map (some b))
    (hx : a.eval x = .string ⟨(keyB c cov).toArray⟩) (hv : a.eval v = .int .i64 (tilN W T (freeL bs cov)))
    (hK : ∀ w', KM W T bs w' b (n + 1) → w.grownBy w' (some b) → wpList Tryz.prog ops Q rest (a.put o.dst undef) w') : wpList Tryz.prog ops Q (o :: rest) a w := by
  obtain ⟨D, h1, h2⟩ := h
  have hkl : (keyB c cov).length ≤ 1000 := by unfold keyB; simp; omega
  have hb := tilN_bd (W := W) (T := T) (freeL bs cov)
  have hwf : (Lit.int .i64 (tilN W T (freeL bs cov))).wf = true := by
    obtain ⟨b1, b2⟩ := hb
    simp [Lit.wf, IntKind.min, IntKind.max, IntKind.bits, IntKind.signed] <;> omega
  refine wpList_mapUpdate_own w hg m x v 183 hop 9 3 keyS Tryz.underlying183 _ b n D hm h1 (by unfold maxLen; omega) _ _ _ hx hv (keyS_of hkl) _ _ (plainElem_int Tryz.underlying3 hwf) (fun w' h3 h4 => hK w' ⟨_, h3, fun c' cov' l1 l2 l3 l4 z => ?_⟩ h4)
  by_cases e : keyB c' cov' = keyB c cov
  · obtain ⟨e1, e2⟩ := key_inj (by omega) (by omega) e
    subst e1
    rw [e, Maps.atKey_put_same h1.isMap (kS_lit _)]
    rw [free_of_key hcl l1 e2.symm (firstB_pre hf) (firstB_pre l3)]
  · have hne : kS (keyB c' cov') ≠ kS (keyB c cov) := fun x => e (by unfold kS at x; injection x)
    rw [Maps.has_put_other hne] at l4
    rw [Maps.atKey_put_other hne]
    exact h2 c' cov' l1 l2 l3 l4 z
set_option maxRecDepth 100000 in
theorem look_hit {W T : Int} {bs : List Bool} {b n c : Nat} {cov : List Bool} {D : DataW Unit} (h1 : w.ownsMap Tryz.prog 9 (plainElem Tryz.prog 3) b n D) (hkl : (keyB c cov).length ≤ 1000) (hh : Maps.has D (kS (keyB c cov)) = true) (h2 : ∀ z, D.atKey (kS (keyB c cov)) z = .lit (.int .i64 (tilN W T (freeL bs cov)))) (hg : o.guard = none) (m x : Operand) (hop : o.op = Op.lookup 183 m x true) (hm : a.eval m = .map (some b))
    (hx : a.eval x = .string ⟨(keyB c cov).toArray⟩) (hK : wpList Tryz.prog ops Q rest (a.put o.dst (.tuple #[.int .i64 (tilN W T (freeL bs cov)), .bool true])) w) : wpList Tryz.prog ops Q (o :: rest) a w := by
  refine wpList_lookup_own_ok_int w hg m x 183 hop 9 3 .i64 keyS Tryz.underlying183 Tryz.underlying3 (zeroI64 w) b n D hm h1 _ _ hx (keyS_of hkl) (fun q hq _ => ?_)
  have hqs : q = tilN W T (freeL bs cov) := by
    have e2 : (DataW.lit (.int .i64 q) : DataW Unit) = .lit (.int .i64 (tilN W T (freeL bs cov))) := hq.symm.trans (h2 _)
    injection e2 with e2
    injection e2
  rw [hh, hqs]
  exact hK
set_option maxRecDepth 100000 in
theorem look_miss {b n c : Nat} {cov : List Bool} {D : DataW Unit} (h1 : w.ownsMap Tryz.prog 9 (plainElem Tryz.prog 3) b n D) (hkl : (keyB c cov).length ≤ 1000) (hh : Maps.has D (kS (keyB c cov)) = false) (hg : o.guard = none) (m x : Operand) (hop : o.op = Op.lookup 183 m x true) (hm : a.eval m = .map (some b))
    (hx : a.eval x = .string ⟨(keyB c cov).toArray⟩) (hK : ∀ q : Int, wpList Tryz.prog ops Q rest (a.put o.dst (.tuple #[.int .i64 q, .bool false])) w) : wpList Tryz.prog ops Q (o :: rest) a w := by
  refine wpList_lookup_own_ok_int w hg m x 183 hop 9 3 .i64 keyS Tryz.underlying183 Tryz.underlying3 (zeroI64 w) b n D hm h1 _ _ hx (keyS_of hkl) (fun q _ _ => ?_)
  rw [hh]
  exact hK q
/-- a list of bytes of the call's own -/
def OwnU (w : World) (base : Nat) (v : Value) (xs : List Int) : Prop := ∃ (A : Option Addr) (c : Nat), v = .slice A xs.length c ∧ w.ownsRow base 5 1 v xs.length (xs.map (.int .u8))
theorem app_u8 (w : World) (hgd : o.guard = none) (s x : Operand) (ho : o.op = .call { callee := .builtin .append, args := #[s, x], argTypes := #[22, 22] })
    (base : Nat) (v : Value) (xs : List Int) (m : Nat) (hm : xs.length = m) (hs : a.eval s = v) (hown : OwnU w base v xs) (u : Int) (hx : a.eval x = .slice (some ⟨w.heap.size, 0, none⟩) 1 1) (hn : m ≤ 1000000000000) (hbase : base ≤ w.heap.size)
    (h : ∀ (g c' : Nat) (w' : World), OwnU w' base (.slice (some ⟨g, 0, none⟩) (m + 1) c') (xs ++ [u]) → Below base w w' → wpList Tryz.prog ops Q rest (a.put o.dst (.slice (some ⟨g, 0, none⟩) (m + 1) c')) w') :
    wpList Tryz.prog ops Q (o :: rest) a (w.alloc (.cells #[.int .u8 u] 5)) := by
  obtain ⟨i0, hi, hz0, hz1, hz2⟩ := info_parts Tryz.infoU8
  subst hm
  obtain ⟨A, c, e, hown⟩ := hown
  refine wpList_append_own _ hgd s x 22 ho base 5 i0 (.int .u8 0) 1 1 Tryz.underlying22 hi hz0 hz1 hz2 rfl (by decide) v _ _ hs (hown.alloc _) ⟨w.heap.size, 0, none⟩ 1 1 [.int .u8 u] hx rfl ?_ ?_ ?_ ?_ ?_ ?_
  · intro j y hj
    match j, hj with
    | 0, hj => simp at hj; subst hj; simp [Addr.add]
  · intro y hy; simp at hy; subst hy; rfl
  · unfold maxLen; omega
  · omega
  · simp; omega
  · intro v' w' h1 h2 _
    have e1 : xs.map (Value.int .u8) ++ [.int .u8 u] = (xs ++ [u]).map (.int .u8) := by simp
    rw [e1] at h1
    obtain ⟨g, cap, rfl, _, _⟩ := h1.form (by omega)
    have e2 : (xs ++ [u]).length = xs.length + 1 := by simp
    refine h _ _ w' ⟨_, _, by rw [e2], by rw [e2]; exact h1⟩ ?_
    refine ((Below.refl base w).alloc hbase _).grown h2 (by simp; omega) (fun k hk => (hown.lt k hk).1)
end
/-- the bytes of a key, so far -/
def keyT (c : Nat) (cov : List Bool) (j : Nat) : List Int := ((keyB c cov).take (j + 1)).map fun u => (u.toNat : Int)
theorem keyT_zero {c : Nat} {cov : List Bool} (h : c < 256) : keyT c cov 0 = [(c : Int)] := by
  unfold keyT keyB
  simp [UInt8.toNat_ofNat']
  omega
theorem keyB_len (c : Nat) (cov : List Bool) : (keyB c cov).length = cov.length - c + 1 := by unfold keyB; simp
theorem keyT_step {c : Nat} {cov : List Bool} {j : Nat} (h : c + j < cov.length) : keyT c cov (j + 1) = keyT c cov j ++ [if cov[c + j] = true then (49 : Int) else 48] := by
  unfold keyT
  have hl := keyB_len c cov
  rw [List.take_succ_eq_append_getElem (i := j + 1) (by omega), List.map_append]
  congr 1
  have e : (keyB c cov)[j + 1]'(by omega) = bitU cov[c + j] := by
    unfold keyB
    simp
  simp only [List.map_cons, List.map_nil, e]
  cases cov[c + j] <;> rfl
theorem keyT_len {c : Nat} {cov : List Bool} {j : Nat} (h : c + j ≤ cov.length) : (keyT c cov j).length = j + 1 := by
  unfold keyT
  rw [List.length_map, List.length_take, keyB_len]
  omega
theorem keyT_all {c : Nat} {cov : List Bool} : keyT c cov (cov.length - c) = (keyB c cov).map fun u => (u.toNat : Int) := by
  unfold keyT
  rw [List.take_of_length_le (by rw [keyB_len]; omega)]
/-- the key as a text -/
theorem conv_key {w : World} {g cap : Nat} {l : List UInt8} (h : Rd w (some ⟨g, 0, none⟩) ((l.map fun u => (u.toNat : Int)).map (.int .u8))) :
    (convert 22 9 (.slice (some ⟨g, 0, none⟩) l.length cap)).run Tryz.prog w = .ok (.string ⟨l.toArray⟩) w :=
  run_convert_bytes_back w 22 9 5 ⟨g, 0, none⟩ cap l Tryz.underlying22 Tryz.underlying5 Tryz.underlying9 (fun j hj => by
    have h2 := h.cellEM (k := j) (by simpa using hj)
    rw [Nat.zero_add] at h2
    rw [add_ofs, Nat.zero_add, h2]
    simp)
end Go.Proofs.YtejkbjcmndnfeaaGreat

/- Contract: the closure that counts tilings: the walk. -/
namespace Go.Proofs.YtejkbjcmndnfeaaGreat
open Go.RowKit

/-- what the closure finds -/
structure Cst (W T : Int) (n c0 : Nat) (bs : List Bool) (A : Option Addr) (bo br bv bk : Nat) (w : World) : Prop where
  box : C3 w br (.int .i64 W) (.int .i64 T) (.slice A n c0)
  ov : w.cell? ⟨bv, 0, none⟩ = some (.map (some bo))
  ck : w.cell? ⟨bk, 0, none⟩ = some (.func (.func 208) #[] #[.pointer (some ⟨br, 0, none⟩), .pointer (some ⟨bv, 0, none⟩), .pointer (some ⟨bk, 0, none⟩)])
  rd : Rd w A (bs.map .bool)
  d1 : br ≠ bo
  d3 : bv ≠ bo
  d5 : bk ≠ bo
  hA : ∀ ad, A = some ad → ad.block ≠ bo
theorem Cst.gb {W T : Int} {n c0 : Nat} {bs : List Bool} {A : Option Addr} {bo br bv bk : Nat} {w w' : World} (h : Cst W T n c0 bs A bo br bv bk w) (hg : w.grownBy w' (some bo)) : Cst W T n c0 bs A bo br bv bk w' :=
  ⟨h.box.gb hg h.d1, gb_cell hg h.d3 h.ov, gb_cell hg h.d5 h.ck, h.rd.grownBelow hg (fun _ ad e e2 => h.hA ad e (by injection e2)), h.d1, h.d3, h.d5, h.hA⟩
def bud : Nat → Nat
  | 0 => 1
  | f + 1 => 2 * bud f + 1
def CntR (W T : Int) (bs : List Bool) (bo n1 f : Nat) (res : Int) (w : World) (e : Ending) (w' : World) : Prop := ∃ n2 : Nat, e = .returned (.int .i64 res) ∧ KM W T bs w' bo n2 ∧ n2 ≤ n1 + bud f ∧ w.grownBy w' (some bo)
def CntOk (W T : Int) (n c0 : Nat) (bs : List Bool) (A : Option Addr) (bo br bv bk f : Nat) : Prop :=
  ∀ (w : World) (cov : List Bool) (cell : Nat) (A0 : Option Addr) (q0 n1 : Nat), Cst W T n c0 bs A bo br bv bk w → KM W T bs w bo n1 → Rd w A0 (cov.map .bool) → (∀ ad, A0 = some ad → ad.block ≠ bo) → cov.length = n → n ≤ q0 → cell ≤ n → cnt (freeL bs cov) ≤ f → f ≤ 24 → n1 + bud f ≤ 1000000000 →
    (∀ k (hk : k < (freeL bs cov).length), k < cell → (freeL bs cov)[k] = false) →
    Calls Tryz.prog 208 #[.slice A0 n q0, .int .i64 cell, .pointer (some ⟨br, 0, none⟩), .pointer (some ⟨bv, 0, none⟩), .pointer (some ⟨bk, 0, none⟩)] w (CntR W T bs bo n1 f (tilN W T (freeL bs cov)) w)
theorem bud_pos (f : Nat) : 1 ≤ bud f := by cases f <;> simp [bud]
theorem cntP {F : List Bool} {k : Nat} (hk : k < F.length) (h : F[k] = true) : 1 ≤ cnt F := by
  have := cnt_set_lt F k hk h
  have := (cnt_le (F.set k false)).1
  omega
/-- the loop that writes the key -/
def LoopK (k : Nat) (cov : List Bool) (w : World) (v8 v55 : Value) (wr : World) : Prop := ∃ j g c : Nat, j ≤ cov.length - k ∧ v55 = .int .i64 j ∧ v8 = .slice (some ⟨g, 0, none⟩) (j + 1) c ∧ OwnU wr w.heap.size v8 (keyT k cov j) ∧ Below w.heap.size w wr
theorem OwnU.belo {w w' : World} {base : Nat} {v : Value} {xs : List Int} (h : OwnU w base v xs) (hb : Below w.heap.size w w') : OwnU w' base v xs := by
  obtain ⟨A, c, e, h⟩ := h; exact ⟨A, c, e, own_below h hb (Nat.le_refl _)⟩
theorem OwnU.rd {w : World} {base g m c : Nat} {xs : List Int} (h : OwnU w base (.slice (some ⟨g, 0, none⟩) m c) xs) : Rd w (some ⟨g, 0, none⟩) (xs.map (.int .u8)) ∧ base ≤ g := by
  obtain ⟨A, c', e, h⟩ := h
  injection e with e1 e2 e3
  subst e1; subst e2; subst e3
  exact ⟨Rd.own h, (h.lt g rfl).1⟩
theorem gb_setN {w0 w : World} {row : Option Nat} (h : w0.grownBy w row) (b k : Nat) (u : Value) (hb : w0.heap.size ≤ b) : w0.grownBy (w.setCell ⟨b, k, none⟩ u) row :=
  ⟨h.os, h.tape, h.output, by simp; exact h.size, fun i hi hr => (Below.heap_setCell w ⟨b, k, none⟩ u i (by show i ≠ b; omega)).trans (h.block i hi hr)⟩
theorem til_sum (W T : Int) (F : List Bool) (c k : Nat) (hk : k ≤ 2) : 0 ≤ sumB W T 2 (tilN W T) F c k ∧ sumB W T 2 (tilN W T) F c k ≤ 33554432 := by
  have h := sumB_bd W T 2 24 F c k hk
  have e : (2 : Int) * 2 ^ 24 = 33554432 := by decide
  rw [e] at h
  exact h
theorem below_noneT {w w' : World} (h : Below w.heap.size w w') : w.grownBy w' none := ⟨h.os, h.tape, h.output, h.size, fun i hi _ => h.block i hi⟩
/-- the loop over both ways -/
def LoopC (W T : Int) (bs : List Bool) (F : List Bool) (bo k n1 B : Nat) (w3 : World) (v13 v78 : Value) (wr : World) : Prop := ∃ q n2 : Nat, q ≤ 2 ∧ v78 = .int .i64 q ∧ v13 = .int .i64 (sumB W T 2 (tilN W T) F k q) ∧ KM W T bs wr bo n2 ∧ n2 ≤ n1 + q * B ∧ w3.grownBy wr (some bo)
set_option maxRecDepth 100000 in
set_option maxHeartbeats 8000000 in
theorem count_step {W T : Int} {n c0 : Nat} {bs : List Bool} {A : Option Addr} {bo br bv bk f : Nat} (h1 : 1 ≤ W) (h2 : W ≤ 6) (h3 : 1 ≤ T) (h4 : T ≤ 6) (hn : bs.length = n) (hWT : W * T = (n : Int))
    (ih : ∀ f', f = f' + 1 → CntOk W T n c0 bs A bo br bv bk f') : CntOk W T n c0 bs A bo br bv bk f := by
  intro w cov cell A0 q0 n1 S HK0 hcov hA0 hcl hq0 hcell hcnt hf hn1 hpre
  have n36 : n ≤ 36 ∧ 1 ≤ n := by have := mul_bd h1 h2 h3 h4; omega
  obtain ⟨n36, n1n⟩ := n36
  have HN := Lib.hid hn
  have HCL := Lib.hid hcl
  have HWT := Lib.hid hWT
  have HIH := Lib.hid ih
  have HPRE := Lib.hid hpre
  have HCNT := Lib.hid hcnt
  have hFl : (freeL bs cov).length = n := by rw [freeL_len (by omega)]; exact hn
  have HFL := Lib.hid hFl
  obtain ⟨b0, o0, rfl, -⟩ := hcov.atEM (k := 0) (by omega)
  have hb0 : b0 ≠ bo := hA0 _ rfl
  have hlo := HK0.lt
  clear hn hcl hWT ih hpre hcnt hFl hA0
  obtain ⟨cr, cv, ck, hr, -, -, -, -⟩ := id S
  obtain ⟨r0, r1, r2⟩ := id cr
  go_enter Tryz.func208, Tryz.ntmps208
  go_wp2_with fail
  go_loop [1] (fun v => ∃ k : Nat, k ≤ n ∧ v = .int .i64 k ∧ Hid (∀ j (hj : j < (freeL bs cov).length), j < k → (freeL bs cov)[j] = false)) (fun v => n - (intOf v).toNat)
  case atStart => exact ⟨cell, hcell, rfl, HPRE.out⟩
  case round =>
    obtain ⟨k, hk, rfl, HK⟩ := hrel
    by_cases hlt : k < n
    · have kb : k < bs.length := by have := HN.out; omega
      have kc : k < cov.length := by have := HCL.out; omega
      obtain ⟨b, off, rfl, cb⟩ := hr.atEM kb
      have cw := hcov.cellEM kc
      have HG := Lib.hid (freeL_get kb kc)
      have kI : (k : Int) < (n : Int) := by omega
      cases hb : bs[k] with
      | false =>
        rw [hb] at cb
        have HF := Lib.hid (show (freeL bs cov)[k]'(by rw [HFL.out]; exact hlt) = false by rw [HG.out, hb]; rfl)
        clear hb
        go_wp2_with fail
        go_round
        case rel =>
          refine ⟨k + 1, by omega, by go_num, fun j hj hj2 => ?_⟩
          rcases Nat.lt_or_ge j k with h | h
          · exact HK.out j hj h
          · obtain rfl : j = k := by omega
            exact HF.out
        case measure => simp [intOf]; omega
      | true =>
        rw [hb] at cb
        cases hc : cov[k] with
        | true =>
          rw [hc] at cw
          have HF := Lib.hid (show (freeL bs cov)[k]'(by rw [HFL.out]; exact hlt) = false by rw [HG.out, hb, hc]; rfl)
          clear hb hc
          go_wp2_with fail
          go_round
          case rel =>
            refine ⟨k + 1, by omega, by go_num, fun j hj hj2 => ?_⟩
            rcases Nat.lt_or_ge j k with h | h
            · exact HK.out j hj h
            · obtain rfl : j = k := by omega
              exact HF.out
          case measure => simp [intOf]; omega
        | false =>
          rw [hc] at cw
          have HF := Lib.hid (show (freeL bs cov)[k]'(by rw [HFL.out]; exact hlt) = true by rw [HG.out, hb, hc]; rfl)
          clear hb hc
          have hkn : ((k : Int) == (n : Int)) = false := by rw [beq_eq_false_iff_ne]; omega
          have hfp := cntP (by rw [HFL.out]; exact hlt) HF.out
          obtain ⟨f', rfl⟩ : ∃ f', f = f' + 1 := ⟨f - 1, by have := HCNT.out; omega⟩
          have HFIRST := Lib.hid (firstB_eq (F := freeL bs cov) (c := k) (by rw [HFL.out]; omega) HK.out (fun _ => HF.out))
          have HREC := Lib.hid (tilN_rec (W := W) (T := T) (F := freeL bs cov) (c := k) (by have := HCNT.out; omega) HFIRST.out (by rw [HFL.out]; exact hlt))
          have hwr : IntKind.u8.wrap (k : Int) = (k : Int) := by unfold IntKind.wrap; simp [IntKind.bits, IntKind.signed]; omega
          obtain ⟨i8, hi8, hz0, hz1, hz2⟩ := info_parts Tryz.infoU8
          have hb8 : i8.bytes * (n + 1) ≤ 281474976710656 := by rw [hz2]; omega
          have HZ := Lib.hid (And.intro hz0 (And.intro hz1 hz2))
          clear hfp hz0 hz1 hz2
          have hqk : ¬ q0 = k := by omega
          have hqk2 : ¬ k = q0 := by omega
          have hkq : k ≤ q0 := by omega
          have hk256 : k < 256 := by omega
          go_wp2_with (first
            | (at_make; refine wpList_make_own _ rfl _ _ 22 rfl w.heap.size 5 i8 (.int .u8 0) 1 Tryz.underlying22 hi8 HZ.out.1 HZ.out.2.1 .i64 .i64 _ (n + 1) rfl rfl (by simp) hb8 (by unfold maxLen; omega) (Nat.le_refl _) ?_; intro w2 own2 g2; have O2 : OwnU w2 w.heap.size (.slice (some ⟨w.heap.size, 0, none⟩) 0 (n + 1)) [] := ⟨_, _, rfl, own2⟩; have z2 := g2.size)
            | (at_builtin; refine app_u8 _ rfl _ _ rfl w.heap.size _ [] 0 rfl rfl O2 (k : Int) rfl (by omega) z2 ?_; intro g3 c3 w3 O3 b3))
          have B3 : Below w.heap.size w w3 := ((Below.refl w.heap.size w).grown g2 (Nat.le_refl _) (fun k hk => by cases hk)).trans b3
          have O3' : OwnU w3 w.heap.size (.slice (some ⟨g3, 0, none⟩) (0 + 1) c3) (keyT k cov 0) := by rw [keyT_zero hk256]; exact O3
          have hbl0 := World.block_lt_of_cell? w _ cw
          simp only at hbl0
          clear O2 O3 own2 g2 b3 z2 cb cw r0 r1 r2 cr cv ck hr hkn hb8 hi8 HZ hwr
          go_loopw [8, 55] (fun v8 v55 wr => LoopK k cov w v8 v55 wr) (fun _ v55 _ => n - (intOf v55).toNat)
          case atStart => exact ⟨0, g3, c3, Nat.zero_le _, rfl, rfl, O3', B3⟩
          case round =>
            clear O3' B3
            obtain ⟨j, g, cc, hj, rfl, rfl, OK, BK⟩ := hrel
            have hj' : j ≤ n - k := by have := HCL.out; omega
            obtain ⟨wo, hwo⟩ : ∃ wo : World, wo = wr := ⟨_, rfl⟩
            subst hwo
            by_cases hjn : j < n - k
            · have hkj : k + j < cov.length := by have := HCL.out; omega
              have cw := ((bcell BK).1 b0 (o0 + (k + j)) hbl0).trans (hcov.cellEM hkj)
              rw [← Nat.add_assoc] at cw
              have hlen := keyT_len (c := k) (cov := cov) (j := j) (by omega)
              have HST := Lib.hid (keyT_step (c := k) (cov := cov) (j := j) hkj)
              have HLN := Lib.hid hlen
              have hjI : (j : Int) < (n : Int) - (k : Int) := by omega
              have hjI2 : (j : Int) < ((n - k : Nat) : Int) := by omega
              have zK := BK.size
              have hv : cov[k + j] = true ∨ cov[k + j] = false := by cases cov[k + j] <;> simp
              clear hlen
              rcases hv with hv | hv
              · rw [hv] at cw
                have HV := Lib.hid hv
                clear hv
                go_wp2_with (at_builtin; refine app_u8 _ rfl _ _ rfl w.heap.size _ (keyT k cov j) (j + 1) HLN.out rfl OK 49 rfl (by omega) zK ?_; intro g4 c4 w4 O4 b4)
                go_roundw
                case rel => exact ⟨j + 1, g4, c4, by have := HCL.out; omega, by go_num, rfl, by rw [HST.out, HV.out, if_pos rfl]; exact O4, BK.trans b4⟩
                case measure => simp [intOf]; omega
              · rw [hv] at cw
                have HV := Lib.hid hv
                clear hv
                go_wp2_with (at_builtin; refine app_u8 _ rfl _ _ rfl w.heap.size _ (keyT k cov j) (j + 1) HLN.out rfl OK 48 rfl (by omega) zK ?_; intro g4 c4 w4 O4 b4)
                go_roundw
                case rel => exact ⟨j + 1, g4, c4, by have := HCL.out; omega, by go_num, rfl, by rw [HST.out, HV.out, if_neg (by simp)]; exact O4, BK.trans b4⟩
                case measure => simp [intOf]; omega
            · obtain rfl : j = n - k := by omega
              have hge : ¬ (((n - k : Nat) : Int) < (n : Int) - (k : Int)) := by omega
              have hge2 : ¬ (((n - k : Nat) : Int) < ((n - k : Nat) : Int)) := by omega
              have hkl : (keyB k cov).length = n - k + 1 := by rw [keyB_len, HCL.out]
              have HKL := Lib.hid hkl
              have hOK2 : OwnU wo w.heap.size (.slice (some ⟨g, 0, none⟩) (n - k + 1) cc) ((keyB k cov).map fun u => (u.toNat : Int)) := by
                rw [← keyT_all, HCL.out]; exact OK
              obtain ⟨hrk, hgk⟩ := OwnU.rd hOK2
              have hconv := conv_key (cap := cc) hrk
              rw [hkl] at hconv
              have GB : w.grownBy wo (some bo) := gb_below (World.grownBy.refl _ _) BK
              have S2 := S.gb GB
              have HS2 := Lib.hid S2
              have K2 := HK0.kept (below_noneT BK) (by simp)
              obtain ⟨D, hD1, hD2⟩ := id K2
              have HDV := Lib.hid (fun hh => hD2 k cov (HCL.out.trans HN.out.symm) kb HFIRST.out hh)
              have HRK := Lib.hid hrk
              have hgo : g ≠ bo := by omega
              have hzo := BK.size
              obtain ⟨-, xv, -, -, -, -, -, -⟩ := id S2
              clear hkl hOK2 OK K2 hrk hD2 S2
              cases hh : Maps.has D (kS (keyB k cov)) with
              | true =>
                have HH := Lib.hid hh
                clear hh
                go_wp2_with (at_lookup; refine look_hit (W := W) (T := T) (bs := bs) hD1 (by rw [HKL.out]; omega) HH.out (HDV.out HH.out) rfl _ _ rfl rfl rfl ?_)
                go_ret
                exact ⟨n1, rfl, HK0.kept (below_noneT BK) (by simp), by omega, GB⟩
              | false =>
                have HH := Lib.hid hh
                clear hh
                go_wp2_with (at_lookup; refine look_miss hD1 (by rw [HKL.out]; omega) HH.out rfl _ _ rfl rfl rfl ?_; intro q9)
                have h12 : Rd (wo.alloc (.cells #[.int .i64 1, .int .i64 2] 3)) (some ⟨wo.heap.size, 0, none⟩) (([1, 2] : List Int).map (.int .i64)) :=
                  Rd.own (World.ownsRow_lit (e := 3) (size := 1) wo #[.int .i64 1, .int .i64 2] 2 (Nat.le_refl _) (by unfold maxLen; omega) (by simp))
                have GA : wo.grownBy (wo.alloc (.cells #[.int .i64 1, .int .i64 2] 3)) (some bo) := gb_below (World.grownBy.refl _ _) (bl_alloc (Below.refl _ _) _)
                have K5 : KM W T bs (wo.alloc (.cells #[.int .i64 1, .int .i64 2] 3)) bo n1 := (HK0.kept (below_noneT BK) (by simp)).kept (below_noneT (bl_alloc (Below.refl _ _) _)) (by simp)
                have S5 := HS2.out.gb GA
                have cov5 : Rd (wo.alloc (.cells #[.int .i64 1, .int .i64 2] 3)) (some ⟨b0, o0, none⟩) (cov.map .bool) := (hcov.belo BK).alloc _
                have HRK5 := Lib.hid (HRK.out.alloc (.cells #[.int .i64 1, .int .i64 2] 3))
                have G5 := grownBy_trans' GB GA
                have hz5 : wo.heap.size < (wo.alloc (.cells #[.int .i64 1, .int .i64 2] 3)).heap.size := by simp
                have hbw : wo.heap.size ≠ bo := by omega
                clear GB GA hD1 HDV HRK xv HS2
                generalize wo.alloc (.cells #[.int .i64 1, .int .i64 2] 3) = w5 at *
                go_loopw [13, 78] (fun v13 v78 wr => LoopC W T bs (freeL bs cov) bo k n1 (bud f') w5 v13 v78 wr) (fun _ v78 _ => 2 - (intOf v78).toNat)
                case atStart => exact ⟨0, n1, by omega, rfl, rfl, K5, by omega, World.grownBy.refl _ _⟩
                case round =>
                  clear K5
                  obtain ⟨q, n2, hq, rfl, rfl, K6, hn2, G6⟩ := hrel
                  have HBU := Lib.hid (show bud (f' + 1) = 2 * bud f' + 1 from rfl)
                  have S6 := S5.gb G6
                  have cov6 := cov5.grownBelow G6 (fun _ ad ha e => by injection ha with ha; subst ha; exact hb0 (by simpa using e))
                  have hk6 := HRK5.out.grownBelow G6 (fun _ ad ha e => by injection ha with ha; subst ha; exact hgo (by simpa using e))
                  have l12 := h12.grownBelow G6 (fun _ ad ha e => by injection ha with ha; subst ha; exact hbw (by simpa using e))
                  obtain ⟨wq, hwq⟩ : ∃ wq : World, wq = wr := ⟨_, rfl⟩
                  subst hwq
                  have zq := G6.size
                  by_cases hq2 : q < 2
                  · obtain ⟨cr, cv, ck, hr, -, -, -, -⟩ := id S6
                    obtain ⟨r0, r1, r2⟩ := id cr
                    have cq := l12.cellEM (k := q) (by simpa using hq2)
                    rw [show ([1, 2] : List Int)[q]'(by simpa using hq2) = (q : Int) + 1 by rcases (show q = 0 ∨ q = 1 from by omega) with rfl | rfl <;> rfl] at cq
                    simp only [Nat.zero_add] at cq
                    obtain ⟨d, hd⟩ : ∃ d, (q : Int) + 1 = d := ⟨_, rfl⟩
                    have HSUM := Lib.hid (show sumB W T 2 (tilN W T) (freeL bs cov) k (q + 1) = sumB W T 2 (tilN W T) (freeL bs cov) k q + partB W T 2 (tilN W T) (freeL bs cov) k d by rw [← hd]; rfl)
                    have hd12 : d = 1 ∨ d = 2 := by omega
                    rw [hd] at cq
                    clear hd
                    obtain ⟨S0, hS0⟩ : ∃ S0, sumB W T 2 (tilN W T) (freeL bs cov) k q = S0 := ⟨_, rfl⟩
                    have hSb := til_sum W T (freeL bs cov) k q hq
                    rw [hS0] at hSb HSUM ⊢
                    clear hS0
                    obtain ⟨hSb1, hSb2⟩ := hSb
                    have HKW := Lib.hid (show (k : Int) < W * T by have := HWT.out; omega)
                    have qI : (q : Int) < 2 := by omega
                    have kI0 : (0 : Int) ≤ (k : Int) := by omega
                    have sbr := World.block_lt_of_cell? wq _ r0
                    have sbv := World.block_lt_of_cell? wq _ cv
                    have sbk := World.block_lt_of_cell? wq _ ck
                    have sb0 : b0 < wq.heap.size := by omega
                    simp only at sbr sbv sbk
                    have hsb := step_bd (W := W) (T := T) (c := (k : Int)) d h1 h2 h3 h4 kI0 HKW.out
                    have hsn := step_neq (W := W) (T := T) (c := (k : Int)) (d := d) h1 kI0
                    have HPF := Lib.hid (fun (hs : stepZ W T k d < 0 ∨ (freeL bs cov).getD (stepZ W T k d).toNat false = false) => part_f (W := W) (T := T) (rec := tilN W T) (by rw [HFL.out]; exact hlt) HF.out hs)
                    have HPT := Lib.hid (fun (s : Nat) (hs : stepZ W T k d = (s : Int)) (hF : (freeL bs cov).getD s false = true) => part_t (W := W) (T := T) (rec := tilN W T) (by rw [HFL.out]; exact hlt) HF.out hs hF)
                    have CS := Lib.hid (fun z => step_any W T (.slice (some ⟨b, off, none⟩) n c0) k d z h1 h2 h3 h4 kI0 HKW.out)
                    generalize stepZ W T k d = st at hsb hsn HPF HPT CS
                    rcases hsb with hs1 | ⟨hs0, hs1⟩
                    · subst hs1
                      have HS1 := Lib.hid (show sumB W T 2 (tilN W T) (freeL bs cov) k (q + 1) = S0 by rw [HSUM.out, HPF.out (.inl (by omega))]; omega)
                      go_wp2_with fail
                      refine (CS.out _).mono ?_
                      rintro e w6 ⟨rfl, b6⟩
                      go_wp2_with fail
                      go_roundw
                      case rel => exact ⟨q + 1, n2, by omega, by go_num, by rw [HS1.out], K6.kept (below_noneT b6) (by simp), by have := HBU.out; have := Nat.mul_le_mul_right (bud f') (show q ≤ q + 1 by omega); omega, gb_below G6 b6⟩
                      case measure => simp [intOf]; omega
                    · obtain ⟨sn, rfl⟩ := Int.eq_ofNat_of_zero_le hs0
                      have snn : sn < n := by have := HWT.out; omega
                      have sb : sn < bs.length := by have := HN.out; omega
                      have sc : sn < cov.length := by have := HCL.out; omega
                      have snI : (sn : Int) < (n : Int) := by omega
                      have cbs := hr.cellEM sb
                      have cws := cov6.cellEM sc
                      have HGS := Lib.hid (show (freeL bs cov).getD sn false = (bs[sn] && !cov[sn]) by rw [List.getD_eq_getElem?_getD, List.getElem?_eq_getElem (by rw [HFL.out]; exact snn)]; exact freeL_get sb sc)
                      have hne1 : sn ≠ k := by omega
                      have hvb : bs[sn] = true ∨ bs[sn] = false := by cases bs[sn] <;> simp
                      have hvc : cov[sn] = true ∨ cov[sn] = false := by cases cov[sn] <;> simp
                      have hfr : (bs[sn] = true ∧ cov[sn] = false) ∨ (bs[sn] && !cov[sn]) = false := by
                        rcases hvb with e1 | e1 <;> rcases hvc with e2 | e2 <;> simp [e1, e2]
                      have sblk := World.block_lt_of_cell? wq _ cbs
                      simp only at sblk
                      go_wp2_with fail
                      refine (CS.out _).mono ?_
                      rintro e w6 ⟨rfl, b6⟩
                      have bc := fun b o (h : b < wq.heap.size) => (bcell b6).1 b o h
                      have cbs6 := (bc b (off + sn) sblk).trans cbs
                      have cws6 := (bc b0 (o0 + sn) sb0).trans cws
                      have S7 := S6.gb (gb_below (World.grownBy.refl _ _) b6)
                      have K7 := K6.kept (below_noneT b6) (by simp)
                      have cov7 := cov6.belo b6
                      have G7 := gb_below G6 b6
                      obtain ⟨⟨y0, y1, y2⟩, yv, yk, -, -, -, -, -⟩ := id S7
                      clear cr cv ck hr r0 r1 r2 cq cbs cws S6 K6 cov6 G6 bc sbr sbv sbk
                      rcases hfr with ⟨e1, e2⟩ | hno
                      · rw [e1] at cbs6
                        rw [e2] at cws6
                        have HPV := Lib.hid (HPT.out sn rfl (by rw [HGS.out, e1, e2]; rfl))
                        have HFG := Lib.hid (show (freeL bs cov)[sn]'(by rw [HFL.out]; exact snn) = true by rw [freeL_get sb sc, e1, e2]; rfl)
                        clear e1 e2 hvb hvc
                        have CC := Lib.hid (cloneB0_any ⟨b0, o0, none⟩ q0 cov w6 cov7 (by intro e; rw [e] at kc; simp at kc) (by have := HCL.out; omega))
                        rw [HCL.out] at CC
                        have hF2 : freeL bs ((cov.set k true).set sn true) = ((freeL bs cov).set k false).set sn false := by
                          rw [freeL_set (by rw [List.length_set, HCL.out, HN.out]), freeL_set (by rw [HCL.out, HN.out])]
                        rw [← hF2] at HPV
                        have hcnt2 : cnt (freeL bs ((cov.set k true).set sn true)) ≤ f' := by
                          rw [hF2]
                          have c1 := cnt_set_lt (freeL bs cov) k (by rw [HFL.out]; exact hlt) HF.out
                          have c2 := cnt_set_le ((freeL bs cov).set k false) sn
                          have := HCNT.out
                          omega
                        have hpre2 : ∀ j (hj : j < (freeL bs ((cov.set k true).set sn true)).length), j < k + 1 → (freeL bs ((cov.set k true).set sn true))[j] = false := by
                          intro j hj hjk
                          have e : (freeL bs ((cov.set k true).set sn true))[j]? = (((freeL bs cov).set k false).set sn false)[j]? := by rw [hF2]
                          rw [List.getElem?_eq_getElem hj] at e
                          have hjF : j < (freeL bs cov).length := by rw [hF2] at hj; simpa using hj
                          rw [List.getElem?_eq_getElem (by simpa using hjF)] at e
                          injection e with e
                          rw [e, List.getElem_set, List.getElem_set]
                          split
                          · rfl
                          · split
                            · rfl
                            · exact HK.out j hjF (by omega)
                        have hcl2 : ((cov.set k true).set sn true).length = n := by rw [List.length_set, List.length_set]; exact HCL.out
                        have HI := Lib.hid (fun (z : World) (g7 c7 : Nat) (S8 : Cst W T n c0 bs (some ⟨b, off, none⟩) bo br bv bk z) (K8 : KM W T bs z bo n2) (R8 : Rd z (some ⟨g7, 0, none⟩) (((cov.set k true).set sn true).map .bool)) (hg7 : g7 ≠ bo) (hc7 : n ≤ c7) => by
                          have h := HIH.out f' rfl z ((cov.set k true).set sn true) (k + 1) (some ⟨g7, 0, none⟩) c7 n2 S8 K8 R8 (fun ad e => by injection e with e; subst e; exact hg7) hcl2 hc7 (by omega) hcnt2 (by omega) (by
                            have h1 := HBU.out
                            have h2 := Nat.mul_le_mul_right (bud f') (show q ≤ 1 by omega)
                            omega) hpre2
                          rw [show ((k + 1 : Nat) : Int) = (k : Int) + 1 by omega] at h
                          exact h)
                        have hv2 := tilN_bd (W := W) (T := T) (freeL bs ((cov.set k true).set sn true))
                        obtain ⟨T2, hT2⟩ : ∃ T2, tilN W T (freeL bs ((cov.set k true).set sn true)) = T2 := ⟨_, rfl⟩
                        rw [hT2] at HPV HI hv2
                        have HS1 := Lib.hid (show sumB W T 2 (tilN W T) (freeL bs cov) k (q + 1) = S0 + T2 by rw [HSUM.out, HPV.out])
                        obtain ⟨hv3, hv4⟩ := hv2
                        clear hT2 hF2 hcnt2 hpre2 hcl2 HPV HPT HPF HSUM
                        go_wp2_with fail
                        refine CC.out.mono ?_
                        rintro e w7 ⟨A7, c7, rfl, own7, hc7, b7⟩
                        obtain ⟨A7', c7', e7, own7'⟩ := own7
                        rw [HCL.out] at own7'
                        obtain ⟨g7, q7, e8, hg7, hg7s⟩ := own7'.form (by omega)
                        have eA : A7 = some ⟨g7, 0, none⟩ := by injection e8
                        subst eA
                        have W7 := Wr.of_own own7'
                        have hnn : cov.map Value.bool ≠ [] := by intro e; rw [List.map_eq_nil_iff] at e; rw [e] at kc; simp at kc
                        obtain ⟨g', hg', -, -, hfz⟩ := W7.form hnn
                        have hgg : g7 = g' := by injection hg' with hg'; injection hg'
                        subst hgg
                        have c71 := W7.rd.cellEM kc
                        have c72 := W7.rd.cellEM sc
                        rw [Nat.zero_add] at c71 c72
                        obtain ⟨u71, c71⟩ : ∃ u, w7.cell? ⟨g7, k, none⟩ = some u := ⟨_, c71⟩
                        obtain ⟨u72, c72⟩ : ∃ u, w7.cell? ⟨g7, sn, none⟩ = some u := ⟨_, c72⟩
                        have f71 := hfz k
                        have f72 := hfz sn
                        have sbk6 := World.block_lt_of_cell? w6 _ yk
                        simp only at sbk6
                        have yk7 := ((bcell b7).1 bk 0 sbk6).trans yk
                        have hbk1 : ¬ (bk = g7) := by omega
                        have hbk2 : ¬ (g7 = bk) := by omega
                        have hne2 : ¬ (k = sn) := fun e => hne1 e.symm
                        have hne3 : ¬ (sn = k) := hne1
                        have zlo : bo < w6.heap.size := K7.lt
                        have G8 : w6.grownBy ((w7.setCell ⟨g7, k, none⟩ (.bool true)).setCell ⟨g7, sn, none⟩ (.bool true)) (some bo) := gb_setN (gb_setN (gb_below (World.grownBy.refl _ _) b7) g7 k _ hg7) g7 sn _ hg7
                        have S8 := S7.gb G8
                        have K8 := K7.kept (gb_setN (gb_setN (below_noneT b7) g7 k (.bool true) hg7) g7 sn (.bool true) hg7) (by simp)
                        have R8 : Rd ((w7.setCell ⟨g7, k, none⟩ (.bool true)).setCell ⟨g7, sn, none⟩ (.bool true)) (some ⟨g7, 0, none⟩) (((cov.set k true).set sn true).map .bool) := by
                          rw [List.map_set, List.map_set]; exact ((W7.store k (.bool true)).store sn (.bool true)).rd
                        have CK8 := Lib.hid (HI.out _ g7 c7 S8 K8 R8 (by omega) hc7)
                        have G9 := grownBy_trans' G7 G8
                        clear own7' e7 e8 hfz W7 hnn S7 K7 S8 K8 R8 HI CC cov7 G8 y0 y1 y2 yv yk
                        go_wp2_with fail
                        refine CK8.out.mono ?_
                        rintro e w9 ⟨n3, rfl, K9, hn3, G10⟩
                        have HSM := Lib.hid (Nat.succ_mul q (bud f'))
                        go_wp2_with fail
                        go_roundw
                        case rel => exact ⟨q + 1, n3, by omega, by go_num, by rw [HS1.out], K9, by have := HSM.out; simp only [Nat.succ_eq_add_one] at this; omega, grownBy_trans' G9 G10⟩
                        case measure => simp [intOf]; omega
                      · have HS1 := Lib.hid (show sumB W T 2 (tilN W T) (freeL bs cov) k (q + 1) = S0 by rw [HSUM.out, HPF.out (.inr (by rw [Int.toNat_natCast, HGS.out]; exact hno))]; omega)
                        have HSM := Lib.hid (Nat.mul_le_mul_right (bud f') (show q ≤ q + 1 by omega))
                        rcases hvb with e1 | e1
                        · have e2 : cov[sn] = true := by rcases hvc with e | e; exact e; rw [e1, e] at hno; cases hno
                          rw [e1] at cbs6
                          rw [e2] at cws6
                          clear e1 e2 hno hvc
                          go_wp2_with fail
                          go_roundw
                          case rel => exact ⟨q + 1, n2, by omega, by go_num, by rw [HS1.out], K7, by have := HSM.out; omega, G7⟩
                          case measure => simp [intOf]; omega
                        · rw [e1] at cbs6
                          clear e1 hno hvc cws6
                          go_wp2_with fail
                          go_roundw
                          case rel => exact ⟨q + 1, n2, by omega, by go_num, by rw [HS1.out], K7, by have := HSM.out; omega, G7⟩
                          case measure => simp [intOf]; omega
                  · obtain rfl : q = 2 := by omega
                    have hge3 : ¬ ((2 : Int) < 2) := by omega
                    have HT2 := Lib.hid (show sumB W T 2 (tilN W T) (freeL bs cov) k 2 = tilN W T (freeL bs cov) from HREC.out.symm)
                    have hconv6 := conv_key (cap := cc) hk6
                    rw [HKL.out] at hconv6
                    have xv := S6.ov
                    rw [HT2.out]
                    clear hconv
                    go_wp2_with (at_mapUpdate; refine upd_k K6 (by have := HBU.out; omega) (HCL.out.trans HN.out.symm) kb (by have := HN.out; omega) HFIRST.out rfl _ _ _ rfl rfl rfl rfl ?_; intro w9 K9 g9)
                    go_ret
                    exact ⟨n2 + 1, rfl, K9, by have := HBU.out; omega, grownBy_trans' (grownBy_trans' G5 G6) g9⟩
    · obtain rfl : k = n := by omega
      have HT := Lib.hid (tilN_none (W := W) (T := T) (F := freeL bs cov) (firstB_eq (by rw [HFL.out]; omega) (fun j hj h2 => HK.out j hj (by rw [HFL.out] at hj; exact hj)) (fun h => by rw [HFL.out] at h; omega) |>.trans HFL.out.symm))
      have hkk : ((k : Int) == (k : Int)) = true := by simp
      go_wp2_with fail
      go_ret
      exact ⟨n1, ret_i (by rw [HT.out]), HK0, by omega, World.grownBy.refl _ _⟩
end Go.Proofs.YtejkbjcmndnfeaaGreat

/- Contracts: the program's count of tilings, and TilingsMany. -/
namespace Go.Proofs.YtejkbjcmndnfeaaGreat
open Go.RowKit

theorem count_all {W T : Int} {n c0 : Nat} {bs : List Bool} {A : Option Addr} {bo br bv bk : Nat} (h1 : 1 ≤ W) (h2 : W ≤ 6) (h3 : 1 ≤ T) (h4 : T ≤ 6) (hn : bs.length = n) (hWT : W * T = (n : Int)) : ∀ f, CntOk W T n c0 bs A bo br bv bk f
  | 0 => count_step h1 h2 h3 h4 hn hWT (fun f' h => by omega)
  | f + 1 => count_step h1 h2 h3 h4 hn hWT (fun f' h => by
      obtain rfl : f = f' := by omega
      exact count_all h1 h2 h3 h4 hn hWT f)
theorem free_none (bs : List Bool) : freeL bs (List.replicate bs.length false) = bs := by
  apply List.ext_getElem
  · rw [freeL_len (by simp)]
  · intro i h1 h2
    rw [freeL_get h2 (by simpa using h2)]
    simp
theorem al_newM (w : World) (v : Value) (t : TypeId) {n : Nat} (h : w.heap.size = n) : (w.alloc (.cells #[v] t)).cell? ⟨n, 0, none⟩ = some v := by subst h; exact cell_of_row _ _ _ _ _ _ (heap_alloc_new w _)
theorem al_oldM {w : World} {p : Addr} {v : Value} (o : Obj) (h : w.cell? p = some v) : (w.alloc o).cell? p = some v := (World.cell?_alloc_lt w o p (World.block_lt_of_cell? w _ h)).trans h
theorem make_boolM (W : World) (n : Nat) (hn : n ≤ 1000000) : ∃ w' : World, (Instr.makeSlice 23 (.int .i64 n) (.int .i64 n)).run Tryz.prog W = .ok (.slice (some ⟨W.heap.size, 0, none⟩) n n) w' ∧ Wr w' W.heap.size 4 (some ⟨W.heap.size, 0, none⟩) ((List.replicate n false).map .bool) ∧ Below W.heap.size W w' ∧ W.heap.size < w'.heap.size := by
  obtain ⟨i0, hi, hz0, hz1, hz2⟩ := info_parts Tryz.infoB
  obtain ⟨w', hrun, r1, r2⟩ := run_make_full (P := Tryz.prog) W W.heap.size 23 4 i0 (.bool false) 1 Tryz.underlying23 hi hz0 hz1 .i64 .i64 n (by rw [hz2]; omega) (by unfold maxLen; omega) (Nat.le_refl _)
  refine ⟨w', hrun, ?_, ((Below.refl W.heap.size W).grown r2 (Nat.le_refl _) (fun k hk => by cases hk)), own_lt r1 _ rfl⟩
  have h0 := Wr.of_own r1
  rw [show (Value.bool false).cells = #[.bool false] from rfl, toList_madeCells_one] at h0
  simpa using h0
theorem make_intM (W : World) (n : Nat) (hn : n ≤ 1000000) : ∃ w' : World, (Instr.makeSlice 27 (.int .i64 n) (.int .i64 n)).run Tryz.prog W = .ok (.slice (some ⟨W.heap.size, 0, none⟩) n n) w' ∧ Wr w' W.heap.size 3 (some ⟨W.heap.size, 0, none⟩) ((List.replicate n (0 : Int)).map (.int .i64)) ∧ Below W.heap.size W w' ∧ W.heap.size < w'.heap.size := by
  obtain ⟨i0, hi, hz0, hz1, hz2⟩ := info_parts Tryz.infoI
  obtain ⟨w', hrun, r1, r2⟩ := run_make_full (P := Tryz.prog) W W.heap.size 27 3 i0 (.int .i64 0) 1 Tryz.underlying27 hi hz0 hz1 .i64 .i64 n (by rw [hz2]; omega) (by unfold maxLen; omega) (Nat.le_refl _)
  refine ⟨w', hrun, ?_, ((Below.refl W.heap.size W).grown r2 (Nat.le_refl _) (fun k hk => by cases hk)), own_lt r1 _ rfl⟩
  have h0 := Wr.of_own r1
  rw [show (Value.int .i64 0).cells = #[.int .i64 0] from rfl, toList_madeCells_one] at h0
  simpa using h0
set_option maxRecDepth 100000 in
set_option maxHeartbeats 4000000 in
theorem count_any (W T : Int) (A A2 : Option Addr) (c c2 n : Nat) (bs : List Bool) (w : World) (hr : Rd w A (bs.map .bool)) (hr2 : Rd w A2 ((List.replicate n (0 : Int)).map (.int .i64))) (hv : validB W T bs = true) (hbn : bs.length = n) :
    Calls Tryz.prog 160 #[.agg #[.int .i64 W, .int .i64 T, .slice A n c], .slice A2 n c2] w fun e w' => e = .returned (.int .i64 (tilN W T bs)) ∧ Below w.heap.size w w' := by
  obtain ⟨h1, h2, h3, h4, hn36, h6⟩ := valid_len hv
  have hn1 : 1 ≤ n := by have := (mul_bd h1 h2 h3 h4).1; omega
  have h36 : n ≤ 36 := by omega
  have hcnt : cnt bs ≤ 24 := (validB_iff.1 hv).2.2.2
  have HLT := Lib.hid (fun ad (ha : A = some ad) => hr.lt ha (by intro e; rw [List.map_eq_nil_iff] at e; rw [e] at hbn; simp at hbn; omega))
  have CT := Lib.hid (fun (z : World) (g cap : Nat) (S : Cst W T n c bs A (w.heap.size + 1) w.heap.size (w.heap.size + 1 + 1) (w.heap.size + 1 + 1 + 1) z) (K : KM W T bs z (w.heap.size + 1) 0) (R : Rd z (some ⟨g, 0, none⟩) ((List.replicate n false).map .bool)) (hg : g ≠ w.heap.size + 1) (hc : n ≤ cap) => by
    have h := count_all (c0 := c) (A := A) (bo := w.heap.size + 1) (br := w.heap.size) (bv := w.heap.size + 1 + 1) (bk := w.heap.size + 1 + 1 + 1) h1 h2 h3 h4 hbn (by rw [← hbn]; exact h6.symm) 24 z (List.replicate n false) 0 (some ⟨g, 0, none⟩) cap 0 S K R (fun ad e => by injection e with e; subst e; exact hg) (by simp) hc (Nat.zero_le _)
      (by rw [← hbn, free_none]; exact hcnt) (Nat.le_refl _) (by decide) (fun k _ h => absurd h (Nat.not_lt_zero k))
    rw [← hbn, free_none, hbn] at h
    exact h)
  clear hcnt hn36 h6 hv hbn
  have X0 := C3.new w (.int .i64 W) (.int .i64 T) (.slice A n c) 25
  have B0 := bl_alloc (Below.refl w.heap.size w) (.cells #[.int .i64 W, .int .i64 T, .slice A n c] 25)
  have hmm := @run_makeMap Tryz.prog
  have e4 : ((((w.alloc (.cells #[.int .i64 W, .int .i64 T, .slice A n c] 25)).alloc (.map #[] 0)).alloc (.cells #[.map (some (w.heap.size + 1))] 183)).alloc (.cells #[.func (.func 208) #[] #[.pointer (some ⟨w.heap.size, 0, none⟩), .pointer (some ⟨w.heap.size + 1 + 1, 0, none⟩), .pointer (some ⟨w.heap.size + 1 + 1 + 1, 0, none⟩)]] 99)).heap.size = w.heap.size + 1 + 1 + 1 + 1 := by simp
  obtain ⟨w5, hrun, W5, b5, z5⟩ := make_boolM ((((w.alloc (.cells #[.int .i64 W, .int .i64 T, .slice A n c] 25)).alloc (.map #[] 0)).alloc (.cells #[.map (some (w.heap.size + 1))] 183)).alloc (.cells #[.func (.func 208) #[] #[.pointer (some ⟨w.heap.size, 0, none⟩), .pointer (some ⟨w.heap.size + 1 + 1, 0, none⟩), .pointer (some ⟨w.heap.size + 1 + 1 + 1, 0, none⟩)]] 99)) n (by omega)
  have S4 : Cst W T n c bs A (w.heap.size + 1) w.heap.size (w.heap.size + 1 + 1) (w.heap.size + 1 + 1 + 1) ((((w.alloc (.cells #[.int .i64 W, .int .i64 T, .slice A n c] 25)).alloc (.map #[] 0)).alloc (.cells #[.map (some (w.heap.size + 1))] 183)).alloc (.cells #[.func (.func 208) #[] #[.pointer (some ⟨w.heap.size, 0, none⟩), .pointer (some ⟨w.heap.size + 1 + 1, 0, none⟩), .pointer (some ⟨w.heap.size + 1 + 1 + 1, 0, none⟩)]] 99)) :=
    ⟨((X0.alloc _).alloc _).alloc _, al_oldM _ (al_newM _ _ _ (by simp)), al_newM _ _ _ (by simp), ((((hr.alloc _).alloc _).alloc _).alloc _), by omega, by omega, by omega, fun ad ha => by have := HLT.out ad ha; omega⟩
  have K4 : KM W T bs ((((w.alloc (.cells #[.int .i64 W, .int .i64 T, .slice A n c] 25)).alloc (.map #[] 0)).alloc (.cells #[.map (some (w.heap.size + 1))] 183)).alloc (.cells #[.func (.func 208) #[] #[.pointer (some ⟨w.heap.size, 0, none⟩), .pointer (some ⟨w.heap.size + 1 + 1, 0, none⟩), .pointer (some ⟨w.heap.size + 1 + 1 + 1, 0, none⟩)]] 99)) (w.heap.size + 1) 0 := by
    have h := KM.made W T bs (w.alloc (.cells #[.int .i64 W, .int .i64 T, .slice A n c] 25))
    rw [show (w.alloc (.cells #[.int .i64 W, .int .i64 T, .slice A n c] 25)).heap.size = w.heap.size + 1 by simp] at h
    exact (h.kept (World.grownBy_alloc _ _ none) (by simp)).kept (World.grownBy_alloc _ _ none) (by simp)
  have R4 : Rd ((((w.alloc (.cells #[.int .i64 W, .int .i64 T, .slice A n c] 25)).alloc (.map #[] 0)).alloc (.cells #[.map (some (w.heap.size + 1))] 183)).alloc (.cells #[.func (.func 208) #[] #[.pointer (some ⟨w.heap.size, 0, none⟩), .pointer (some ⟨w.heap.size + 1 + 1, 0, none⟩), .pointer (some ⟨w.heap.size + 1 + 1 + 1, 0, none⟩)]] 99)) A2 ((List.replicate n (0 : Int)).map (.int .i64)) := (((hr2.alloc _).alloc _).alloc _).alloc _
  have B4 : Below w.heap.size w ((((w.alloc (.cells #[.int .i64 W, .int .i64 T, .slice A n c] 25)).alloc (.map #[] 0)).alloc (.cells #[.map (some (w.heap.size + 1))] 183)).alloc (.cells #[.func (.func 208) #[] #[.pointer (some ⟨w.heap.size, 0, none⟩), .pointer (some ⟨w.heap.size + 1 + 1, 0, none⟩), .pointer (some ⟨w.heap.size + 1 + 1 + 1, 0, none⟩)]] 99)) := bl_alloc (bl_alloc (bl_alloc B0 _) _) _
  rw [e4] at hrun W5 z5
  go_enter Tryz.func160, Tryz.ntmps160
  go_wp2_with fail
  clear hrun hmm X0 B0 hr hr2
  generalize ((((w.alloc (.cells #[.int .i64 W, .int .i64 T, .slice A n c] 25)).alloc (.map #[] 0)).alloc (.cells #[.map (some (w.heap.size + 1))] 183)).alloc (.cells #[.func (.func 208) #[] #[.pointer (some ⟨w.heap.size, 0, none⟩), .pointer (some ⟨w.heap.size + 1 + 1, 0, none⟩), .pointer (some ⟨w.heap.size + 1 + 1 + 1, 0, none⟩)]] 99)) = w4 at *
  have HS := Lib.hid S4
  have HKM := Lib.hid K4
  have HR4 := Lib.hid R4
  have he4 : w4.heap.size = w.heap.size + 1 + 1 + 1 + 1 := e4
  have HE4 := Lib.hid he4
  clear S4 K4 R4 e4 he4
  go_loopw [18] (fun v18 wr => ∃ k : Nat, k ≤ n ∧ v18 = .int .i64 k ∧ Wr wr (w.heap.size + 1 + 1 + 1 + 1) 4 (some ⟨w.heap.size + 1 + 1 + 1 + 1, 0, none⟩) ((List.replicate n false).map .bool) ∧ Below w4.heap.size w4 wr) (fun v18 _ => n - (intOf v18).toNat)
  case atStart => exact ⟨0, Nat.zero_le _, rfl, W5, b5⟩
  case round =>
    clear W5 b5 z5
    obtain ⟨k, hk, rfl, W6, b6⟩ := hrel
    by_cases hlt : k < n
    · have kI : (k : Int) < (n : Int) := by omega
      have R6 := HR4.out.belo b6
      obtain ⟨ba, oa, rfl, hc⟩ := R6.atEM (k := k) (by simpa using hlt)
      rw [List.getElem_replicate] at hc
      have hnn : (List.replicate n false).map Value.bool ≠ [] := by intro e; have := congrArg List.length e; simp at this; omega
      obtain ⟨g', hg', -, hgs, hfz⟩ := W6.form hnn
      have hgg : w.heap.size + 1 + 1 + 1 + 1 = g' := by injection hg' with hg'; injection hg'
      have c1 := W6.rd.cellEM (k := k) (by simpa using hlt)
      rw [Nat.zero_add] at c1
      obtain ⟨u1, c1⟩ : ∃ u, wr.cell? ⟨w.heap.size + 1 + 1 + 1 + 1, k, none⟩ = some u := ⟨_, c1⟩
      have f1 := hfz k
      rw [← hgg] at f1 hgs
      clear hfz hg' hgg hnn R6
      go_wp2_with fail
      go_roundw
      case rel =>
        refine ⟨k + 1, by omega, by go_num, ?_, b6.setCell (by have := HE4.out; simp; omega) _⟩
        have h := W6.store k (.bool false)
        rw [List.map_replicate, List.set_replicate_self] at h
        rw [List.map_replicate]
        exact h
      case measure => simp [intOf]; omega
    · obtain rfl : k = n := by omega
      have S6 := HS.out.gb (gb_below (World.grownBy.refl _ _) b6)
      have K6 := HKM.out.kept (below_noneT b6) (by simp)
      have CK := Lib.hid (CT.out wr (w.heap.size + 1 + 1 + 1 + 1) k S6 K6 W6.rd (by omega) (Nat.le_refl _))
      have xk := S6.ck
      clear S6 K6
      go_wp2_with fail
      refine CK.out.mono ?_
      rintro e w7 ⟨n7, rfl, -, -, G7⟩
      go_wp2
      go_ret
      exact ⟨rfl, (B4.trans (b6.mono (by have := HE4.out; omega))).grown G7 (by have := b6.size; have := HE4.out; omega) (fun k hk => by injection hk with hk; omega)⟩
set_option maxRecDepth 100000 in
set_option maxHeartbeats 2000000 in
theorem total_any (W T : Int) (A : Option Addr) (c n : Nat) (bs : List Bool) (w : World) (hr : Rd w A (bs.map .bool)) (hv : validB W T bs = true) (hbn : bs.length = n) :
    Calls Tryz.prog 91 #[.agg #[.int .i64 W, .int .i64 T, .slice A n c]] w fun e w' => e = .returned (.int .i64 (tilN W T bs)) ∧ Below w.heap.size w w' := by
  have h36 : n ≤ 36 := by have := (valid_len hv).2.2.2.2.1; omega
  have X0 := C3.new w (.int .i64 W) (.int .i64 T) (.slice A n c) 25
  have B0 := bl_alloc (Below.refl w.heap.size w) (.cells #[.int .i64 W, .int .i64 T, .slice A n c] 25)
  have R0 := hr.alloc (.cells #[.int .i64 W, .int .i64 T, .slice A n c] 25)
  have CC := Lib.hid (fun (z : World) (A2 : Option Addr) (R : Rd z A (bs.map .bool)) (R2 : Rd z A2 ((List.replicate n (0 : Int)).map (.int .i64))) => count_any W T A A2 c n n bs z R R2 hv hbn)
  clear hv hbn hr
  go_enter Tryz.func91, Tryz.ntmps91
  go_wp2_with fail
  generalize hw1 : w.alloc (.cells #[.int .i64 W, .int .i64 T, .slice A n c] 25) = w1 at *
  clear hw1
  obtain ⟨w5, hrun5, W5, b5', z5⟩ := make_intM w1.drew n (by omega)
  have b5 : Below w1.heap.size w1 w5 := (Below.refl w1.heap.size w1).drew.trans b5'
  have W5r : Rd w5 (some ⟨w1.heap.size, 0, none⟩) ((List.replicate n (0 : Int)).map (.int .i64)) := W5.rd
  have KS := Lib.hid (fun (z : World) (hb : Below w1.heap.size w1 z) => X0.belo hb)
  obtain ⟨x0, x1, x2⟩ := id X0
  go_region_held3 (fun w' => w'.cell? ⟨w.heap.size, 0, none⟩ = some (.int .i64 W) ∧ w'.cell? ⟨w.heap.size, 1, none⟩ = some (.int .i64 T) ∧ w'.cell? ⟨w.heap.size, 2, none⟩ = some (.slice A n c))
    (first | exact KS.out _ b7 | exact KS.out _ b5 | exact KS.out _ b5.drew | exact KS.out _ (Below.refl _ _).drew)
    ((go_at_call 160; (with_reducible refine (CC.out w5 _ (R0.belo b5) W5r).mono ?_); rintro e w6 ⟨rfl, b6⟩; have b7 := bl_go b5 b6))
  go_wp2
  go_ret
  exact ⟨rfl, bl_go B0 b7⟩
def tilZ (W T : Int) (bs : List Bool) : Int := if validB W T bs = true then tilN W T bs else -1
set_option maxHeartbeats 1000000 in
theorem iTilingsMany_any (W T : Int) (A : Option Addr) (c : Nat) (bs : List Bool) (w : World) (hr : Rd w A (bs.map .bool)) (hn : bs.length ≤ maxLen) :
    Calls Tryz.prog 34 #[.agg #[.int .i64 W, .int .i64 T, .slice A bs.length c]] w fun e w' => e = .returned (.int .i64 (tilZ W T bs)) ∧ Below w.heap.size w w' := by
  have X0 := C3.new w (.int .i64 W) (.int .i64 T) (.slice A bs.length c) 25
  have B0 := bl_alloc (Below.refl w.heap.size w) (.cells #[.int .i64 W, .int .i64 T, .slice A bs.length c] 25)
  have R0 := hr.alloc (.cells #[.int .i64 W, .int .i64 T, .slice A bs.length c] 25)
  have CV := Lib.hid (fun (z : World) (R : Rd z A (bs.map .bool)) => iRegionValid_any W T A c bs z R hn)
  cases hv : validB W T bs with
  | false =>
    rw [show tilZ W T bs = -1 by unfold tilZ; rw [hv]; rfl]
    have HV := Lib.hid hv
    clear hv hr hn
    go_enter Tryz.func34, Tryz.ntmps34
    go_wp2_with fail
    refine (CV.out _ R0).mono ?_
    rintro e w1 ⟨rfl, b1⟩
    rw [HV.out]
    go_wp2
    go_ret
    exact ⟨rfl, bl_go B0 b1⟩
  | true =>
    rw [show tilZ W T bs = tilN W T bs by unfold tilZ; rw [if_pos hv]]
    have HV := Lib.hid hv
    have CC := Lib.hid (fun (z : World) (R : Rd z A (bs.map .bool)) => total_any W T A c bs.length bs z R hv rfl)
    clear hv hr hn
    go_enter Tryz.func34, Tryz.ntmps34
    go_wp2_with fail
    refine (CV.out _ R0).mono ?_
    rintro e w1 ⟨rfl, b1⟩
    rw [HV.out]
    obtain ⟨x0, x1, x2⟩ := X0.belo b1
    go_wp2_with fail
    refine (CC.out _ (R0.belo b1)).mono ?_
    rintro e w2 ⟨rfl, b2⟩
    go_wp2
    go_ret
    exact ⟨rfl, bl_go (bl_go B0 b1) b2⟩
end Go.Proofs.YtejkbjcmndnfeaaGreat

/- The walk of the law FnFillsAll. -/
namespace Go.Proofs.YtejkbjcmndnfeaaGreat
open Go.RowKit Go.Sort

theorem rdLL_of {w : World} {lo : Nat} {A : Option Addr} {xs : List Value} {L : List (List Int)} (hr : Rd w A xs) (h : RowsI w lo xs L) (hb : ∀ f ∈ L, f.length ≤ 1000000) : RdLL w A L :=
  ⟨xs, hr, h.1, fun k hk hx => by
    obtain ⟨gk, nk, a1, a2, a3, -⟩ := h.2 k hk
    rw [List.getElem?_eq_getElem hx] at a1
    injection a1 with a1
    exact ⟨_, _, by rw [a1, a2], by omega, hb _ (List.getElem_mem hk), a3.rd⟩⟩
theorem fillsW_each {W T : Int} {bs : List Bool} {pss : List (List Ce)} : (fillsW W T bs pss).length ≤ 12230590464 ∧ ∀ f ∈ fillsW W T bs pss, f.length ≤ 36 := by
  unfold fillsW
  split
  · rename_i h
    obtain ⟨h1, h2⟩ := h
    obtain ⟨P6, hok⟩ := pieces_ok h2
    obtain ⟨⟨q1, q6⟩, ⟨t1, t6⟩, hlen, -⟩ := validB_iff.1 h1
    have hf : FldF W T bs.length := ⟨q1, q6, t1, t6, hlen⟩
    refine ⟨fills_max W T bs pss true P6 P6 _ _, fun f hfm => ?_⟩
    have := ((fillsV_mem hf hok f).1 hfm).1
    have := hf.bd
    omega
  · simp
/-- all pieces up to k have two cells -/
def twoB (pss : List (List Ce)) (k : Nat) : Bool := (pss.take k).all fun p => p.length == 2
theorem twoB_succ {pss : List (List Ce)} {k : Nat} (h : k < pss.length) : twoB pss (k + 1) = (twoB pss k && (pss[k].length == 2)) := by
  unfold twoB
  rw [List.take_add_one, List.getElem?_eq_getElem h, List.all_append]
  simp
theorem fct_le : ∀ k, k ≤ 4 → fct k ≤ 24 := by decide
/-- what is known of the list where all is valid -/
theorem fills_has {W T : Int} {bs : List Bool} {pss : List (List Ce)} (h1 : validB W T bs = true) (h2 : (decide (pss.length ≤ 6) && piecesB pss) = true) (h16 : bs.length ≤ 16) :
    (∀ k (h : k < (fillsW W T bs pss).length), fillOkB W T bs pss ((fillsW W T bs pss)[k]) = true) ∧ (∀ j k (hj : j < (fillsW W T bs pss).length) (hk : k < (fillsW W T bs pss).length), j < k → decide ((fillsW W T bs pss)[j] = (fillsW W T bs pss)[k]) = false) ∧
    (twoB pss pss.length = true → 2 * (pss.length : Int) = cellsMany W T bs → ((fillsW W T bs pss).length : Int) = fct pss.length * tilZ W T bs) := by
  obtain ⟨P6, hok⟩ := pieces_ok h2
  obtain ⟨⟨q1, q6⟩, ⟨t1, t6⟩, hlen, -⟩ := validB_iff.1 h1
  have hf : FldF W T bs.length := ⟨q1, q6, t1, t6, hlen⟩
  rw [fillsW_t h1 h2]
  refine ⟨fun k hk => ?_, fun j k hj hk hjk => decide_eq_false fun e => ?_, fun ht hc => ?_⟩
  · have hm := (fillsV_mem hf hok _).1 (List.getElem_mem hk)
    unfold fillOkB
    rw [h1, h2, decide_eq_true hm.1, hm.2]
    rfl
  · have hnd : (fillsV W T bs pss).Nodup := fillsV_nodup hf hok
    exact List.pairwise_iff_getElem.1 hnd j k hj hk hjk e
  · unfold cellsMany at hc
    rw [if_pos h1] at hc
    unfold tilZ
    rw [if_pos h1]
    refine fillsV_dom hf (by have := (cnt_le bs).2; omega) hok (fun n hn => ?_) hc.symm
    unfold twoB at ht
    rw [List.take_length, List.all_eq_true] at ht
    have := ht pss[n] (List.getElem_mem hn)
    rw [List.getD_eq_getElem?_getD, List.getElem?_eq_getElem hn]
    simpa using this
set_option maxRecDepth 100000 in
set_option maxHeartbeats 4000000 in
theorem fnFillsAll_walk {w0 : World} (A : Option Addr) (c : Nat) (bs : List Int) (hcap : bs.length ≤ c) (hm : bs.length ≤ maxLen) (hr : Rd w0 A (bs.map (.int .u8))) (hw : ∀ n ∈ bs, 0 ≤ n ∧ n ≤ 255) :
    Calls Tryz.prog 5 #[.slice A bs.length c] w0 fun e w' => e = .returned (.bool true) ∧ Below w0.heap.size w0 w' := by
  have HW := Lib.hid hw
  clear hw
  unfold maxLen at hm
  by_cases hn : bs.length ≤ 1048576
  · have hg : decide ((1048576 : Int) < (bs.length : Int)) = false := by simp; omega
    go_enter Tryz.func5, Tryz.ntmps5
    go_wp2_with fail
    refine (drawFillsAll_any A c bs _ hr HW.out hn hcap).mono ?_
    rintro e w1 ⟨W, T, B, cB, xs, P, cP, pss, rfl, l1, l2, R1, P1, B1⟩
    clear hg hn hm hr HW hcap
    have X0 := C3.new w1 (.int .i64 W) (.int .i64 T) (.slice B xs.length cB) 25
    have bz := bl_alloc (Below.refl w1.heap.size w1) (.cells #[.int .i64 W, .int .i64 T, .slice B xs.length cB] 25)
    have R2 := R1.belo bz
    have P2 := P1.belo bz
    have B2 := bl_go B1 bz
    have xm : xs.length ≤ maxLen := by unfold maxLen; omega
    have pm : pss.length ≤ maxLen := by unfold maxLen; omega
    have hs2 : w1.heap.size < (w1.alloc (.cells #[.int .i64 W, .int .i64 T, .slice B xs.length cB] 25)).heap.size := X0.lt
    obtain ⟨x0, x1, x2⟩ := id X0
    clear R1 P1 bz
    have HV := Lib.hid (fillsW_each (W := W) (T := T) (bs := xs) (pss := pss))
    have CA := Lib.hid (fun (z : World) (R : Rd z B (xs.map .bool)) (RP : RdSS z P pss) => iFillsAll_any W T B P cB cP xs pss z R xm RP pm)
    have CB := Lib.hid (fun (z : World) (R : Rd z B (xs.map .bool)) (RP : RdSS z P pss) => sFillsAll_any W T B P cB cP xs pss z R xm RP pm)
    have CR := Lib.hid (fun (z : World) (R : Rd z B (xs.map .bool)) => sRegionValid_any W T B cB xs z R xm)
    have CP := Lib.hid (fun (z : World) (RP : RdSS z P pss) => sPiecesValid_any P cP pss z RP pm)
    have CC := Lib.hid (fun (z : World) (R : Rd z B (xs.map .bool)) => iCellsMany_any W T B cB xs z R xm)
    have CT := Lib.hid (fun (z : World) (R : Rd z B (xs.map .bool)) => iTilingsMany_any W T B cB xs z R xm)
    have CF := Lib.hid (fun (f : List Int) (z : World) (F : Option Addr) (cF : Nat) (R : Rd z B (xs.map .bool)) (RP : RdSS z P pss) (RF : Rd z F (f.map (.int .i64))) (fm : f.length ≤ maxLen) => iFillOk_any W T B P F cB cP cF xs pss f z R xm RP pm RF fm)
    have HH := Lib.hid (fun h1 h2 => fills_has (W := W) (T := T) (bs := xs) (pss := pss) h1 h2 l1)
    have HF := Lib.hid (fun h => fillsW_f (W := W) (T := T) (bs := xs) (pss := pss) h)
    generalize fillsW W T xs pss = V at CA CB HV HH HF
    generalize cellsMany W T xs = M at CC HH
    generalize tilZ W T xs = M2 at CT HH
    have hVm : V.length ≤ maxLen := by have := HV.out.1; unfold maxLen; omega
    have hVi : V.length ≤ 12230590464 := HV.out.1
    go_wp2_with fail
    refine (CA.out _ R2 P2).mono ?_
    rintro e w3 ⟨A5, c5, xr, rfl, hc5, V5, -, I5, -, b3⟩
    have V3 : RdLL w3 A5 V := rdLL_of V5 I5 (fun f hf => by have := HV.out.2 f hf; omega)
    have X3 := X0.belo b3
    have R3 := R2.belo b3
    have P3 := P2.belo b3
    have B3 := bl_go B2 b3
    obtain ⟨x0, x1, x2⟩ := id X3
    clear X0 R2 P2 B2 b3 hs2 V5 I5 CA
    go_wp2_with fail
    refine (CB.out _ R3 P3).mono ?_
    rintro e w4 ⟨A6, c6, rfl, hc6, V6, b4⟩
    have X4 := X3.belo b4
    have R4 := R3.belo b4
    have P4 := P3.belo b4
    have V4 := V3.belo b4
    have B4 := bl_go B3 b4
    clear X3 R3 P3 V3 B3 b4 x0 x1 x2 CB
    go_wp2_with fail
    refine (sameLists_t _ _ _ _ V _ V4 V6 hVm).mono ?_
    rintro e w5 ⟨rfl, b5⟩
    have X5 := X4.belo b5
    have R5 := R4.belo b5
    have P5 := P4.belo b5
    have V5 := V4.belo b5
    have B5 := bl_go B4 b5
    obtain ⟨x0, x1, x2⟩ := id X5
    clear X4 R4 P4 V4 B4 b5 V6 hc6
    go_wp2_with fail
    refine (CR.out _ R5).mono ?_
    rintro e w6 ⟨rfl, b6⟩
    have X6 := X5.belo b6
    have R6 := R5.belo b6
    have P6 := P5.belo b6
    have V6 := V5.belo b6
    have B6 := bl_go B5 b6
    clear X5 R5 P5 V5 B5 b6 x0 x1 x2 CR
    generalize validB W T xs = rv at HH HF
    cases rv with
    | false =>
      obtain rfl : V = [] := HF.out (fun h => by cases h.1)
      go_wp2_with fail
      refine (alive_any _).mono ?_
      rintro e w7 ⟨rfl, b7⟩
      go_wp2_with fail
      go_ret
      exact ⟨rfl, bl_go B6 b7⟩
    | true =>
      go_wp2_with fail
      refine (CP.out _ P6).mono ?_
      rintro e w7 ⟨rfl, b7⟩
      have X7 := X6.belo b7
      have R7 := R6.belo b7
      have P7 := P6.belo b7
      have V7 := V6.belo b7
      have B7 := bl_go B6 b7
      clear X6 R6 P6 V6 B6 b7 CP
      generalize (decide (pss.length ≤ 6) && piecesB pss) = pv at HH HF
      cases pv with
      | false =>
        obtain rfl : V = [] := HF.out (fun h => by cases h.2)
        go_wp2_with fail
        refine (alive_any _).mono ?_
        rintro e w8 ⟨rfl, b8⟩
        go_wp2_with fail
        go_ret
        exact ⟨rfl, bl_go B7 b8⟩
      | true =>
        obtain ⟨hG, hD, hE⟩ := HH.out trivial rfl
        have HG := Lib.hid hG
        have HD := Lib.hid hD
        have HE := Lib.hid hE
        clear hG hD hE HH HF
        go_wp2_with fail
        go_loopw [6] (fun i wr => ∃ k : Nat, k ≤ V.length ∧ i = .int .i64 k ∧ Below w7.heap.size w7 wr) (fun i _ => V.length - (intOf i).toNat)
        case atStart => exact ⟨0, Nat.zero_le _, rfl, Below.refl _ _⟩
        case round =>
          obtain ⟨k, hk, rfl, b8⟩ := hrel
          by_cases hlt : k < V.length
          · obtain ⟨b, off, A1, c1, rfl, h1, -, h3, h4⟩ := (V7.belo b8).at_ hlt
            have hgood := HG.out k hlt
            have HDK := Lib.hid (fun j hj h => HD.out j k hj hlt h)
            generalize V[k] = f at h1 h3 h4 hgood HDK
            have fm : f.length ≤ maxLen := by unfold maxLen; omega
            have X8 := X7.belo b8
            have R8 := R7.belo b8
            have P8 := P7.belo b8
            have CFF := Lib.hid (fun (z : World) (hz : Below wr.heap.size wr z) => by
              have := CF.out f z A1 c1 (R8.belo hz) (P8.belo hz) (h4.belo hz) fm
              rw [hgood] at this
              exact this)
            have gs := World.block_lt_of_cell? wr _ h1
            simp only at gs
            have gx := X8.lt
            obtain ⟨x0, x1, x2⟩ := id X8
            have L0 : ∀ z : BW wr, z.wo.cell? ⟨b, off + k, none⟩ = some (.slice A1 f.length c1) := fun z => z.cell gs h1
            have L1 : ∀ z : BW wr, z.wo.cell? ⟨w1.heap.size, 0, none⟩ = some (.int .i64 W) := fun z => z.cell gx x0
            have L2 : ∀ z : BW wr, z.wo.cell? ⟨w1.heap.size, 1, none⟩ = some (.int .i64 T) := fun z => z.cell gx x1
            have L3 : ∀ z : BW wr, z.wo.cell? ⟨w1.heap.size, 2, none⟩ = some (.slice B xs.length cB) := fun z => z.cell gx x2
            clear x0 x1 x2 hgood
            go_wp2_with fail
            (refine region_bw (by kernel_rfl) (by kernel_rfl) ?_; (repeat (first | go_big_quiet_skip | (go_big_quiet_want; go_big_quiet_op; first | go_big_quiet_on | (refine ⟨.bool true, fun zz => ?_, ?_⟩; (go_at_call 12; exact zz.on (CFF.out _ zz.ok)); go_big_quiet_on)))); refine wpQuiet_nil ?_; intro wz hw'; obtain ⟨zw, hw''⟩ := hw'; subst hw'')
            have b9 := bl_go b8 zw.ok
            have h9 : zw.wo.cell? ⟨b, off + k, none⟩ = some (.slice A1 f.length c1) := L0 zw
            have F9 : Rd zw.wo A1 (f.map (.int .i64)) := h4.belo zw.ok
            clear L0 L1 L2 L3 X8 R8 P8 CFF h1 gs gx b8 h4
            generalize zw.wo = wq at *
            go_wp2_with fail
            obtain ⟨wo, hwo⟩ : ∃ wo : World, wo = wr := ⟨_, rfl⟩
            subst hwo
            go_loopw [7] (fun i wr => ∃ j : Nat, j ≤ k ∧ i = .int .i64 j ∧ Below wq.heap.size wq wr) (fun i _ => k - (intOf i).toNat)
            case atStart => exact ⟨0, Nat.zero_le _, rfl, Below.refl _ _⟩
            case round =>
              obtain ⟨j, hj, rfl, b10⟩ := hrel
              by_cases hjk : j < k
              · obtain ⟨b', off', A2, c2, e2, h5, -, h6, h7⟩ := (V7.belo (bl_go b9 b10)).at_ (show j < V.length by omega)
                injection e2 with e2; injection e2 with e2 e3
                subst e2; subst e3
                have HNE := Lib.hid (HDK.out j (by omega) hjk)
                generalize V[j]'(by omega) = f2 at h5 h6 h7 HNE
                have fm2 : f2.length ≤ maxLen := by unfold maxLen; omega
                have gs := World.block_lt_of_cell? wr _ h5
                simp only at gs
                have h10 := (b10.cell (p := ⟨b, off + k, none⟩) (World.block_lt_of_cell? wq _ h9)).trans h9
                have F10 := F9.belo b10
                have CE := Lib.hid (fun (z : World) (hz : Below wr.heap.size wr z) => by
                  have := sameInts_any A2 A1 c2 c1 f2.length f.length f2 f z (h7.belo hz) (F10.belo hz) rfl rfl fm2 fm
                  rw [HNE.out] at this
                  exact this)
                have L0 : ∀ z : BW wr, z.wo.cell? ⟨b, off + k, none⟩ = some (.slice A1 f.length c1) := fun z => z.cell gs h10
                have L1 : ∀ z : BW wr, z.wo.cell? ⟨b, off + j, none⟩ = some (.slice A2 f2.length c2) := fun z => z.cell gs h5
                have hjl : (j : Int) < (V.length : Int) := by omega
                go_wp2_with fail
                (refine region_bw (by kernel_rfl) (by kernel_rfl) ?_; (repeat (first | go_big_quiet_skip | (go_big_quiet_want; go_big_quiet_op; first | go_big_quiet_on | (refine ⟨.bool false, fun zz => ?_, ?_⟩; (go_at_call 16; exact zz.on (CE.out _ zz.ok)); go_big_quiet_on)))); refine wpQuiet_nil ?_; intro wz hw'; obtain ⟨zw, hw''⟩ := hw'; subst hw'')
                go_wp2_with fail
                go_roundw
                case rel => exact ⟨j + 1, by omega, by go_num, bl_go b10 zw.ok⟩
                case measure => simp [intOf]; omega
              · obtain rfl : j = k := by omega
                go_wp2_with fail
                go_roundw
                case rel => exact ⟨j + 1, by omega, by go_num, bl_go b9 b10⟩
                case measure => simp [intOf]; omega
          · obtain rfl : k = V.length := by omega
            have X8 := X7.belo b8
            have R8 := R7.belo b8
            have P8 := P7.belo b8
            have B8 := bl_go B7 b8
            clear X7 R7 P7 B7 b8 V7 HG HD CF
            go_wp2_with fail
            obtain ⟨wo, hwo⟩ : ∃ wo : World, wo = wr := ⟨_, rfl⟩
            subst hwo
            go_loopw [8, 9, 10] (fun al m i wr => ∃ k : Nat, k ≤ pss.length ∧ i = .int .i64 k ∧ al = .bool (twoB pss k) ∧ m = .int .i64 (fct k : Nat) ∧ wr = wo) (fun _ _ i _ => pss.length - (intOf i).toNat)
            case atStart => exact ⟨0, Nat.zero_le _, rfl, rfl, rfl, rfl⟩
            case round =>
              obtain ⟨k, hk2, rfl, rfl, rfl, rfl⟩ := hrel
              by_cases hlp : k < pss.length
              · obtain ⟨b, off, A1, c1, rfl, h1, -, h3, -⟩ := P8 k hlp
                have HTS := Lib.hid (twoB_succ hlp)
                generalize pss[k].length = n1 at h1 h3 HTS
                generalize twoB pss k = al at HTS ⊢
                have hp1 : ((fct k : Nat) : Int) * ((k : Int) + 1) = ((fct (k + 1) : Nat) : Int) := by
                  rw [show fct (k + 1) = (k + 1) * fct k from rfl, Int.natCast_mul, Int.mul_comm]; rfl
                have hp2 : ((fct k : Nat) : Int) * ((k : Int) + 1) ≤ 24 := by
                  rw [hp1]; have := fct_le (k + 1) (by omega); omega
                have hp3 : 0 ≤ ((fct k : Nat) : Int) * ((k : Int) + 1) := by rw [hp1]; omega
                have HP1 := Lib.hid hp1
                clear hp1
                generalize fct k = fk at hp2 hp3 HP1 ⊢
                cases al with
                | false =>
                  go_wp2_with fail
                  go_roundw
                  case rel => exact ⟨k + 1, by omega, by go_num, by rw [HTS.out]; rfl, by rw [← HP1.out], trivial⟩
                  case measure => simp [intOf]; omega
                | true =>
                  cases h2 : ((n1 : Int) == 2) with
                  | true =>
                    have HN2 := Lib.hid (show (n1 == 2) = true by have := eq_of_beq h2; rw [beq_iff_eq]; omega)
                    go_wp2_with fail
                    go_roundw
                    case rel => exact ⟨k + 1, by omega, by go_num, by rw [HTS.out, HN2.out]; rfl, by rw [← HP1.out], trivial⟩
                    case measure => simp [intOf]; omega
                  | false =>
                    have HN2 := Lib.hid (show (n1 == 2) = false by have := ne_of_beq_false h2; rw [beq_eq_false_iff_ne]; omega)
                    go_wp2_with fail
                    go_roundw
                    case rel => exact ⟨k + 1, by omega, by go_num, by rw [HTS.out, HN2.out]; rfl, by rw [← HP1.out], trivial⟩
                    case measure => simp [intOf]; omega
              · obtain rfl : k = pss.length := by omega
                have hp4 : pss.length ≤ 4 := l2
                clear P8 hlp
                generalize twoB pss pss.length = al at HE ⊢
                generalize fct pss.length = fn at HE ⊢
                cases al with
                | false =>
                  go_wp2_with fail
                  go_ret
                  exact ⟨rfl, B8⟩
                | true =>
                  obtain ⟨x0, x1, x2⟩ := id X8
                  go_wp2_with fail
                  refine (CC.out _ R8).mono ?_
                  rintro e w9 ⟨rfl, b9⟩
                  have X9 := X8.belo b9
                  have R9 := R8.belo b9
                  have B9 := bl_go B8 b9
                  clear X8 R8 B8 b9 x0 x1 x2
                  by_cases h2 : 2 * (pss.length : Int) = M
                  · have hne : (2 * (pss.length : Int) != M) = false := by rw [h2]; simp
                    have hpr := HE.out trivial h2
                    have HPR := Lib.hid hpr
                    have hp2 : ((fn : Nat) : Int) * M2 ≤ 12230590464 := by rw [← hpr]; omega
                    have hp3 : 0 ≤ ((fn : Nat) : Int) * M2 := by rw [← hpr]; omega
                    have heq : ((V.length : Int) == ((fn : Nat) : Int) * M2) = true := by rw [← hpr]; simp
                    obtain ⟨x0, x1, x2⟩ := id X9
                    clear hpr h2
                    go_wp2_with fail
                    refine (CT.out _ R9).mono ?_
                    rintro e w10 ⟨rfl, b10⟩
                    go_wp2_with fail
                    go_ret
                    exact ⟨rfl, bl_go B9 b10⟩
                  · have hne : (2 * (pss.length : Int) != M) = true := by simpa using h2
                    go_wp2_with fail
                    go_ret
                    exact ⟨rfl, B9⟩
  · have hg : decide ((1048576 : Int) < (bs.length : Int)) = true := by simp; omega
    go_enter Tryz.func5, Tryz.ntmps5
    go_wp2_with fail
    go_ret
    exact ⟨rfl, Below.refl _ _⟩
end Go.Proofs.YtejkbjcmndnfeaaGreat

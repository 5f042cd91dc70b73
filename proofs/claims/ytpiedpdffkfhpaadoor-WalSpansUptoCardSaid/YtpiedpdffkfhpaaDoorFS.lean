/- glacierlaw4.WalSpans: the walk. -/
import Derived.Test.YtpiedpdffkfhpaaDoorW5
namespace Go.Proofs.YtpiedpdffkfhpaaDoor
open Go.RowKit Go.Gl Go.Wal Go.Sort

def SpInv (w : World) (p r lb : Nat) (l : List (List UInt8)) (ev iv : Value) (wr : World) : Prop :=
  ∃ (i : Nat) (G : List Grp) (c : Grp) (s : Nat) (F : Nat → Prop), iv = .int .i64 (i : Int) ∧ i ≤ l.length ∧ (∀ x ∈ l.take i, x.length ≤ 1000) ∧ (G ++ [c]).flatten = l.take i ∧ G.length ≤ i ∧ Lw 16777216 w p r wN lb 0 (G.map segOf ++ [(framesD crcTab c, s)]) F wr ∧ OwnI w.heap.size wr ev (inL (G ++ [c]) 0)

set_option maxRecDepth 100000 in
set_option maxHeartbeats 4000000 in
theorem spans_true {w : World} {v1 v2 : Value} {l : List (List UInt8)} {bs : List Bool} {x : Int} (h1 : Rv w v1 l) (h2 : Ov w v2 bs) (hcap : ∀ a n c, v1 = .slice a n c → n ≤ c ∧ c ≤ maxLen) :
    Calls Tryd.prog 5 #[v1, v2, .int .i64 x] w fun e w' => e = .returned (.bool true) ∧ Grow w w' := by
  obtain ⟨la, lc, rfl⟩ := h1.slice
  obtain ⟨ta, tc, rfl⟩ := h2.slice
  have H1 := Lib.hid h1
  have H2 := Lib.hid h2
  have Hk := Lib.hid (known_true w)
  obtain ⟨hcap1, hcap2⟩ := hcap _ _ _ rfl
  clear h1 h2 hcap
  by_cases h60 : 60 < l.length
  · have e1 : (60 : Int) < (l.length : Int) := by omega
    go_enter Tryd.func5, Tryd.ntmps5
    go_wp2_with fail
    (with_reducible refine Hk.out.mono ?_)
    rintro e w1 ⟨rfl, hg1⟩
    have Hg1 := Lib.hid hg1
    clear hg1
    go_wp2
    go_ret
    exact ⟨rfl, Hg1.out⟩
  have e1 : (l.length : Int) ≤ (60 : Int) := by omega
  go_enter Tryd.func5, Tryd.ntmps5
  go_wp2_with fail
  (with_reducible refine Hk.out.mono ?_)
  rintro e w1 ⟨rfl, hg1⟩
  have hnew : Calls Tryd.prog 7 #[.int .i64 16777216] w1 fun e w' => e = .returned (.tuple #[.pointer (some ⟨w1.heap.size + 1, 0, none⟩), .int .i64 0]) ∧ (∃ F, Dk 16777216 w1.heap.size w' (w1.heap.size + 1) w1.heap.size [] F) ∧ Grow w1 w' := dk_new 16777216 w1 (by decide) (by decide)
  have Hnew := Lib.hid hnew
  have Hg1 := Lib.hid hg1
  have H1' := Lib.hid (H1.out.grow hg1)
  have H2' := Lib.hid (H2.out.grow hg1)
  clear hnew hg1 H1 H2 Hk
  go_wp2_with fail
  (with_reducible refine Hnew.out.mono ?_)
  rintro e w2 ⟨rfl, ⟨F2, hd2⟩, hg2⟩
  have D2 : Ld 16777216 w1 (w1.heap.size + 1) w1.heap.size wN 0 [] F2 w2 := ⟨hd2, hg2⟩
  have hop : Calls Tryd.prog 8 #[.pointer (some ⟨w1.heap.size + 1, 0, none⟩), .string ⟨#[119]⟩, .int .i64 0] w2 _ := ld_open (N := 100) (a := 0) D2 nmOk_w named_w (nums_small _ _) (by decide) (by decide) (by decide)
  have Hop := Lib.hid hop
  have Hg2 := Lib.hid hg2
  clear hop hd2 hg2 D2 Hnew
  go_wp2_with fail
  (with_reducible refine Hop.out.mono ?_)
  rintro e w3 ⟨lb, va, vc, F3, rfl, hw3, _, _, hlb⟩
  have hlb1 : w1.heap.size ≤ lb := Nat.le_trans Hg2.out.size hlb
  have W3 : Hid (Lw 16777216 w1 (w1.heap.size + 1) w1.heap.size wN lb 0 (([] : List Grp).map segOf ++ [(framesD crcTab [], 0)]) F3 w3) := Lib.hid hw3
  clear hw3 Hop hlb Hg2
  go_wp2_with fail
  go_loopw [12, 13] (fun ev iv wr => SpInv w1 (w1.heap.size + 1) w1.heap.size lb l ev iv wr) (fun _ iv _ => l.length - (intOf iv).toNat)
  case atStart => exact ⟨0, [], [], 0, F3, rfl, Nat.zero_le _, by simp, rfl, Nat.le_refl _, W3.out, ownI_nil _ _⟩
  case round =>
    obtain ⟨i, G, c, s, F4, rfl, hi, hle, hfl, hGl, hw4, ho4⟩ := hrel
    have hil : (l.take i).length = i := by rw [List.length_take]; omega
    have ht4 := frames_bound hle
    rw [hil] at ht4
    have ht4' := tot_segs wN 0 G c s
    rw [hfl] at ht4'
    have hi0 : (0 : Int) ≤ (i : Int) := by omega
    have hwi : IntKind.i64.wrap ((i : Int) + 1) = (i : Int) + 1 := IntWalk.i64_in _ (by omega)
    by_cases hlt : i < l.length
    · have hi1 : (i : Int) < (l.length : Int) := by omega
      have hr4 := H1'.out.grow hw4.below
      obtain ⟨b, o, pa, pc, rfl, lb4, c4, bv4⟩ := hr4.at hlt
      have htk : l.take (i + 1) = l.take i ++ [l[i]] := List.take_succ_eq_append_getElem hlt
      generalize hxi : l[i] = y at *
      by_cases hbig : 1000 < y.length
      · have hbi : (1000 : Int) < (y.length : Int) := by omega
        have Hend : Hid (Grow w wr) := Lib.hid (Hg1.out.trans hw4.below)
        clear hbig hr4 bv4 ho4 hw4 hle ht4 ht4' htk hfl
        go_wp2
        go_ret
        exact ⟨rfl, Hend.out⟩
      · have hbi : (y.length : Int) ≤ (1000 : Int) := by omega
        have hga := Grow.alloc wr (.cells #[.slice pa y.length pc] 23)
        have hfx := frame_len crcTab y
        have hnx := numD_le y.length
        have hap : Calls Tryd.prog 9 #[.pointer (some ⟨lb, 0, none⟩), .slice (some ⟨wr.heap.size, 0, none⟩) 1 1] (wr.alloc (.cells #[.slice pa y.length pc] 23)) _ :=
          lw_append (N := 100) (hw4.grow hga) nmOk_w (nums_small _ _) (by rw [List.length_map]; omega) (by rw [List.length_map]; omega) (ps := [y]) (rv_block (heap_alloc_new _ _) (bv4.grow hga)) (fun q hq => by rw [List.mem_singleton.1 hq]; omega) (by
            rw [ht4', show framesD crcTab [y] = frameD crcTab y by simp [framesD]]
            have : i * (1000 + 14) ≤ 60 * 1014 := Nat.mul_le_mul (by omega) (by omega)
            omega) (show 1 ≤ 1000000000000 by decide)
        rw [← framesD_append] at hap
        have Hap := Lib.hid hap
        have Ho4 := Lib.hid ho4
        have Hga := Lib.hid hga
        have Hga4 := Lib.hid (hw4.grow hga).disk
        have hle' : ∀ z ∈ l.take (i + 1), z.length ≤ 1000 := fun z hz => by
          rw [htk] at hz
          rcases List.mem_append.1 hz with hz | hz
          · exact hle z hz
          · rw [List.mem_singleton.1 hz]; omega
        have Hle := Lib.hid hle'
        have hfl' : (G ++ [c ++ [y]]).flatten = l.take (i + 1) := by rw [htk, ← hfl]; simp
        have Hfl := Lib.hid hfl'
        have hfll : (inL (G ++ [c]) 0).length = i := by rw [inL_len, hfl, hil]
        clear hap ho4 hle' hle hw4 hr4 bv4 hga ht4 ht4' hfx hnx hbig htk hfl hfl' hxi
        go_wp2_with fail
        (with_reducible refine Hap.out.mono ?_)
        rintro e w5 ⟨rfl, F5, hw5, hs5⟩
        have Ho5 := Lib.hid ((Ho4.out.grow Hga.out).dk Hga4.out hs5)
        have hsg := lsegment_any hw5.log
        have hGn : 0 + ((G.map segOf ++ [(framesD crcTab (c ++ [y]), s)]).length - 1) = G.length := by simp
        rw [hGn] at hsg
        have Hsg := Lib.hid hsg
        have W5 := Lib.hid hw5
        clear hsg hw5 c4 lb4 hs5 hGn Hap Ho4 Hga Hga4
        go_wp2_with fail
        (with_reducible refine Hsg.out.mono ?_)
        rintro e w6 ⟨rfl, hw6⟩
        have hw6' := hw6.symm
        subst hw6'
        clear hw6
        obtain ⟨ev, w8, r1, r2, r3⟩ := lw_ends G.length W5.out Ho5.out (by rw [hfll]; omega)
        rw [← inL_snoc G c y] at r2
        have Hrun := Lib.hid r1
        have W8 := Lib.hid r3
        have Ho8 := Lib.hid r2
        clear r1 r2 r3 W5 Ho5 hfll Hsg
        have hcont : ∀ (F9 : Nat → Prop) (w9 : World) (S9 : Sg), S9 = G.map segOf ++ [(framesD crcTab (c ++ [y]), s)] → Lw 16777216 w1 (w1.heap.size + 1) w1.heap.size wN lb 0 S9 F9 w9 → OwnI w1.heap.size w9 ev (inL (G ++ [c ++ [y]]) 0) → SpInv w1 (w1.heap.size + 1) w1.heap.size lb l ev (.int .i64 ((i : Int) + 1)) w9 :=
          fun F9 w9 S9 hS h9 o9 => ⟨i + 1, G, c ++ [y], s, F9, by simp, hlt, Hle.out, Hfl.out, by omega, hS ▸ h9, o9⟩
        have Hcont := Lib.hid (hcont F5 w8 _ rfl W8.out Ho8.out)
        clear hcont
        by_cases hti : i < bs.length
        · have hti1 : (i : Int) < (bs.length : Int) := by omega
          obtain ⟨tb, to', rfl, ltb, ct⟩ := (H2'.out.grow W8.out.below).at hti
          cases htv : bs[i] with
          | true =>
            rw [htv] at ct
            have hro := lw_rotate (N := 100) W8.out hlb1 nmOk_w (nums_small _ _) (by rw [List.length_map]; omega) (by rw [List.length_map]; omega)
            have Hro := Lib.hid hro
            clear hro htv
            go_wp2_with (at_builtin; refine wpList_append rfl rfl rfl rfl Hrun.out ?_)
            (with_reducible refine Hro.out.mono ?_)
            rintro e w9 ⟨rfl, F9, hw9, hs9⟩
            have ho9 := Ho8.out.lw W8.out.disk W8.out.log hs9
            have hrel : SpInv w1 (w1.heap.size + 1) w1.heap.size lb l ev (.int .i64 ((i : Int) + 1)) w9 := by
              refine ⟨i + 1, G ++ [c ++ [y]], [], 0, F9, by simp, hlt, Hle.out, ?_, by rw [List.length_append, List.length_singleton]; omega, ?_, by rw [inL_new]; exact ho9⟩
              · rw [List.flatten_append, Hfl.out]; simp
              · rw [List.map_append]; exact hw9
            have Hrel := Lib.hid hrel
            clear hrel ho9 hs9 hw9
            go_wp2
            go_roundw
            case rel => exact Hrel.out
            case measure => simp [intOf]; omega
          | false =>
            rw [htv] at ct
            clear htv
            go_wp2_with (at_builtin; refine wpList_append rfl rfl rfl rfl Hrun.out ?_)
            go_roundw
            case rel => exact Hcont.out
            case measure => simp [intOf]; omega
        · have hti1 : (bs.length : Int) ≤ (i : Int) := by omega
          go_wp2_with (at_builtin; refine wpList_append rfl rfl rfl rfl Hrun.out ?_)
          go_roundw
          case rel => exact Hcont.out
          case measure => simp [intOf]; omega
    · obtain rfl : i = l.length := by omega
      rw [List.take_length] at hfl hle ht4 ht4'
      obtain ⟨ea, ec, rfl⟩ := ho4.slice
      have hel : (inL (G ++ [c]) 0).length = l.length := by rw [inL_len, hfl]
      rw [hel] at ho4
      rw [hel]
      have hGn : 0 + ((G.map segOf ++ [(framesD crcTab c, s)]).length - 1) = G.length := by simp
      have hsg := lsegment_any hw4.log
      rw [hGn] at hsg
      have Hsg := Lib.hid hsg
      have hsy := lw_sync (N := 100) hw4 nmOk_w (nums_small _ _) (by rw [List.length_map]; omega) (by rw [List.length_map]; omega)
      rw [show G.map segOf ++ [(framesD crcTab c, (framesD crcTab c).length)] = (G ++ [c]).map segOf by rw [List.map_append]; rfl] at hsy
      obtain ⟨b, hb1, hb2, hb3⟩ := tmod_abs x G.length
      have hwl : IntKind.i64.wrap ((G.length : Int) + 1) = (G.length : Int) + 1 := IntWalk.i64_in _ (by omega)
      obtain ⟨t, htm⟩ : ∃ t, t = x.tmod ((G.length : Int) + 1) := ⟨_, rfl⟩
      rw [← htm] at hb2 hb3
      have hwt : IntKind.i64.wrap t = t := IntWalk.i64_in _ (by by_cases h0 : t < 0 <;> simp only [h0, not_true_eq_false, not_false_eq_true, forall_const] at hb2 hb3 <;> omega)
      have Hb := Lib.hid (And.intro hb2 hb3)
      have Hsy := Lib.hid hsy
      have W4 := Lib.hid hw4
      have Ho4 := Lib.hid ho4
      have Hle := Lib.hid hle
      have Hfl := Lib.hid hfl
      have Ht4 := Lib.hid (And.intro ht4 ht4')
      clear hsg hsy hw4 ho4 hel hle hil hfl ht4 ht4' hb2 hb3 hGn
      go_wp2_with fail
      (with_reducible refine Hsg.out.mono ?_)
      rintro e w6 ⟨rfl, hw6⟩
      have hw6' := hw6.symm
      subst hw6'
      clear hw6
      go_upto_if 90 with fail
      rw [← htm]
      clear htm
      go_cut [2] from 91 to 92 (fun cv wx => cv = .int .i64 (b : Int) ∧ wx = wr)
      case first =>
        by_cases h0 : t < 0
        · have h5 := Hb.out.1 h0
          have h6 : IntKind.i64.wrap (0 - t) = (b : Int) := by rw [h5]; exact (IntWalk.i64_in _ (by omega)).trans (by omega)
          have h7 : IntKind.i64.wrap (-t) = (b : Int) := by rw [h5]; exact (IntWalk.i64_in _ (by omega)).trans (by omega)
          clear h5
          go_wp2
          go_meet
          exact ⟨by first | rfl | trivial, by first | rfl | trivial⟩
        · have h5 := Hb.out.2 (by omega)
          have h6 : 0 ≤ t := by omega
          have H5 := Lib.hid h5
          clear h5
          go_wp2
          go_meet
          exact ⟨by first | exact H5.out | (rw [H5.out]) | trivial, by first | rfl | trivial⟩
      case rest =>
      obtain ⟨rfl, hwc⟩ := hcut
      have hwc' := hwc.symm
      subst hwc'
      clear hwc hwt hwl Hsg
      go_wp2_with fail
      (with_reducible refine Hsy.out.mono ?_)
      rintro e w7 ⟨rfl, F7, hw7, hs7⟩
      have ho7 := Ho4.out.dk W4.out.disk hs7
      have htr := lw_truncate (N := 100) hw7 nmOk_w (nums_small _ _) (by rw [List.length_map, List.length_append, List.length_singleton]; omega) (by rw [List.length_map, List.length_append, List.length_singleton]; omega) (b := b) (by rw [List.length_map, List.length_append, List.length_singleton]; omega)
      rw [← List.map_drop] at htr
      have Htr := Lib.hid htr
      have W7 := Lib.hid hw7
      have Ho7 := Lib.hid ho7
      clear htr hw7 ho7 hs7 Hsy
      go_wp2_with fail
      (with_reducible refine Htr.out.mono ?_)
      rintro e w8 ⟨rfl, F8, hw8, hs8⟩
      have ho8 := Ho7.out.dk W7.out.disk hs8
      have hdl : ((List.drop b (G ++ [c])).map segOf).length = G.length + 1 - b := by rw [List.length_map, List.length_drop, List.length_append, List.length_singleton]
      have hfi := lw_first (N := 100) hw8 nmOk_w (nums_small _ _) (by rw [hdl]; omega) (by rw [hdl]; omega) (by rw [hdl]; omega)
      have Hfi := Lib.hid hfi
      have W8 := Lib.hid hw8
      have Ho8 := Lib.hid ho8
      have Hdl := Lib.hid hdl
      clear hfi hw8 ho8 hs8 Htr hdl
      go_wp2_with fail
      (with_reducible refine Hfi.out.mono ?_)
      rintro e w9 ⟨rfl, hg9⟩
      have W9 := Lib.hid (W8.out.grow hg9)
      have Ho9 := Lib.hid (Ho8.out.grow hg9)
      clear hg9 Hfi
      go_upto_block 2 with fail
      go_cut [14] from 108 to 121 (fun nv wx => ∃ n : Nat, nv = .int .i64 (n : Int) ∧ n = preN (G ++ [c]) b ∧ wx = w9)
      case first =>
        go_wp2_with fail
        go_loopw [14] (fun nv wr => ∃ n : Nat, nv = .int .i64 (n : Int) ∧ n ≤ preN (G ++ [c]) b ∧ wr = w9) (fun nv _ => l.length - (intOf nv).toNat)
        case atStart => exact ⟨0, rfl, Nat.zero_le _, rfl⟩
        case round =>
          obtain ⟨n, rfl, hn, hw⟩ := hrel
          have hw' := hw.symm
          subst hw'
          clear hw
          have hpl := preN_le (G ++ [c]) b
          rw [Hfl.out] at hpl
          have hn0 : (0 : Int) ≤ (n : Int) := by omega
          have hwn : IntKind.i64.wrap ((n : Int) + 1) = (n : Int) + 1 := IntWalk.i64_in _ (by omega)
          have Hn := Lib.hid hn
          clear hn
          by_cases hlt : n < l.length
          · have hn1 : (n : Int) < (l.length : Int) := by omega
            have hel : (inL (G ++ [c]) 0).length = l.length := by rw [inL_len, Hfl.out]
            obtain ⟨g, rfl⟩ : ∃ g, ea = some ⟨g, 0, none⟩ := by
              rcases id Ho9.out with ⟨hv, hnil⟩ | ⟨g, cap, cur, hv, _⟩
              · exfalso
                have := congrArg List.length hnil
                rw [List.length_map, hel, List.length_nil] at this
                omega
              · simp only [Value.slice.injEq] at hv
                exact ⟨g, hv.1⟩
            obtain ⟨E, hE⟩ : ∃ E, (inL (G ++ [c]) 0)[n]? = some E := ⟨(inL (G ++ [c]) 0)[n]'(by omega), by simp [show n < (inL (G ++ [c]) 0).length by omega]⟩
            have hcl : w9.cell? ⟨g, n, none⟩ = some (.int .i64 (E : Int)) := Row1.cells Ho9.out rfl (by rw [List.getElem?_map, hE]; rfl)
            have lg := (Row1.lt Ho9.out rfl).2
            have Hiff := Lib.hid (inL_at (b := b) (by rw [List.length_append, List.length_singleton]; omega) hE)
            clear hE hel hpl
            by_cases hle2 : E < b
            · have hle3 : (E : Int) < (b : Int) := by omega
              go_wp2
              go_roundw
              case rel => exact ⟨n + 1, by simp, Hiff.out.1 hle2, by first | rfl | trivial⟩
              case measure => simp [intOf]; omega
            · have hle3 : (b : Int) ≤ (E : Int) := by omega
              go_wp2
              go_meet
              refine ⟨n, rfl, ?_, rfl⟩
              have := Hiff.out
              have := Hn.out
              omega
          · have hn1 : (l.length : Int) ≤ (n : Int) := by omega
            have Hpl := Lib.hid hpl
            clear hpl
            go_wp2
            go_meet
            refine ⟨n, rfl, ?_, rfl⟩
            have := Hn.out
            have := Hpl.out
            omega
      case rest =>
      obtain ⟨n, rfl, hn, hwc⟩ := hcut
      have hwc' := hwc.symm
      subst hwc'
      clear hwc
      have hcr := ld_crash W9.out.ld (by rw [Hdl.out]; omega) (pv := .slice none 0 0) (picks := []) ⟨none, 0, rfl, Nat.zero_le _, .inl rfl⟩ (fun h => absurd rfl h)
      rw [cutL_synced _ _ (segOf_synced _)] at hcr
      have Hcr := Lib.hid hcr
      have hnl : n ≤ l.length := by rw [hn, ← Hfl.out]; exact preN_le _ _
      have hdrop : ((G ++ [c]).drop b).flatten = l.drop n := by rw [hn, ← Hfl.out, drop_pre]
      have Hdrop := Lib.hid hdrop
      clear hcr hn hdrop
      go_wp2_with fail
      (with_reducible refine Hcr.out.mono ?_)
      rintro e w10 ⟨rfl, F10, hd10, _⟩
      have hop2 : Calls Tryd.prog 8 #[.pointer (some ⟨w1.heap.size + 1, 0, none⟩), .string ⟨#[119]⟩, .int .i64 (b : Int)] w10 _ := ld_open (N := 100) (a := b) hd10 nmOk_w named_w (nums_small _ _) (by rw [Hdl.out]; omega) (by rw [Hdl.out]; omega) (by
        rw [tot_segs', Hdrop.out]
        have h5 := frames_bound (k := 1000) (l := l.drop n) (fun z hz => Hle.out z (List.mem_of_mem_drop hz))
        rw [List.length_drop] at h5
        have h6 : (l.length - n) * (1000 + 14) ≤ 60 * 1014 := Nat.mul_le_mul (by omega) (by omega)
        omega)
      rw [openL_segs (G := (G ++ [c]).drop b) (fun g hg p hp => by
        have h5 : p ∈ (G ++ [c]).flatten := List.mem_flatten.2 ⟨g, List.mem_of_mem_drop hg, hp⟩
        rw [Hfl.out] at h5
        have := Hle.out p h5
        omega), Hdrop.out] at hop2
      have Hop2 := Lib.hid hop2
      clear hop2 hd10 Hcr
      go_wp2_with fail
      (with_reducible refine Hop2.out.mono ?_)
      rintro e w11 ⟨lb2, va2, vc2, F11, rfl, hw11, hr11, _⟩
      have hr11' := hr11.own.rv
      have hl11 := (H1'.out.grow hw11.below).drop hnl (by omega)
      have hsm := same_any hr11' hl11 (by rw [List.length_drop]; omega) (by rw [List.length_drop]; omega)
      rw [decide_eq_true (rfl : l.drop n = l.drop n)] at hsm
      have Hbel := Lib.hid (Hg1.out.trans hw11.below)
      have hn0 : (0 : Int) ≤ (n : Int) := by omega
      have hn1 : (n : Int) ≤ (l.length : Int) := by omega
      have hn2 : (n : Int) ≤ (lc : Int) := by omega
      have hn3 : n ≤ lc := by omega
      clear hr11 hr11' hl11 hw11 Hop2
      rw [List.length_drop] at hsm
      by_cases hcn : lc = n
      · rw [if_pos hcn] at hsm
        subst hcn
        have hln : l.length = lc := by omega
        rw [show l.length - lc = 0 by omega, Nat.sub_self] at hsm
        have Hsm := Lib.hid hsm
        clear hsm
        rw [List.length_drop, show l.length - lc = 0 by omega]
        go_wp2_with fail
        (with_reducible refine Hsm.out.mono ?_)
        rintro e w12 ⟨rfl, hg12⟩
        have Hend : Hid (Grow w w12) := Lib.hid (Hbel.out.trans hg12)
        clear hg12
        go_wp2
        go_ret
        exact ⟨rfl, Hend.out⟩
      · rw [if_neg hcn] at hsm
        have Hsm := Lib.hid hsm
        clear hsm
        go_wp2_with fail
        (with_reducible refine Hsm.out.mono ?_)
        rintro e w12 ⟨rfl, hg12⟩
        have Hend : Hid (Grow w w12) := Lib.hid (Hbel.out.trans hg12)
        clear hg12
        go_wp2
        go_ret
        exact ⟨rfl, Hend.out⟩
end Go.Proofs.YtpiedpdffkfhpaaDoor

/- Merged out of L6, L7, L8: helpers. -/
import Derived.Test.YtdegmpimcappjaaGreatDoorFJ
import Derived.Test.YtdegmpimcappjaaGreatDoorFF
/- FrontLarge: the number as text. -/
namespace Go.Proofs.YtdegmpimcappjaaGreatDoor
open Go.RowKit Go.Gl Go.Front

/-- The number as far as it has been turned into a text. -/
def LgInv (w : World) (nv sv : Value) (wr : World) : Prop :=
  ∃ (m : Nat) (S : List UInt8), nv = .int .u64 m ∧ sv = .string ⟨S.toArray⟩ ∧ S.length ≤ 20 ∧ m * 10 ^ S.length < 18446744073709551616 ∧ Grow w wr

def strLen : Value → Nat
  | .string s => s.size
  | _ => 0

theorem lg_room {m k : Nat} (h : m * 10 ^ k < 18446744073709551616) (hm : 0 < m) : k ≤ 19 := by
  by_cases hk : k ≤ 19
  · exact hk
  · exfalso
    have h1 : 10 ^ 20 ≤ 10 ^ k := Nat.pow_le_pow_right (by omega) (by omega)
    have h2 : 1 * 10 ^ k ≤ m * 10 ^ k := Nat.mul_le_mul_right _ hm
    have h3 : (18446744073709551616 : Nat) < 10 ^ 20 := by decide
    omega

theorem lg_step {m k : Nat} (h : m * 10 ^ k < 18446744073709551616) : m / 10 * 10 ^ (k + 1) < 18446744073709551616 := by
  refine Nat.lt_of_le_of_lt ?_ h
  rw [Nat.pow_succ, ← Nat.mul_assoc, Nat.mul_right_comm]
  exact Nat.mul_le_mul_right _ (Nat.div_mul_le_self m 10)

theorem tmod8 (x : Int) : -7 ≤ x.tmod 8 ∧ x.tmod 8 ≤ 7 := by
  cases x with
  | ofNat n =>
    have : (Int.ofNat n).tmod 8 = ((n % 8 : Nat) : Int) := rfl
    rw [this]; omega
  | negSucc n =>
    have : (Int.negSucc n).tmod 8 = -(((n + 1) % 8 : Nat) : Int) := rfl
    rw [this]; omega

theorem make_bytes (N : Nat) (hN : N ≤ 1000000) (w : World) : ∃ w', (Instr.makeSlice 24 (.int .i64 (N : Int)) (.int .i64 (N : Int))).run Tryz.prog w = .ok (.slice (some ⟨w.heap.size, 0, none⟩) N N) w' ∧
    w'.heap[w.heap.size]? = some (.cells (bcells (List.replicate N 0)).toArray 5) ∧ Grow w w' := by
  obtain ⟨i, hi0, hzz, hsz, hbb⟩ := info_parts Tryz.infoB
  have h := run_makeSlice (w := w) 24 5 i (.int .u8 0) Tryz.underlying24 hi0 hzz .i64 .i64 (N : Int) (N : Int) (by omega) (Int.le_refl _) (by rw [hsz]; simp; omega) (by rw [hbb]; omega) (by omega)
  refine ⟨_, h, ?_, Grow.alloc _ _⟩
  have e : madeCells (Value.int .u8 0).cells ((N : Int).toNat * i.size) = (bcells (List.replicate N 0)).toArray := by
    rw [hsz]
    apply Array.ext
    · simp [madeCells, bcells]
    · intro j h1 h2
      simp [madeCells, bcells, Value.cells, Nat.mod_one]
  rw [e]
  exact heap_alloc_new _ _

/-- The long row as far as it has been filled. -/
def FlInv (w4 : World) (N g : Nat) (iv : Value) (wr : World) : Prop :=
  ∃ (i : Nat) (L : List UInt8), iv = .int .i64 i ∧ i ≤ N ∧ L.length = N ∧ wr.heap[g]? = some (.cells (bcells L).toArray 5) ∧ Grow w4 wr

theorem fill_cell {wr : World} {g i : Nat} {L : List UInt8} (h : wr.heap[g]? = some (.cells (bcells L).toArray 5)) (hi : i < L.length) : ∃ k : Nat, wr.cell? ⟨g, i, none⟩ = some (.int .u8 k) :=
  ⟨L[i].toNat, ck_cell h (by simp [bcells, hi])⟩

theorem fill_set {wr : World} {g i : Nat} {L : List UInt8} (h : wr.heap[g]? = some (.cells (bcells L).toArray 5)) : (wr.setCell ⟨g, i, none⟩ (.int .u8 120)).heap[g]? = some (.cells (bcells (L.set i 120)).toArray 5) := by
  rw [setCell_heap h i _]
  simp [bcells, List.map_set]

set_option maxRecDepth 100000 in
set_option maxHeartbeats 8000000 in
theorem large_true {w : World} {n : Nat} {v : Value} {l : List UInt8} {part : Bool} {fill : Int} (hb : Base w) (h : Bv w v l) (hn : n < 18446744073709551616) :
    Calls Tryz.prog 5 #[.int .u64 n, v, .bool part, .int .i64 fill] w fun e w' => e = .returned (.bool true) ∧ Grow w w' := by
  have HK := Lib.hid (known_true hb)
  obtain ⟨va, vc, rfl⟩ := h.slice
  have Hb := Lib.hid hb
  have Hv := Lib.hid h
  clear hb h
  go_enter Tryz.func5, Tryz.ntmps5
  go_wp2_with fail
  (with_reducible refine HK.out.mono ?_)
  rintro e w1 ⟨rfl, hg1⟩
  by_cases hl : (1000 : Int) < (l.length : Int)
  · go_wp2
    go_ret
    exact ⟨rfl, hg1⟩
  · go_wp2_with fail
    go_loopw [0, 9] (fun nv sv wr => LgInv w nv sv wr) (fun nv sv _ => (intOf nv).toNat + (1 - strLen sv))
    case atStart => exact ⟨n, [], rfl, rfl, by simp, by simpa using hn, hg1⟩
    case round =>
      clear hg1
      obtain ⟨m, S, rfl, rfl, hS, hm, hg⟩ := hrel
      have hc1 := digit_conv wr m
      have hw1 : IntKind.u64.wrap (48 + (m : Int) % 10) = 48 + (m : Int) % 10 := IntWalk.u64_in _ (by omega)
      have hw2 : IntKind.u8.wrap (48 + (m : Int) % 10) = 48 + (m : Int) % 10 := IntWalk.u8_in _ (by omega)
      have hm64 : m < 18446744073709551616 := by
        have h1 : m * 1 ≤ m * 10 ^ S.length := Nat.mul_le_mul_left _ (Nat.pow_pos (by omega))
        omega
      have hw3 : IntKind.u64.wrap ((m : Int) / 10) = (m : Int) / 10 := IntWalk.u64_in _ (by omega)
      have Hg := Lib.hid hg
      by_cases hm0 : 0 < m
      · have f1 : (0 : Int) < (m : Int) := by omega
        have hr := lg_room hm hm0
        have Hrel : Hid (LgInv w (.int .u64 ((m : Int) / 10)) (.string ⟨(digC m :: S).toArray⟩) (wr.alloc (.cells #[.int .u8 (48 + (m : Int) % 10)] 5))) := Lib.hid ⟨m / 10, digC m :: S, by simp, rfl, by simp; omega, by rw [List.length_cons]; exact lg_step hm, hg.trans (Grow.alloc _ _)⟩
        have Ha := Lib.hid (add_dig (digC m) S)
        have HS2 : Hid ((⟨(digC m :: S).toArray⟩ : ByteArray).size = S.length + 1) := Lib.hid (by simp [ByteArray.size])
        clear hm hg hm64
        go_wp2_with fail
        refine ⟨by rw [Ha.out]; exact Hrel.out, ?_⟩
        rw [Ha.out]
        simp only [intOf, strLen]
        rw [HS2.out]
        omega
      · have hm00 : m = 0 := by omega
        subst hm00
        by_cases hS0 : S = []
        · subst hS0
          have Hrel : Hid (LgInv w (.int .u64 0) (.string ⟨(digC 0 :: []).toArray⟩) (wr.alloc (.cells #[.int .u8 48] 5))) := Lib.hid ⟨0, [digC 0], by simp, rfl, by simp, by simp, hg.trans (Grow.alloc _ _)⟩
          have hc0 : (convert 24 9 (.slice (some ⟨wr.heap.size, 0, none⟩) 1 1)).run Tryz.prog (wr.alloc (.cells #[.int .u8 48] 5)) = .ok (.string ⟨#[digC 0]⟩) (wr.alloc (.cells #[.int .u8 48] 5)) := digit_conv wr 0
          clear hm hg hm64 hc1
          go_wp2_with fail
          exact ⟨Hrel.out, by simp only [intOf, strLen]; decide⟩
        · have f2 : (S == []) = false := by rw [beq_eq_false_iff_ne]; exact hS0
          clear hm hm64 hS0 hg hc1 hw1 hw2 hw3 hm0
          go_upto_if 43 with fail
          go_cut [10] from 44 to 44 (fun v wx => ∃ t : List UInt8, v = .string ⟨t.toArray⟩ ∧ t.length ≤ 100 ∧ wx = wr)
          case first =>
            cases part with
            | true =>
              go_wp2
              go_meet
              exact ⟨[47, 63, 117, 112, 108, 111, 97, 100, 61, 48, 48, 48, 48, 48, 48, 48, 48, 48, 48, 48, 48, 48, 48, 48, 55, 38, 112, 97, 114, 116, 61, 51], rfl, by decide, rfl⟩
            | false =>
              go_wp2
              go_meet
              exact ⟨[47, 98, 47, 107], rfl, by decide, rfl⟩
          case rest =>
          obtain ⟨t, rfl, ht, hw⟩ := hcut
          have hw' := hw.symm
          subst hw'
          clear hw
          obtain ⟨TL, HTL⟩ : ∃ TL, Hid (TL = ((([80, 85, 84, 32] ++ t) ++ [32, 71, 76, 67, 47, 49, 13, 10, 105, 100, 58, 32, 48, 48, 48, 48, 48, 48, 48, 48, 48, 48, 48, 48, 48, 48, 48, 49, 13, 10, 108, 101, 110, 103, 116, 104, 58, 32]) ++ S) ++ [13, 10, 13, 10]) := ⟨_, Lib.hid rfl⟩
          have hTl : TL.length ≤ 1000 := by rw [HTL.out]; simp; omega
          have heq : (⟨#[80, 85, 84, 32]⟩ ++ ⟨t.toArray⟩ ++ ⟨#[32, 71, 76, 67, 47, 49, 13, 10, 105, 100, 58, 32, 48, 48, 48, 48, 48, 48, 48, 48, 48, 48, 48, 48, 48, 48, 48, 49, 13, 10, 108, 101, 110, 103, 116, 104, 58, 32]⟩ ++ ⟨S.toArray⟩ ++ ⟨#[13, 10, 13, 10]⟩ : ByteArray) = ⟨TL.toArray⟩ := by
            show (⟨[80, 85, 84, 32].toArray⟩ ++ ⟨t.toArray⟩ ++ ⟨[32, 71, 76, 67, 47, 49, 13, 10, 105, 100, 58, 32, 48, 48, 48, 48, 48, 48, 48, 48, 48, 48, 48, 48, 48, 48, 48, 49, 13, 10, 108, 101, 110, 103, 116, 104, 58, 32].toArray⟩ ++ ⟨S.toArray⟩ ++ ⟨[13, 10, 13, 10].toArray⟩ : ByteArray) = ⟨TL.toArray⟩
            rw [ba_append, ba_append, ba_append, ba_append, HTL.out]
          obtain ⟨cap, w2, hconv, hbv, hg2, cur, f, k1, k2, k3, k4, k5⟩ := conv_bytes ⟨TL.toArray⟩ (by show TL.toArray.size ≤ _; simp; omega) wr
          have hsz : (⟨TL.toArray⟩ : ByteArray).size = TL.length := by simp [ByteArray.size]
          rw [hsz] at hconv hbv k3 k5
          have hcm : cap ≤ maxLen := by
            obtain ⟨a, c, e1, _, hm, _⟩ := hbv
            cases e1
            exact hm
          have hgw2 : Grow w w2 := Hg.out.trans hg2
          obtain ⟨v', w', r1, r2, r3⟩ := append_conv (w := w2) (xs := TL) k1 k2 k4 k5 hcm (Hv.out.grow hgw2) (by omega)
          have hWs : w.heap.size ≤ wr.heap.size := Hg.out.size
          have hgf : Grow w w' := Below.grown hgw2 r3 hgw2.size (fun b hk => by cases hk; exact hWs)
          have Hrun := Lib.hid r1
          have Hbv := Lib.hid r2
          have Hgf := Lib.hid hgf
          obtain ⟨LB, HLB⟩ : ∃ LB, Hid (LB = TL ++ l) := ⟨_, Lib.hid rfl⟩
          have hLBl : LB.length ≤ 2000 := by rw [HLB.out, List.length_append]; omega
          rw [← HLB.out] at Hbv
          clear hbv hg2 k1 k2 k3 k4 k5 hcm hgw2 r1 r2 r3 hWs hgf hsz Hg
          go_upto_region 13 with (at_builtin; refine wpList_append rfl rfl rfl rfl Hrun.out ?_)
          obtain ⟨o, k, hok⟩ : ∃ o k, parseP LB = (o, k) := ⟨_, _, rfl⟩
          obtain ⟨xa, xc, rfl⟩ := Hbv.out.slice
          have HP : Hid (Calls Tryz.prog 19 #[.slice xa LB.length xc] w' (PsV o k w')) := Lib.hid (by
            have h := parseP_any (Hb.out.grow Hgf.out) Hbv.out (by omega)
            rw [hok] at h
            exact h.mono fun _ _ he => psV_of he)
          have HR : Hid (∀ W, Grow w' W → Calls Tryz.prog 20 #[.slice xa LB.length xc] W (PsV o k W)) := Lib.hid (fun W hW => by
            have h := parseR_any (w := W) (Hbv.out.grow hW) (by omega)
            rw [← parse_same, hok] at h
            exact h.mono fun _ _ he => psV_of he)
          clear hok Hrun hconv heq hTl hS ht
          go_wp2_with fail
          (with_reducible refine HP.out.mono ?_)
          rintro e w2 ⟨pa, pc, da, dc, rfl, hp, hd, hpl, hg2⟩
          have hB2 := heap_alloc_new w2 (opC o (.slice pa o.parts.length pc) (.slice da o.data.length dc))
          have hga2 := Grow.alloc w2 (opC o (.slice pa o.parts.length pc) (.slice da o.data.length dc))
          replace hp := hp.grow hga2
          replace hd := hd.grow hga2
          replace hg2 := hg2.trans hga2
          clear hga2
          go_upto_region 14 with fail
          generalize w2.alloc (opC o (.slice pa o.parts.length pc) (.slice da o.data.length dc)) = W2 at *
          generalize w2.heap.size = B2 at *
          have HR2 := Lib.hid (HR.out _ hg2)
          have HB2 := Lib.hid hB2
          have Hp := Lib.hid hp
          have Hd := Lib.hid hd
          have Hpl := Lib.hid hpl
          have Hg2 := Lib.hid (Hgf.out.trans hg2)
          clear hB2 hp hd hpl hg2 HR
          go_wp2_with fail
          (with_reducible refine HR2.out.mono ?_)
          rintro e w3 ⟨pa', pc', da', dc', rfl, hp', hd', _, hg3⟩
          have hB3 := heap_alloc_new w3 (opC o (.slice pa' o.parts.length pc') (.slice da' o.data.length dc'))
          have hga3 := Grow.alloc w3 (opC o (.slice pa' o.parts.length pc') (.slice da' o.data.length dc'))
          replace hp' := hp'.grow hga3
          replace hd' := hd'.grow hga3
          replace hg3 := hg3.trans hga3
          clear hga3
          go_upto_region 15 with fail
          generalize w3.alloc (opC o (.slice pa' o.parts.length pc') (.slice da' o.data.length dc')) = W3 at *
          generalize w3.heap.size = B3 at *
          have HS := Lib.hid (sameOp_any (Hp.out.grow hg3) (Hd.out.grow hg3) hp' hd' Hpl.out)
          obtain ⟨c0, c1, c2, c3, c4, c5, c6, c7, c8, c9⟩ := nine (o := o) (op_at HB2.out hg3)
          obtain ⟨d0, d1, d2, d3, d4, d5, d6, d7, d8, d9⟩ := nine (o := o) hB3
          have Hg3 := Lib.hid (Hg2.out.trans hg3)
          clear hB3 hp' hd' hg3
          go_wp2_with fail
          (with_reducible refine HS.out.mono ?_)
          rintro e w4 ⟨b, rfl, hbb, hg4⟩
          have hbt := hbb.2 rfl
          subst hbt
          have Hg4 := Lib.hid (Hg3.out.trans hg4)
          clear hbb c0 c1 c2 c3 c4 c5 c6 c7 c8 c9 d0 d1 d2 d3 d4 d5 d6 d7 d8 d9 hg4
          clear Hp Hd Hpl HB2 Hg2 Hg3 HS HR2 HP
          go_upto_if 75 with fail
          obtain ⟨hr1, hr2⟩ := tmod8 fill
          obtain ⟨R, hR⟩ : ∃ R, fill.tmod 8 = R := ⟨_, rfl⟩
          rw [hR] at hr1 hr2 ⊢
          clear hR
          go_cut [3] from 76 to 77 (fun v wx => ∃ r : Nat, v = .int .i64 r ∧ r ≤ 7 ∧ wx = w4)
          case first =>
            by_cases hneg : R < 0
            · have hwr : IntKind.i64.wrap (0 - R) = -R := by rw [IntWalk.i64_in _ (by omega)]; omega
              have hwr2 : IntKind.i64.wrap (-R) = -R := IntWalk.i64_in _ (by omega)
              go_wp2
              go_meet
              exact ⟨(-R).toNat, by congr 1; omega, by omega, rfl⟩
            · go_wp2
              go_meet
              exact ⟨R.toNat, by congr 1; omega, by omega, rfl⟩
          case rest =>
          obtain ⟨r, rfl, hr, hw⟩ := hcut
          have hw' := hw.symm
          subst hw'
          clear hw hr1 hr2
          obtain ⟨N, HN⟩ : ∃ N, Hid (N = 65530 + r) := ⟨_, Lib.hid rfl⟩
          have hNN := HN.out
          have hN1 : 65530 ≤ N := by omega
          have hN2 : N ≤ 65537 := by omega
          have hw79 : IntKind.i64.wrap (65530 + (r : Int)) = (N : Int) := by rw [IntWalk.i64_in _ (by omega)]; omega
          clear hNN
          obtain ⟨w5, hmk, hB5, hg5⟩ := make_bytes N (by omega) w4
          have HG5 := Lib.hid (And.intro hB5 hg5)
          clear hB5 hg5
          go_upto_region 21 with fail
          have HE4 := Lib.hid (Hg4.out.size)
          obtain ⟨g, HGe⟩ : ∃ g, Hid (g = w4.heap.size) := ⟨_, Lib.hid rfl⟩
          rw [← HGe.out] at HE4 HG5 ⊢
          clear hmk hw79
          go_wp2_with fail
          go_loopw [17] (fun iv wr => FlInv w4 N g iv wr) (fun iv _ => N - (intOf iv).toNat)
          case atStart => exact ⟨0, List.replicate N 0, rfl, Nat.zero_le _, by simp, HG5.out.1, HG5.out.2⟩
          case round =>
            obtain ⟨i, L, rfl, hi, hL, hB, hgq⟩ := hrel
            by_cases hlt : i < N
            · obtain ⟨kc, hkc⟩ := fill_cell hB (i := i) (by omega)
              have hfz : wr.frozen? ⟨g, i, none⟩ = false := by simp [World.frozen?, hB]
              have hi1 : (i : Int) < (N : Int) := by omega
              have hi0 : (0 : Int) ≤ (i : Int) := by omega
              have hwi : IntKind.i64.wrap ((i : Int) + 1) = (i : Int) + 1 := IntWalk.i64_in _ (by omega)
              have Hrel : Hid (FlInv w4 N g (.int .i64 ((i : Int) + 1)) (wr.setCell ⟨g, i, none⟩ (.int .u8 120))) := Lib.hid ⟨i + 1, L.set i 120, by simp, hlt, by simp [hL], fill_set hB, Below.setCell hgq (p := ⟨g, i, none⟩) (Nat.le_of_eq HGe.out.symm) _⟩
              clear hB hgq hL
              go_wp2
              go_roundw
              case rel => exact Hrel.out
              case measure => simp [intOf]; omega
            · have hi1 : ¬ ((i : Int) < (N : Int)) := by omega
              have hown : OwnB w4.heap.size wr (.slice (some ⟨g, 0, none⟩) N N) L := .inr ⟨g, N, _, by rw [bcells_len, hL], Nat.le_of_eq HGe.out.symm, hB, by rw [bcells_len, hL]; exact Nat.le_refl _, by simp [bcells, hL], by unfold maxLen; omega, by simp only [List.take_length]⟩
              obtain ⟨v6, w6, r1, r2, r3, _⟩ := append_text (p := [13, 10, 13, 10]) hown hgq.size (by simp; omega)
              have hg6 : Grow w4 w6 := below_grown hgq hgq.size hown r3
              obtain ⟨LL, HLL⟩ : ∃ LL, Hid (LL = L ++ [13, 10, 13, 10]) := ⟨_, Lib.hid rfl⟩
              have hLLl : LL.length = N + 4 := by rw [HLL.out, List.length_append, hL]; rfl
              rw [← HLL.out] at r2
              have Hrun := Lib.hid r1
              have Hbv6 := Lib.hid (ownB_bv r2)
              have Hg6 := Lib.hid (Hg4.out.trans hg6)
              clear hB hgq hL hown r1 r2 r3 hg6
              go_upto_region 26 with (at_builtin; refine wpList_append rfl rfl rfl rfl Hrun.out ?_)
              obtain ⟨x6, c6, rfl⟩ := Hbv6.out.slice
              have hw106 : IntKind.i64.wrap ((LL.length : Int) - 4) = (N : Int) := by rw [IntWalk.i64_in _ (by omega)]; omega
              have hc6 : LL.length ≤ c6 := by
                obtain ⟨_, _, e1, h1, _⟩ := Hbv6.out
                cases e1
                exact h1
              have g2 : (N : Int) ≤ (c6 : Int) := by omega
              have g3 : ¬ ((N : Int) < 0) := by omega
              have Hbt := Lib.hid (bv_take Hbv6.out (n := N) (by omega))
              obtain ⟨o1, k1, ho1⟩ : ∃ o k, parseP LL = (o, k) := ⟨_, _, rfl⟩
              obtain ⟨o2, k2, ho2⟩ : ∃ o k, parseP (LL.take N) = (o, k) := ⟨_, _, rfl⟩
              have HP1 : Hid (∀ W, Grow w6 W → Calls Tryz.prog 19 #[.slice x6 LL.length c6] W (PsV o1 k1 W)) := Lib.hid (fun W hW => by
                have h := parseP_any ((Hb.out.grow Hg6.out).grow hW) (Hbv6.out.grow hW) (by omega)
                rw [ho1] at h
                exact h.mono fun _ _ he => psV_of he)
              have HR1 : Hid (∀ W, Grow w6 W → Calls Tryz.prog 20 #[.slice x6 LL.length c6] W (PsV o1 k1 W)) := Lib.hid (fun W hW => by
                have h := parseR_any (w := W) (Hbv6.out.grow hW) (by omega)
                rw [← parse_same, ho1] at h
                exact h.mono fun _ _ he => psV_of he)
              have HP2 : Hid (∀ W, Grow w6 W → Calls Tryz.prog 19 #[.slice x6 N c6] W (PsV o2 k2 W)) := Lib.hid (fun W hW => by
                have h := parseP_any ((Hb.out.grow Hg6.out).grow hW) (Hbt.out.grow hW) (by rw [List.length_take]; omega)
                rw [ho2] at h
                exact h.mono fun _ _ he => psV_of he)
              have HR2 : Hid (∀ W, Grow w6 W → Calls Tryz.prog 20 #[.slice x6 N c6] W (PsV o2 k2 W)) := Lib.hid (fun W hW => by
                have h := parseR_any (w := W) (Hbt.out.grow hW) (by rw [List.length_take]; omega)
                rw [← parse_same, ho2] at h
                exact h.mono fun _ _ he => psV_of he)
              clear ho1 ho2 hc6 hi1 hi hN1 hN2 hLLl Hrun
              have HG0 := Lib.hid (Grow.refl w6)
              go_wp2_with fail
              (with_reducible refine (HP1.out _ HG0.out).mono ?_)
              rintro e y1 ⟨_, _, _, _, rfl, _, _, _, hh1⟩
              have Hh1 := Lib.hid hh1
              clear hh1
              go_wp2_with fail
              (with_reducible refine (HR1.out _ Hh1.out).mono ?_)
              rintro e y2 ⟨_, _, _, _, rfl, _, _, _, hh2⟩
              have Hh2 := Lib.hid (Hh1.out.trans hh2)
              clear hh2
              go_wp2_with fail
              (with_reducible refine (HP2.out _ Hh2.out).mono ?_)
              rintro e y3 ⟨z1, z2, z3, z4, rfl, _, _, _, hh3⟩
              have Hh3 := Lib.hid ((Hh2.out.trans hh3).trans (Grow.alloc y3 (opC o2 (.slice z1 o2.parts.length z2) (.slice z3 o2.data.length z4))))
              clear hh3
              go_upto_region 29 with fail
              generalize y3.alloc (opC o2 (.slice z1 o2.parts.length z2) (.slice z3 o2.data.length z4)) = Y3 at *
              go_wp2_with fail
              (with_reducible refine (HR2.out _ Hh3.out).mono ?_)
              rintro e y4 ⟨z5, z6, z7, z8, rfl, _, _, _, hh4⟩
              have Hh4 := Lib.hid (Hg6.out.trans ((Hh3.out.trans hh4).trans (Grow.alloc y4 (opC o2 (.slice z5 o2.parts.length z6) (.slice z7 o2.data.length z8)))))
              clear hh4
              go_upto_region 30 with fail
              generalize y4.alloc (opC o2 (.slice z5 o2.parts.length z6) (.slice z7 o2.data.length z8)) = Y4 at *
              go_wp2
              go_ret
              exact ⟨rfl, Hh4.out⟩
end Go.Proofs.YtdegmpimcappjaaGreatDoor

/- FrontBack. -/
namespace Go.Proofs.YtdegmpimcappjaaGreatDoor
open Go.RowKit Go.Gl Go.Front

theorem few_data {o : OpD} (hr : right o = true) (h : fewB o = true) : o.data.length ≤ 262144 := by
  have hI := right_in hr
  have h1 := hI.b
  have h2 := hI.k
  have h3 := hI.a
  have h4 := hI.d
  unfold fewB fewS at h
  rw [IntWalk.i64_in ((o.bucket.length : Int) + (o.key.length : Int)) (by omega), IntWalk.i64_in ((o.bucket.length : Int) + (o.key.length : Int) + (o.after.length : Int)) (by omega), IntWalk.i64_in ((o.bucket.length : Int) + (o.key.length : Int) + (o.after.length : Int) + (o.data.length : Int)) (by omega)] at h
  simp only [Bool.and_eq_true, decide_eq_true_eq] at h
  omega

theorem OpIn.wf {w : World} {o : OpD} {pv dv : Value} (h : OpIn w o pv dv) : Wf o := ⟨h.id, h.up⟩

/-- A right operation's bytes are few. -/
theorem bytes_few {o : OpD} (hr : right o = true) (h : fewB o = true) : (headD o (decF o.data.length) ++ o.data).length ≤ 400000 := by
  have h1 := few_data hr h
  have h2 := head_small hr (len := decF o.data.length) (decF_len 18 _ (by omega))
  rw [List.length_append]
  omega

set_option maxRecDepth 100000 in
set_option maxHeartbeats 8000000 in
theorem back_true {w : World} {o : OpD} {pv dv v : Value} {l : List UInt8} (hI : OpIn w o pv dv) (hv : Bv w v l) :
    Calls Tryz.prog 6 #[.agg #[.int .u64 o.id, .int .i64 o.kind, .string ⟨o.bucket.toArray⟩, .string ⟨o.key.toArray⟩, .string ⟨o.after.toArray⟩, .int .i64 o.n, .int .u64 o.upload, pv, dv], v] w fun e w' => e = .returned (.bool true) ∧ Grow w w' := by
  have hB0 := heap_alloc_new w (opC o pv dv)
  have hg0 := Grow.alloc w (opC o pv dv)
  obtain ⟨pa, pc, rfl, _⟩ := id hI.p
  obtain ⟨da, dc, rfl, _⟩ := id hI.d
  obtain ⟨va, vc, rfl⟩ := hv.slice
  go_enter Tryz.func6, Tryz.ntmps6
  go_upto_region 1 with fail
  replace hI := hI.grow hg0
  replace hv := hv.grow hg0
  generalize w.alloc (opC o (.slice pa o.parts.length pc) (.slice da o.data.length dc)) = W0 at *
  generalize w.heap.size = B at *
  have HK := Lib.hid (known_true hI.base)
  have HB := Lib.hid hB0
  have HI := Lib.hid hI
  have HG := Lib.hid hg0
  have Hv := Lib.hid hv
  clear hB0 hI hg0 hv
  go_wp2_with fail
  (with_reducible refine HK.out.mono ?_)
  rintro e w1 ⟨rfl, hg1⟩
  have HF := Lib.hid (few_any (HI.out.grow hg1).p (HI.out.grow hg1).d)
  obtain ⟨c0, c1, c2, c3, c4, c5, c6, c7, c8, c9⟩ := nine (o := o) (op_at HB.out hg1)
  have Hg1 := Lib.hid hg1
  clear hg1
  go_wp2_with fail
  (with_reducible refine HF.out.mono ?_)
  rintro e w2 ⟨rfl, hg2⟩
  clear c0 c1 c2 c3 c4 c5 c6 c7 c8 c9
  have Hg2 := Lib.hid (Hg1.out.trans hg2)
  clear hg2 Hg1
  obtain ⟨fb, hfb⟩ : ∃ b, fewB o = b := ⟨_, rfl⟩
  rw [hfb]
  cases fb with
  | false =>
    clear hfb
    go_wp2
    go_ret
    exact ⟨rfl, HG.out.trans Hg2.out⟩
  | true =>
    have Hfb := Lib.hid hfb
    clear hfb
    by_cases hs : (262144 : Int) < (l.length : Int)
    · go_wp2
      go_ret
      exact ⟨rfl, HG.out.trans Hg2.out⟩
    · have HP := Lib.hid (print_any HI.out.id HI.out.up (HI.out.grow Hg2.out).base (HI.out.grow Hg2.out).p (HI.out.grow Hg2.out).d HI.out.bk HI.out.pl)
      obtain ⟨c0, c1, c2, c3, c4, c5, c6, c7, c8, c9⟩ := nine (o := o) (op_at HB.out Hg2.out)
      go_wp2_with fail
      (with_reducible refine HP.out.mono ?_)
      intro e w3 he
      clear c0 c1 c2 c3 c4 c5 c6 c7 c8 c9
      obtain ⟨x, k, rfl, hx⟩ : ∃ x k, e = .returned (.tuple #[x, .int .i64 k]) ∧ Grow w2 w3 ∧ (∃ xn xa xc, x = .slice xa xn xc) ∧ ((k = 0 ∧ right o = true ∧ Bv w3 x (headD o (decF o.data.length) ++ o.data)) ∨ (k = 1 ∧ right o = false)) := by
        rcases he with ⟨hr, v, rfl, hv, hg⟩ | ⟨hr, rfl, hg⟩
        · obtain ⟨xa, xc, hxe⟩ := hv.slice
          exact ⟨v, 0, rfl, hg, ⟨_, xa, xc, hxe⟩, .inl ⟨rfl, hr, hv⟩⟩
        · exact ⟨_, 1, rfl, hg, ⟨_, _, _, rfl⟩, .inr ⟨rfl, hr⟩⟩
      obtain ⟨hg3, ⟨xn, xa, xc, rfl⟩, hx⟩ := hx
      have Hg3 := Lib.hid (Hg2.out.trans hg3)
      have Hx := Lib.hid hx
      clear hg3 hx HP HF HK
      go_upto_if 29 with fail
      go_cut [7, 8] from 30 to 45 (fun a b wx => Grow W0 wx)
      case first =>
        rcases Hx.out with ⟨rfl, hr, hbx⟩ | ⟨rfl, hr⟩
        · have HQ : Hid (Calls Tryz.prog 19 #[.slice xa xn xc] w3 (PsV o 200 w3)) := Lib.hid (by
            have h := parseP_any (HI.out.grow Hg3.out).base hbx (by have := bytes_few hr Hfb.out; omega)
            rw [parse_print hr HI.out.wf] at h
            exact h.mono fun _ _ he => psV_of he)
          clear hr hbx
          go_wp2_with fail
          (with_reducible refine HQ.out.mono ?_)
          rintro e w4 ⟨ya, yc, za, zc, rfl, hp, hd, hpl, hg4⟩
          have hB4 := heap_alloc_new w4 (opC o (.slice ya o.parts.length yc) (.slice za o.data.length zc))
          have hga := Grow.alloc w4 (opC o (.slice ya o.parts.length yc) (.slice za o.data.length zc))
          go_upto_region 8 with fail
          replace hp := hp.grow hga
          replace hd := hd.grow hga
          have hg44 := Hg3.out.trans (hg4.trans hga)
          generalize w4.alloc (opC o (.slice ya o.parts.length yc) (.slice za o.data.length zc)) = W4 at *
          generalize w4.heap.size = B4 at *
          have HS := Lib.hid (sameOp_any hp hd (HI.out.grow hg44).p (HI.out.grow hg44).d hpl)
          obtain ⟨c0, c1, c2, c3, c4, c5, c6, c7, c8, c9⟩ := nine (o := o) hB4
          obtain ⟨d0, d1, d2, d3, d4, d5, d6, d7, d8, d9⟩ := nine (o := o) (op_at HB.out hg44)
          have Hg4 := Lib.hid hg44
          clear hB4 hp hd hg44 hg4 hga
          go_wp2_with fail
          (with_reducible refine HS.out.mono ?_)
          rintro e w5 ⟨b, rfl, hbb, hg5⟩
          have hbt := hbb.2 rfl
          subst hbt
          clear hbb c0 c1 c2 c3 c4 c5 c6 c7 c8 c9 d0 d1 d2 d3 d4 d5 d6 d7 d8 d9
          go_wp2
          go_meet
          exact Hg4.out.trans hg5
        · have HC : Hid (Calls Tryz.prog 22 #[.agg #[.int .u64 o.id, .int .i64 o.kind, .string ⟨o.bucket.toArray⟩, .string ⟨o.key.toArray⟩, .string ⟨o.after.toArray⟩, .int .i64 o.n, .int .u64 o.upload, .slice pa o.parts.length pc, .slice da o.data.length dc]] w3 fun e w' => e = .returned (.int .i64 1) ∧ Grow w3 w') := Lib.hid (by
            have h := checkD_any (id := o.id) (k := o.kind) (sb := ⟨o.bucket.toArray⟩) (sk := ⟨o.key.toArray⟩) (sa := ⟨o.after.toArray⟩) (n := o.n) (u := o.upload) (HI.out.grow Hg3.out).p (HI.out.grow Hg3.out).d (by have := HI.out.bk; show o.bucket.toArray.size ≤ _; simp; omega) HI.out.pl
            refine h.mono fun e w' he => ⟨he.1.trans ?_, he.2⟩
            have e1 : right ⟨o.id, o.kind, (⟨o.bucket.toArray⟩ : ByteArray).data.toList, (⟨o.key.toArray⟩ : ByteArray).data.toList, (⟨o.after.toArray⟩ : ByteArray).data.toList, o.n, o.upload, o.parts, o.data⟩ = false := hr
            rw [e1]
            rfl)
          obtain ⟨c0, c1, c2, c3, c4, c5, c6, c7, c8, c9⟩ := nine (o := o) (op_at HB.out Hg3.out)
          clear hr
          go_wp2_with fail
          (with_reducible refine HC.out.mono ?_)
          rintro e w4 ⟨rfl, hg4⟩
          clear c0 c1 c2 c3 c4 c5 c6 c7 c8 c9
          go_wp2
          go_meet
          exact Hg3.out.trans hg4
      case rest =>
      have Hgc := Lib.hid hcut
      clear hcut Hx Hg3 Hg2
      obtain ⟨o2, k2, ho2⟩ : ∃ o k, parseP l = (o, k) := ⟨_, _, rfl⟩
      have HQ : Hid (Calls Tryz.prog 19 #[.slice va l.length vc] wc (PsV o2 k2 wc)) := Lib.hid (by
        have h := parseP_any (HI.out.base.grow Hgc.out) (Hv.out.grow Hgc.out) (by omega)
        rw [ho2] at h
        exact h.mono fun _ _ he => psV_of he)
      have Ho2 := Lib.hid ho2
      clear ho2
      go_wp2_with fail
      (with_reducible refine HQ.out.mono ?_)
      rintro e w4 ⟨ya, yc, za, zc, rfl, hp, hd, hpl, hg4⟩
      have hB4 := heap_alloc_new w4 (opC o2 (.slice ya o2.parts.length yc) (.slice za o2.data.length zc))
      have hga := Grow.alloc w4 (opC o2 (.slice ya o2.parts.length yc) (.slice za o2.data.length zc))
      go_upto_region 13 with fail
      replace hp := hp.grow hga
      replace hd := hd.grow hga
      have hg44 := Hgc.out.trans (hg4.trans hga)
      generalize w4.alloc (opC o2 (.slice ya o2.parts.length yc) (.slice za o2.data.length zc)) = W4 at *
      generalize w4.heap.size = B4 at *
      obtain ⟨c0, c1, c2, c3, c4, c5, c6, c7, c8, c9⟩ := nine (o := o2) hB4
      have Hg4 := Lib.hid hg44
      have Hp := Lib.hid hp
      have Hd := Lib.hid hd
      have Hpl := Lib.hid hpl
      clear hg44 hg4 hga hp hd hpl hB4
      by_cases hk2 : k2 = 200
      · subst hk2
        obtain ⟨hpr, hwf⟩ := parse_200 Ho2.out
        have HP2 : Hid (Calls Tryz.prog 13 #[.agg #[.int .u64 o2.id, .int .i64 o2.kind, .string ⟨o2.bucket.toArray⟩, .string ⟨o2.key.toArray⟩, .string ⟨o2.after.toArray⟩, .int .i64 o2.n, .int .u64 o2.upload, .slice ya o2.parts.length yc, .slice za o2.data.length zc]] W4 fun e w' => ∃ x, e = .returned (.tuple #[x, .int .i64 0]) ∧ Bv w' x l ∧ Grow W4 w') := Lib.hid (by
          unfold printD at hpr
          split at hpr
          · rename_i hr
            have hin := right_in hr
            refine (print_any hwf.id hwf.up (HI.out.base.grow Hg4.out) Hp.out Hd.out (by have := hin.b; omega) Hpl.out).mono ?_
            intro e w' he
            rcases he with ⟨_, v, he, hv, hg⟩ | ⟨hr2, _⟩
            · rw [Option.some.inj hpr] at hv
              exact ⟨v, he, hv, hg⟩
            · rw [hr] at hr2; cases hr2
          · cases hpr)
        clear hpr hwf
        go_wp2_with fail
        (with_reducible refine HP2.out.mono ?_)
        rintro e w5 ⟨x2, rfl, hx2, hg5⟩
        have hk1 := conv_text hx2
        have hk2 := conv_text (Hv.out.grow (Hg4.out.trans hg5))
        obtain ⟨ba, bc, rfl⟩ := hx2.slice
        have Hg5 := Lib.hid (HG.out.trans (Hg4.out.trans hg5))
        clear c0 c1 c2 c3 c4 c5 c6 c7 c8 c9 hg5 hx2
        go_wp2
        go_ret
        exact ⟨rfl, Hg5.out⟩
      · have hel := parse_else (b := l) (by rw [Ho2.out]; exact hk2)
        rw [Ho2.out] at hel
        obtain ⟨hz, hk4⟩ := hel
        simp only at hz hk4
        subst hz
        have HS : Hid (Calls Tryz.prog 21 #[.agg #[.int .u64 opZero.id, .int .i64 opZero.kind, .string ⟨opZero.bucket.toArray⟩, .string ⟨opZero.key.toArray⟩, .string ⟨opZero.after.toArray⟩, .int .i64 opZero.n, .int .u64 opZero.upload, .slice ya opZero.parts.length yc, .slice za opZero.data.length zc],
            .agg #[.int .u64 0, .int .i64 0, .string ⟨#[]⟩, .string ⟨#[]⟩, .string ⟨#[]⟩, .int .i64 0, .int .u64 0, .slice none 0 0, .slice none 0 0]] W4 (SaPost W4 opZero opZero)) := Lib.hid (sameOp_any (o := opZero) (p := opZero) Hp.out Hd.out (OwnI.iv (iv_nil W4)) (bv_nil W4) Hpl.out)
        have e1 : ((k2 : Int) == 200) = false := by rw [beq_eq_false_iff_ne]; omega
        have e2 : ((k2 : Int) == 400) = (k2 == 400) := by
          cases h : (k2 == 400) with
          | true => rw [beq_iff_eq] at h ⊢; omega
          | false => rw [beq_eq_false_iff_ne] at h ⊢; omega
        clear hk2
        rcases hk4 with rfl | rfl
        · go_wp2_with fail
          (with_reducible refine HS.out.mono ?_)
          rintro e w5 ⟨b, rfl, hbb, hg5⟩
          have hbt := hbb.2 rfl
          subst hbt
          have Hg5 := Lib.hid (HG.out.trans (Hg4.out.trans hg5))
          clear hbb c0 c1 c2 c3 c4 c5 c6 c7 c8 c9 hg5
          go_wp2
          go_ret
          exact ⟨rfl, Hg5.out⟩
        · go_wp2_with fail
          (with_reducible refine HS.out.mono ?_)
          rintro e w5 ⟨b, rfl, hbb, hg5⟩
          have hbt := hbb.2 rfl
          subst hbt
          have Hg5 := Lib.hid (HG.out.trans (Hg4.out.trans hg5))
          clear hbb c0 c1 c2 c3 c4 c5 c6 c7 c8 c9 hg5
          go_wp2
          go_ret
          exact ⟨rfl, Hg5.out⟩
end Go.Proofs.YtdegmpimcappjaaGreatDoor

/- FrontCuts. -/
namespace Go.Proofs.YtdegmpimcappjaaGreatDoor
open Go.RowKit Go.Gl Go.Front

theorem tmod_in (x : Int) (n : Nat) (h : 0 < n) : -(n : Int) < x.tmod n ∧ x.tmod n < (n : Int) := by
  cases x with
  | ofNat m =>
    have e : (Int.ofNat m).tmod (n : Int) = ((m % n : Nat) : Int) := rfl
    have := Nat.mod_lt m h
    rw [e]; omega
  | negSucc m =>
    have e : (Int.negSucc m).tmod (n : Int) = -(((m + 1) % n : Nat) : Int) := rfl
    have := Nat.mod_lt (m + 1) h
    rw [e]; omega

theorem headD_pos (o : OpD) (len d : List UInt8) : 0 < (headD o len ++ d).length := by
  unfold headD
  rw [List.length_append, List.length_append]
  have : ([13, 10, 13, 10] : List UInt8).length = 4 := rfl
  omega

/-- 'append(append([]byte{}, p...), q...)'. -/
theorem append_two {w : World} {pv qv : Value} {p q : List UInt8} (h : Bv w pv p) (k : Bv w qv q) (hl : p.length + q.length ≤ 1000000000) :
    ∃ v1 w1 v2 w2, (Builtin.append_ #[24, 24] 24 #[.slice (some ⟨w.heap.size, 0, none⟩) 0 0, pv]).run Tryz.prog (w.alloc (.cells #[] 5)) = .ok v1 w1 ∧
      (Builtin.append_ #[24, 24] 24 #[v1, qv]).run Tryz.prog w1 = .ok v2 w2 ∧ Bv w2 v2 (p ++ q) ∧ Grow w w2 := by
  have hga : Grow w (w.alloc (.cells #[] 5)) := Grow.alloc _ _
  have hown : OwnB w.heap.size (w.alloc (.cells #[] 5)) (.slice (some ⟨w.heap.size, 0, none⟩) 0 0) [] :=
    .inr ⟨w.heap.size, 0, #[], rfl, Nat.le_refl _, heap_alloc_new _ _, Nat.le_refl _, Nat.le_refl _, Nat.zero_le _, rfl⟩
  obtain ⟨v1, w1, h1, h2, h3, h4⟩ := append_bytes hown (h.grow hga) hga.size (by simp; omega)
  have hg1 : Grow w w1 := below_grown hga (Nat.le_of_lt (by simp)) hown h3
  rw [List.nil_append] at h2
  obtain ⟨v2, w2, k1, k2, k3, k4⟩ := append_bytes h2 (k.grow hg1) hg1.size (by omega)
  exact ⟨v1, w1, v2, w2, h1, k1, ownB_bv k2, below_grown hg1 hg1.size h2 k3⟩

set_option maxRecDepth 100000 in
set_option maxHeartbeats 8000000 in
theorem cuts_true {w : World} {o : OpD} {pv dv v : Value} {l : List UInt8} {cut : Int} (hI : OpIn w o pv dv) (hv : Bv w v l) :
    Calls Tryz.prog 7 #[.agg #[.int .u64 o.id, .int .i64 o.kind, .string ⟨o.bucket.toArray⟩, .string ⟨o.key.toArray⟩, .string ⟨o.after.toArray⟩, .int .i64 o.n, .int .u64 o.upload, pv, dv], .int .i64 cut, v] w fun e w' => e = .returned (.bool true) ∧ Grow w w' := by
  have hB0 := heap_alloc_new w (opC o pv dv)
  have hg0 := Grow.alloc w (opC o pv dv)
  obtain ⟨pa, pc, rfl, _⟩ := id hI.p
  obtain ⟨da, dc, rfl, _⟩ := id hI.d
  obtain ⟨va, vc, rfl⟩ := hv.slice
  go_enter Tryz.func7, Tryz.ntmps7
  go_upto_region 1 with fail
  replace hI := hI.grow hg0
  replace hv := hv.grow hg0
  generalize w.alloc (opC o (.slice pa o.parts.length pc) (.slice da o.data.length dc)) = W0 at *
  generalize w.heap.size = B at *
  have HK := Lib.hid (known_true hI.base)
  have HB := Lib.hid hB0
  have HI := Lib.hid hI
  have HG := Lib.hid hg0
  have Hv := Lib.hid hv
  clear hB0 hI hg0 hv
  go_wp2_with fail
  (with_reducible refine HK.out.mono ?_)
  rintro e w1 ⟨rfl, hg1⟩
  have HF := Lib.hid (few_any (HI.out.grow hg1).p (HI.out.grow hg1).d)
  obtain ⟨c0, c1, c2, c3, c4, c5, c6, c7, c8, c9⟩ := nine (o := o) (op_at HB.out hg1)
  have Hg1 := Lib.hid hg1
  clear hg1
  go_wp2_with fail
  (with_reducible refine HF.out.mono ?_)
  rintro e w2 ⟨rfl, hg2⟩
  clear c0 c1 c2 c3 c4 c5 c6 c7 c8 c9
  have Hg2 := Lib.hid (Hg1.out.trans hg2)
  clear hg2 Hg1
  obtain ⟨fb, hfb⟩ : ∃ b, fewB o = b := ⟨_, rfl⟩
  rw [hfb]
  cases fb with
  | false =>
    clear hfb
    go_wp2
    go_ret
    exact ⟨rfl, HG.out.trans Hg2.out⟩
  | true =>
    have Hfb := Lib.hid hfb
    clear hfb
    obtain ⟨c0, c1, c2, c3, c4, c5, c6, c7, c8, c9⟩ := nine (o := o) (op_at HB.out Hg2.out)
    by_cases hs : (1000 : Int) < (l.length : Int)
    · go_wp2
      go_ret
      exact ⟨rfl, HG.out.trans Hg2.out⟩
    · by_cases hs2 : (5000 : Int) < (o.data.length : Int)
      · go_wp2
        go_ret
        exact ⟨rfl, HG.out.trans Hg2.out⟩
      · have HP := Lib.hid (print_any HI.out.id HI.out.up (HI.out.grow Hg2.out).base (HI.out.grow Hg2.out).p (HI.out.grow Hg2.out).d HI.out.bk HI.out.pl)
        go_wp2_with fail
        (with_reducible refine HP.out.mono ?_)
        intro e w3 he
        clear c0 c1 c2 c3 c4 c5 c6 c7 c8 c9
        rcases he with ⟨hr, x, rfl, hx, hg3⟩ | ⟨hr, rfl, hg3⟩
        case inr =>
          have Hg3 := Lib.hid (HG.out.trans (Hg2.out.trans hg3))
          clear hr hg3
          go_wp2
          go_ret
          exact ⟨rfl, Hg3.out⟩
        have hTl := bytes_few hr Hfb.out
        have hT0 := headD_pos o (decF o.data.length) o.data
        have HFr : Hid (∀ c, c < (headD o (decF o.data.length) ++ o.data).length → (parseP ((headD o (decF o.data.length) ++ o.data).take c)).2 ≠ 200) := Lib.hid (fun c hc => parse_front hr HI.out.wf hc)
        have HMo : Hid (∀ more, (parseP (headD o (decF o.data.length) ++ o.data ++ more)).2 = 200 ↔ more = []) := Lib.hid (fun more => parse_more hr HI.out.wf more)
        generalize headD o (decF o.data.length) ++ o.data = T at *
        obtain ⟨xa, xc, rfl⟩ := hx.slice
        have Hx := Lib.hid hx
        have Hg3 := Lib.hid (Hg2.out.trans hg3)
        have hxc : T.length ≤ xc := by
          obtain ⟨_, _, e1, h1, _⟩ := hx
          cases e1
          exact h1
        clear hr hx hg3 hs2
        have hn0 : ¬ ((T.length : Int) = 0) := by omega
        have hn0b : ((T.length : Int) == 0) = false := by rw [beq_eq_false_iff_ne]; exact hn0
        go_upto_if 39 with fail
        obtain ⟨hr1, hr2⟩ := tmod_in cut T.length hT0
        obtain ⟨R, hR⟩ : ∃ R, cut.tmod (T.length : Int) = R := ⟨_, rfl⟩
        rw [hR] at hr1 hr2 ⊢
        clear hR
        go_cut [1] from 40 to 43 (fun v wx => ∃ c : Nat, v = .int .i64 c ∧ c < T.length ∧ wx = w3)
        case first =>
          by_cases hneg : R < 0
          · have hwr : IntKind.i64.wrap (R + (T.length : Int)) = R + (T.length : Int) := IntWalk.i64_in _ (by omega)
            go_wp2
            go_meet
            exact ⟨(R + (T.length : Int)).toNat, by congr 1; omega, by omega, rfl⟩
          · go_wp2
            go_meet
            exact ⟨R.toNat, by congr 1; omega, by omega, rfl⟩
        case rest =>
        obtain ⟨c, rfl, hc, hw⟩ := hcut
        have hw' := hw.symm
        subst hw'
        clear hw hr1 hr2 hn0 hn0b
        have g2 : (c : Int) ≤ (xc : Int) := by omega
        have g3 : ¬ ((c : Int) < 0) := by omega
        have hbc := bv_take Hx.out (n := c) (by omega)
        obtain ⟨o2, k2, ho2⟩ : ∃ o k, parseP (T.take c) = (o, k) := ⟨_, _, rfl⟩
        have hk2 : k2 ≠ 200 := by
          have h := HFr.out c hc
          rw [ho2] at h
          exact h
        have hk2b : ((k2 : Int) == 200) = false := by rw [beq_eq_false_iff_ne]; omega
        have HQ : Hid (Calls Tryz.prog 19 #[.slice xa c xc] w3 (PsV o2 k2 w3)) := Lib.hid (by
          have h := parseP_any (HI.out.base.grow Hg3.out) hbc (by rw [List.length_take]; omega)
          rw [ho2] at h
          exact h.mono fun _ _ he => psV_of he)
        clear ho2 hbc hk2
        go_wp2_with fail
        (with_reducible refine HQ.out.mono ?_)
        rintro e w4 ⟨z1, z2, z3, z4, rfl, _, _, _, hg4⟩
        have Hg4 := Lib.hid (Hg3.out.trans (hg4.trans (Grow.alloc w4 (opC o2 (.slice z1 o2.parts.length z2) (.slice z3 o2.data.length z4)))))
        have Hx4 := Lib.hid (Hx.out.grow (hg4.trans (Grow.alloc w4 (opC o2 (.slice z1 o2.parts.length z2) (.slice z3 o2.data.length z4)))))
        clear hg4
        go_upto_region 12 with fail
        generalize w4.alloc (opC o2 (.slice z1 o2.parts.length z2) (.slice z3 o2.data.length z4)) = W4 at *
        obtain ⟨v1, u1, v2, u2, r1, r2, r3, r4⟩ := append_two Hx4.out (Hv.out.grow Hg4.out) (by omega)
        obtain ⟨o3, k3, ho3⟩ : ∃ o k, parseP (T ++ l) = (o, k) := ⟨_, _, rfl⟩
        have hk3 : ((k3 : Int) == 200) = ((l.length : Int) == 0) := by
          have h := HMo.out l
          rw [ho3] at h
          simp only at h
          by_cases hl : l = []
          · have h1 := h.2 hl
            subst hl
            subst h1
            rfl
          · have h1 : ¬ k3 = 200 := fun e => hl (h.1 e)
            have h2 : ((k3 : Int) == 200) = false := by rw [beq_eq_false_iff_ne]; omega
            have h3 : ((l.length : Int) == 0) = false := by
              rw [beq_eq_false_iff_ne]
              intro e
              exact hl (List.eq_nil_of_length_eq_zero (by omega))
            rw [h2, h3]
        have HQ3 : Hid (Calls Tryz.prog 19 #[v2] u2 (PsV o3 k3 u2)) := Lib.hid (by
          have h := parseP_any ((HI.out.base.grow Hg4.out).grow r4) r3 (by rw [List.length_append]; omega)
          rw [ho3] at h
          exact h.mono fun _ _ he => psV_of he)
        have Hr1 := Lib.hid r1
        have Hr2 := Lib.hid r2
        have Hr4 := Lib.hid r4
        have Hk3 := Lib.hid hk3
        clear r1 r2 r3 r4 ho3 hk3 g2 g3 hc hTl hT0 hxc
        go_wp2_with (first | (at_builtin; refine wpList_append rfl rfl rfl rfl Hr1.out ?_) | (at_builtin; refine wpList_append rfl rfl rfl rfl Hr2.out ?_) | fail)
        (with_reducible refine HQ3.out.mono ?_)
        rintro e w5 ⟨z5, z6, z7, z8, rfl, _, _, _, hg5⟩
        have Hg5 := Lib.hid (HG.out.trans ((Hg4.out.trans Hr4.out).trans hg5))
        clear hg5
        obtain ⟨kb, hkb⟩ : ∃ b, ((l.length : Int) == 0) = b := ⟨_, rfl⟩
        have hk3 := Hk3.out
        rw [hkb] at hk3
        cases kb with
        | true =>
          go_wp2
          go_ret
          exact ⟨rfl, Hg5.out⟩
        | false =>
          go_wp2
          go_ret
          exact ⟨rfl, Hg5.out⟩
end Go.Proofs.YtdegmpimcappjaaGreatDoor

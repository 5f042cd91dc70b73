/- Merged out of L1, L2, L3, L40: helpers. -/
import Derived.Test.YtdegmpimcappjaaGreatDoorFD
import Derived.Test.YtdegmpimcappjaaGreatDoorFB
import Derived.Test.YtdegmpimcappjaaGreatDoorFF
import Derived.Test.YtdegmpimcappjaaGreatDoorFG
import Derived.Test.YtdegmpimcappjaaGreatDoorFH
/- few. -/
namespace Go.Proofs.YtdegmpimcappjaaGreatDoor
open Go.RowKit Go.Gl Go.Front

/-- The sum of the lengths, as Go tells it. -/
def fewS (o : OpD) : Int := IntKind.i64.wrap (IntKind.i64.wrap (IntKind.i64.wrap ((o.bucket.length : Int) + (o.key.length : Int)) + (o.after.length : Int)) + (o.data.length : Int))
def fewB (o : OpD) : Bool := decide (fewS o ≤ 262144) && decide ((o.parts.length : Int) ≤ 20000)

set_option maxRecDepth 100000 in
theorem few_any {w : World} {o : OpD} {pv dv : Value} (hp : Iv w pv o.parts) (hd : Bv w dv o.data) :
    Calls Tryz.prog 12 #[.agg #[.int .u64 o.id, .int .i64 o.kind, .string ⟨o.bucket.toArray⟩, .string ⟨o.key.toArray⟩, .string ⟨o.after.toArray⟩, .int .i64 o.n, .int .u64 o.upload, pv, dv]] w fun e w' => e = .returned (.bool (fewB o)) ∧ Grow w w' := by
  obtain ⟨id, kind, B, K, A, n, u, pl, dl⟩ := o
  simp only at hp hd
  obtain ⟨pa, pc, rfl, _⟩ := hp
  obtain ⟨da, dc, rfl, _⟩ := hd
  obtain ⟨S1, hS1⟩ : ∃ S, IntKind.i64.wrap ((B.length : Int) + (K.length : Int)) = S := ⟨_, rfl⟩
  obtain ⟨S2, hS2⟩ : ∃ S, IntKind.i64.wrap (S1 + (A.length : Int)) = S := ⟨_, rfl⟩
  obtain ⟨S3, hS3⟩ : ∃ S, IntKind.i64.wrap (S2 + (dl.length : Int)) = S := ⟨_, rfl⟩
  obtain ⟨x1, hx1⟩ : ∃ b, decide (S3 ≤ 262144) = b := ⟨_, rfl⟩
  obtain ⟨x2, hx2⟩ : ∃ b, decide ((pl.length : Int) ≤ 20000) = b := ⟨_, rfl⟩
  have HF : Hid (fewB ⟨id, kind, B, K, A, n, u, pl, dl⟩ = (x1 && x2)) := Lib.hid (by unfold fewB fewS; simp only; rw [hS1, hS2, hS3, hx1, hx2])
  go_enter Tryz.func12, Tryz.ntmps12
  cases x1 <;> cases x2
  all_goals
    go_wp2
    go_ret
    exact ⟨by rw [HF.out]; rfl, by (repeat (first | exact Below.refl _ _ | assumption | refine Below.drew ?_ | refine bDrewN ?_ | refine Below.setCell ?_ (by first | omega | (simp <;> omega)) _ | refine Below.alloc ?_ (by first | omega | (simp <;> omega)) _))⟩
end Go.Proofs.YtdegmpimcappjaaGreatDoor

/- Two ops the same. -/
namespace Go.Proofs.YtdegmpimcappjaaGreatDoor
open Go.RowKit Go.Gl Go.Front

theorem heap_two (w : World) (x y : Obj) : ((w.alloc x).alloc y).heap[w.heap.size]? = some x ∧ ((w.alloc x).alloc y).heap[w.heap.size + 1]? = some y := by
  refine ⟨(heap_alloc_old _ _ (by simp)).trans (heap_alloc_new _ _), ?_⟩
  have := heap_alloc_new (w.alloc x) y
  simpa using this

/-- How far the lists have been found the same. -/
def SmInv (w : World) (p q : List Int) (iv : Value) (wr : World) : Prop := ∃ i : Nat, iv = .int .i64 i ∧ i ≤ p.length ∧ (∀ j, j < i → p[j]? = q[j]?) ∧ Grow w wr

theorem opD_eq {o p : OpD} (h0 : o.id = p.id) (h1 : o.kind = p.kind) (h2 : o.bucket = p.bucket) (h3 : o.key = p.key) (h4 : o.after = p.after) (h5 : o.n = p.n) (h6 : o.upload = p.upload) (h7 : o.parts = p.parts) (h8 : o.data = p.data) : o = p := by
  obtain ⟨a, b, c, d, e, f, g, x, y⟩ := o
  simp only at h0 h1 h2 h3 h4 h5 h6 h7 h8
  subst h0 h1 h2 h3 h4 h5 h6 h7 h8
  rfl

/-- What SameOp looks at ahead of its loop. -/
def Same9 (o p : OpD) : Prop := o.id = p.id ∧ o.kind = p.kind ∧ o.bucket = p.bucket ∧ o.key = p.key ∧ o.after = p.after ∧ o.n = p.n ∧ o.upload = p.upload ∧ o.parts.length = p.parts.length ∧ o.data = p.data

theorem same9_eq {o p : OpD} (h : Same9 o p) (hp : o.parts = p.parts) : o = p :=
  opD_eq h.1 h.2.1 h.2.2.1 h.2.2.2.1 h.2.2.2.2.1 h.2.2.2.2.2.1 h.2.2.2.2.2.2.1 hp h.2.2.2.2.2.2.2.2

theorem same9_of {o p : OpD} (h : o = p) : Same9 o p := by subst h; exact ⟨rfl, rfl, rfl, rfl, rfl, rfl, rfl, rfl, rfl⟩

/-- What SameOp tells. -/
def SaPost (w : World) (o p : OpD) (e : Ending) (w' : World) : Prop := ∃ b, e = .returned (.bool b) ∧ (b = true ↔ o = p) ∧ Grow w w'

theorem grow_drewn {W wr : World} (h : Grow W wr) (n : Nat) : Grow W (wr.drewN n) := h.trans (Grow.drewN _ _)

set_option maxRecDepth 100000 in
set_option maxHeartbeats 16000000 in
theorem sameOp_any {w : World} {o p : OpD} {pv dv pv' dv' : Value} (hp : Iv w pv o.parts) (hd : Bv w dv o.data) (hp' : Iv w pv' p.parts) (hd' : Bv w dv' p.data) (hl : o.parts.length ≤ 9223372036854775807) :
    Calls Tryz.prog 21 #[.agg #[.int .u64 o.id, .int .i64 o.kind, .string ⟨o.bucket.toArray⟩, .string ⟨o.key.toArray⟩, .string ⟨o.after.toArray⟩, .int .i64 o.n, .int .u64 o.upload, pv, dv],
      .agg #[.int .u64 p.id, .int .i64 p.kind, .string ⟨p.bucket.toArray⟩, .string ⟨p.key.toArray⟩, .string ⟨p.after.toArray⟩, .int .i64 p.n, .int .u64 p.upload, pv', dv']] w (SaPost w o p) := by
  obtain ⟨c1, c2⟩ := heap_two w (.cells #[.int .u64 o.id, .int .i64 o.kind, .string ⟨o.bucket.toArray⟩, .string ⟨o.key.toArray⟩, .string ⟨o.after.toArray⟩, .int .i64 o.n, .int .u64 o.upload, pv, dv] 26) (.cells #[.int .u64 p.id, .int .i64 p.kind, .string ⟨p.bucket.toArray⟩, .string ⟨p.key.toArray⟩, .string ⟨p.after.toArray⟩, .int .i64 p.n, .int .u64 p.upload, pv', dv'] 26)
  have hg : Grow w ((w.alloc (.cells #[.int .u64 o.id, .int .i64 o.kind, .string ⟨o.bucket.toArray⟩, .string ⟨o.key.toArray⟩, .string ⟨o.after.toArray⟩, .int .i64 o.n, .int .u64 o.upload, pv, dv] 26)).alloc (.cells #[.int .u64 p.id, .int .i64 p.kind, .string ⟨p.bucket.toArray⟩, .string ⟨p.key.toArray⟩, .string ⟨p.after.toArray⟩, .int .i64 p.n, .int .u64 p.upload, pv', dv'] 26)) := (Grow.alloc _ _).trans (Grow.alloc _ _)
  go_enter Tryz.func21, Tryz.ntmps21
  go_upto_region 1 with fail
  generalize (w.alloc (.cells #[.int .u64 o.id, .int .i64 o.kind, .string ⟨o.bucket.toArray⟩, .string ⟨o.key.toArray⟩, .string ⟨o.after.toArray⟩, .int .i64 o.n, .int .u64 o.upload, pv, dv] 26)).alloc (.cells #[.int .u64 p.id, .int .i64 p.kind, .string ⟨p.bucket.toArray⟩, .string ⟨p.key.toArray⟩, .string ⟨p.after.toArray⟩, .int .i64 p.n, .int .u64 p.upload, pv', dv'] 26) = W at *
  have k1 := conv_text (hd.grow hg)
  have k2 := conv_text (hd'.grow hg)
  replace hp := hp.grow hg
  replace hp' := hp'.grow hg
  obtain ⟨pa, pc, rfl, hpc⟩ := hp
  obtain ⟨pa', pc', rfl, hpc'⟩ := hp'
  obtain ⟨q0, q1, q2, q3, q4, q5, q6, q7, q8, q9⟩ := nine (o := o) c1
  obtain ⟨r0, r1, r2, r3, r4, r5, r6, r7, r8, r9⟩ := nine (o := p) c2
  clear c1 c2 q9 r9 hd hd'
  have HQ7 := Lib.hid q7
  have HR7 := Lib.hid r7
  have Hpc := Lib.hid hpc
  have Hpc' := Lib.hid hpc'
  have lb1 : w.heap.size < W.heap.size := World.block_lt_of_cell? W _ q7
  have lb2 : w.heap.size + 1 < W.heap.size := World.block_lt_of_cell? W _ r7
  clear hpc hpc'
  have HS : Hid (Same9 o p ↔ o.id = p.id ∧ o.kind = p.kind ∧ o.bucket = p.bucket ∧ o.key = p.key ∧ o.after = p.after ∧ o.n = p.n ∧ o.upload = p.upload ∧ o.parts.length = p.parts.length ∧ o.data = p.data) := Lib.hid Iff.rfl
  go_cut [70] from 6 to 71 (fun v wx => ∃ b, v = .bool b ∧ (b = false ↔ Same9 o p) ∧ wx = W)
  case first =>
    clear HQ7 HR7 Hpc Hpc' lb1 lb2 hl
    generalize o.id = id at *
    generalize p.id = id' at *
    generalize o.kind = kind at *
    generalize p.kind = kind' at *
    generalize o.bucket = B at *
    generalize p.bucket = B' at *
    generalize o.key = K at *
    generalize p.key = K' at *
    generalize o.after = A at *
    generalize p.after = A' at *
    generalize o.n = n at *
    generalize p.n = n' at *
    generalize o.upload = u at *
    generalize p.upload = u' at *
    generalize o.parts.length = L at *
    generalize p.parts.length = L' at *
    generalize o.data = D at *
    generalize p.data = D' at *
    by_cases h0 : ((id : Nat) : Int) = (id' : Nat)
    case neg =>
      have HN : Hid (¬ Same9 o p) := Lib.hid (fun h => h0 (by have e := (HS.out.1 h).1; rw [e]))
      clear HS
      go_wp2
      go_meet
      exact ⟨true, rfl, ⟨(fun h => by cases h), fun h => absurd h HN.out⟩, rfl⟩
    have e0 := Int.ofNat.inj h0; clear h0; subst e0
    by_cases h1 : kind = kind'
    case neg =>
      have HN : Hid (¬ Same9 o p) := Lib.hid (fun h => h1 (by have e := (HS.out.1 h).2.1; exact e))
      clear HS
      go_wp2
      go_meet
      exact ⟨true, rfl, ⟨(fun h => by cases h), fun h => absurd h HN.out⟩, rfl⟩
    subst h1
    by_cases h2 : B = B'
    case neg =>
      have HN : Hid (¬ Same9 o p) := Lib.hid (fun h => h2 (by have e := (HS.out.1 h).2.2.1; exact e))
      clear HS
      go_wp2
      go_meet
      exact ⟨true, rfl, ⟨(fun h => by cases h), fun h => absurd h HN.out⟩, rfl⟩
    subst h2
    by_cases h3 : K = K'
    case neg =>
      have HN : Hid (¬ Same9 o p) := Lib.hid (fun h => h3 (by have e := (HS.out.1 h).2.2.2.1; exact e))
      clear HS
      go_wp2
      go_meet
      exact ⟨true, rfl, ⟨(fun h => by cases h), fun h => absurd h HN.out⟩, rfl⟩
    subst h3
    by_cases h4 : A = A'
    case neg =>
      have HN : Hid (¬ Same9 o p) := Lib.hid (fun h => h4 (by have e := (HS.out.1 h).2.2.2.2.1; exact e))
      clear HS
      go_wp2
      go_meet
      exact ⟨true, rfl, ⟨(fun h => by cases h), fun h => absurd h HN.out⟩, rfl⟩
    subst h4
    by_cases h5 : n = n'
    case neg =>
      have HN : Hid (¬ Same9 o p) := Lib.hid (fun h => h5 (by have e := (HS.out.1 h).2.2.2.2.2.1; exact e))
      clear HS
      go_wp2
      go_meet
      exact ⟨true, rfl, ⟨(fun h => by cases h), fun h => absurd h HN.out⟩, rfl⟩
    subst h5
    by_cases h6 : ((u : Nat) : Int) = (u' : Nat)
    case neg =>
      have HN : Hid (¬ Same9 o p) := Lib.hid (fun h => h6 (by have e := (HS.out.1 h).2.2.2.2.2.2.1; rw [e]))
      clear HS
      go_wp2
      go_meet
      exact ⟨true, rfl, ⟨(fun h => by cases h), fun h => absurd h HN.out⟩, rfl⟩
    have e6 := Int.ofNat.inj h6; clear h6; subst e6
    by_cases h7 : ((L : Nat) : Int) = (L' : Nat)
    case neg =>
      have HN : Hid (¬ Same9 o p) := Lib.hid (fun h => h7 (by have e := (HS.out.1 h).2.2.2.2.2.2.2.1; rw [e]))
      clear HS
      go_wp2
      go_meet
      exact ⟨true, rfl, ⟨(fun h => by cases h), fun h => absurd h HN.out⟩, rfl⟩
    have e7 := Int.ofNat.inj h7; clear h7; subst e7
    by_cases h8 : D = D'
    case neg =>
      have hxd : (D == D') = false := by rw [beq_eq_false_iff_ne]; exact h8
      have HN : Hid (¬ Same9 o p) := Lib.hid (fun h => h8 (HS.out.1 h).2.2.2.2.2.2.2.2)
      clear HS h8
      go_wp2
      go_meet
      exact ⟨true, rfl, ⟨(fun h => by cases h), fun h => absurd h HN.out⟩, rfl⟩
    subst h8
    have HS2 : Hid (Same9 o p) := Lib.hid (HS.out.2 ⟨rfl, rfl, rfl, rfl, rfl, rfl, rfl, rfl, rfl⟩)
    clear HS
    go_wp2
    go_meet
    exact ⟨false, rfl, ⟨fun _ => HS2.out, fun _ => rfl⟩, rfl⟩
  case rest =>
  obtain ⟨b, rfl, hb, hw⟩ := hcut
  have hw' := hw.symm
  subst hw'
  clear hw q0 q1 q2 q3 q4 q5 q6 q8 r0 r1 r2 r3 r4 r5 r6 r7 q7 r8 k1 k2 HS
  cases b with
  | true =>
    have Hn : Hid (¬ o = p) := Lib.hid (fun e => by have := hb.2 (same9_of e); cases this)
    clear hb
    go_wp2
    go_ret
    exact ⟨false, rfl, ⟨(fun h => by cases h), fun h => absurd h Hn.out⟩, hg⟩
  | false =>
    have H9 := Lib.hid (hb.1 rfl)
    clear hb
    have hlen := H9.out.2.2.2.2.2.2.2.1
    have Hle := Lib.hid hlen
    clear hlen
    have Hg := Lib.hid hg
    go_wp2_with fail
    go_loopw [5] (fun iv wr => ∃ i : Nat, iv = .int .i64 i ∧ i ≤ o.parts.length ∧ (∀ j, j < i → o.parts[j]? = p.parts[j]?) ∧ Grow W wr) (fun iv _ => o.parts.length - (intOf iv).toNat)
    case atStart => exact ⟨0, rfl, Nat.zero_le _, fun j hj => absurd hj (Nat.not_lt_zero _), Grow.refl _⟩
    case round =>
      obtain ⟨i, rfl, hi, hto, hgr⟩ := hrel
      have q7 : wr.cell? ⟨w.heap.size, 7, none⟩ = some (.slice pa o.parts.length pc) := (Grow.cells _ _ _ hgr lb1).trans HQ7.out
      have r7 : wr.cell? ⟨w.heap.size + 1, 7, none⟩ = some (.slice pa' p.parts.length pc') := (Grow.cells _ _ _ hgr lb2).trans HR7.out
      by_cases hlt : i < o.parts.length
      · obtain ⟨n, hn⟩ : ∃ n, o.parts[i]? = some n := ⟨o.parts[i], by simp [hlt]⟩
        have hlt2 : i < p.parts.length := by have := Hle.out; omega
        obtain ⟨m, hm⟩ : ∃ m, p.parts[i]? = some m := ⟨p.parts[i], by simp [hlt2]⟩
        obtain ⟨b, of, rfl, hbs, hc⟩ := Hpc.out.resolve_left (fun e => by rw [e] at hlt; simp at hlt)
        obtain ⟨b', of', rfl, hbs', hc'⟩ := Hpc'.out.resolve_left (fun e => by rw [e] at hlt2; simp at hlt2)
        have hcn : wr.cell? ⟨b, of + i, none⟩ = some (.int .i64 n) := (Grow.cells _ _ _ hgr hbs).trans (hc i n hn)
        have hcm : wr.cell? ⟨b', of' + i, none⟩ = some (.int .i64 m) := (Grow.cells _ _ _ hgr hbs').trans (hc' i m hm)
        have hi1 : (i : Int) < (o.parts.length : Int) := by omega
        have hi2 : (i : Int) < (p.parts.length : Int) := by omega
        have hi0 : (0 : Int) ≤ (i : Int) := by omega
        have hwi : IntKind.i64.wrap ((i : Int) + 1) = (i : Int) + 1 := IntWalk.i64_in _ (by omega)
        have Hgr := Lib.hid hgr
        by_cases hnm : n = m
        · subst hnm
          have Hto : Hid (∀ j, j < i + 1 → o.parts[j]? = p.parts[j]?) := Lib.hid (fun j hj => by
            rcases Nat.lt_succ_iff_lt_or_eq.1 hj with h | rfl
            · exact hto j h
            · rw [hn, hm])
          clear hto hn hm hc hc' hgr hg hlt hlt2 hi
          go_wp2_with (go_quiet (fail))
          go_roundw
          case rel => exact ⟨i + 1, by simp, by omega, Hto.out, grow_drewn Hgr.out _⟩
          case measure => simp [intOf]; omega
        · have Hn : Hid (¬ o = p) := Lib.hid (fun e => by
            rw [e, hm] at hn
            exact hnm (Option.some.inj hn).symm)
          clear hto hn hm hc hc' hgr hg hlt hlt2 hi
          go_wp2_with (go_quiet (fail))
          go_ret
          exact ⟨false, rfl, ⟨(fun h => by cases h), fun h => absurd h Hn.out⟩, Hg.out.trans (grow_drewn Hgr.out _)⟩
      · have hi1 : ¬ ((i : Int) < (o.parts.length : Int)) := by omega
        have He : Hid (o = p) := Lib.hid (same9_eq H9.out (List.ext_getElem? fun j => by
          by_cases hj : j < i
          · exact hto j hj
          · have := Hle.out
            rw [List.getElem?_eq_none (by omega), List.getElem?_eq_none (by omega)]))
        have Hgr := Lib.hid hgr
        clear hto hgr hg
        go_wp2
        go_ret
        exact ⟨true, rfl, ⟨fun _ => He.out, fun _ => rfl⟩, Hg.out.trans Hgr.out⟩
end Go.Proofs.YtdegmpimcappjaaGreatDoor

/- The chapter's example. -/
namespace Go.Proofs.YtdegmpimcappjaaGreatDoor
open Go.RowKit Go.Gl Go.Front

abbrev opC (o : OpD) (pv dv : Value) : Obj := .cells #[.int .u64 o.id, .int .i64 o.kind, .string ⟨o.bucket.toArray⟩, .string ⟨o.key.toArray⟩, .string ⟨o.after.toArray⟩, .int .i64 o.n, .int .u64 o.upload, pv, dv] 26

set_option maxRecDepth 100000 in
set_option maxHeartbeats 4000000 in
theorem known_true {w : World} (hb : Base w) : Calls Tryz.prog 11 #[] w fun e w' => e = .returned (.bool true) ∧ Grow w w' := by
  have HP : Hid (Calls Tryz.prog 13 #[.agg #[.int .u64 10, .int .i64 4, .string ⟨#[98]⟩, .string ⟨#[97, 47, 195, 169]⟩, .string ⟨#[]⟩, .int .i64 0, .int .u64 0, .slice none 0 0, .slice none 0 0]] w (PrPost exOp w)) :=
    Lib.hid (print_any (o := exOp) (by decide) (by decide) hb (OwnI.iv (iv_nil _)) (bv_nil _) (by decide) (by decide))
  have Hb := Lib.hid hb
  clear hb
  go_enter Tryz.func11, Tryz.ntmps11
  go_wp2_with fail
  (with_reducible refine HP.out.mono ?_)
  intro e w1 he
  rcases he with ⟨_, v, rfl, hv, hg1⟩ | ⟨hr, _⟩
  case inr => rw [ex_right] at hr; cases hr
  rw [ex_head] at hv
  have HQ : Hid (Calls Tryz.prog 19 #[v] w1 (PsPost (exOp, 200) w1)) := Lib.hid (by
    have h := parseP_any (Hb.out.grow hg1) hv (by decide)
    rw [ex_parse] at h
    exact h)
  obtain ⟨va, vc, rfl⟩ := hv.slice
  have Hv := Lib.hid hv
  have Hg1 := Lib.hid hg1
  clear hv hg1
  go_wp2_with fail
  (with_reducible refine HQ.out.mono ?_)
  rintro e w2 ⟨hg2, pv, dv, rfl, hpv, hdv⟩
  obtain ⟨pa, pc, rfl⟩ := hpv.slice'
  obtain ⟨da, dc, rfl⟩ := hdv.slice
  have hB := heap_alloc_new w2 (opC exOp (.slice pa exOp.parts.length pc) (.slice da exOp.data.length dc))
  have hga := Grow.alloc w2 (opC exOp (.slice pa exOp.parts.length pc) (.slice da exOp.data.length dc))
  have Hgg := Lib.hid (Hg1.out.trans (hg2.trans hga))
  clear hpv hdv
  go_upto_region 3 with fail
  generalize w2.alloc (opC exOp (.slice pa exOp.parts.length pc) (.slice da exOp.data.length dc)) = W3 at *
  generalize w2.heap.size = B at *
  have Hconv := conv_text (Hv.out.grow (hg2.trans hga))
  obtain ⟨c0, c1, c2, c3, c4, c5, c6, c7, c8, c9⟩ := nine (o := exOp) hB
  have d0 : W3.cell? ⟨B, 0, none⟩ = some (.int .u64 10) := c0
  have d1 : W3.cell? ⟨B, 1, none⟩ = some (.int .i64 4) := c1
  have d3 : W3.cell? ⟨B, 3, none⟩ = some (.string ⟨#[97, 47, 195, 169]⟩) := c3
  have d9 : (convert 24 9 (.slice va exB.length vc)).run Tryz.prog W3 = .ok (.string ⟨#[71, 69, 84, 32, 47, 98, 47, 97, 37, 50, 70, 37, 67, 51, 37, 65, 57, 32, 71, 76, 67, 47, 49, 13, 10, 105, 100, 58, 32, 48, 48, 48, 48, 48, 48, 48, 48, 48, 48, 48, 48, 48, 48, 48, 97, 13, 10, 108, 101, 110, 103, 116, 104, 58, 32, 48, 13, 10, 13, 10]⟩) W3 := Hconv
  clear hB hga hg2 Hconv c0 c1 c2 c3 c4 c5 c6 c7 c8 c9
  go_wp2
  go_ret
  exact ⟨rfl, Hgg.out⟩
end Go.Proofs.YtdegmpimcappjaaGreatDoor

/- An operation that came in. -/
namespace Go.Proofs.YtdegmpimcappjaaGreatDoor
open Go.RowKit Go.Gl Go.Front

/-- The bytes that both Prints tell. -/
def prT (o : OpD) : List UInt8 := if right o = true then headD o (decF o.data.length) ++ o.data else []

theorem pr_one {o : OpD} {w : World} {e : Ending} {w' : World} (h : PrPost o w e w') : ∃ v, e = .returned (.tuple #[v, .int .i64 (errD (right o))]) ∧ Bv w' v (prT o) ∧ Grow w w' := by
  rcases h with ⟨hr, v, he, hv, hg⟩ | ⟨hr, he, hg⟩
  · refine ⟨v, ?_, ?_, hg⟩
    · rw [hr]; exact he
    · unfold prT; rw [if_pos hr]; exact hv
  · refine ⟨.slice none 0 0, ?_, ?_, hg⟩
    · rw [hr]; exact he
    · unfold prT; rw [if_neg (by rw [hr]; simp)]; exact bv_nil _

/-- An operation that came in. -/
structure OpIn (w : World) (o : OpD) (pv dv : Value) : Prop where
  base : Base w
  id : o.id < 18446744073709551616
  up : o.upload < 18446744073709551616
  p : Iv w pv o.parts
  d : Bv w dv o.data
  bk : o.bucket.length ≤ 9223372036854775807
  pl : o.parts.length ≤ 9223372036854775807

theorem OpIn.grow {w w' : World} {o : OpD} {pv dv : Value} (h : OpIn w o pv dv) (hg : Grow w w') : OpIn w' o pv dv :=
  ⟨h.base.grow hg, h.id, h.up, h.p.grow hg, h.d.grow hg, h.bk, h.pl⟩

theorem OpIn.print {w : World} {o : OpD} {pv dv : Value} (h : OpIn w o pv dv) : Calls Tryz.prog 13 #[.agg #[.int .u64 o.id, .int .i64 o.kind, .string ⟨o.bucket.toArray⟩, .string ⟨o.key.toArray⟩, .string ⟨o.after.toArray⟩, .int .i64 o.n, .int .u64 o.upload, pv, dv]] w fun e w' => ∃ v, e = .returned (.tuple #[v, .int .i64 (errD (right o))]) ∧ Bv w' v (prT o) ∧ Grow w w' :=
  (print_any h.id h.up h.base h.p h.d h.bk h.pl).mono fun _ _ he => pr_one he

/-- An operation's block keeps what it holds. -/
theorem op_at {w w' : World} {b : Nat} {o : OpD} {pv dv : Value} (h : w.heap[b]? = some (opC o pv dv)) (hg : Grow w w') : w'.heap[b]? = some (opC o pv dv) := (hg.block _ (lt_of_getElem? h)).trans h
end Go.Proofs.YtdegmpimcappjaaGreatDoor

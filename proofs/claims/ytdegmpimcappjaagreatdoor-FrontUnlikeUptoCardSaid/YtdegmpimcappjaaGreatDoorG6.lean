/- Merged out of R7, R71, R72: helpers. -/
import Derived.Test.YtdegmpimcappjaaGreatDoorG5
import Derived.Test.YtdegmpimcappjaaGreatDoorG4
/- Two results the same. -/
namespace Go.Proofs.YtdegmpimcappjaaGreatDoor
open Go.RowKit Go.Gl Go.Front

/-- What Same looks at ahead of its loop. -/
def Same5 (r p : ResD) : Prop := r.status = p.status ∧ r.upload = p.upload ∧ r.more = p.more ∧ r.keys.length = p.keys.length ∧ r.data = p.data

theorem same5_eq {r p : ResD} (h : Same5 r p) (hk : r.keys = p.keys) : r = p := by
  obtain ⟨a, b, c, d, e⟩ := r
  obtain ⟨a', b', c', d', e'⟩ := p
  obtain ⟨h1, h2, h3, _, h5⟩ := h
  simp only at h1 h2 h3 h5 hk
  subst h1 h2 h3 h5 hk
  rfl

theorem same5_of {r p : ResD} (h : r = p) : Same5 r p := by subst h; exact ⟨rfl, rfl, rfl, rfl, rfl⟩

/-- What Same tells. -/
def SrPost (w : World) (r p : ResD) (e : Ending) (w' : World) : Prop := ∃ b, e = .returned (.bool b) ∧ (b = true ↔ r = p) ∧ Grow w w'

set_option maxRecDepth 100000 in
set_option maxHeartbeats 16000000 in
theorem same_any {w : World} {r p : ResD} {kv dv kv' dv' : Value} (hk : Kv w kv r.keys) (hd : Bv w dv r.data) (hk' : Kv w kv' p.keys) (hd' : Bv w dv' p.data) (hl : r.keys.length ≤ 9223372036854775807) :
    Calls Tryz.prog 31 #[.agg #[.int .i64 r.status, .int .u64 r.upload, kv, .bool r.more, dv], .agg #[.int .i64 p.status, .int .u64 p.upload, kv', .bool p.more, dv']] w (SrPost w r p) := by
  obtain ⟨c1, c2⟩ := heap_two w (resC r kv dv) (resC p kv' dv')
  have hg : Grow w ((w.alloc (resC r kv dv)).alloc (resC p kv' dv')) := (Grow.alloc _ _).trans (Grow.alloc _ _)
  go_enter Tryz.func31, Tryz.ntmps31
  go_upto_region 1 with fail
  generalize (w.alloc (resC r kv dv)).alloc (resC p kv' dv') = W at *
  have k1 := conv_text (hd.grow hg)
  have k2 := conv_text (hd'.grow hg)
  replace hk := hk.grow hg
  replace hk' := hk'.grow hg
  obtain ⟨pa, pc, rfl, hpc⟩ := hk
  obtain ⟨pa', pc', rfl, hpc'⟩ := hk'
  obtain ⟨q0, q1, q2, q3, q4, q5⟩ := five c1
  obtain ⟨r0, r1, r2, r3, r4, r5⟩ := five c2
  clear c1 c2 q5 r5 hd hd'
  have HQ2 := Lib.hid q2
  have HR2 := Lib.hid r2
  have Hpc := Lib.hid hpc
  have Hpc' := Lib.hid hpc'
  have lb1 : w.heap.size < W.heap.size := World.block_lt_of_cell? W _ q2
  have lb2 : w.heap.size + 1 < W.heap.size := World.block_lt_of_cell? W _ r2
  clear hpc hpc'
  have HS : Hid (Same5 r p ↔ r.status = p.status ∧ r.upload = p.upload ∧ r.more = p.more ∧ r.keys.length = p.keys.length ∧ r.data = p.data) := Lib.hid Iff.rfl
  go_cut [42] from 6 to 43 (fun v wx => ∃ b, v = .bool b ∧ (b = false ↔ Same5 r p) ∧ wx = W)
  case first =>
    clear HQ2 HR2 Hpc Hpc' lb1 lb2 hl
    generalize r.status = st at *
    generalize p.status = st' at *
    generalize r.upload = up at *
    generalize p.upload = up' at *
    generalize r.more = more at *
    generalize p.more = more' at *
    generalize r.keys.length = L at *
    generalize p.keys.length = L' at *
    generalize r.data = D at *
    generalize p.data = D' at *
    by_cases h_st : ((st : Int) = st')
    case neg =>
      have HN : Hid (¬ Same5 r p) := Lib.hid (fun h => h_st (by have e := (HS.out.1 h).1; exact e))
      clear HS
      go_wp2
      go_meet
      exact ⟨true, rfl, ⟨(fun h => by cases h), fun h => absurd h HN.out⟩, rfl⟩
    subst h_st
    by_cases h_up : ((up : Nat) : Int) = (up' : Nat)
    case neg =>
      have HN : Hid (¬ Same5 r p) := Lib.hid (fun h => h_up (by have e := (HS.out.1 h).2.1; rw [e]))
      clear HS
      go_wp2
      go_meet
      exact ⟨true, rfl, ⟨(fun h => by cases h), fun h => absurd h HN.out⟩, rfl⟩
    have e_up := Int.ofNat.inj h_up; clear h_up; subst e_up
    by_cases h_more : more = more'
    case neg =>
      have hxd : (more == more') = false := by rw [beq_eq_false_iff_ne]; exact h_more
      have hxe : (more != more') = true := by rw [bne, hxd]; rfl
      have HN : Hid (¬ Same5 r p) := Lib.hid (fun h => h_more (HS.out.1 h).2.2.1)
      clear HS h_more
      go_wp2
      go_meet
      exact ⟨true, rfl, ⟨(fun h => by cases h), fun h => absurd h HN.out⟩, rfl⟩
    subst h_more
    by_cases h_L : ((L : Nat) : Int) = (L' : Nat)
    case neg =>
      have HN : Hid (¬ Same5 r p) := Lib.hid (fun h => h_L (by have e := (HS.out.1 h).2.2.2.1; rw [e]))
      clear HS
      go_wp2
      go_meet
      exact ⟨true, rfl, ⟨(fun h => by cases h), fun h => absurd h HN.out⟩, rfl⟩
    have e_L := Int.ofNat.inj h_L; clear h_L; subst e_L
    by_cases h_D : D = D'
    case neg =>
      have hxd : (D == D') = false := by rw [beq_eq_false_iff_ne]; exact h_D
      have HN : Hid (¬ Same5 r p) := Lib.hid (fun h => h_D (HS.out.1 h).2.2.2.2)
      clear HS h_D
      go_wp2
      go_meet
      exact ⟨true, rfl, ⟨(fun h => by cases h), fun h => absurd h HN.out⟩, rfl⟩
    subst h_D
    have HS2 : Hid (Same5 r p) := Lib.hid (HS.out.2 ⟨rfl, rfl, rfl, rfl, rfl⟩)
    clear HS
    go_wp2
    go_meet
    exact ⟨false, rfl, ⟨fun _ => HS2.out, fun _ => rfl⟩, rfl⟩
  case rest =>
  obtain ⟨b, rfl, hb, hw⟩ := hcut
  have hw' := hw.symm
  subst hw'
  clear hw q0 q1 q2 q3 q4 r0 r1 r2 r3 r4 k1 k2 HS
  cases b with
  | true =>
    have Hn : Hid (¬ r = p) := Lib.hid (fun e => by have := hb.2 (same5_of e); cases this)
    clear hb
    go_wp2
    go_ret
    exact ⟨false, rfl, ⟨(fun h => by cases h), fun h => absurd h Hn.out⟩, hg⟩
  | false =>
    have H9 := Lib.hid (hb.1 rfl)
    clear hb
    have Hle := Lib.hid H9.out.2.2.2.1
    have Hg := Lib.hid hg
    go_wp2_with fail
    go_loopw [5] (fun iv wr => ∃ i : Nat, iv = .int .i64 i ∧ i ≤ r.keys.length ∧ (∀ j, j < i → r.keys[j]? = p.keys[j]?) ∧ Grow W wr) (fun iv _ => r.keys.length - (intOf iv).toNat)
    case atStart => exact ⟨0, rfl, Nat.zero_le _, fun j hj => absurd hj (Nat.not_lt_zero _), Grow.refl _⟩
    case round =>
      obtain ⟨i, rfl, hi, hto, hgr⟩ := hrel
      have q2 : wr.cell? ⟨w.heap.size, 2, none⟩ = some (.slice pa r.keys.length pc) := (Grow.cells _ _ _ hgr lb1).trans HQ2.out
      have r2 : wr.cell? ⟨w.heap.size + 1, 2, none⟩ = some (.slice pa' p.keys.length pc') := (Grow.cells _ _ _ hgr lb2).trans HR2.out
      by_cases hlt : i < r.keys.length
      · obtain ⟨n, hn⟩ : ∃ n, r.keys[i]? = some n := ⟨r.keys[i], by simp [hlt]⟩
        have hlt2 : i < p.keys.length := by have := Hle.out; omega
        obtain ⟨m, hm⟩ : ∃ m, p.keys[i]? = some m := ⟨p.keys[i], by simp [hlt2]⟩
        obtain ⟨b, of, rfl, hbs, hc⟩ := Hpc.out.resolve_left (fun e => by rw [e] at hlt; simp at hlt)
        obtain ⟨b', of', rfl, hbs', hc'⟩ := Hpc'.out.resolve_left (fun e => by rw [e] at hlt2; simp at hlt2)
        have hcn : wr.cell? ⟨b, of + i, none⟩ = some (.string ⟨n.toArray⟩) := (Grow.cells _ _ _ hgr hbs).trans (hc i n hn)
        have hcm : wr.cell? ⟨b', of' + i, none⟩ = some (.string ⟨m.toArray⟩) := (Grow.cells _ _ _ hgr hbs').trans (hc' i m hm)
        have hi1 : (i : Int) < (r.keys.length : Int) := by omega
        have hi2 : (i : Int) < (p.keys.length : Int) := by omega
        have hi0 : (0 : Int) ≤ (i : Int) := by omega
        have hwi : IntKind.i64.wrap ((i : Int) + 1) = (i : Int) + 1 := IntWalk.i64_in _ (by omega)
        have Hgr := Lib.hid hgr
        by_cases hnm : n = m
        · subst hnm
          have Hto : Hid (∀ j, j < i + 1 → r.keys[j]? = p.keys[j]?) := Lib.hid (fun j hj => by
            rcases Nat.lt_succ_iff_lt_or_eq.1 hj with h | rfl
            · exact hto j h
            · rw [hn, hm])
          clear hto hn hm hc hc' hgr hg hlt hlt2 hi
          go_wp2_with (go_quiet (fail))
          go_roundw
          case rel => exact ⟨i + 1, by simp, by omega, Hto.out, grow_drewn Hgr.out _⟩
          case measure => simp [intOf]; omega
        · have Hn : Hid (¬ r = p) := Lib.hid (fun e => by
            rw [e, hm] at hn
            exact hnm (Option.some.inj hn).symm)
          have hxd : (n == m) = false := by rw [beq_eq_false_iff_ne]; exact hnm
          clear hto hn hm hc hc' hgr hg hlt hlt2 hi
          go_wp2_with (go_quiet (fail))
          go_ret
          exact ⟨false, rfl, ⟨(fun h => by cases h), fun h => absurd h Hn.out⟩, Hg.out.trans (grow_drewn Hgr.out _)⟩
      · have hi1 : ¬ ((i : Int) < (r.keys.length : Int)) := by omega
        have He : Hid (r = p) := Lib.hid (same5_eq H9.out (List.ext_getElem? fun j => by
          by_cases hj : j < i
          · exact hto j hj
          · have := Hle.out
            rw [List.getElem?_eq_none (by omega), List.getElem?_eq_none (by omega)]))
        have Hgr := Lib.hid hgr
        clear hto hgr hg
        go_wp2
        go_ret
        exact ⟨true, rfl, ⟨fun _ => He.out, fun _ => rfl⟩, Hg.out.trans Hgr.out⟩

end Go.Proofs.YtdegmpimcappjaaGreatDoor

/- Two results the same: the law's. -/
namespace Go.Proofs.YtdegmpimcappjaaGreatDoor
open Go.RowKit Go.Gl Go.Front

set_option maxRecDepth 100000 in
set_option maxHeartbeats 16000000 in
theorem sameResult_any {w : World} {r p : ResD} {kv dv kv' dv' : Value} (hk : Kv w kv r.keys) (hd : Bv w dv r.data) (hk' : Kv w kv' p.keys) (hd' : Bv w dv' p.data) (hl : r.keys.length ≤ 9223372036854775807) :
    Calls Tryz.prog 25 #[.agg #[.int .i64 r.status, .int .u64 r.upload, kv, .bool r.more, dv], .agg #[.int .i64 p.status, .int .u64 p.upload, kv', .bool p.more, dv']] w (SrPost w r p) := by
  obtain ⟨c1, c2⟩ := heap_two w (resC r kv dv) (resC p kv' dv')
  have hg : Grow w ((w.alloc (resC r kv dv)).alloc (resC p kv' dv')) := (Grow.alloc _ _).trans (Grow.alloc _ _)
  go_enter Tryz.func25, Tryz.ntmps25
  go_upto_region 1 with fail
  generalize (w.alloc (resC r kv dv)).alloc (resC p kv' dv') = W at *
  have k1 := conv_text (hd.grow hg)
  have k2 := conv_text (hd'.grow hg)
  replace hk := hk.grow hg
  replace hk' := hk'.grow hg
  obtain ⟨pa, pc, rfl, hpc⟩ := hk
  obtain ⟨pa', pc', rfl, hpc'⟩ := hk'
  obtain ⟨q0, q1, q2, q3, q4, q5⟩ := five c1
  obtain ⟨r0, r1, r2, r3, r4, r5⟩ := five c2
  clear c1 c2 q5 r5 hd hd'
  have HQ2 := Lib.hid q2
  have HR2 := Lib.hid r2
  have Hpc := Lib.hid hpc
  have Hpc' := Lib.hid hpc'
  have lb1 : w.heap.size < W.heap.size := World.block_lt_of_cell? W _ q2
  have lb2 : w.heap.size + 1 < W.heap.size := World.block_lt_of_cell? W _ r2
  clear hpc hpc'
  have HS : Hid (Same5 r p ↔ r.status = p.status ∧ r.upload = p.upload ∧ r.more = p.more ∧ r.keys.length = p.keys.length ∧ r.data = p.data) := Lib.hid Iff.rfl
  go_cut [42] from 6 to 43 (fun v wx => ∃ b, v = .bool b ∧ (b = false ↔ Same5 r p) ∧ wx = W)
  case first =>
    clear HQ2 HR2 Hpc Hpc' lb1 lb2 hl
    generalize r.status = st at *
    generalize p.status = st' at *
    generalize r.upload = up at *
    generalize p.upload = up' at *
    generalize r.more = more at *
    generalize p.more = more' at *
    generalize r.keys.length = L at *
    generalize p.keys.length = L' at *
    generalize r.data = D at *
    generalize p.data = D' at *
    by_cases h_st : ((st : Int) = st')
    case neg =>
      have HN : Hid (¬ Same5 r p) := Lib.hid (fun h => h_st (by have e := (HS.out.1 h).1; exact e))
      clear HS
      go_wp2
      go_meet
      exact ⟨true, rfl, ⟨(fun h => by cases h), fun h => absurd h HN.out⟩, rfl⟩
    subst h_st
    by_cases h_up : ((up : Nat) : Int) = (up' : Nat)
    case neg =>
      have HN : Hid (¬ Same5 r p) := Lib.hid (fun h => h_up (by have e := (HS.out.1 h).2.1; rw [e]))
      clear HS
      go_wp2
      go_meet
      exact ⟨true, rfl, ⟨(fun h => by cases h), fun h => absurd h HN.out⟩, rfl⟩
    have e_up := Int.ofNat.inj h_up; clear h_up; subst e_up
    by_cases h_more : more = more'
    case neg =>
      have hxd : (more == more') = false := by rw [beq_eq_false_iff_ne]; exact h_more
      have hxe : (more != more') = true := by rw [bne, hxd]; rfl
      have HN : Hid (¬ Same5 r p) := Lib.hid (fun h => h_more (HS.out.1 h).2.2.1)
      clear HS h_more
      go_wp2
      go_meet
      exact ⟨true, rfl, ⟨(fun h => by cases h), fun h => absurd h HN.out⟩, rfl⟩
    subst h_more
    by_cases h_D : D = D'
    case neg =>
      have hxd : (D == D') = false := by rw [beq_eq_false_iff_ne]; exact h_D
      have HN : Hid (¬ Same5 r p) := Lib.hid (fun h => h_D (HS.out.1 h).2.2.2.2)
      clear HS h_D
      go_wp2
      go_meet
      exact ⟨true, rfl, ⟨(fun h => by cases h), fun h => absurd h HN.out⟩, rfl⟩
    subst h_D
    by_cases h_L : ((L : Nat) : Int) = (L' : Nat)
    case neg =>
      have HN : Hid (¬ Same5 r p) := Lib.hid (fun h => h_L (by have e := (HS.out.1 h).2.2.2.1; rw [e]))
      clear HS
      have hxd : (((L : Nat) : Int) == (L' : Nat)) = false := by rw [beq_eq_false_iff_ne]; exact h_L
      have hxe : (((L : Nat) : Int) != (L' : Nat)) = true := by rw [bne, hxd]; rfl
      go_wp2
      go_meet
      exact ⟨true, rfl, ⟨(fun h => by cases h), fun h => absurd h HN.out⟩, rfl⟩
    have e_L := Int.ofNat.inj h_L; clear h_L; subst e_L
    have HS2 : Hid (Same5 r p) := Lib.hid (HS.out.2 ⟨rfl, rfl, rfl, rfl, rfl⟩)
    clear HS
    go_wp2
    go_meet
    exact ⟨false, rfl, ⟨fun _ => HS2.out, fun _ => rfl⟩, rfl⟩
  case rest =>
  obtain ⟨b, rfl, hb, hw⟩ := hcut
  have hw' := hw.symm
  subst hw'
  clear hw q0 q1 q2 q3 q4 r0 r1 r2 r3 r4 k1 k2 HS
  cases b with
  | true =>
    have Hn : Hid (¬ r = p) := Lib.hid (fun e => by have := hb.2 (same5_of e); cases this)
    clear hb
    go_wp2
    go_ret
    exact ⟨false, rfl, ⟨(fun h => by cases h), fun h => absurd h Hn.out⟩, hg⟩
  | false =>
    have H9 := Lib.hid (hb.1 rfl)
    clear hb
    have Hle := Lib.hid H9.out.2.2.2.1
    have Hg := Lib.hid hg
    go_wp2_with fail
    go_loopw [5] (fun iv wr => ∃ i : Nat, iv = .int .i64 i ∧ i ≤ r.keys.length ∧ (∀ j, j < i → r.keys[j]? = p.keys[j]?) ∧ Grow W wr) (fun iv _ => r.keys.length - (intOf iv).toNat)
    case atStart => exact ⟨0, rfl, Nat.zero_le _, fun j hj => absurd hj (Nat.not_lt_zero _), Grow.refl _⟩
    case round =>
      obtain ⟨i, rfl, hi, hto, hgr⟩ := hrel
      have q2 : wr.cell? ⟨w.heap.size, 2, none⟩ = some (.slice pa r.keys.length pc) := (Grow.cells _ _ _ hgr lb1).trans HQ2.out
      have r2 : wr.cell? ⟨w.heap.size + 1, 2, none⟩ = some (.slice pa' p.keys.length pc') := (Grow.cells _ _ _ hgr lb2).trans HR2.out
      by_cases hlt : i < r.keys.length
      · obtain ⟨n, hn⟩ : ∃ n, r.keys[i]? = some n := ⟨r.keys[i], by simp [hlt]⟩
        have hlt2 : i < p.keys.length := by have := Hle.out; omega
        obtain ⟨m, hm⟩ : ∃ m, p.keys[i]? = some m := ⟨p.keys[i], by simp [hlt2]⟩
        obtain ⟨b, of, rfl, hbs, hc⟩ := Hpc.out.resolve_left (fun e => by rw [e] at hlt; simp at hlt)
        obtain ⟨b', of', rfl, hbs', hc'⟩ := Hpc'.out.resolve_left (fun e => by rw [e] at hlt2; simp at hlt2)
        have hcn : wr.cell? ⟨b, of + i, none⟩ = some (.string ⟨n.toArray⟩) := (Grow.cells _ _ _ hgr hbs).trans (hc i n hn)
        have hcm : wr.cell? ⟨b', of' + i, none⟩ = some (.string ⟨m.toArray⟩) := (Grow.cells _ _ _ hgr hbs').trans (hc' i m hm)
        have hi1 : (i : Int) < (r.keys.length : Int) := by omega
        have hi2 : (i : Int) < (p.keys.length : Int) := by omega
        have hi0 : (0 : Int) ≤ (i : Int) := by omega
        have hwi : IntKind.i64.wrap ((i : Int) + 1) = (i : Int) + 1 := IntWalk.i64_in _ (by omega)
        have Hgr := Lib.hid hgr
        by_cases hnm : n = m
        · subst hnm
          have Hto : Hid (∀ j, j < i + 1 → r.keys[j]? = p.keys[j]?) := Lib.hid (fun j hj => by
            rcases Nat.lt_succ_iff_lt_or_eq.1 hj with h | rfl
            · exact hto j h
            · rw [hn, hm])
          clear hto hn hm hc hc' hgr hg hlt hlt2 hi
          go_wp2_with (go_quiet (fail))
          go_roundw
          case rel => exact ⟨i + 1, by simp, by omega, Hto.out, grow_drewn Hgr.out _⟩
          case measure => simp [intOf]; omega
        · have Hn : Hid (¬ r = p) := Lib.hid (fun e => by
            rw [e, hm] at hn
            exact hnm (Option.some.inj hn).symm)
          have hxd : (n == m) = false := by rw [beq_eq_false_iff_ne]; exact hnm
          clear hto hn hm hc hc' hgr hg hlt hlt2 hi
          go_wp2_with (go_quiet (fail))
          go_ret
          exact ⟨false, rfl, ⟨(fun h => by cases h), fun h => absurd h Hn.out⟩, Hg.out.trans (grow_drewn Hgr.out _)⟩
      · have hi1 : ¬ ((i : Int) < (r.keys.length : Int)) := by omega
        have He : Hid (r = p) := Lib.hid (same5_eq H9.out (List.ext_getElem? fun j => by
          by_cases hj : j < i
          · exact hto j hj
          · have := Hle.out
            rw [List.getElem?_eq_none (by omega), List.getElem?_eq_none (by omega)]))
        have Hgr := Lib.hid hgr
        clear hto hgr hg
        go_wp2
        go_ret
        exact ⟨true, rfl, ⟨fun _ => He.out, fun _ => rfl⟩, Hg.out.trans Hgr.out⟩

end Go.Proofs.YtdegmpimcappjaaGreatDoor

/- size. -/
namespace Go.Proofs.YtdegmpimcappjaaGreatDoor
open Go.RowKit Go.Gl Go.Front

/-- The keys' lengths, each with one more. -/
def bodyN (l : List (List UInt8)) : Nat := (l.map fun k => k.length + 1).sum

def szF (n : Int) (k : List UInt8) : Int := IntKind.i64.wrap (IntKind.i64.wrap (n + (k.length : Int)) + 1)

/-- What size tells. -/
def sizeI (r : ResD) : Int := r.keys.foldl szF (r.data.length : Int)

theorem szF_take {l : List (List UInt8)} {i : Nat} {k : List UInt8} {d : Int} (h : l[i]? = some k) : (l.take (i + 1)).foldl szF d = szF ((l.take i).foldl szF d) k := by
  obtain ⟨hi, rfl⟩ := List.getElem?_eq_some_iff.1 h
  rw [List.take_succ_eq_append_getElem hi, List.foldl_append]
  rfl

theorem foldl_sz : ∀ (l : List (List UInt8)) (d : Nat), d + (bodyN l) ≤ 1000000000 → l.foldl szF (d : Int) = ((d + bodyN l : Nat) : Int)
  | [], d, _ => by simp [bodyN]
  | k :: l, d, h => by
    simp only [bodyN, List.map_cons, List.sum_cons] at h
    have e : szF (d : Int) k = ((d + (k.length + 1) : Nat) : Int) := by
      unfold szF
      rw [IntWalk.i64_in ((d : Int) + (k.length : Int)) (by omega), IntWalk.i64_in ((d : Int) + (k.length : Int) + 1) (by omega)]
      omega
    rw [List.foldl_cons, e, foldl_sz l _ (by unfold bodyN; omega)]
    simp only [bodyN, List.map_cons, List.sum_cons]
    omega

set_option maxRecDepth 100000 in
set_option maxHeartbeats 16000000 in
theorem size_any {w : World} {r : ResD} {kv dv : Value} (hk : Kv w kv r.keys) (hd : Bv w dv r.data) (hl : r.keys.length ≤ 9223372036854775807) :
    Calls Tryz.prog 23 #[.agg #[.int .i64 r.status, .int .u64 r.upload, kv, .bool r.more, dv]] w fun e w' => e = .returned (.int .i64 (sizeI r)) ∧ Grow w w' := by
  have hB := heap_alloc_new w (resC r kv dv)
  have hg0 := Grow.alloc w (resC r kv dv)
  go_enter Tryz.func23, Tryz.ntmps23
  go_upto_region 1 with fail
  replace hk := hk.grow hg0
  obtain ⟨ka, kc, rfl, hkc⟩ := hk
  obtain ⟨da, dc, rfl, _⟩ := hd
  generalize w.alloc (resC r (.slice ka r.keys.length kc) (.slice da r.data.length dc)) = W at *
  obtain ⟨c0, c1, c2, c3, c4, c5⟩ := five hB
  have Hkc := Lib.hid hkc
  have HB := Lib.hid hB
  have Hg0 := Lib.hid hg0
  generalize w.heap.size = B at *
  clear hkc hB hg0
  go_wp2_with fail
  clear c0 c1 c2 c3 c4 c5
  go_loopw [3, 4] (fun nv iv wr => ∃ (i : Nat) (k : Int), iv = .int .i64 i ∧ nv = .int .i64 k ∧ i ≤ r.keys.length ∧ k = (r.keys.take i).foldl szF (r.data.length : Int) ∧ Grow W wr) (fun _ iv _ => r.keys.length - (intOf iv).toNat)
  case atStart => exact ⟨0, _, rfl, rfl, Nat.zero_le _, rfl, Grow.refl _⟩
  case round =>
    obtain ⟨i, k, rfl, rfl, hi, hkf, hgr⟩ := hrel
    have Hkf := Lib.hid hkf
    clear hkf
    obtain ⟨c0, c1, c2, c3, c4, c5⟩ := five (res_at HB.out hgr)
    clear c0 c1 c3 c4 c5
    by_cases hlt : i < r.keys.length
    · obtain ⟨x, hxx⟩ : ∃ x, r.keys[i]? = some x := ⟨r.keys[i], by simp [hlt]⟩
      obtain ⟨b, o, rfl, hbs, hc⟩ := Hkc.out.resolve_left (fun e => by rw [e] at hlt; simp at hlt)
      have hcn : wr.cell? ⟨b, o + i, none⟩ = some (.string ⟨x.toArray⟩) := by rw [Grow.cells _ _ _ hgr hbs]; exact hc i x hxx
      have hi1 : (i : Int) < (r.keys.length : Int) := by omega
      have hi0 : (0 : Int) ≤ (i : Int) := by omega
      have hwi : IntKind.i64.wrap ((i : Int) + 1) = (i : Int) + 1 := IntWalk.i64_in _ (by omega)
      obtain ⟨S1, hS1⟩ : ∃ S, IntKind.i64.wrap (k + (x.length : Int)) = S := ⟨_, rfl⟩
      obtain ⟨S2, hS2⟩ : ∃ S, IntKind.i64.wrap (S1 + 1) = S := ⟨_, rfl⟩
      have Hgr := Lib.hid hgr
      have H2 : Hid (S2 = (r.keys.take (i + 1)).foldl szF (r.data.length : Int)) := Lib.hid (by rw [szF_take hxx, ← Hkf.out, ← hS2, ← hS1]; rfl)
      clear hxx hc hgr
      go_wp2
      go_roundw
      case rel => exact ⟨i + 1, S2, by simp, rfl, hlt, H2.out, Hgr.out⟩
      case measure => simp [intOf]; omega
    · have hi1 : ¬ ((i : Int) < (r.keys.length : Int)) := by omega
      have Hgr := Lib.hid hgr
      clear hgr
      go_wp2
      go_ret
      exact ⟨by rw [Hkf.out, List.take_of_length_le (by omega)]; rfl, Hg0.out.trans Hgr.out⟩
end Go.Proofs.YtdegmpimcappjaaGreatDoor

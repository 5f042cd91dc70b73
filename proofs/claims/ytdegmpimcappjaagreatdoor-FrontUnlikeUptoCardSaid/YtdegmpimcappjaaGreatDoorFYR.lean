/- Merged out of YR: helpers. -/
import Derived.Test.YtdegmpimcappjaaGreatDoorFE
/- Rows of texts; the program's target of a joining. -/
namespace Go.Proofs.YtdegmpimcappjaaGreatDoor
open Go.RowKit Go.Gl Go.Front

def scells (l : List (List UInt8)) : List Value := l.map fun x => Value.string ⟨x.toArray⟩
theorem scells_len (l : List (List UInt8)) : (scells l).length = l.length := by simp [scells]
theorem scells_append (a b : List (List UInt8)) : scells (a ++ b) = scells a ++ scells b := by simp [scells]

/-- A row of texts of one's own. -/
abbrev OwnS (B : Nat) (w : World) (v : Value) (l : List (List UInt8)) : Prop := Row1 9 B w v (scells l)

theorem OwnS.slice' {B : Nat} {w : World} {v : Value} {l : List (List UInt8)} (h : OwnS B w v l) : ∃ a c, v = .slice a l.length c := by
  obtain ⟨a, c, rfl⟩ := Row1.slice h
  exact ⟨a, c, by rw [scells_len]⟩

theorem append_str {B : Nat} {w : World} {v : Value} {l : List (List UInt8)} {x : List UInt8} (h : OwnS B w v l) (hB : B ≤ w.heap.size) (hlen : l.length ≤ 1000000) :
    ∃ v' w', (Builtin.append_ #[46, 46] 46 #[v, .slice (some ⟨w.heap.size, 0, none⟩) 1 1]).run Tryz.prog (w.alloc (.cells #[.string ⟨x.toArray⟩] 9)) = .ok v' w' ∧ OwnS B w' v' (l ++ [x]) ∧ Below B w w' := by
  have hga : Grow w (w.alloc (.cells #[.string ⟨x.toArray⟩] 9)) := Grow.alloc _ _
  have hsrc : Src Tryz.prog 1 46 (.slice (some ⟨w.heap.size, 0, none⟩) 1 1) 1 (scells [x]) (w.alloc (.cells #[.string ⟨x.toArray⟩] 9)) := by
    refine Src.ofSlice _ Tryz.underlying46 ⟨w.heap.size, 0, none⟩ 1 1 (scells [x]) (by simp [scells]) (fun j u hu => ?_) (fun u hu => ?_)
    · cases j with
      | zero =>
        simp [scells] at hu
        subst hu
        rw [Addr.add_lit]
        simp only [World.cell?, heap_alloc_new]
        rfl
      | succ j => simp [scells] at hu
    · simp [scells] at hu; subst hu; rfl
  obtain ⟨v', w', h1, h2, h3, _⟩ := run_append_row (ty := 46) Tryz.underlying46 Tryz.infoStr rfl (h.grow hga) hsrc (by simp; omega) (by rw [scells_len]; unfold maxLen; omega) (by rw [scells_len]; omega)
  exact ⟨v', w', h1, by rw [OwnS, scells_append]; exact h2, below_grown (hga.mono hB) (by simp; omega) (h.grow hga) h3⟩

/-- 'strings.Join'. -/
theorem join_own {B : Nat} {w : World} {v : Value} {l : List (List UInt8)} {sep : List UInt8} (h : OwnS B w v l) (hn : l.length ≤ 1000000) (hlen : (Lib.join l sep).length ≤ 140737488355328) :
    Calls Tryz.prog 70 #[v, .string ⟨sep.toArray⟩] w fun e w' => e = .returned (.string ⟨(Lib.join l sep).toArray⟩) ∧ Grow w w' := by
  rcases h with ⟨rfl, h0⟩ | ⟨g, cap, cur, rfl, hB, hg, hc1, hc2, hm, ht⟩
  · have : l = [] := List.eq_nil_of_length_eq_zero (by rw [← scells_len, h0]; rfl)
    subst this
    exact (Tryz.strings_Join_none none 0 _ w).mono (fun e w' h => ⟨h.1, by rw [h.2]; exact Grow.refl _⟩)
  · have hrow : OwnS B w (.slice (some ⟨g, 0, none⟩) (scells l).length cap) l := .inr ⟨g, cap, cur, rfl, hB, hg, hc1, hc2, hm, ht⟩
    have e1 : (l.map fun x => (⟨x.toArray⟩ : ByteArray)).map (fun x => x.data.toList) = l := (List.map_map ..).trans ((List.map_congr_left fun x _ => rfl).trans (List.map_id l))
    have hk := Tryz.strings_Join g 0 cap (l.map fun x => (⟨x.toArray⟩ : ByteArray)) ⟨sep.toArray⟩ w (fun j x hx => by
      rw [Nat.zero_add]
      refine hrow.cells rfl ?_
      simp only [List.getElem?_map, Option.map_eq_some_iff] at hx
      obtain ⟨y, hy, rfl⟩ := hx
      simp [scells, hy]) (lt_of_getElem? hg) (by simp; omega) (by simpa [scells] using hc1) (by rw [e1]; exact hlen)
    rw [e1, List.length_map] at hk
    rw [scells_len]
    exact hk

theorem join_commas : ∀ l : List (List UInt8), Lib.join l [44] = commas l
  | [] => rfl
  | [a] => by rw [Lib.join_one]; rfl
  | a :: b :: l => by
    have h := join_commas (b :: l)
    rw [Lib.join_cons] at h ⊢
    rw [commas, ← h]
    simp [Lib.joinTail]

def TgInv (w : World) (l : List Int) (pv iv : Value) (wr : World) : Prop :=
  ∃ i : Nat, iv = .int .i64 i ∧ i ≤ l.length ∧ OwnS w.heap.size wr pv ((l.take i).map fun n => decF n.toNat) ∧ Grow w wr

set_option maxRecDepth 100000 in
set_option maxHeartbeats 8000000 in
theorem target_join {w : World} {id u : Nat} {n : Int} {B K A : List UInt8} {pv dv : Value} {l : List Int} (hb : Base w) (hu : u < 18446744073709551616) (hp : Iv w pv l) (hl : l.length ≤ 10000) (hps : ∀ x ∈ l, 0 ≤ x ∧ x ≤ 10000) :
    Calls Tryz.prog 34 #[.agg #[.int .u64 id, .int .i64 9, .string ⟨B.toArray⟩, .string ⟨K.toArray⟩, .string ⟨A.toArray⟩, .int .i64 n, .int .u64 u, pv, dv]] w fun e w' => e = .returned (.string ⟨(([47, 63, 117, 112, 108, 111, 97, 100, 61] : List UInt8) ++ (hex16 u ++ ([38, 112, 97, 114, 116, 115, 61] ++ commas (l.map fun (n : Int) => decF n.toNat)))).toArray⟩) ∧ Grow w w' := by
  obtain ⟨pa, pc, rfl, hpv⟩ := hp
  have HS : Hid (∀ W, Base W → Calls Tryz.prog 35 #[.int .u64 u] W fun e w' => e = .returned (.string ⟨(hex16 u).toArray⟩) ∧ Grow W w') := Lib.hid (fun W hW => sixteen_any hW u hu)
  have hX : (hex16 u).length = 16 := hexF_len 16 u
  have Hb := Lib.hid hb
  have Hl := Lib.hid hl
  have Hps := Lib.hid hps
  have Hp : Hid (Iv w (.slice pa l.length pc) l) := Lib.hid ⟨pa, pc, rfl, hpv⟩
  clear hb hps hpv hl
  go_enter Tryz.func34, Tryz.ntmps34
  go_upto_region 10 with fail
  have hbk := heap_alloc_new w (.cells #[.int .u64 id, .int .i64 9, .string ⟨B.toArray⟩, .string ⟨K.toArray⟩, .string ⟨A.toArray⟩, .int .i64 n, .int .u64 u, .slice pa l.length pc, dv] 26)
  have hg0 := Grow.alloc w (.cells #[.int .u64 id, .int .i64 9, .string ⟨B.toArray⟩, .string ⟨K.toArray⟩, .string ⟨A.toArray⟩, .int .i64 n, .int .u64 u, .slice pa l.length pc, dv] 26)
  generalize w.alloc (.cells #[.int .u64 id, .int .i64 9, .string ⟨B.toArray⟩, .string ⟨K.toArray⟩, .string ⟨A.toArray⟩, .int .i64 n, .int .u64 u, .slice pa l.length pc, dv] 26) = W0 at *
  have HG := Lib.hid hg0
  have lb1 : w.heap.size < W0.heap.size := lt_of_getElem? hbk
  have Hp0 := Lib.hid (Hp.out.grow hg0)
  have Hb0 := Lib.hid (Hb.out.grow hg0)
  clear hg0 Hp Hb
  generalize w.heap.size = B1 at *
  have q6 : W0.cell? ⟨B1, 6, none⟩ = some (.int .u64 u) := ck_cell hbk rfl
  have q7 : W0.cell? ⟨B1, 7, none⟩ = some (.slice pa l.length pc) := ck_cell hbk rfl
  clear hbk
  have hcl := Grow.cells (w := W0)
  go_wp2_with fail
  go_loopw [3, 50] (fun pv iv wr => TgInv W0 l pv iv wr) (fun _ iv _ => l.length - (intOf iv).toNat)
  case atStart => exact ⟨0, rfl, Nat.zero_le _, row1_nil _ _ _, Grow.refl _⟩
  case round =>
    obtain ⟨i, rfl, hi, hown, hg⟩ := hrel
    have hBr := hg.size
    by_cases hlt : i < l.length
    · obtain ⟨x, hx⟩ : ∃ x, l[i]? = some x := ⟨l[i], by simp [hlt]⟩
      obtain ⟨va, vc, hv, hvc⟩ := Hp0.out
      obtain ⟨b, o, hab, hbs, hc⟩ := hvc.resolve_left (fun e => by rw [e] at hlt; simp at hlt)
      have hpa : pa = some ⟨b, o, none⟩ := by cases hv; exact hab
      subst hpa
      have hcn : wr.cell? ⟨b, o + i, none⟩ = some (.int .i64 x) := by rw [Grow.cells _ _ _ hg hbs]; exact hc i x hx
      obtain ⟨hx0, hx1⟩ := Hps.out x (List.mem_of_getElem? hx)
      have hi1 : (i : Int) < (l.length : Int) := by omega
      have hi0 : (0 : Int) ≤ (i : Int) := by omega
      have hl9 := Hl.out
      have hwi : IntKind.i64.wrap ((i : Int) + 1) = (i : Int) + 1 := IntWalk.i64_in _ (by omega)
      have Hg := Lib.hid hg
      have Hown := Lib.hid hown
      have HI := Lib.hid (itoa_any hx0 (by omega) (Hb0.out.grow hg))
      have Hx := Lib.hid hx
      obtain ⟨ba, bc, hbv⟩ := hown.slice'
      have hln : ((l.take i).map fun n => decF n.toNat).length = i := by simp; omega
      rw [hln] at hbv
      clear hln
      have lb : b < wr.heap.size := Nat.lt_of_lt_of_le hbs hBr
      subst hbv
      clear hown hg hx hv hab hvc hc
      go_wp2_with fail
      (with_reducible refine (HI.out).mono ?_)
      rintro e w1 ⟨rfl, hg1⟩
      have hg01 : Grow W0 w1 := Hg.out.trans hg1
      obtain ⟨v', w', r1, r2, r3⟩ := append_str (x := decF x.toNat) (Hown.out.grow hg1) hg01.size (by simp; omega)
      have hg02 : Grow W0 w' := Below.trans hg01 r3
      have Hrel : Hid (TgInv W0 l v' (.int .i64 ((i : Int) + 1)) w') := Lib.hid ⟨i + 1, by simp, hlt, by
        rw [List.take_add_one, Hx.out]
        simpa using r2, hg02⟩
      have Hrun := Lib.hid r1
      clear r1 r2 r3 hg1 hg01 hg02 hcn hwi
      go_wp2_with (at_builtin; refine wpList_append rfl rfl rfl rfl Hrun.out ?_)
      go_roundw
      case rel => exact Hrel.out
      case measure => simp [intOf]; omega
    · have hl9 := Hl.out
      have hil : i = l.length := by omega
      have hi1 : ¬ ((i : Int) < (l.length : Int)) := by omega
      rw [hil, List.take_of_length_le (Nat.le_refl _)] at hown
      have HJ := Lib.hid hown
      have hjl : (commas (l.map fun n => decF n.toNat)).length ≤ 100000 := by
        have := commas_le (l.map fun n => decF n.toNat) 9 (fun a ha => by
          obtain ⟨m, hm, rfl⟩ := List.mem_map.1 ha
          have := Hps.out m hm
          exact decF_len 8 _ (by omega))
        rw [List.length_map] at this
        omega
      have Hg := Lib.hid hg
      have lb2 : B1 < wr.heap.size := Nat.lt_of_lt_of_le lb1 hBr
      have q6' : wr.cell? ⟨B1, 6, none⟩ = some (.int .u64 u) := by rw [hcl wr B1 6 hg lb1]; exact q6
      clear hcl hown
      go_wp2_with fail
      (with_reducible refine (HS.out _ (Hb0.out.grow Hg.out)).mono ?_)
      rintro e w1 ⟨rfl, hg1⟩
      have hgw : Grow W0 w1 := Hg.out.trans hg1
      have HJ1 := Lib.hid (join_own (sep := [44]) (HJ.out.grow hg1) (by rw [List.length_map]; omega) (by rw [join_commas]; omega))
      go_wp2_with fail
      (with_reducible refine (HJ1.out).mono ?_)
      rintro e w2 ⟨rfl, hg2⟩
      rw [join_commas]
      have hsz : ¬ (9223372036854775807 < 32 + (commas (l.map fun n => decF n.toNat)).length) := by omega
      have Hc : Hid ((⟨#[47, 63, 117, 112, 108, 111, 97, 100, 61]⟩ : ByteArray) ++ ⟨(hex16 u).toArray⟩ ++ ⟨#[38, 112, 97, 114, 116, 115, 61]⟩ ++ ⟨(commas (l.map fun n => decF n.toNat)).toArray⟩ = ⟨(([47, 63, 117, 112, 108, 111, 97, 100, 61] : List UInt8) ++ (hex16 u ++ ([38, 112, 97, 114, 116, 115, 61] ++ commas (l.map fun (n : Int) => decF n.toNat)))).toArray⟩) := Lib.hid (by
        have h1 := ba_append [47, 63, 117, 112, 108, 111, 97, 100, 61] (hex16 u)
        have h2 := ba_append ([47, 63, 117, 112, 108, 111, 97, 100, 61] ++ hex16 u) [38, 112, 97, 114, 116, 115, 61]
        have h3 := ba_append ([47, 63, 117, 112, 108, 111, 97, 100, 61] ++ hex16 u ++ [38, 112, 97, 114, 116, 115, 61]) (commas (l.map fun n => decF n.toNat))
        rw [List.append_assoc, List.append_assoc] at h3
        exact (congrArg (· ++ _) ((congrArg (· ++ _) h1).trans h2)).trans h3)
      clear hjl
      go_wp2
      go_ret
      exact ⟨congrArg (fun x => Ending.returned (.string x)) Hc.out, HG.out.trans (hgw.trans hg2)⟩
end Go.Proofs.YtdegmpimcappjaaGreatDoor

/- Merged out of R3, R4, R5, R6: helpers. -/
import Derived.Test.YtdegmpimcappjaaGreatDoorFR
import Derived.Test.YtdegmpimcappjaaGreatDoorG1
/- May a result be written: the document. -/
namespace Go.Proofs.YtdegmpimcappjaaGreatDoor
open Go.RowKit Go.Gl Go.Front

/-- How far the keys have been found right; there are new blocks. -/
def RhInv (W : World) (l : List (List UInt8)) (iv : Value) (wr : World) : Prop := ∃ i : Nat, iv = .int .i64 i ∧ i ≤ l.length ∧ KeysTo l i ∧ Grow W wr

set_option maxRecDepth 100000 in
set_option maxHeartbeats 16000000 in
theorem rightR_any {w : World} {r : ResD} {kv dv : Value} (hk : Kv w kv r.keys) (hd : Bv w dv r.data) (hl : r.keys.length ≤ 9223372036854775807) :
    Calls Tryz.prog 28 #[.agg #[.int .i64 r.status, .int .u64 r.upload, kv, .bool r.more, dv]] w fun e w' => e = .returned (.bool (rightR r)) ∧ Grow w w' := by
  obtain ⟨st, up, keys, more, data⟩ := r
  simp only at hk hd hl
  obtain ⟨ka, kc, rfl, hkc⟩ := hk
  obtain ⟨da, dc, rfl, _⟩ := hd
  obtain ⟨k0, hk0⟩ : ∃ b, knownB st = b := ⟨_, rfl⟩
  obtain ⟨x1, hx1⟩ : ∃ b, decide ((1000 : Int) < (keys.length : Int)) = b := ⟨_, rfl⟩
  obtain ⟨x2, hx2⟩ : ∃ b, decide (0 < keys.length) = b := ⟨_, rfl⟩
  obtain ⟨x3, hx3⟩ : ∃ b, decide (0 < data.length) = b := ⟨_, rfl⟩
  obtain ⟨x4, hx4⟩ : ∃ b, decide ((268435456 : Int) < (data.length : Int)) = b := ⟨_, rfl⟩
  have HR : Hid (rightR ⟨st, up, keys, more, data⟩ = (!(!k0 || x1 || (x2 && x3) || x4) && keysF keys)) := Lib.hid (by
    have e1 : decide (keys.length ≤ 1000) = !x1 := by rw [← hx1, ← decide_not, decide_eq_decide]; omega
    have e2 : decide (keys = []) = !x2 := by rw [← hx2, ← decide_not, decide_eq_decide]; simp
    have e3 : decide (data = []) = !x3 := by rw [← hx3, ← decide_not, decide_eq_decide]; simp
    have e4 : decide (data.length ≤ 268435456) = !x4 := by rw [← hx4, ← decide_not, decide_eq_decide]; omega
    unfold rightR
    rw [hk0, e1, e2, e3, e4]
    cases k0 <;> cases x1 <;> cases x2 <;> cases x3 <;> cases x4 <;> rfl)
  have HK : Hid (∀ W, Calls Tryz.prog 60 #[.int .i64 st] W fun e w' => e = .returned (.bool k0) ∧ w' = W) := Lib.hid (fun W => by rw [← hk0]; exact knownR_any st W)
  have Hkc := Lib.hid hkc
  clear hkc hk0
  have hB := heap_alloc_new w (.cells #[.int .i64 st, .int .u64 up, .slice ka keys.length kc, .bool more, .slice da data.length dc] 48)
  have hg0 := Grow.alloc w (.cells #[.int .i64 st, .int .u64 up, .slice ka keys.length kc, .bool more, .slice da data.length dc] 48)
  go_enter Tryz.func28, Tryz.ntmps28
  go_upto_region 1 with fail
  generalize w.alloc (.cells #[.int .i64 st, .int .u64 up, .slice ka keys.length kc, .bool more, .slice da data.length dc] 48) = W at *
  have c0 : W.cell? ⟨w.heap.size, 0, none⟩ = some (.int .i64 st) := ck_cell hB rfl
  have c2 : W.cell? ⟨w.heap.size, 2, none⟩ = some (.slice ka keys.length kc) := ck_cell hB rfl
  have c4 : W.cell? ⟨w.heap.size, 4, none⟩ = some (.slice da data.length dc) := ck_cell hB rfl
  have Hcl : Hid (∀ b j, b < w.heap.size → W.cell? ⟨b, j, none⟩ = w.cell? ⟨b, j, none⟩) := Lib.hid (fun b j hb => Grow.cells _ _ _ hg0 hb)
  generalize w.heap.size = B1 at *
  go_cut [31] from 4 to 32 (fun v wx => v = .bool (!k0 || x1 || (x2 && x3) || x4) ∧ wx = W)
  case first =>
    cases k0 with
    | false =>
      go_wp2_with fail
      (with_reducible refine (HK.out _).mono ?_)
      rintro e w1 ⟨rfl, hw⟩
      have hw' := hw.symm
      subst hw'
      clear hw
      go_wp2
      go_meet
      exact ⟨rfl, rfl⟩
    | true =>
      go_wp2_with fail
      (with_reducible refine (HK.out _).mono ?_)
      rintro e w1 ⟨rfl, hw⟩
      have hw' := hw.symm
      subst hw'
      clear hw
      cases x1 <;> cases x2 <;> cases x3 <;> cases x4
      all_goals
        go_wp2
        go_meet
        exact ⟨rfl, rfl⟩
  case rest =>
  obtain ⟨rfl, hw⟩ := hcut
  have hw' := hw.symm
  subst hw'
  clear hw HK hx1 hx2 hx3 hx4
  cases hbit : (!k0 || x1 || (x2 && x3) || x4) with
  | true =>
    rw [hbit] at HR
    clear hbit
    go_wp2
    go_ret
    exact ⟨by rw [HR.out]; rfl, hg0⟩
  | false =>
    rw [hbit] at HR
    clear hbit
    go_wp2_with fail
    have Hc2 := Lib.hid c2
    have lb1 : B1 < W.heap.size := World.block_lt_of_cell? W _ c2
    have Hg0 := Lib.hid hg0
    clear hg0 hB
    go_loopw [3] (fun iv wr => RhInv W keys iv wr) (fun iv _ => keys.length - (intOf iv).toNat)
    case atStart => exact ⟨0, rfl, Nat.zero_le _, fun j k hj => absurd hj (Nat.not_lt_zero _), Grow.refl _⟩
    case round =>
      obtain ⟨i, rfl, hi, hto, hgr⟩ := hrel
      have c2 : wr.cell? ⟨B1, 2, none⟩ = some (.slice ka keys.length kc) := (Grow.cells _ _ _ hgr lb1).trans Hc2.out
      clear c0 c4
      by_cases hlt : i < keys.length
      · obtain ⟨k, hkk⟩ : ∃ k, keys[i]? = some k := ⟨keys[i], by simp [hlt]⟩
        obtain ⟨b, o, rfl, hbs, hc⟩ := Hkc.out.resolve_left (fun e => by rw [e] at hlt; simp at hlt)
        have hlb : b < W.heap.size := Nat.lt_of_lt_of_le hbs (by have := Hg0.out.size; omega)
        have hcn : wr.cell? ⟨b, o + i, none⟩ = some (.string ⟨k.toArray⟩) := by rw [Grow.cells _ _ _ hgr hlb, Hcl.out _ _ hbs]; exact hc i k hkk
        have hi1 : (i : Int) < (keys.length : Int) := by omega
        have hi0 : (0 : Int) ≤ (i : Int) := by omega
        have hwi : IntKind.i64.wrap ((i : Int) + 1) = (i : Int) + 1 := IntWalk.i64_in _ (by omega)
        have Hgr := Lib.hid hgr
        by_cases hkb : keyB k = true
        · have f1 : decide ((k.length : Int) < 1) = false := by unfold keyB at hkb; simp at hkb ⊢; omega
          have f2 : decide ((1024 : Int) < (k.length : Int)) = false := by unfold keyB at hkb; simp at hkb ⊢; omega
          by_cases hz : i = 0
          · subst hz
            have Hrel : Hid (∀ wq, Grow W wq → RhInv W keys (.int .i64 (((0 : Nat) : Int) + 1)) wq) := Lib.hid (fun wq hq => ⟨1, by simp, hlt, keysTo_step hto hkk hkb (fun p h => absurd h (Nat.lt_irrefl 0)), hq⟩)
            have g1 : decide ((0 : Int) < ((0 : Nat) : Int)) = false := by decide
            have hcn0 : wr.cell? ⟨b, o, none⟩ = some (.string ⟨k.toArray⟩) := by simpa using hcn
            clear hto hkk hkb hc hgr
            go_wp2_with (go_quiet (fail))
            go_roundw
            case rel => exact Hrel.out _ (Hgr.out.trans (Grow.drewN _ _))
            case measure => simp [intOf]; omega
          · obtain ⟨p, hpp⟩ : ∃ p, keys[i - 1]? = some p := ⟨keys[i - 1], by simp⟩
            obtain ⟨j, hj⟩ : ∃ j, j = i - 1 := ⟨_, rfl⟩
            rw [← hj] at hpp
            have hcp : wr.cell? ⟨b, o + j, none⟩ = some (.string ⟨p.toArray⟩) := by rw [Grow.cells _ _ _ hgr hlb, Hcl.out _ _ hbs]; exact hc j p hpp
            have hwj : IntKind.i64.wrap ((i : Int) - 1) = (j : Int) := by rw [IntWalk.i64_in _ (by omega)]; omega
            have hj1 : (j : Int) < (keys.length : Int) := by omega
            have hj0 : (0 : Int) ≤ (j : Int) := by omega
            have g1 : decide ((0 : Int) < (i : Int)) = true := by simp; omega
            have g2 : decide (0 < i) = true := by simp; omega
            have htri := bl_tri k p
            obtain ⟨y, hy⟩ : ∃ y, Op.bytesLess p k = y := ⟨_, rfl⟩
            have hnot : Hid (y = false → keysF keys = false) := Lib.hid (fun e => keysF_not hkk (.inr ⟨p, by omega, by rw [← hj]; exact hpp, hy.trans e⟩))
            have Hrel : Hid (y = true → ∀ wq, Grow W wq → RhInv W keys (.int .i64 ((i : Int) + 1)) wq) := Lib.hid (fun e wq hq => ⟨i + 1, by simp, hlt, keysTo_step hto hkk hkb (fun p' h hp' => by
              rw [← hj, hpp] at hp'; cases hp'; exact hy.trans e), hq⟩)
            rw [hy] at htri
            have htri2 : (Op.bytesLess k p || p == k) = !y := by
              rw [← htri]
              congr 1
              by_cases h : p = k
              · rw [h]
              · rw [beq_eq_false_iff_ne.2 h, beq_eq_false_iff_ne.2 (Ne.symm h)]
            clear hto hkk hkb hc hpp hj hgr
            cases y with
            | true =>
              go_wp2_with (go_quiet (fail))
              go_roundw
              case rel => exact Hrel.out rfl _ (Hgr.out.trans (Grow.drewN _ _))
              case measure => simp [intOf]; omega
            | false =>
              have HK2 : Hid (keysF keys = false) := Lib.hid (hnot.out rfl)
              clear Hrel hnot
              go_wp2_with (go_quiet (fail))
              go_ret
              exact ⟨by rw [HR.out, HK2.out]; rfl, Hg0.out.trans (Hgr.out.trans (Grow.drewN _ _))⟩
        · have HK2 : Hid (keysF keys = false) := Lib.hid (keysF_not hkk (.inl (by simpa using hkb)))
          have hkl : decide ((k.length : Int) < 1) = true ∨ (decide ((k.length : Int) < 1) = false ∧ decide ((1024 : Int) < (k.length : Int)) = true) := by unfold keyB at hkb; simp at hkb ⊢; omega
          clear hto hkk hkb hc hgr
          rcases hkl with f1 | ⟨f1, f2⟩
          · go_wp2_with (go_quiet (fail))
            go_ret
            exact ⟨by rw [HR.out, HK2.out]; rfl, Hg0.out.trans (Hgr.out.trans (Grow.drewN _ _))⟩
          · go_wp2_with (go_quiet (fail))
            go_ret
            exact ⟨by rw [HR.out, HK2.out]; rfl, Hg0.out.trans (Hgr.out.trans (Grow.drewN _ _))⟩
      · have hi1 : ¬ ((i : Int) < (keys.length : Int)) := by omega
        have hie : i = keys.length := by omega
        have HK2 : Hid (keysF keys = true) := Lib.hid (keysTo_all (hie ▸ hto))
        have Hgr := Lib.hid hgr
        clear hto hie hgr
        go_wp2
        go_ret
        exact ⟨by rw [HR.out, HK2.out]; rfl, Hg0.out.trans Hgr.out⟩
end Go.Proofs.YtdegmpimcappjaaGreatDoor

/- What a response's Print is made of. -/
namespace Go.Proofs.YtdegmpimcappjaaGreatDoor
open Go.RowKit Go.Gl Go.Front

/-- A result that came in, or was read. -/
structure ResIn (w : World) (r : ResD) (kv dv : Value) : Prop where
  up : r.upload < 18446744073709551616
  k : Kv w kv r.keys
  d : Bv w dv r.data
  kl : r.keys.length ≤ 9223372036854775807

theorem ResIn.grow {w w' : World} {r : ResD} {kv dv : Value} (h : ResIn w r kv dv) (hg : Grow w w') : ResIn w' r kv dv := ⟨h.up, h.k.grow hg, h.d.grow hg, h.kl⟩

/-- What PrintResult tells. -/
def PrRPost (id : Nat) (r : ResD) (w : World) (e : Ending) (w' : World) : Prop :=
  (rightR r = true ∧ ∃ v, e = .returned (.tuple #[v, .int .i64 0]) ∧ Bv w' v (headR id r ++ crlf2 ++ bodyR r) ∧ Grow w w') ∨
  (rightR r = false ∧ e = .returned (.tuple #[.slice none 0 0, .int .i64 1]) ∧ Grow w w')

def firstL (id : Nat) (r : ResD) : List UInt8 := nGlc ++ decF r.status.toNat ++ [13, 10] ++ nId ++ hex16 id ++ [13, 10]
def upL (r : ResD) : List UInt8 := if r.upload ≠ 0 then nUp ++ hex16 r.upload ++ [13, 10] else []
def moreL (r : ResD) : List UInt8 := if r.more then nMore ++ yesL ++ [13, 10] else []
def keysL (r : ResD) : List UInt8 := if r.keys ≠ [] then nKeys ++ decF r.keys.length ++ [13, 10] else []

theorem headR_sum (id : Nat) (r : ResD) : firstL id r ++ upL r ++ moreL r ++ keysL r ++ (nLen ++ decF (bodyR r).length ++ [13, 10] ++ [13, 10]) = headR id r ++ crlf2 := by
  unfold headR
  rw [lns_rests _ (linesR_ok id r _).1, linesR_tail]
  unfold firstL upL moreL keysL tailI tailU tailM tailK rests
  by_cases h1 : r.upload ≠ 0 <;> by_cases h2 : r.more = true <;> by_cases h3 : r.keys ≠ [] <;> simp [h1, h2, h3]

theorem cat_text (a b : List UInt8) : ∃ c, Hid (c = a ++ b) ∧ c.length = a.length + b.length ∧ (⟨a.toArray⟩ : ByteArray) ++ ⟨b.toArray⟩ = ⟨c.toArray⟩ :=
  ⟨a ++ b, Lib.hid rfl, List.length_append, ba_append a b⟩

def bodyK (l : List (List UInt8)) : List UInt8 := l.flatMap fun k => esc k ++ [10]

theorem bodyK_snoc {l : List (List UInt8)} {i : Nat} {k : List UInt8} (h : l[i]? = some k) : bodyK (l.take (i + 1)) = bodyK (l.take i) ++ (esc k ++ [10]) := by
  obtain ⟨hi, rfl⟩ := List.getElem?_eq_some_iff.1 h
  unfold bodyK
  rw [List.take_succ_eq_append_getElem hi, List.flatMap_append, List.flatMap_singleton]

theorem bodyK_len {l : List (List UInt8)} (h : ∀ k ∈ l, k.length ≤ 1024) : (bodyK l).length ≤ l.length * 3073 := by
  induction l with
  | nil => simp [bodyK]
  | cons a l ih =>
    have h1 := ih (fun k hk => h k (List.mem_cons_of_mem _ hk))
    have h2 := h a (List.mem_cons_self ..)
    have h3 := esc_len a
    unfold bodyK at h1 ⊢
    rw [List.flatMap_cons, List.length_append, List.length_append, List.length_cons]
    simp only [List.length_cons, List.length_nil]
    omega

/-- 'append(b, s...)' to an empty row without room. -/
theorem append_first (a : Option Addr) (w : World) {p : List UInt8} (hp : p ≠ []) (hlen : p.length ≤ 1000000000) :
    ∃ v' w', (Builtin.append_ #[24, 9] 24 #[.slice a 0 0, .string ⟨p.toArray⟩]).run Tryz.prog w = .ok v' w' ∧ OwnB w.heap.size w' v' p ∧ Grow w w' := by
  obtain ⟨i, hi0, hzz, hsz, hbb⟩ := info_parts Tryz.infoB
  have hp0 : 0 < p.length := List.length_pos_iff.2 hp
  have hs : Src Tryz.prog i.size 9 (.string ⟨p.toArray⟩) p.length (bcells p) w := by
    rw [hsz]
    have := Src.ofString (P := Tryz.prog) w Tryz.underlying9 ⟨p.toArray⟩
    simpa [bcells, byteCells, ByteArray.size] using this
  have hold : (Builtin.firstCells i.size 0 (.slice a 0 0)).run Tryz.prog w.drew = .ok #[] w.drew := by
    cases a with
    | none => rfl
    | some a => exact run_firstCells_some w.drew i.size 0 a 0 0 [] (by simp) (fun j u hu => by simp at hu)
  have hr := run_append_grow_src w 24 9 24 5 i (.int .u8 0) Tryz.underlying24 hi0 hzz a 0 0 [] hold (.string ⟨p.toArray⟩) p.length (bcells p) hs (by omega) (by omega) (by rw [hbb]; exact growslice_fits (by omega) (by omega))
  have hge := grownCap_ge w (0 + p.length) 0 5
  have hgm : grownCap w (0 + p.length) 0 5 ≤ maxLen := grownCap_le_maxLen w (0 + p.length) 0 5 (by unfold maxLen; omega)
  refine ⟨_, _, hr, ?_, ⟨rfl, rfl, rfl, by simp, fun k hk => heap_alloc_old w.drew _ hk⟩⟩
  have hB := heap_alloc_new w.drew (.cells (([] : List Value) ++ bcells p).toArray.toList.toArray 5)
  refine .inr ⟨w.heap.size, _, _, by rw [bcells_len, Nat.zero_add], Nat.le_refl _, heap_alloc_new w.drew _, by rw [bcells_len]; omega, ?_, hgm, ?_⟩
  · have hc1 : (Value.int .u8 0).cells.size = 1 := rfl
    have hge2 := grownCap_ge w p.length 0 5
    simp [Builtin.zeroCells, bcells, hc1]
    omega
  · simp only [Array.toList_append, List.nil_append]
    exact List.take_left

set_option maxRecDepth 100000 in
theorem clip_cap {w : World} {v : Value} {l : List UInt8} (h : Bv w v l) : Calls Tryz.prog 57 #[v] w fun e w' => (∃ a, e = .returned (.slice a l.length l.length) ∧ Bv w (.slice a l.length l.length) l) ∧ w' = w := by
  obtain ⟨a, c, rfl, h1, h2, h3, h4⟩ := h
  have hl : (l.length : Int) ≤ (c : Int) := by omega
  have H : Hid (Bv w (.slice a l.length l.length) l) := Lib.hid ⟨a, l.length, rfl, Nat.le_refl _, by omega, fun e => by have := h3 e; omega, h4⟩
  cases a with
  | none =>
    have e := h3 rfl
    have hl0 : l = [] := List.eq_nil_of_length_eq_zero (by omega)
    subst hl0
    subst e
    clear h1 h2 h3 h4 hl
    go_enter Tryz.func57, Tryz.ntmps57
    go_wp2
    go_ret
    exact ⟨⟨_, rfl, H.out⟩, rfl⟩
  | some a =>
    clear h2 h3 h4
    go_enter Tryz.func57, Tryz.ntmps57
    go_wp2
    go_ret
    exact ⟨⟨_, rfl, H.out⟩, rfl⟩
end Go.Proofs.YtdegmpimcappjaaGreatDoor

/- The program's PrintResult. -/
namespace Go.Proofs.YtdegmpimcappjaaGreatDoor
open Go.RowKit Go.Gl Go.Front

abbrev resC (r : ResD) (kv dv : Value) : Obj := .cells #[.int .i64 r.status, .int .u64 r.upload, kv, .bool r.more, dv] 48

theorem res_at {w w' : World} {b : Nat} {r : ResD} {kv dv : Value} (h : w.heap[b]? = some (resC r kv dv)) (hg : Grow w w') : w'.heap[b]? = some (resC r kv dv) := (hg.block _ (lt_of_getElem? h)).trans h

structure Five (W : World) (b : Nat) (r : ResD) (kv dv : Value) : Prop where
  c0 : W.cell? ⟨b, 0, none⟩ = some (.int .i64 r.status)
  c1 : W.cell? ⟨b, 1, none⟩ = some (.int .u64 r.upload)
  c2 : W.cell? ⟨b, 2, none⟩ = some kv
  c3 : W.cell? ⟨b, 3, none⟩ = some (.bool r.more)
  c4 : W.cell? ⟨b, 4, none⟩ = some dv
  fz : ∀ j, W.frozen? ⟨b, j, none⟩ = false

theorem five {W : World} {b : Nat} {r : ResD} {kv dv : Value} {T : TypeId} (h : W.heap[b]? = some (.cells #[.int .i64 r.status, .int .u64 r.upload, kv, .bool r.more, dv] T)) : Five W b r kv dv :=
  ⟨ck_cell h rfl, ck_cell h rfl, ck_cell h rfl, ck_cell h rfl, ck_cell h rfl, fun j => by simp [World.frozen?, h]⟩

/-- How far the keys have been written. -/
def BkInv (W : World) (v0 : Value) (keys : List (List UInt8)) (bv iv : Value) (wr : World) : Prop :=
  ∃ i : Nat, iv = .int .i64 i ∧ i ≤ keys.length ∧ Grow W wr ∧ ((i = 0 ∧ bv = v0) ∨ (0 < i ∧ OwnB W.heap.size wr bv (bodyK (keys.take i))))

theorem keysF_len : ∀ {l : List (List UInt8)}, keysF l = true → ∀ k ∈ l, k.length ≤ 1024 := fun {l} h k hk => by
  obtain ⟨i, hi⟩ := List.getElem?_of_mem hk
  have h1 := ((keysF_iff l).1 h i k hi).1
  unfold keyB at h1
  simp only [Bool.and_eq_true, decide_eq_true_eq] at h1
  exact h1.2

theorem keys_len {r : ResD} (h : rightR r = true) : ∀ k ∈ r.keys, k.length ≤ 1024 := by
  unfold rightR at h
  simp only [Bool.and_eq_true] at h
  exact keysF_len h.2

theorem resWrong {id : Nat} {r : ResD} (hr : rightR r = false) {w : World} {kv dv : Value} (hI : ResIn w r kv dv) :
    Calls Tryz.prog 24 #[.int .u64 id, .agg #[.int .i64 r.status, .int .u64 r.upload, kv, .bool r.more, dv]] w (PrRPost id r w) := by
  have hB := heap_alloc_new w (resC r kv dv)
  have hg0 := Grow.alloc w (resC r kv dv)
  obtain ⟨ka, kc, rfl, _⟩ := hI.k
  obtain ⟨da, dc, rfl, _⟩ := hI.d
  go_enter Tryz.func24, Tryz.ntmps24
  go_upto_region 1 with fail
  have HR := Lib.hid (right_any (hI.grow hg0).k (hI.grow hg0).d hI.kl)
  rw [hr] at HR
  have Hr := Lib.hid hr
  obtain ⟨c0, c1, c2, c3, c4, c5⟩ := five hB
  generalize w.alloc (resC r (.slice ka r.keys.length kc) (.slice da r.data.length dc)) = W at *
  have Hg0 := Lib.hid hg0
  clear hB hI hg0 hr
  go_wp2_with fail
  (with_reducible refine HR.out.mono ?_)
  rintro e w1 ⟨rfl, hg1⟩
  go_wp2
  exact bodyPost_ret (v := .tuple #[.slice none 0 0, .int .i64 1]) (by simp [results, Tryz.results24, go_sem]) rfl (.inr ⟨Hr.out, rfl, Hg0.out.trans hg1⟩)

set_option maxRecDepth 100000 in
set_option maxHeartbeats 16000000 in
theorem resRight {id : Nat} {r : ResD} (hr : rightR r = true) (hid : id < 18446744073709551616) {w : World} (hb : Base w) {kv dv : Value} (hI : ResIn w r kv dv) :
    Calls Tryz.prog 24 #[.int .u64 id, .agg #[.int .i64 r.status, .int .u64 r.upload, kv, .bool r.more, dv]] w (PrRPost id r w) := by
  have hB := heap_alloc_new w (resC r kv dv)
  have hg0 := Grow.alloc w (resC r kv dv)
  obtain ⟨ka, kc, rfl, hkc⟩ := hI.k
  obtain ⟨da, dc, rfl, _⟩ := hI.d
  go_enter Tryz.func24, Tryz.ntmps24
  go_upto_region 1 with fail
  replace hI := hI.grow hg0
  have hb0 := hb.grow hg0
  generalize w.alloc (resC r (.slice ka r.keys.length kc) (.slice da r.data.length dc)) = W0 at *
  generalize w.heap.size = B at *
  have HR := Lib.hid (right_any hI.k hI.d hI.kl)
  rw [hr] at HR
  have HB := Lib.hid hB
  have HI := Lib.hid hI
  have HG := Lib.hid hg0
  have Hb := Lib.hid hb0
  obtain ⟨hk1, hk2⟩ := known_dec hr
  obtain ⟨hkd, hkl, hdl⟩ := right_keys hr
  have Hr := Lib.hid hr
  obtain ⟨c0, c1, c2, c3, c4, c5⟩ := five hB
  clear hB hI hg0 hb0 hr hb hkc
  go_wp2_with fail
  (with_reducible refine HR.out.mono ?_)
  rintro e w1 ⟨rfl, hg1⟩
  clear c0 c1 c2 c3 c4 c5
  have Hg1 := Lib.hid hg1
  obtain ⟨c0, c1, c2, c3, c4, c5⟩ := five (res_at HB.out hg1)
  clear hg1
  obtain ⟨DS, HDS⟩ : ∃ D, Hid (D = decF r.status.toNat) := ⟨_, Lib.hid rfl⟩
  have hDS : DS.length ≤ 19 := by rw [HDS.out]; exact decF_len 18 _ (by omega)
  have HIt : Hid (Calls Tryz.prog 36 #[.int .i64 r.status] w1 fun e w' => e = .returned (.string ⟨DS.toArray⟩) ∧ Grow w1 w') := Lib.hid (by
    rw [HDS.out]
    exact itoa_any (by omega) (by omega) (Hb.out.grow Hg1.out))
  obtain ⟨DX, HDX⟩ : ∃ D, Hid (D = hex16 id) := ⟨_, Lib.hid rfl⟩
  have hDX : DX.length = 16 := by rw [HDX.out]; exact hexF_len 16 id
  have HX : Hid (∀ W, Grow W0 W → Calls Tryz.prog 35 #[.int .u64 id] W fun e w' => e = .returned (.string ⟨DX.toArray⟩) ∧ Grow W w') := Lib.hid (fun W hW => by
    rw [HDX.out]
    exact sixteen_any (Hb.out.grow hW) id hid)
  obtain ⟨A1, HA1, lA1, eA1⟩ := cat_text nGlc DS
  obtain ⟨A2, HA2, lA2, eA2⟩ := cat_text A1 [13, 10]
  obtain ⟨A3, HA3, lA3, eA3⟩ := cat_text A2 nId
  obtain ⟨A4, HA4, lA4, eA4⟩ := cat_text A3 DX
  obtain ⟨A5, HA5, lA5, eA5⟩ := cat_text A4 [13, 10]
  have H5 : Hid (A5 = firstL id r) := Lib.hid (by rw [HA5.out, HA4.out, HA3.out, HA2.out, HA1.out, HDS.out, HDX.out]; rfl)
  simp only [List.length_cons, List.length_nil] at lA1 lA2 lA3 lA4 lA5
  go_wp2_with fail
  (with_reducible refine HIt.out.mono ?_)
  rintro e w2 ⟨rfl, hg2⟩
  have Hg2 := Lib.hid (Hg1.out.trans hg2)
  clear c0 c1 c2 c3 c4 c5 hg2
  go_wp2_with fail
  (with_reducible refine (HX.out _ Hg2.out).mono ?_)
  rintro e w3 ⟨rfl, hg3⟩
  have Hg3 := Lib.hid (Hg2.out.trans hg3)
  have HCl := Lib.hid (clip_cap (HI.out.grow Hg3.out).d)
  obtain ⟨c0, c1, c2, c3, c4, c5⟩ := five (res_at HB.out Hg3.out)
  clear hg3
  go_wp2_with fail
  (with_reducible refine HCl.out.mono ?_)
  rintro e w4 ⟨⟨xa, rfl, hx⟩, hw⟩
  have hw' := hw.symm
  subst hw'
  clear hw eA1 eA2 eA3 eA4 eA5 lA1 lA2 lA3 lA4
  have hA5 : A5.length ≤ 100 := by rw [H5.out]; unfold firstL; simp; have := hexF_len 16 id; rw [← HDX.out, ← HDS.out]; omega
  have Hx := Lib.hid hx
  clear hx
  go_upto_if 28 with fail
  obtain ⟨U1, HU1⟩ : ∃ U, Hid (U = A5 ++ upL r) := ⟨_, Lib.hid rfl⟩
  have hU1 : U1.length ≤ 200 := by rw [HU1.out, List.length_append]; unfold upL; split <;> simp [hexF_len, hex16] <;> omega
  obtain ⟨ub, hub⟩ : ∃ b, ((r.upload : Int) != 0) = b := ⟨_, rfl⟩
  rw [hub]
  have Hub := Lib.hid hub
  clear hub
  go_cut [6] from 29 to 35 (fun v wx => v = .string ⟨U1.toArray⟩ ∧ Grow w3 wx)
  case first =>
    cases ub with
    | false =>
      have hup : r.upload = 0 := by have := Hub.out; simpa using this
      have e0 : U1 = A5 := by rw [HU1.out]; unfold upL; simp [hup]
      clear hup
      subst e0
      go_wp2
      go_meet
      exact ⟨rfl, Grow.refl _⟩
    | true =>
      have hup : r.upload ≠ 0 := by have := Hub.out; simpa using this
      obtain ⟨DU, HDU⟩ : ∃ D, Hid (D = hex16 r.upload) := ⟨_, Lib.hid rfl⟩
      have hDU : DU.length = 16 := by rw [HDU.out]; exact hexF_len 16 r.upload
      have HXU : Hid (Calls Tryz.prog 35 #[.int .u64 r.upload] w3 fun e w' => e = .returned (.string ⟨DU.toArray⟩) ∧ Grow w3 w') := Lib.hid (by
        rw [HDU.out]
        exact sixteen_any (Hb.out.grow Hg3.out) r.upload HI.out.up)
      obtain ⟨B1, HB1, lB1, eB1⟩ := cat_text nUp DU
      obtain ⟨B2, HB2, lB2, eB2⟩ := cat_text B1 [13, 10]
      obtain ⟨B3, HB3, lB3, eB3⟩ := cat_text A5 B2
      have h3 : B3 = U1 := by rw [HB3.out, HB2.out, HB1.out, HU1.out, HDU.out]; unfold upL; rw [if_pos hup]
      subst h3
      simp only [List.length_cons, List.length_nil] at lB1 lB2
      clear hup
      go_wp2_with fail
      (with_reducible refine HXU.out.mono ?_)
      rintro e w4 ⟨rfl, hg4⟩
      go_wp2
      go_meet
      exact ⟨rfl, hg4⟩
  case rest =>
  obtain ⟨rfl, hgc⟩ := hcut
  have Hg4 := Lib.hid (Hg3.out.trans hgc)
  have Hx4 := Lib.hid (Hx.out.grow hgc)
  clear hgc c0 c1 c2 c3 c4 c5 Hx HCl HX HIt HR
  obtain ⟨c0, c1, c2, c3, c4, c5⟩ := five (res_at HB.out Hg4.out)
  generalize wc = w4 at *
  go_upto_if 37 with fail
  obtain ⟨M1, HM1⟩ : ∃ U, Hid (U = U1 ++ moreL r) := ⟨_, Lib.hid rfl⟩
  have hM1 : M1.length ≤ 300 := by rw [HM1.out, List.length_append]; unfold moreL; split <;> simp <;> omega
  obtain ⟨mo, hmo⟩ : ∃ m, r.more = m := ⟨_, rfl⟩
  rw [hmo]
  have Hmo := Lib.hid hmo
  clear hmo c3
  go_cut [6] from 38 to 39 (fun v wx => v = .string ⟨M1.toArray⟩ ∧ wx = w4)
  case first =>
    cases mo with
    | false =>
      have e0 : M1 = U1 := by rw [HM1.out]; unfold moreL; simp [Hmo.out]
      subst e0
      go_wp2
      go_meet
      exact ⟨rfl, rfl⟩
    | true =>
      obtain ⟨B1, HB1, lB1, eB1⟩ := cat_text U1 [109, 111, 114, 101, 58, 32, 121, 101, 115, 13, 10]
      have h3 : B1 = M1 := by rw [HB1.out, HM1.out]; unfold moreL; rw [if_pos Hmo.out]; rfl
      subst h3
      simp only [List.length_cons, List.length_nil] at lB1
      go_wp2
      go_meet
      exact ⟨rfl, rfl⟩
  case rest =>
  obtain ⟨rfl, hw⟩ := hcut
  have hw' := hw.symm
  subst hw'
  clear hw
  go_upto_if 43 with fail
  obtain ⟨K1, HK1⟩ : ∃ U, Hid (U = M1 ++ keysL r) := ⟨_, Lib.hid rfl⟩
  have hDK : (decF r.keys.length).length ≤ 19 := decF_len 18 _ (by omega)
  have hK1 : K1.length ≤ 400 := by rw [HK1.out, List.length_append]; unfold keysL; split <;> simp <;> omega
  obtain ⟨kb, hkb⟩ : ∃ b, decide (0 < r.keys.length) = b := ⟨_, rfl⟩
  rw [hkb]
  have Hkb := Lib.hid hkb
  clear hkb
  go_cut [6] from 44 to 51 (fun v wx => v = .string ⟨K1.toArray⟩ ∧ Grow w4 wx)
  case first =>
    cases kb with
    | false =>
      have hk : r.keys = [] := by have := Hkb.out; simpa using this
      have e0 : K1 = M1 := by rw [HK1.out]; unfold keysL; simp [hk]
      subst e0
      clear hk
      go_wp2
      go_meet
      exact ⟨rfl, Grow.refl _⟩
    | true =>
      have hk : r.keys ≠ [] := List.length_pos_iff.1 (by have := Hkb.out; simpa using this)
      have HIK : Hid (Calls Tryz.prog 36 #[.int .i64 (r.keys.length : Int)] w4 fun e w' => e = .returned (.string ⟨(decF r.keys.length).toArray⟩) ∧ Grow w4 w') := Lib.hid (itoa_any (n := (r.keys.length : Int)) (by omega) (by omega) (Hb.out.grow Hg4.out))
      obtain ⟨B1, HB1, lB1, eB1⟩ := cat_text nKeys (decF r.keys.length)
      obtain ⟨B2, HB2, lB2, eB2⟩ := cat_text B1 [13, 10]
      obtain ⟨B3, HB3, lB3, eB3⟩ := cat_text M1 B2
      have h3 : B3 = K1 := by rw [HB3.out, HB2.out, HB1.out, HK1.out]; unfold keysL; rw [if_pos hk]
      subst h3
      simp only [List.length_cons, List.length_nil] at lB1 lB2
      clear hk
      go_wp2_with fail
      (with_reducible refine HIK.out.mono ?_)
      rintro e w5 ⟨rfl, hg5⟩
      go_wp2
      go_meet
      exact ⟨rfl, hg5⟩
  case rest =>
  obtain ⟨rfl, hgc⟩ := hcut
  have Hg5 := Lib.hid (Hg4.out.trans hgc)
  have Hx5 := Lib.hid (Hx4.out.grow hgc)
  clear hgc c0 c1 c2 c4 c5 Hx4
  obtain ⟨c0, c1, c2, c3, c4, c5⟩ := five (res_at HB.out Hg5.out)
  generalize wc = w5 at *
  have HK5 := Lib.hid (HI.out.grow Hg5.out).k
  clear c0 c1 c3 c4 c5
  obtain ⟨b0, hke⟩ : ∃ a, Kv w5 (.slice ka r.keys.length kc) r.keys ∧ a = 0 := ⟨0, HK5.out, rfl⟩
  obtain ⟨⟨ka', kc', hke1, hkc⟩, _⟩ := hke
  cases hke1
  have Hkc := Lib.hid hkc
  have hkeys : ∀ k ∈ r.keys, k.length ≤ 1024 := keys_len Hr.out
  have Hkeys := Lib.hid hkeys
  clear hkc hkeys
  go_wp2_with fail
  clear c2
  go_loopw [7, 55] (fun bv iv wr => BkInv w5 (.slice xa r.data.length r.data.length) r.keys bv iv wr) (fun _ iv _ => r.keys.length - (intOf iv).toNat)
  case atStart => exact ⟨0, rfl, Nat.zero_le _, Grow.refl _, .inl ⟨rfl, rfl⟩⟩
  case round =>
    obtain ⟨i, rfl, hi, hgr, hbv⟩ := hrel
    by_cases hlt : i < r.keys.length
    · obtain ⟨k, hkk⟩ : ∃ k, r.keys[i]? = some k := ⟨r.keys[i], by simp [hlt]⟩
      obtain ⟨b, o, rfl, hbs, hc⟩ := Hkc.out.resolve_left (fun e => by rw [e] at hlt; simp at hlt)
      have hcn : wr.cell? ⟨b, o + i, none⟩ = some (.string ⟨k.toArray⟩) := by rw [Grow.cells _ _ _ hgr hbs]; exact hc i k hkk
      have hi1 : (i : Int) < (r.keys.length : Int) := by omega
      have hi0 : (0 : Int) ≤ (i : Int) := by omega
      have hwi : IntKind.i64.wrap ((i : Int) + 1) = (i : Int) + 1 := IntWalk.i64_in _ (by omega)
      have hkl1 := Hkeys.out k (List.mem_of_getElem? hkk)
      have hel := esc_len k
      have HEs : Hid (Calls Tryz.prog 15 #[.string ⟨k.toArray⟩] wr fun e w' => e = .returned (.string ⟨(esc k).toArray⟩) ∧ Grow wr w') := Lib.hid (escape_any ⟨k.toArray⟩ wr (by show k.toArray.size ≤ _; simp; omega))
      obtain ⟨E1, HE1, lE1, eE1⟩ := cat_text (esc k) [10]
      simp only [List.length_cons, List.length_nil] at lE1
      have hE0 : E1 ≠ [] := by intro e; rw [e] at lE1; simp at lE1
      have hsn := bodyK_snoc hkk
      rw [← HE1.out] at hsn
      have Hgr := Lib.hid hgr
      have hbl : (bodyK (r.keys.take i)).length ≤ 1000 * 3073 := by
        have h1 := bodyK_len (l := r.keys.take i) (fun k hk => Hkeys.out k (List.mem_of_mem_take hk))
        rw [List.length_take, Nat.min_eq_left (by omega)] at h1
        omega
      have hcon : ∀ wq, Grow wr wq → ∃ v' w', (Builtin.append_ #[24, 9] 24 #[u7, .string ⟨E1.toArray⟩]).run Tryz.prog wq = .ok v' w' ∧ BkInv w5 (.slice xa r.data.length r.data.length) r.keys v' (.int .i64 ((i : Int) + 1)) w' := fun wq hq => by
        rcases hbv with ⟨rfl, rfl⟩ | ⟨hip, hown⟩
        · have hd0 : r.data = [] := hkd.resolve_left (fun e => by rw [e] at hlt; simp at hlt)
          rw [hd0]
          obtain ⟨v', w', r1, r2, r3⟩ := append_first xa wq hE0 (by omega)
          have hB5 : w5.heap.size ≤ wq.heap.size := (hgr.trans hq).size
          refine ⟨v', w', r1, 1, by simp, hlt, (hgr.trans hq).trans r3, .inr ⟨Nat.one_pos, ?_⟩⟩
          rw [hsn]
          have : bodyK (r.keys.take 0) = [] := by simp [bodyK]
          rw [this, List.nil_append]
          rcases r2 with ⟨rfl, h0⟩ | ⟨g, cap, cur, rfl, hB, hg, hn, hc2, hm, ht⟩
          · exact .inl ⟨rfl, h0⟩
          · exact .inr ⟨g, cap, cur, rfl, Nat.le_trans hB5 hB, hg, hn, hc2, hm, ht⟩
        · obtain ⟨v', w', r1, r2, r3, _⟩ := append_text (p := E1) (hown.grow hq) (hgr.trans hq).size (by omega)
          exact ⟨v', w', r1, i + 1, by simp, hlt, below_grown (hgr.trans hq) (hgr.trans hq).size (hown.grow hq) r3, .inr ⟨Nat.succ_pos _, by rw [hsn]; exact r2⟩⟩
      have Hcon := Lib.hid hcon
      clear hcon hbv hgr hsn hkk hc hE0 hbl
      go_wp2_with fail
      (with_reducible refine HEs.out.mono ?_)
      rintro e w6 ⟨rfl, hg6⟩
      obtain ⟨v', w', hrun, hrel⟩ := Hcon.out w6 hg6
      have Hrun := Lib.hid hrun
      have Hrel := Lib.hid hrel
      clear hrun hrel hg6
      go_wp2_with (at_builtin; refine wpList_append rfl rfl rfl rfl Hrun.out ?_)
      go_roundw
      case rel => exact Hrel.out
      case measure => simp [intOf]; omega
    · have hi1 : ¬ ((i : Int) < (r.keys.length : Int)) := by omega
      have hie : i = r.keys.length := by omega
      have hbody : Bv wr u7 (bodyR r) := by
        rcases hbv with ⟨h0, rfl⟩ | ⟨hip, hown⟩
        · have hk0 : r.keys = [] := List.eq_nil_of_length_eq_zero (by omega)
          have : bodyR r = r.data := by simp [bodyR, hk0]
          rw [this]
          exact Hx5.out.grow hgr
        · have hd0 : r.data = [] := hkd.resolve_left (fun e => by rw [e] at hie; simp at hie; omega)
          have : bodyR r = bodyK (r.keys.take i) := by
            rw [List.take_of_length_le (by omega)]
            simp [bodyR, bodyK, hd0]
          rw [this]
          exact ownB_bv hown
      have hbl : (bodyR r).length ≤ 300000000 := by
        have h1 := bodyK_len Hkeys.out
        unfold bodyR
        rw [List.length_append]
        unfold bodyK at h1
        omega
      obtain ⟨ya, yc, rfl⟩ := hbody.slice
      have Hbody := Lib.hid hbody
      have Hgr := Lib.hid (Hg5.out.trans hgr)
      obtain ⟨n, Hn⟩ : ∃ n, Hid (n = (bodyR r).length) := ⟨_, Lib.hid rfl⟩
      have HIn : Hid (Calls Tryz.prog 36 #[.int .i64 ((bodyR r).length : Int)] wr fun e w' => e = .returned (.string ⟨(decF (bodyR r).length).toArray⟩) ∧ Grow wr w') := Lib.hid (itoa_any (n := ((bodyR r).length : Int)) (by omega) (by omega) (Hb.out.grow Hgr.out))
      have hsum := headR_sum id r
      rw [← H5.out, ← HU1.out, ← HM1.out, ← HK1.out] at hsum
      have hDN : (decF (bodyR r).length).length ≤ 19 := decF_len 18 _ (by omega)
      rw [← Hn.out] at HIn hDN hsum hbl ⊢
      obtain ⟨L1, HL1, lL1, eL1⟩ := cat_text nLen (decF n)
      obtain ⟨L2, HL2, lL2, eL2⟩ := cat_text L1 [13, 10]
      obtain ⟨L3, HL3, lL3, eL3⟩ := cat_text L2 [13, 10]
      obtain ⟨HL, HHL, lHL, eHL⟩ := cat_text K1 L3
      simp only [List.length_cons, List.length_nil] at lL1 lL2 lL3
      have hHL : Hid (HL ++ bodyR r = headR id r ++ crlf2 ++ bodyR r) := Lib.hid (by rw [HHL.out, HL3.out, HL2.out, HL1.out, hsum])
      have hHLl : HL.length ≤ 1000 := by omega
      clear hbv hgr hbody hsum hie hlt hi
      go_wp2_with fail
      (with_reducible refine HIn.out.mono ?_)
      rintro e w6 ⟨rfl, hg6⟩
      have Hg6 := Lib.hid (Hgr.out.trans hg6)
      have Hb6 := Lib.hid (Hbody.out.grow hg6)
      clear hg6
      obtain ⟨cap, w7, hconv, hbv7, hg7, cur, f, k1, k2, k3, k4, k5⟩ := conv_bytes ⟨HL.toArray⟩ (by show HL.toArray.size ≤ _; simp; omega) w6
      have hsz : (⟨HL.toArray⟩ : ByteArray).size = HL.length := by simp [ByteArray.size]
      rw [hsz] at hconv hbv7 k3 k5
      have hcm : cap ≤ maxLen := by
        obtain ⟨a, c, e1, _, hm, _⟩ := hbv7
        cases e1
        exact hm
      have hgw7 : Grow w w7 := HG.out.trans (Hg6.out.trans hg7)
      obtain ⟨v', w', r1, r2, r3⟩ := append_conv (w := w7) (xs := HL) k1 k2 k4 k5 hcm (Hb6.out.grow hg7) (by rw [← Hn.out]; omega)
      rw [hHL.out] at r2
      rw [← Hn.out] at r1
      have hWs : w.heap.size ≤ w6.heap.size := (HG.out.trans Hg6.out).size
      have hgf : Grow w w' := Below.grown hgw7 r3 hgw7.size (fun b hk => by cases hk; exact hWs)
      have Hrun := Lib.hid r1
      have Hbv := Lib.hid r2
      have Hgf := Lib.hid hgf
      clear hbv7 hg7 k1 k2 k3 k4 k5 hcm hgw7 r1 r2 r3 hWs hgf hsz
      go_upto_region 17 with fail
      clear lL1 lL2 lL3 lHL eL1 eL2 eL3 eHL
      go_wp2_with (at_builtin; refine wpList_append rfl rfl rfl rfl Hrun.out ?_)
      exact bodyPost_ret (v := .tuple #[v', .int .i64 0]) (by simp [results, Tryz.results24, go_sem]) rfl (.inl ⟨Hr.out, v', rfl, Hbv.out, Hgf.out⟩)

theorem printResult_any {id : Nat} {r : ResD} (hid : id < 18446744073709551616) {w : World} (hb : Base w) {kv dv : Value} (hI : ResIn w r kv dv) :
    Calls Tryz.prog 24 #[.int .u64 id, .agg #[.int .i64 r.status, .int .u64 r.upload, kv, .bool r.more, dv]] w (PrRPost id r w) := by
  cases hr : rightR r with
  | true => exact resRight hr hid hb hI
  | false => exact resWrong hr hI
end Go.Proofs.YtdegmpimcappjaaGreatDoor

/- The document's PrintResult. -/
namespace Go.Proofs.YtdegmpimcappjaaGreatDoor
open Go.RowKit Go.Gl Go.Front

/-- 'append([]byte{}, p...)', the row one's own. -/
theorem own_fresh {w : World} {pv : Value} {l : List UInt8} (h : Bv w pv l) (hl : l.length ≤ 1000000000) :
    ∃ v' w', (Builtin.append_ #[24, 24] 24 #[.slice (some ⟨w.heap.size, 0, none⟩) 0 0, pv]).run Tryz.prog (w.alloc (.cells #[] 5)) = .ok v' w' ∧ OwnB w.heap.size w' v' l ∧ Grow w w' := by
  have hga : Grow w (w.alloc (.cells #[] 5)) := Grow.alloc _ _
  have hown : OwnB w.heap.size (w.alloc (.cells #[] 5)) (.slice (some ⟨w.heap.size, 0, none⟩) 0 0) [] :=
    .inr ⟨w.heap.size, 0, #[], rfl, Nat.le_refl _, heap_alloc_new _ _, Nat.le_refl _, Nat.le_refl _, Nat.zero_le _, rfl⟩
  obtain ⟨v', w', h1, h2, h3, h4⟩ := append_bytes hown (h.grow hga) hga.size (by simp; omega)
  exact ⟨v', w', h1, by rw [List.nil_append] at h2; exact h2, below_grown hga (Nat.le_of_lt (by simp)) hown h3⟩

/-- How far the keys have been written behind the data. -/
def BdInv (W : World) (data : List UInt8) (keys : List (List UInt8)) (bv iv : Value) (wr : World) : Prop :=
  ∃ i : Nat, iv = .int .i64 i ∧ i ≤ keys.length ∧ Grow W wr ∧ OwnB W.heap.size wr bv (data ++ bodyK (keys.take i))

set_option maxRecDepth 100000 in
set_option maxHeartbeats 16000000 in
theorem resRightR {id : Nat} {r : ResD} (hr : rightR r = true) (hid : id < 18446744073709551616) {w : World} (hb : Base w) {kv dv : Value} (hI : ResIn w r kv dv) :
    Calls Tryz.prog 26 #[.int .u64 id, .agg #[.int .i64 r.status, .int .u64 r.upload, kv, .bool r.more, dv]] w (PrRPost id r w) := by
  have hB := heap_alloc_new w (resC r kv dv)
  have hg0 := Grow.alloc w (resC r kv dv)
  obtain ⟨ka, kc, rfl, hkc⟩ := hI.k
  obtain ⟨da, dc, rfl, _⟩ := hI.d
  go_enter Tryz.func26, Tryz.ntmps26
  go_upto_region 1 with fail
  replace hI := hI.grow hg0
  have hb0 := hb.grow hg0
  generalize w.alloc (resC r (.slice ka r.keys.length kc) (.slice da r.data.length dc)) = W0 at *
  generalize w.heap.size = B at *
  have HR := Lib.hid (rightR_any hI.k hI.d hI.kl)
  rw [hr] at HR
  have HB := Lib.hid hB
  have HI := Lib.hid hI
  have HG := Lib.hid hg0
  have Hb := Lib.hid hb0
  obtain ⟨hk1, hk2⟩ := known_dec hr
  obtain ⟨hkd, hkl, hdl⟩ := right_keys hr
  have Hr := Lib.hid hr
  obtain ⟨c0, c1, c2, c3, c4, c5⟩ := five hB
  clear hB hI hg0 hb0 hr hb hkc
  go_wp2_with fail
  (with_reducible refine HR.out.mono ?_)
  rintro e w1 ⟨rfl, hg1⟩
  clear c0 c1 c2 c3 c4 c5
  have Hg1 := Lib.hid hg1
  obtain ⟨c0, c1, c2, c3, c4, c5⟩ := five (res_at HB.out hg1)
  clear hg1
  have Hkeys := Lib.hid (keys_len Hr.out)
  have HI1 := Lib.hid (HI.out.grow Hg1.out)
  obtain ⟨⟨ka', kc', hke1, hkc⟩, _⟩ : Kv w1 (.slice ka r.keys.length kc) r.keys ∧ True := ⟨HI1.out.k, trivial⟩
  cases hke1
  have Hkc := Lib.hid hkc
  clear hkc
  have hdl2 : r.data.length ≤ 1000000000 := by omega
  obtain ⟨v0, wa, r1, r2, r3⟩ := own_fresh HI1.out.d hdl2
  have Hrun0 := Lib.hid r1
  have Hown0 := Lib.hid r2
  have Hga := Lib.hid r3
  clear r1 r2 r3
  have c4' : (w1.alloc (.cells #[] 5)).cell? ⟨B, 4, none⟩ = some (.slice da r.data.length dc) := (five (res_at HB.out (Hg1.out.trans (Grow.alloc _ _)))).c4
  go_upto_region 4 with (at_builtin; refine wpList_append rfl rfl rfl rfl Hrun0.out ?_)
  clear c4'
  clear c0 c1 c2 c3 c4 c5
  have HBa := Lib.hid (res_at HB.out (Hg1.out.trans Hga.out))
  go_wp2_with fail
  go_loopw [6, 7] (fun bv iv wr => BdInv w1 r.data r.keys bv iv wr) (fun _ iv _ => r.keys.length - (intOf iv).toNat)
  case atStart => exact ⟨0, rfl, Nat.zero_le _, Hga.out, by simpa [bodyK] using Hown0.out⟩
  case round =>
    obtain ⟨i, rfl, hi, hgr, hown⟩ := hrel
    obtain ⟨c0, c1, c2, c3, c4, c5⟩ := five (res_at HB.out (Hg1.out.trans hgr))
    clear c0 c1 c3 c4 c5
    by_cases hlt : i < r.keys.length
    · obtain ⟨k, hkk⟩ : ∃ k, r.keys[i]? = some k := ⟨r.keys[i], by simp [hlt]⟩
      obtain ⟨b, o, rfl, hbs, hc⟩ := Hkc.out.resolve_left (fun e => by rw [e] at hlt; simp at hlt)
      have hcn : wr.cell? ⟨b, o + i, none⟩ = some (.string ⟨k.toArray⟩) := by rw [Grow.cells _ _ _ hgr hbs]; exact hc i k hkk
      have hi1 : (i : Int) < (r.keys.length : Int) := by omega
      have hi0 : (0 : Int) ≤ (i : Int) := by omega
      have hwi : IntKind.i64.wrap ((i : Int) + 1) = (i : Int) + 1 := IntWalk.i64_in _ (by omega)
      have hkl1 := Hkeys.out k (List.mem_of_getElem? hkk)
      have hel := esc_len k
      have HEs : Hid (Calls Tryz.prog 16 #[.string ⟨k.toArray⟩] wr fun e w' => e = .returned (.string ⟨(esc k).toArray⟩) ∧ Grow wr w') := Lib.hid (escapeR_any ⟨k.toArray⟩ wr (by show k.toArray.size ≤ _; simp; omega))
      have hsn := bodyK_snoc hkk
      have hbl : (bodyK (r.keys.take i)).length ≤ 1000 * 3073 := by
        have h1 := bodyK_len (l := r.keys.take i) (fun k hk => Hkeys.out k (List.mem_of_mem_take hk))
        rw [List.length_take, Nat.min_eq_left (by omega)] at h1
        omega
      have Hcon : Hid (∀ wq, Grow wr wq → ∃ v1 u1 v2 u2, (Builtin.append_ #[24, 9] 24 #[u6, .string ⟨(esc k).toArray⟩]).run Tryz.prog wq = .ok v1 u1 ∧ (Builtin.append_ #[24, 24] 24 #[v1, .slice (some ⟨u1.heap.size, 0, none⟩) 1 1]).run Tryz.prog (u1.alloc (.cells #[.int .u8 10] 5)) = .ok v2 u2 ∧ BdInv w1 r.data r.keys v2 (.int .i64 ((i : Int) + 1)) u2) := Lib.hid (fun wq hq => by
        obtain ⟨v1, u1, r1, r2, r3, _⟩ := append_text (p := esc k) (hown.grow hq) (hgr.trans hq).size (by rw [List.length_append]; omega)
        have hgu := below_grown (hgr.trans hq) (hgr.trans hq).size (hown.grow hq) r3
        obtain ⟨v2, u2, q1, q2, q3⟩ := append_built (p := [10]) (n := 1) (arr := #[.int .u8 10]) r2 (by rfl) rfl (by simp) hgu.size (by simp only [List.length_append, List.length_cons, List.length_nil]; omega)
        exact ⟨v1, u1, v2, u2, r1, q1, i + 1, by simp, hlt, hgu.trans q3, by rw [hsn, ← List.append_assoc, ← List.append_assoc]; exact q2⟩)
      clear hown hgr hsn hkk hc hbl
      go_wp2_with fail
      (with_reducible refine HEs.out.mono ?_)
      rintro e w6 ⟨rfl, hg6⟩
      obtain ⟨v1, u1, v2, u2, hrun1, hrun2, hrel⟩ := Hcon.out w6 hg6
      have Hrun1 := Lib.hid hrun1
      have Hrun2 := Lib.hid hrun2
      have Hrel := Lib.hid hrel
      clear hrun1 hrun2 hrel hg6
      go_wp2_with (first | (at_builtin; refine wpList_append rfl rfl rfl rfl Hrun1.out ?_) | (at_builtin; refine wpList_append rfl rfl rfl rfl Hrun2.out ?_))
      go_roundw
      case rel => exact Hrel.out
      case measure => simp [intOf]; omega
    · have hi1 : ¬ ((i : Int) < (r.keys.length : Int)) := by omega
      have hie : i = r.keys.length := by omega
      have hbody : Bv wr u6 (bodyR r) := by
        have : bodyR r = r.data ++ bodyK (r.keys.take i) := by
          rw [List.take_of_length_le (by omega)]
          rfl
        rw [this]
        exact ownB_bv hown
      have hbl : (bodyR r).length ≤ 300000000 := by
        have h1 := bodyK_len Hkeys.out
        unfold bodyR
        rw [List.length_append]
        unfold bodyK at h1
        omega
      obtain ⟨ya, yc, rfl⟩ := hbody.slice
      have Hbody := Lib.hid hbody
      have Hgr := Lib.hid (Hg1.out.trans hgr)
      obtain ⟨n, Hn⟩ : ∃ n, Hid (n = (bodyR r).length) := ⟨_, Lib.hid rfl⟩
      obtain ⟨DS, HDS⟩ : ∃ D, Hid (D = decF r.status.toNat) := ⟨_, Lib.hid rfl⟩
      have hDS : DS.length ≤ 19 := by rw [HDS.out]; exact decF_len 18 _ (by omega)
      have HIt : Hid (Calls Tryz.prog 38 #[.int .i64 r.status] wr fun e w' => e = .returned (.string ⟨DS.toArray⟩) ∧ Grow wr w') := Lib.hid (by
        rw [HDS.out]
        exact decimalI (by omega) (by omega) wr)
      obtain ⟨DX, HDX⟩ : ∃ D, Hid (D = hex16 id) := ⟨_, Lib.hid rfl⟩
      have hDX : DX.length = 16 := by rw [HDX.out]; exact hexF_len 16 id
      have HX : Hid (∀ W, Calls Tryz.prog 58 #[.int .u64 id] W fun e w' => e = .returned (.string ⟨DX.toArray⟩) ∧ Grow W w') := Lib.hid (fun W => by
        rw [HDX.out]
        exact hex_any id hid W)
      obtain ⟨A1, HA1, lA1, eA1⟩ := cat_text nGlc DS
      obtain ⟨A2, HA2, lA2, eA2⟩ := cat_text A1 [13, 10, 105, 100, 58, 32]
      obtain ⟨A4, HA4, lA4, eA4⟩ := cat_text A2 DX
      obtain ⟨A5, HA5, lA5, eA5⟩ := cat_text A4 [13, 10]
      have H5 : Hid (A5 = firstL id r) := Lib.hid (by rw [HA5.out, HA4.out, HA2.out, HA1.out, HDS.out, HDX.out]; unfold firstL; simp)
      simp only [List.length_cons, List.length_nil] at lA1 lA2 lA4 lA5
      have hsum := Lib.hid (headR_sum id r)
      rw [← H5.out, ← Hn.out] at hsum
      rw [← Hn.out] at hbl ⊢
      obtain ⟨c0, c1, c2, c3, c4, c5⟩ := five (res_at HB.out Hgr.out)
      clear hown hgr hbody hie hi hlt
      go_wp2_with fail
      (with_reducible refine HIt.out.mono ?_)
      rintro e w2 ⟨rfl, hg2⟩
      have Hg2 := Lib.hid (Hgr.out.trans hg2)
      have Hb2 := Lib.hid (Hbody.out.grow hg2)
      clear c0 c1 c2 c3 c4 c5 hg2
      go_wp2_with fail
      (with_reducible refine (HX.out _).mono ?_)
      rintro e w3 ⟨rfl, hg3⟩
      have Hg3 := Lib.hid (Hg2.out.trans hg3)
      have Hb3 := Lib.hid (Hb2.out.grow hg3)
      obtain ⟨c0, c1, c2, c3, c4, c5⟩ := five (res_at HB.out Hg3.out)
      clear hg3
      go_upto_if 45 with fail
      have hA5 : A5.length ≤ 100 := by omega
      clear eA1 eA2 eA4 eA5 lA1 lA2 lA4 lA5
      obtain ⟨U1, HU1⟩ : ∃ U, Hid (U = A5 ++ upL r) := ⟨_, Lib.hid rfl⟩
      have hU1 : U1.length ≤ 200 := by rw [HU1.out, List.length_append]; unfold upL; split <;> simp [hexF_len, hex16] <;> omega
      obtain ⟨ub, hub⟩ : ∃ b, ((r.upload : Int) != 0) = b := ⟨_, rfl⟩
      rw [hub]
      have Hub := Lib.hid hub
      clear hub
      go_cut [8] from 46 to 52 (fun v wx => v = .string ⟨U1.toArray⟩ ∧ Grow w3 wx)
      case first =>
        cases ub with
        | false =>
          have hup : r.upload = 0 := by have := Hub.out; simpa using this
          have e0 : U1 = A5 := by rw [HU1.out]; unfold upL; simp [hup]
          clear hup
          subst e0
          go_wp2
          go_meet
          exact ⟨rfl, Grow.refl _⟩
        | true =>
          have hup : r.upload ≠ 0 := by have := Hub.out; simpa using this
          obtain ⟨DU, HDU⟩ : ∃ D, Hid (D = hex16 r.upload) := ⟨_, Lib.hid rfl⟩
          have hDU : DU.length = 16 := by rw [HDU.out]; exact hexF_len 16 r.upload
          have HXU : Hid (Calls Tryz.prog 58 #[.int .u64 r.upload] w3 fun e w' => e = .returned (.string ⟨DU.toArray⟩) ∧ Grow w3 w') := Lib.hid (by
            rw [HDU.out]
            exact hex_any r.upload HI.out.up w3)
          obtain ⟨B1, HB1, lB1, eB1⟩ := cat_text A5 nUp
          obtain ⟨B2, HB2, lB2, eB2⟩ := cat_text B1 DU
          obtain ⟨B3, HB3, lB3, eB3⟩ := cat_text B2 [13, 10]
          have h3 : B3 = U1 := by rw [HB3.out, HB2.out, HB1.out, HU1.out, HDU.out]; unfold upL; rw [if_pos hup]; simp
          subst h3
          simp only [List.length_cons, List.length_nil] at lB1 lB2
          clear hup
          go_wp2_with fail
          (with_reducible refine HXU.out.mono ?_)
          rintro e w4 ⟨rfl, hg4⟩
          go_wp2
          go_meet
          exact ⟨rfl, hg4⟩
      case rest =>
      obtain ⟨rfl, hgc⟩ := hcut
      have Hg4 := Lib.hid (Hg3.out.trans hgc)
      have Hb4 := Lib.hid (Hb3.out.grow hgc)
      clear hgc c0 c1 c2 c3 c4 c5 HX HIt HR
      obtain ⟨c0, c1, c2, c3, c4, c5⟩ := five (res_at HB.out Hg4.out)
      generalize wc = w4 at *
      go_upto_if 54 with fail
      obtain ⟨M1, HM1⟩ : ∃ U, Hid (U = U1 ++ moreL r) := ⟨_, Lib.hid rfl⟩
      have hM1 : M1.length ≤ 300 := by rw [HM1.out, List.length_append]; unfold moreL; split <;> simp <;> omega
      obtain ⟨mo, hmo⟩ : ∃ m, r.more = m := ⟨_, rfl⟩
      rw [hmo]
      have Hmo := Lib.hid hmo
      clear hmo c3
      go_cut [8] from 55 to 56 (fun v wx => v = .string ⟨M1.toArray⟩ ∧ wx = w4)
      case first =>
        cases mo with
        | false =>
          have e0 : M1 = U1 := by rw [HM1.out]; unfold moreL; simp [Hmo.out]
          subst e0
          go_wp2
          go_meet
          exact ⟨rfl, rfl⟩
        | true =>
          obtain ⟨B1, HB1, lB1, eB1⟩ := cat_text U1 [109, 111, 114, 101, 58, 32, 121, 101, 115, 13, 10]
          have h3 : B1 = M1 := by rw [HB1.out, HM1.out]; unfold moreL; rw [if_pos Hmo.out]; rfl
          subst h3
          simp only [List.length_cons, List.length_nil] at lB1
          go_wp2
          go_meet
          exact ⟨rfl, rfl⟩
      case rest =>
      obtain ⟨rfl, hw⟩ := hcut
      have hw' := hw.symm
      subst hw'
      clear hw
      go_upto_if 60 with fail
      obtain ⟨K1, HK1⟩ : ∃ U, Hid (U = M1 ++ keysL r) := ⟨_, Lib.hid rfl⟩
      have hDK : (decF r.keys.length).length ≤ 19 := decF_len 18 _ (by omega)
      have hK1 : K1.length ≤ 400 := by rw [HK1.out, List.length_append]; unfold keysL; split <;> simp <;> omega
      obtain ⟨kb, hkb⟩ : ∃ b, decide (0 < r.keys.length) = b := ⟨_, rfl⟩
      rw [hkb]
      have Hkb := Lib.hid hkb
      clear hkb
      go_cut [8] from 61 to 68 (fun v wx => v = .string ⟨K1.toArray⟩ ∧ Grow w4 wx)
      case first =>
        cases kb with
        | false =>
          have hk : r.keys = [] := by have := Hkb.out; simpa using this
          have e0 : K1 = M1 := by rw [HK1.out]; unfold keysL; simp [hk]
          subst e0
          clear hk
          go_wp2
          go_meet
          exact ⟨rfl, Grow.refl _⟩
        | true =>
          have hk : r.keys ≠ [] := List.length_pos_iff.1 (by have := Hkb.out; simpa using this)
          have HIK : Hid (Calls Tryz.prog 38 #[.int .i64 (r.keys.length : Int)] w4 fun e w' => e = .returned (.string ⟨(decF r.keys.length).toArray⟩) ∧ Grow w4 w') := Lib.hid (decimal_any r.keys.length (by omega) w4)
          obtain ⟨B1, HB1, lB1, eB1⟩ := cat_text M1 nKeys
          obtain ⟨B2, HB2, lB2, eB2⟩ := cat_text B1 (decF r.keys.length)
          obtain ⟨B3, HB3, lB3, eB3⟩ := cat_text B2 [13, 10]
          have h3 : B3 = K1 := by rw [HB3.out, HB2.out, HB1.out, HK1.out]; unfold keysL; rw [if_pos hk]; simp
          subst h3
          simp only [List.length_cons, List.length_nil] at lB1 lB2
          clear hk
          go_wp2_with fail
          (with_reducible refine HIK.out.mono ?_)
          rintro e w5 ⟨rfl, hg5⟩
          go_wp2
          go_meet
          exact ⟨rfl, hg5⟩
      case rest =>
      obtain ⟨rfl, hgc⟩ := hcut
      have Hg5 := Lib.hid (Hg4.out.trans hgc)
      have Hb5 := Lib.hid (Hb4.out.grow hgc)
      clear hgc c0 c1 c2 c4 c5 Hb4
      generalize wc = w5 at *
      have HIn : Hid (Calls Tryz.prog 38 #[.int .i64 (n : Int)] w5 fun e w' => e = .returned (.string ⟨(decF n).toArray⟩) ∧ Grow w5 w') := Lib.hid (decimal_any n (by omega) w5)
      rw [← HU1.out, ← HM1.out, ← HK1.out] at hsum
      have hDN : (decF n).length ≤ 19 := decF_len 18 _ (by omega)
      obtain ⟨L1, HL1, lL1, eL1⟩ := cat_text K1 nLen
      obtain ⟨L2, HL2, lL2, eL2⟩ := cat_text L1 (decF n)
      obtain ⟨HL, HHL, lHL, eHL⟩ := cat_text L2 [13, 10, 13, 10]
      simp only [List.length_cons, List.length_nil] at lL1 lL2 lHL
      have hHL : Hid (HL ++ bodyR r = headR id r ++ crlf2 ++ bodyR r) := Lib.hid (by rw [HHL.out, HL2.out, HL1.out, ← hsum.out]; simp)
      have hHLl : HL.length ≤ 1000 := by omega
      go_wp2_with fail
      (with_reducible refine HIn.out.mono ?_)
      rintro e w6 ⟨rfl, hg6⟩
      have Hg6 := Lib.hid (Hg5.out.trans hg6)
      have Hb6 := Lib.hid (Hb5.out.grow hg6)
      clear hg6
      obtain ⟨cap, w7, hconv, hbv7, hg7, cur, f, k1, k2, k3, k4, k5⟩ := conv_bytes ⟨HL.toArray⟩ (by show HL.toArray.size ≤ _; simp; omega) w6
      have hsz : (⟨HL.toArray⟩ : ByteArray).size = HL.length := by simp [ByteArray.size]
      rw [hsz] at hconv hbv7 k3 k5
      have hcm : cap ≤ maxLen := by
        obtain ⟨a, c, e1, _, hm, _⟩ := hbv7
        cases e1
        exact hm
      have hgw7 : Grow w w7 := HG.out.trans (Hg6.out.trans hg7)
      obtain ⟨v', w', r1, r2, r3⟩ := append_conv (w := w7) (xs := HL) k1 k2 k4 k5 hcm (Hb6.out.grow hg7) (by rw [← Hn.out]; omega)
      rw [hHL.out] at r2
      rw [← Hn.out] at r1
      have hWs : w.heap.size ≤ w6.heap.size := (HG.out.trans Hg6.out).size
      have hgf : Grow w w' := Below.grown hgw7 r3 hgw7.size (fun b hk => by cases hk; exact hWs)
      have Hrun := Lib.hid r1
      have Hbv := Lib.hid r2
      have Hgf := Lib.hid hgf
      clear hbv7 hg7 k1 k2 k3 k4 k5 hcm hgw7 r1 r2 r3 hWs hgf hsz
      go_upto_region 17 with fail
      clear lL1 lL2 lHL eL1 eL2 eHL
      go_wp2_with (at_builtin; refine wpList_append rfl rfl rfl rfl Hrun.out ?_)
      exact bodyPost_ret (v := .tuple #[v', .int .i64 0]) (by simp [results, Tryz.results26, go_sem]) rfl (.inl ⟨Hr.out, v', rfl, Hbv.out, Hgf.out⟩)

theorem resWrongR {id : Nat} {r : ResD} (hr : rightR r = false) {w : World} {kv dv : Value} (hI : ResIn w r kv dv) :
    Calls Tryz.prog 26 #[.int .u64 id, .agg #[.int .i64 r.status, .int .u64 r.upload, kv, .bool r.more, dv]] w (PrRPost id r w) := by
  have hB := heap_alloc_new w (resC r kv dv)
  have hg0 := Grow.alloc w (resC r kv dv)
  obtain ⟨ka, kc, rfl, _⟩ := hI.k
  obtain ⟨da, dc, rfl, _⟩ := hI.d
  go_enter Tryz.func26, Tryz.ntmps26
  go_upto_region 1 with fail
  have HR := Lib.hid (rightR_any (hI.grow hg0).k (hI.grow hg0).d hI.kl)
  rw [hr] at HR
  have Hr := Lib.hid hr
  obtain ⟨c0, c1, c2, c3, c4, c5⟩ := five hB
  generalize w.alloc (resC r (.slice ka r.keys.length kc) (.slice da r.data.length dc)) = W at *
  have Hg0 := Lib.hid hg0
  clear hB hI hg0 hr
  go_wp2_with fail
  (with_reducible refine HR.out.mono ?_)
  rintro e w1 ⟨rfl, hg1⟩
  go_wp2
  exact bodyPost_ret (v := .tuple #[.slice none 0 0, .int .i64 1]) (by simp [results, Tryz.results26, go_sem]) rfl (.inr ⟨Hr.out, rfl, Hg0.out.trans hg1⟩)

theorem printResultR_any {id : Nat} {r : ResD} (hid : id < 18446744073709551616) {w : World} (hb : Base w) {kv dv : Value} (hI : ResIn w r kv dv) :
    Calls Tryz.prog 26 #[.int .u64 id, .agg #[.int .i64 r.status, .int .u64 r.upload, kv, .bool r.more, dv]] w (PrRPost id r w) := by
  cases hr : rightR r with
  | true => exact resRightR hr hid hb hI
  | false => exact resWrongR hr hI
end Go.Proofs.YtdegmpimcappjaaGreatDoor

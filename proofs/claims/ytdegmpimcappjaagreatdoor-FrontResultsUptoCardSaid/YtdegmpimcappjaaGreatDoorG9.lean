/- Merged out of R8, R9, R91: helpers. -/
import Derived.Test.YtdegmpimcappjaaGreatDoorG6
import Derived.Test.YtdegmpimcappjaaGreatDoorG2
import Derived.Test.YtdegmpimcappjaaGreatDoorG3
/- The program's field of a response's head; Atoi. -/
namespace Go.Proofs.YtdegmpimcappjaaGreatDoor
open Go.RowKit Go.Gl Go.Front

theorem fieldP_drop {name a : List UInt8} {l : List (List UInt8)} {i : Nat} (h : l[i]? = some a) : fieldP name (l.drop i) = match cutP a name with
    | some v => v
    | none => fieldP name (l.drop (i + 1)) := by
  obtain ⟨hi, rfl⟩ := List.getElem?_eq_some_iff.1 h
  rw [List.drop_eq_getElem_cons hi]
  rfl

set_option maxRecDepth 100000 in
set_option maxHeartbeats 8000000 in
theorem field_any {w : World} {b : Nat} {name : List UInt8} {la : Option Addr} {lc : Nat} {l : List (List UInt8)} (hB : w.cell? ⟨b, 0, none⟩ = some (.slice la l.length lc)) (hK : Kv w (.slice la l.length lc) l) (hl : l.length ≤ 1000000000) :
    Calls Tryz.prog 87 #[.string ⟨name.toArray⟩, .pointer (some ⟨b, 0, none⟩)] w fun e w' => e = .returned (.string ⟨(fieldP name l).toArray⟩) ∧ w' = w := by
  obtain ⟨a', c', he, hkc⟩ := hK
  cases he
  have Hkc := Lib.hid hkc
  clear hkc
  go_enter Tryz.func87, Tryz.ntmps87
  go_wp2_with fail
  go_loopw [10] (fun iv wr => ∃ i : Nat, iv = .int .i64 i ∧ i ≤ l.length ∧ fieldP name l = fieldP name (l.drop i) ∧ wr = w) (fun iv _ => l.length - (intOf iv).toNat)
  case atStart => exact ⟨0, rfl, Nat.zero_le _, rfl, rfl⟩
  case round =>
    obtain ⟨i, rfl, hi, hf, hw⟩ := hrel
    have hw' := hw.symm
    subst hw'
    clear hw
    by_cases hlt : i < l.length
    · obtain ⟨x, hx⟩ : ∃ x, l[i]? = some x := ⟨l[i], by simp [hlt]⟩
      obtain ⟨bk, o, rfl, hbs, hc⟩ := Hkc.out.resolve_left (fun e => by rw [e] at hlt; simp at hlt)
      have hcn := hc i x hx
      have hi1 : (i : Int) < (l.length : Int) := by omega
      have hi0 : (0 : Int) ≤ (i : Int) := by omega
      have hwi : IntKind.i64.wrap ((i : Int) + 1) = (i : Int) + 1 := IntWalk.i64_in _ (by omega)
      have HPre := Lib.hid (prefix_any x name w)
      obtain ⟨p, hp⟩ : ∃ b, Lib.hasPrefix x name = b := ⟨_, rfl⟩
      rw [hp] at HPre
      rw [fieldP_drop hx] at hf
      cases p with
      | false =>
        have hc0 : cutP x name = none := by unfold cutP; rw [hp]; rfl
        rw [hc0] at hf
        have Hf := Lib.hid hf
        clear hf hp hc hx hc0
        go_wp2_with fail
        (with_reducible refine HPre.out.mono ?_)
        rintro e w1 ⟨rfl, hw⟩
        have hw' := hw.symm
        subst hw'
        clear hw
        go_wp2
        go_roundw
        case rel => exact ⟨i + 1, by simp, hlt, Hf.out, by trivial⟩
        case measure => simp [intOf]; omega
      | true =>
        have hc0 : cutP x name = some (Lib.trimPrefix x name) := by unfold cutP; rw [hp, if_pos rfl, trim_drop hp]
        rw [hc0] at hf
        have Hf : Hid (fieldP name l = Lib.trimPrefix x name) := Lib.hid hf
        clear hf hp hc hx hc0
        go_wp2_with fail
        (with_reducible refine HPre.out.mono ?_)
        rintro e w1 ⟨rfl, hw⟩
        have hw' := hw.symm
        subst hw'
        clear hw
        go_wp2
        go_ret
        exact ⟨by rw [Hf.out]; rfl, rfl⟩
    · have hi1 : ¬ ((i : Int) < (l.length : Int)) := by omega
      have Hf : Hid (fieldP name l = []) := Lib.hid (by rw [hf, List.drop_eq_nil_of_le (by omega)]; rfl)
      clear hf
      go_wp2
      go_ret
      exact ⟨by rw [Hf.out]; rfl, rfl⟩

/-- Atoi: what is asked of it here. -/
theorem atoi_any (s : List UInt8) {w : World} (hb : Base w) (hs : s.length ≤ 1000000000) :
    Calls Tryz.prog 88 #[.string ⟨s.toArray⟩] w fun e w' => (∃ (st : Int) (ev : Value), e = .returned (.tuple #[.int .i64 st, ev]) ∧ ∀ m : Nat, m ≤ 1000 → s = decF m → st = m) ∧ Grow w w' := by
  have hsz : (⟨s.toArray⟩ : ByteArray).size ≤ 1000000000 := by show s.toArray.size ≤ _; simp; omega
  cases ha : Lib.atoiAll s with
  | ok v =>
    refine (Tryz.strconv_Atoi_ok ⟨s.toArray⟩ (by omega) v ha w).mono ?_
    rintro e w' ⟨rfl, hw⟩
    refine ⟨⟨v, _, rfl, fun m hm he => ?_⟩, ?_⟩
    · rw [he, atoiAll_dec (by omega)] at ha
      cases ha
      rfl
    · rcases hw with rfl | ⟨t, rfl⟩
      · exact Grow.refl _
      · exact Lib.bytesWorld_below w _ t
  | range =>
    obtain ⟨ev, h1, h2⟩ := hb.ran
    refine (Tryz.strconv_Atoi_range ⟨s.toArray⟩ (by omega) ha ev w h1 h2).mono ?_
    rintro e w' ⟨N, rfl, _, _, hg⟩
    refine ⟨⟨_, _, rfl, fun m hm he => ?_⟩, hg⟩
    rw [he, atoiAll_dec (by omega)] at ha
    cases ha
  | _ =>
    obtain ⟨ev, h1, h2⟩ := hb.syn
    refine (Tryz.strconv_Atoi_syntax ⟨s.toArray⟩ (by omega) ha ev w h1 h2).mono ?_
    rintro e w' ⟨N, rfl, _, _, hg⟩
    refine ⟨⟨0, _, rfl, fun m hm he => ?_⟩, hg⟩
    rw [he, atoiAll_dec (by omega)] at ha
    cases ha
end Go.Proofs.YtdegmpimcappjaaGreatDoor

/- The block of a response that is read; what its reader tells. -/
namespace Go.Proofs.YtdegmpimcappjaaGreatDoor
open Go.RowKit Go.Gl Go.Front

/-- What the reader of a response's head and body tells. -/
def RlPost (hd tl : List UInt8) (w : World) (e : Ending) (w' : World) : Prop :=
  ∃ (i : Nat) (r : ResD) (kv dv : Value), e = .returned (.tuple #[.int .u64 i, .agg #[.int .i64 r.status, .int .u64 r.upload, kv, .bool r.more, dv]]) ∧ i < 18446744073709551616 ∧
    (∀ m : Nat, m ≤ 1000 → fieldP nGlc (Lib.split hd [13, 10]) = decF m → r.status = m) ∧ (∀ u, u < 2 ^ 64 → fieldP nId (Lib.split hd [13, 10]) = hex16 u → i = u) ∧
    (∀ u, u < 2 ^ 64 → fieldP nUp (Lib.split hd [13, 10]) = hex16 u → r.upload = u) ∧ (fieldP nUp (Lib.split hd [13, 10]) = [] → r.upload = 0) ∧
    r.more = decide (fieldP nMore (Lib.split hd [13, 10]) = yesL) ∧ r.keys = (if fieldP nKeys (Lib.split hd [13, 10]) = [] then [] else keysP tl) ∧ r.data = (if fieldP nKeys (Lib.split hd [13, 10]) = [] then tl else []) ∧
    ResIn w' r kv dv ∧ Grow w w'

theorem fieldP_len {name : List UInt8} {n : Nat} : ∀ {l : List (List UInt8)}, (∀ a ∈ l, a.length ≤ n) → (fieldP name l).length ≤ n
  | [], _ => Nat.zero_le _
  | a :: l, h => by
    have h1 := h a (List.mem_cons_self ..)
    unfold fieldP
    split
    · rename_i v hv
      have := congrArg List.length (cutP_some hv)
      rw [List.length_append] at this
      omega
    · exact fieldP_len (fun b hb => h b (List.mem_cons_of_mem _ hb))

theorem kv_block {W : World} {b : Nat} {l : List (List UInt8)} (h : W.heap[b]? = some (.cells (scells l).toArray 9)) : Kv W (.slice (some ⟨b, 0, none⟩) l.length l.length) l := by
  refine ⟨_, _, rfl, .inr ⟨b, 0, rfl, lt_of_getElem? h, fun j k hk => ?_⟩⟩
  have : W.cell? ⟨b, j, none⟩ = some (.string ⟨k.toArray⟩) := ck_cell h (by simp [scells, hk])
  rw [Nat.zero_add]
  exact this

theorem ownS_kv {B : Nat} {w : World} {v : Value} {l : List (List UInt8)} (h : OwnS B w v l) : Kv w v l := by
  rcases h with ⟨rfl, h0⟩ | ⟨g, cap, cur, rfl, hB, hg, hn, hc, hm, ht⟩
  · have : l = [] := List.eq_nil_of_length_eq_zero (by rw [← scells_len, h0]; rfl)
    subst this
    exact kv_nil _
  · rw [scells_len] at *
    refine ⟨_, _, rfl, .inr ⟨g, 0, rfl, lt_of_getElem? hg, fun j k hk => ?_⟩⟩
    have h1 : (scells l)[j]? = some (.string ⟨k.toArray⟩) := by simp [scells, hk]
    rw [← ht, List.getElem?_take] at h1
    split at h1
    · simp only [World.cell?, hg, Nat.zero_add]
      simpa using h1
    · cases h1

theorem noB5 {a b : Int} {m : Bool} {x y : Option Addr} {n1 c1 n2 c2 : Nat} : NoB #[.int .i64 a, .int .u64 b, .slice x n1 c1, .bool m, .slice y n2 c2] := by
  intro k n h
  match k, h with
  | 0, h => cases h
  | 1, h => cases h
  | 2, h => cases h
  | 3, h => cases h
  | 4, h => cases h
  | k + 5, h => simp at h

/-- The state of the reader: its result's block, the lines, the body. -/
structure Rs (w0 : World) (rb bl lb : Nat) (L : List (List UInt8)) (tv : Value) (tl : List UInt8) (cs : Array Value) (W : World) : Prop where
  hR : W.heap[rb]? = some (.cells cs 48)
  nb : NoB cs
  hn : W.heap[bl]? = some (.cells (scells L).toArray 9)
  hl : W.heap[lb]? = some (.cells #[.slice (some ⟨bl, 0, none⟩) L.length L.length] 46)
  hb : Base W
  ht : Bv W tv tl
  hg : Grow w0 W
  n1 : bl ≠ rb
  n2 : lb ≠ rb
  n8 : 8 ≤ rb
  n0 : w0.heap.size ≤ rb

theorem Rs.grow {w0 W W' : World} {rb bl lb : Nat} {L : List (List UInt8)} {tv : Value} {tl : List UInt8} {cs : Array Value} (h : Rs w0 rb bl lb L tv tl cs W) (hg : Grow W W') : Rs w0 rb bl lb L tv tl cs W' :=
  ⟨(hg.block _ (lt_of_getElem? h.hR)).trans h.hR, h.nb, (hg.block _ (lt_of_getElem? h.hn)).trans h.hn, (hg.block _ (lt_of_getElem? h.hl)).trans h.hl, h.hb.grow hg, h.ht.grow hg, h.hg.trans hg, h.n1, h.n2, h.n8, h.n0⟩

theorem Rs.store {w0 W : World} {rb bl lb : Nat} {L : List (List UInt8)} {tv : Value} {tl : List UInt8} {cs : Array Value} (h : Rs w0 rb bl lb L tv tl cs W) (j : Nat) (v : Value) (hv : NoB (cs.setIfInBounds j v)) :
    Rs w0 rb bl lb L tv tl (cs.setIfInBounds j v) (W.setCell ⟨rb, j, none⟩ v) :=
  ⟨setCell_heap h.hR j v, hv, (Below.heap_setCell W ⟨rb, j, none⟩ v bl h.n1).trans h.hn, (Below.heap_setCell W ⟨rb, j, none⟩ v lb h.n2).trans h.hl, h.hb.gx h.n8 (GX.store W j v), bv_store h.ht h.hR h.nb j v, Below.setCell h.hg (p := ⟨rb, j, none⟩) h.n0 v, h.n1, h.n2, h.n8, h.n0⟩

theorem Rs.line {w0 W : World} {rb bl lb : Nat} {L : List (List UInt8)} {tv : Value} {tl : List UInt8} {cs : Array Value} (h : Rs w0 rb bl lb L tv tl cs W) (hL : L.length ≤ 1000000000) (name : List UInt8) :
    Calls Tryz.prog 87 #[.string ⟨name.toArray⟩, .pointer (some ⟨lb, 0, none⟩)] W fun e w' => e = .returned (.string ⟨(fieldP name L).toArray⟩) ∧ w' = W :=
  field_any (ck_cell h.hl rfl) (kv_block h.hn) hL

theorem results_result {w : World} {t : Array Value} {rb : Nat} {r : ResD} {kv dv : Value} {k : Int} (h4 : t.getD 4 undef = .int .u64 k) (h5 : t.getD 5 undef = .pointer (some ⟨rb, 0, none⟩))
    (hW : w.heap[rb]? = some (.cells #[.int .i64 r.status, .int .u64 r.upload, kv, .bool r.more, dv] 48)) :
    (results Tryz.f61 t).run Tryz.prog w = .ok (.tuple #[.int .u64 k, .agg #[.int .i64 r.status, .int .u64 r.upload, kv, .bool r.more, dv]]) w := by
  obtain ⟨k0, k1, k2, k3, k4, _⟩ := five hW
  simp only [Array.getD_eq_getD_getElem?] at h4 h5
  simp [results, Tryz.results61, go_sem, h4, h5, k0, k1, k2, k3, k4]
end Go.Proofs.YtdegmpimcappjaaGreatDoor

/- The reader of a response's head and body. -/
namespace Go.Proofs.YtdegmpimcappjaaGreatDoor
open Go.RowKit Go.Gl Go.Front

theorem Rs.cell {w0 W : World} {rb bl lb : Nat} {L : List (List UInt8)} {tv : Value} {tl : List UInt8} {cs : Array Value} (h : Rs w0 rb bl lb L tv tl cs W) {j : Nat} {v : Value} (hj : cs[j]? = some v) : W.cell? ⟨rb, j, none⟩ = some v := ck_cell h.hR hj
theorem Rs.fz {w0 W : World} {rb bl lb : Nat} {L : List (List UInt8)} {tv : Value} {tl : List UInt8} {cs : Array Value} (h : Rs w0 rb bl lb L tv tl cs W) (j : Nat) : W.frozen? ⟨rb, j, none⟩ = false := by simp [World.frozen?, h.hR]

theorem uns_one {l : List UInt8} {e : Ending} (h : UnsPost l e) : ∃ (n : Nat) (b : Bool), e = .returned (.tuple #[.int .u64 n, .bool b]) ∧ n < 18446744073709551616 ∧ (∀ u, u < 2 ^ 64 → l = hex16 u → n = u) ∧ (l = [] → n = 0) := by
  unfold UnsPost at h
  cases hu : unhex l with
  | some u =>
    rw [hu] at h
    obtain ⟨h1, h2⟩ := unhex_iff.1 hu
    refine ⟨u, true, h, h1, fun v hv hl => ?_, fun hl => ?_⟩
    · exact hex16_inj h1 hv (h2.trans hl)
    · have : (hex16 u).length = 16 := hexF_len 16 u
      rw [h2, hl] at this
      simp at this
  | none =>
    rw [hu] at h
    obtain ⟨n, h1, h2, h3⟩ := h
    refine ⟨n, false, h3, h1, fun v hv hl => ?_, h2⟩
    rw [unhex_iff.2 ⟨hv, hl.symm⟩] at hu
    cases hu

theorem Rs.self {w0 W : World} {rb bl lb : Nat} {L : List (List UInt8)} {tv : Value} {tl : List UInt8} {a b : Int} {x y : Option Addr} {n1 c1 n2 c2 : Nat} {m : Bool}
    (h : Rs w0 rb bl lb L tv tl #[.int .i64 a, .int .u64 b, .slice x n1 c1, .bool m, .slice y n2 c2] W) :
    Rs w0 rb bl lb L tv tl #[.int .i64 a, .int .u64 b, .slice x n1 c1, .bool m, .slice y n2 c2] (((((W.setCell ⟨rb, 0, none⟩ (.int .i64 a)).setCell ⟨rb, 1, none⟩ (.int .u64 b)).setCell ⟨rb, 2, none⟩ (.slice x n1 c1)).setCell ⟨rb, 3, none⟩ (.bool m)).setCell ⟨rb, 4, none⟩ (.slice y n2 c2)).drew ∧
    ∀ (v : Value) (l : List UInt8), Bv W v l → Bv (((((W.setCell ⟨rb, 0, none⟩ (.int .i64 a)).setCell ⟨rb, 1, none⟩ (.int .u64 b)).setCell ⟨rb, 2, none⟩ (.slice x n1 c1)).setCell ⟨rb, 3, none⟩ (.bool m)).setCell ⟨rb, 4, none⟩ (.slice y n2 c2)).drew v l := by
  have h0 := h.store 0 (.int .i64 a) noB5
  have h1 := h0.store 1 (.int .u64 b) noB5
  have h2 := h1.store 2 (.slice x n1 c1) noB5
  have h3 := h2.store 3 (.bool m) noB5
  have h4 := h3.store 4 (.slice y n2 c2) noB5
  exact ⟨h4.grow (Grow.drew _), fun v l hv => (bv_store (bv_store (bv_store (bv_store (bv_store hv h.hR h.nb 0 _) h0.hR h0.nb 1 _) h1.hR h1.nb 2 _) h2.hR h2.nb 3 _) h3.hR h3.nb 4 _).grow (Grow.drew _)⟩

/-- The state of the reader's loop over the keys. -/
structure Rk (w0 : World) (B rb sb : Nat) (S : List (List UInt8)) (st : Int) (up : Nat) (mb : Bool) (kv : Value) (W : World) : Prop where
  hR : W.heap[rb]? = some (.cells #[.int .i64 st, .int .u64 up, kv, .bool mb, .slice none 0 0] 48)
  hS : W.heap[sb]? = some (.cells (scells S).toArray 9)
  hg : Grow w0 W
  hB : B ≤ W.heap.size
  r1 : rb < B
  s1 : sb < B
  ne : sb ≠ rb
  n0 : w0.heap.size ≤ rb

theorem Rk.below {w0 W W' : World} {B rb sb : Nat} {S : List (List UInt8)} {st : Int} {up : Nat} {mb : Bool} {kv : Value} (h : Rk w0 B rb sb S st up mb kv W) (hb : Below B W W') : Rk w0 B rb sb S st up mb kv W' :=
  ⟨(hb.block _ h.r1).trans h.hR, (hb.block _ h.s1).trans h.hS, Below.trans (B := w0.heap.size) h.hg (hb.mono (by have h1 := h.n0; have h2 := h.r1; omega)), Nat.le_trans h.hB hb.size, h.r1, h.s1, h.ne, h.n0⟩

theorem Rk.store {w0 W : World} {B rb sb : Nat} {S : List (List UInt8)} {st : Int} {up : Nat} {mb : Bool} {kv : Value} (h : Rk w0 B rb sb S st up mb kv W) (v : Value) : Rk w0 B rb sb S st up mb v (W.setCell ⟨rb, 2, none⟩ v) :=
  ⟨setCell_heap h.hR 2 v, (Below.heap_setCell W ⟨rb, 2, none⟩ v sb h.ne).trans h.hS, Below.setCell h.hg (p := ⟨rb, 2, none⟩) h.n0 v, by rw [set_size]; exact h.hB, h.r1, h.s1, h.ne, h.n0⟩

theorem ownS_store {B : Nat} {W : World} {kv v : Value} {l : List (List UInt8)} {rb : Nat} {cs : Array Value} (h : OwnS B W kv l) (hR : W.heap[rb]? = some (.cells cs 48)) (j : Nat) : OwnS B (W.setCell ⟨rb, j, none⟩ v) kv l :=
  h.keep fun g hg => Below.heap_setCell _ _ _ _ (fun e => h.apart hR (by decide) (by rw [hg, e]))

theorem Rk.self {w0 W : World} {B rb sb : Nat} {S : List (List UInt8)} {st : Int} {up : Nat} {mb : Bool} {x : Option Addr} {n c : Nat} (h : Rk w0 B rb sb S st up mb (.slice x n c) W) :
    (((((W.setCell ⟨rb, 0, none⟩ (.int .i64 st)).setCell ⟨rb, 1, none⟩ (.int .u64 up)).setCell ⟨rb, 2, none⟩ (.slice x n c)).setCell ⟨rb, 3, none⟩ (.bool mb)).setCell ⟨rb, 4, none⟩ (.slice none 0 0)).drew.heap[rb]? = some (.cells #[.int .i64 st, .int .u64 up, .slice x n c, .bool mb, .slice none 0 0] 48) ∧
    Grow w0 (((((W.setCell ⟨rb, 0, none⟩ (.int .i64 st)).setCell ⟨rb, 1, none⟩ (.int .u64 up)).setCell ⟨rb, 2, none⟩ (.slice x n c)).setCell ⟨rb, 3, none⟩ (.bool mb)).setCell ⟨rb, 4, none⟩ (.slice none 0 0)).drew ∧
    ∀ (kv : Value) (l : List (List UInt8)), OwnS B W kv l → OwnS B (((((W.setCell ⟨rb, 0, none⟩ (.int .i64 st)).setCell ⟨rb, 1, none⟩ (.int .u64 up)).setCell ⟨rb, 2, none⟩ (.slice x n c)).setCell ⟨rb, 3, none⟩ (.bool mb)).setCell ⟨rb, 4, none⟩ (.slice none 0 0)).drew kv l := by
  have h0 : (W.setCell ⟨rb, 0, none⟩ (.int .i64 st)).heap[rb]? = some (.cells #[.int .i64 st, .int .u64 up, .slice x n c, .bool mb, .slice none 0 0] 48) := setCell_heap h.hR 0 _
  have h1 : ((W.setCell ⟨rb, 0, none⟩ (.int .i64 st)).setCell ⟨rb, 1, none⟩ (.int .u64 up)).heap[rb]? = some (.cells #[.int .i64 st, .int .u64 up, .slice x n c, .bool mb, .slice none 0 0] 48) := setCell_heap h0 1 _
  have h2 : (((W.setCell ⟨rb, 0, none⟩ (.int .i64 st)).setCell ⟨rb, 1, none⟩ (.int .u64 up)).setCell ⟨rb, 2, none⟩ (.slice x n c)).heap[rb]? = some (.cells #[.int .i64 st, .int .u64 up, .slice x n c, .bool mb, .slice none 0 0] 48) := setCell_heap h1 2 _
  have h3 : ((((W.setCell ⟨rb, 0, none⟩ (.int .i64 st)).setCell ⟨rb, 1, none⟩ (.int .u64 up)).setCell ⟨rb, 2, none⟩ (.slice x n c)).setCell ⟨rb, 3, none⟩ (.bool mb)).heap[rb]? = some (.cells #[.int .i64 st, .int .u64 up, .slice x n c, .bool mb, .slice none 0 0] 48) := setCell_heap h2 3 _
  have h4 : (((((W.setCell ⟨rb, 0, none⟩ (.int .i64 st)).setCell ⟨rb, 1, none⟩ (.int .u64 up)).setCell ⟨rb, 2, none⟩ (.slice x n c)).setCell ⟨rb, 3, none⟩ (.bool mb)).setCell ⟨rb, 4, none⟩ (.slice none 0 0)).heap[rb]? = some (.cells #[.int .i64 st, .int .u64 up, .slice x n c, .bool mb, .slice none 0 0] 48) := setCell_heap h3 4 _
  have g0 := Below.setCell h.hg (p := ⟨rb, 0, none⟩) h.n0 (.int .i64 st)
  have g1 := Below.setCell g0 (p := ⟨rb, 1, none⟩) h.n0 (.int .u64 up)
  have g2 := Below.setCell g1 (p := ⟨rb, 2, none⟩) h.n0 (.slice x n c)
  have g3 := Below.setCell g2 (p := ⟨rb, 3, none⟩) h.n0 (.bool mb)
  have g4 := Below.setCell g3 (p := ⟨rb, 4, none⟩) h.n0 (.slice none 0 0)
  refine ⟨((Grow.drew _).block _ (lt_of_getElem? h4)).trans h4, Grow.trans g4 (Grow.drew _), fun kv l ho => (ownS_store (ownS_store (ownS_store (ownS_store (ownS_store ho h.hR 0) h0 1) h1 2) h2 3) h3 4).grow (Grow.drew _)⟩

def unescD (s : List UInt8) : List UInt8 := (unesc s).getD []

theorem uneV_d (s : List UInt8) : ∃ b, uneV (unesc s) = .tuple #[.string ⟨(unescD s).toArray⟩, .bool b] := by
  unfold unescD
  cases unesc s with
  | none => exact ⟨false, rfl⟩
  | some t => exact ⟨true, rfl⟩

set_option maxRecDepth 100000 in
set_option maxHeartbeats 16000000 in
theorem result_any {w : World} {hd tl : List UInt8} {tv : Value} (hb : Base w) (ht : Bv w tv tl) (h1 : hd.length ≤ 1000000) (h2 : tl.length ≤ 1000000) :
    Calls Tryz.prog 61 #[.string ⟨hd.toArray⟩, tv] w (RlPost hd tl w) := by
  obtain ⟨ta, tc, rfl⟩ := ht.slice
  have hmf : ∀ (fn : Fn) (first cap : Array Value) (w : World), (Instr.makeFunc fn first cap).run Tryz.prog w = .ok (.func fn first cap) w := fun _ _ _ _ => rfl
  have hg0 : Grow w (w.alloc (.cells #[.int .i64 0, .int .u64 0, .slice none 0 0, .bool false, .slice none 0 0] 48)) := Grow.alloc _ _
  have HSp := Lib.hid (split_any hd [13, 10] (hb.grow hg0) h1 (by decide))
  have hll : (Lib.split hd [13, 10]).length ≤ 1000001 := Nat.le_trans (split_len hd [13, 10] (by decide)) (by omega)
  have hlm : ∀ a ∈ Lib.split hd [13, 10], a.length ≤ 1000000 := fun a ha => Nat.le_trans (split_mem ha) h1
  obtain ⟨L, HL⟩ : ∃ L, Hid (L = Lib.split hd [13, 10]) := ⟨_, Lib.hid rfl⟩
  have HP : Hid (∀ e w', RlPost hd tl w e w' ↔ RlPost hd tl w e w') := Lib.hid (fun _ _ => Iff.rfl)
  rw [← HL.out] at HSp hll hlm
  have Hlm := Lib.hid hlm
  have hX : ((w.alloc (.cells #[.int .i64 0, .int .u64 0, .slice none 0 0, .bool false, .slice none 0 0] 48)).alloc (.cells (scells L).toArray 9)).heap.size = w.heap.size + 2 := by simp
  have hRs : Rs w w.heap.size (w.heap.size + 1) (w.heap.size + 2) L (.slice ta tl.length tc) tl #[.int .i64 0, .int .u64 0, .slice none 0 0, .bool false, .slice none 0 0]
      (((w.alloc (.cells #[.int .i64 0, .int .u64 0, .slice none 0 0, .bool false, .slice none 0 0] 48)).alloc (.cells (scells L).toArray 9)).alloc (.cells #[.slice (some ⟨w.heap.size + 1, 0, none⟩) L.length L.length] 46)) := by
    have e0 := heap_alloc_new w (.cells #[.int .i64 0, .int .u64 0, .slice none 0 0, .bool false, .slice none 0 0] 48)
    have e1 := heap_alloc_new (w.alloc (.cells #[.int .i64 0, .int .u64 0, .slice none 0 0, .bool false, .slice none 0 0] 48)) (.cells (scells L).toArray 9)
    have e2 := heap_alloc_new ((w.alloc (.cells #[.int .i64 0, .int .u64 0, .slice none 0 0, .bool false, .slice none 0 0] 48)).alloc (.cells (scells L).toArray 9)) (.cells #[.slice (some ⟨w.heap.size + 1, 0, none⟩) L.length L.length] 46)
    have hs0 : (w.alloc (.cells #[.int .i64 0, .int .u64 0, .slice none 0 0, .bool false, .slice none 0 0] 48)).heap.size = w.heap.size + 1 := by simp
    have g1 := Grow.alloc (w.alloc (.cells #[.int .i64 0, .int .u64 0, .slice none 0 0, .bool false, .slice none 0 0] 48)) (.cells (scells L).toArray 9)
    have g2 := Grow.alloc ((w.alloc (.cells #[.int .i64 0, .int .u64 0, .slice none 0 0, .bool false, .slice none 0 0] 48)).alloc (.cells (scells L).toArray 9)) (.cells #[.slice (some ⟨w.heap.size + 1, 0, none⟩) L.length L.length] 46)
    rw [hs0] at e1
    rw [hX] at e2
    have hg := hg0.trans (g1.trans g2)
    exact ⟨((g1.trans g2).block _ (lt_of_getElem? e0)).trans e0, noB5, (g2.block _ (lt_of_getElem? e1)).trans e1, e2, hb.grow hg, ht.grow hg, hg, by omega, by omega, hb.size, Nat.le_refl _⟩
  have hs0 : (w.alloc (.cells #[.int .i64 0, .int .u64 0, .slice none 0 0, .bool false, .slice none 0 0] 48)).heap.size = w.heap.size + 1 := by simp
  rw [hs0] at HSp
  have HRs := Lib.hid hRs
  clear hRs hb ht hlm hg0 h1
  go_enter Tryz.func61, Tryz.ntmps61
  go_wp2_with fail
  (with_reducible refine HSp.out.mono ?_)
  rintro e x1 ⟨rfl, rfl⟩
  go_upto_region 3 with fail
  generalize ((w.alloc (.cells #[.int .i64 0, .int .u64 0, .slice none 0 0, .bool false, .slice none 0 0] 48)).alloc (.cells (scells L).toArray 9)).alloc (.cells #[.slice (some ⟨w.heap.size + 1, 0, none⟩) L.length L.length] 46) = W0 at *
  generalize w.heap.size + 1 = bl at *
  generalize w.heap.size + 2 = lb at *
  obtain ⟨rb, Hrb⟩ : ∃ b, Hid (b = w.heap.size) := ⟨_, Lib.hid rfl⟩
  rw [← Hrb.out] at HRs ⊢
  clear hX hs0 HSp hmf
  have Hln := Lib.hid (fun name (W : World) (cs : Array Value) (h : Rs w rb bl lb L (.slice ta tl.length tc) tl cs W) => h.line (Nat.le_trans hll (by omega)) name)
  have HF1 := Lib.hid (Hln.out nGlc _ _ HRs.out)
  have hf1 := fieldP_len (name := nGlc) Hlm.out
  obtain ⟨F1, HF1e⟩ : ∃ F, Hid (F = fieldP nGlc L) := ⟨_, Lib.hid rfl⟩
  rw [← HF1e.out] at HF1 hf1
  have HA := Lib.hid (atoi_any F1 HRs.out.hb (by omega))
  clear hf1
  go_wp2_with fail
  (with_reducible refine HF1.out.mono ?_)
  rintro e x2 ⟨rfl, hw⟩
  have hw' := hw.symm
  subst hw'
  clear hw
  go_wp2_with fail
  (with_reducible refine HA.out.mono ?_)
  rintro e w1 ⟨⟨st, ev, rfl, hst⟩, hg1⟩
  have hr1 := HRs.out.grow hg1
  have c0 := hr1.cell (j := 0) rfl
  have c1 := hr1.fz 0
  have hr2 : Rs w rb bl lb L (.slice ta tl.length tc) tl #[.int .i64 st, .int .u64 0, .slice none 0 0, .bool false, .slice none 0 0] (w1.setCell ⟨rb, 0, none⟩ (.int .i64 st)) := hr1.store 0 (.int .i64 st) noB5
  have Hst := Lib.hid hst
  clear hst hr1 hg1 HA HF1 HRs
  go_upto_region 4 with fail
  generalize w1.setCell ⟨rb, 0, none⟩ (.int .i64 st) = W2 at *
  clear c0 c1
  have HR2 := Lib.hid hr2
  clear hr2
  -- the number
  have HF2 := Lib.hid (Hln.out nId _ _ HR2.out)
  have hf2 := fieldP_len (name := nId) Hlm.out
  obtain ⟨F2, HF2e⟩ : ∃ F, Hid (F = fieldP nId L) := ⟨_, Lib.hid rfl⟩
  rw [← HF2e.out] at HF2 hf2
  have HU2 := Lib.hid (unsixteen_any ⟨F2.toArray⟩ HR2.out.hb (by show F2.toArray.size ≤ _; simp; omega))
  clear hf2
  go_wp2_with fail
  (with_reducible refine HF2.out.mono ?_)
  rintro e x2 ⟨rfl, hw⟩
  have hw' := hw.symm
  subst hw'
  clear hw
  go_wp2_with fail
  (with_reducible refine HU2.out.mono ?_)
  rintro e w3 ⟨hu, hg3⟩
  obtain ⟨i, bo, rfl, hi1, hi2, _⟩ := uns_one hu
  have hr3 := HR2.out.grow hg3
  have Hi := Lib.hid (And.intro hi1 hi2)
  clear hu hi1 hi2 hg3 HU2 HF2 HR2
  go_upto_region 5 with fail
  have HR3 := Lib.hid hr3
  clear hr3
  -- the upload
  have HF3 := Lib.hid (Hln.out nUp _ _ HR3.out)
  have hf3 := fieldP_len (name := nUp) Hlm.out
  obtain ⟨F3, HF3e⟩ : ∃ F, Hid (F = fieldP nUp L) := ⟨_, Lib.hid rfl⟩
  rw [← HF3e.out] at HF3 hf3
  have HU3 := Lib.hid (unsixteen_any ⟨F3.toArray⟩ HR3.out.hb (by show F3.toArray.size ≤ _; simp; omega))
  clear hf3
  go_wp2_with fail
  (with_reducible refine HF3.out.mono ?_)
  rintro e x2 ⟨rfl, hw⟩
  have hw' := hw.symm
  subst hw'
  clear hw
  go_wp2_with fail
  (with_reducible refine HU3.out.mono ?_)
  rintro e w4 ⟨hu, hg4⟩
  obtain ⟨up, bo2, rfl, hu1, hu2, hu3⟩ := uns_one hu
  have hr4 := HR3.out.grow hg4
  have c0 := hr4.cell (j := 1) rfl
  have c1 := hr4.fz 1
  have hr5 : Rs w rb bl lb L (.slice ta tl.length tc) tl #[.int .i64 st, .int .u64 up, .slice none 0 0, .bool false, .slice none 0 0] (w4.setCell ⟨rb, 1, none⟩ (.int .u64 up)) := hr4.store 1 (.int .u64 up) noB5
  have Hu := Lib.hid (And.intro hu1 (And.intro hu2 hu3))
  clear hu hu1 hu2 hu3 hr4 hg4 HU3 HF3 HR3
  go_upto_region 6 with fail
  generalize w4.setCell ⟨rb, 1, none⟩ (.int .u64 up) = W5 at *
  clear c0 c1
  have HR5 := Lib.hid hr5
  clear hr5
  -- more
  have HF4 := Lib.hid (Hln.out nMore _ _ HR5.out)
  obtain ⟨F4, HF4e⟩ : ∃ F, Hid (F = fieldP nMore L) := ⟨_, Lib.hid rfl⟩
  rw [← HF4e.out] at HF4
  obtain ⟨mb, hmb⟩ : ∃ b, (F4 == [121, 101, 115]) = b := ⟨_, rfl⟩
  have c0 := HR5.out.cell (j := 3) rfl
  have c1 := HR5.out.fz 3
  go_wp2_with fail
  (with_reducible refine HF4.out.mono ?_)
  rintro e x2 ⟨rfl, hw⟩
  have hw' := hw.symm
  subst hw'
  clear hw
  have hr6 : Rs w rb bl lb L (.slice ta tl.length tc) tl #[.int .i64 st, .int .u64 up, .slice none 0 0, .bool mb, .slice none 0 0] (W5.setCell ⟨rb, 3, none⟩ (.bool mb)) := HR5.out.store 3 (.bool mb) noB5
  go_upto_region 7 with fail
  generalize W5.setCell ⟨rb, 3, none⟩ (.bool mb) = W6 at *
  have Hmb := Lib.hid hmb
  clear c0 c1 hmb HF4 HR5
  have HR6 := Lib.hid hr6
  clear hr6
  have HF5 := Lib.hid (Hln.out nKeys _ _ HR6.out)
  obtain ⟨F5, HF5e⟩ : ∃ F, Hid (F = fieldP nKeys L) := ⟨_, Lib.hid rfl⟩
  rw [← HF5e.out] at HF5
  obtain ⟨kb, hkb⟩ : ∃ b, (F5 == []) = b := ⟨_, rfl⟩
  have Hend : Hid (∀ (r : ResD) (kv dv : Value) (w' : World), r.status = st → r.upload = up → r.more = mb → r.keys = (if F5 = [] then [] else keysP tl) → r.data = (if F5 = [] then tl else []) → ResIn w' r kv dv → Grow w w' →
      RlPost hd tl w (.returned (.tuple #[.int .u64 i, .agg #[.int .i64 r.status, .int .u64 r.upload, kv, .bool r.more, dv]])) w') := Lib.hid (fun r kv dv w' e1 e2 e3 e4 e5 hI hg => by
    refine ⟨i, r, kv, dv, rfl, Hi.out.1, ?_, ?_, ?_, ?_, ?_, ?_, ?_, hI, hg⟩
    · rw [e1, ← HL.out, ← HF1e.out]; exact Hst.out
    · rw [← HL.out, ← HF2e.out]; exact Hi.out.2
    · rw [e2, ← HL.out, ← HF3e.out]; exact Hu.out.2.1
    · rw [e2, ← HL.out, ← HF3e.out]; exact Hu.out.2.2
    · rw [e3, ← HL.out, ← HF4e.out, ← Hmb.out]
      by_cases h : F4 = yesL
      · rw [h]; rfl
      · rw [decide_eq_false h, beq_eq_false_iff_ne]; exact h
    · rw [e4, ← HL.out, ← HF5e.out]
    · rw [e5, ← HL.out, ← HF5e.out])
  have Hup := Lib.hid Hu.out.1
  clear Hlm Hst Hi HL HF1e HF2e HF3e HF4e HF5e Hu Hmb
  go_wp2_with fail
  (with_reducible refine HF5.out.mono ?_)
  rintro e x2 ⟨rfl, hw⟩
  have hw' := hw.symm
  subst hw'
  clear hw
  go_upto_if 41 with fail
  have Hkb := Lib.hid hkb
  clear hkb HF5 Hln
  cases kb with
  | true =>
    have hF : F5 = [] := by simpa using Hkb.out
    have HC := Lib.hid (clone_any HR6.out.ht (by omega))
    go_wp2_with fail
    (with_reducible refine HC.out.mono ?_)
    rintro e w7 ⟨⟨v', rfl, hv'⟩, hg7⟩
    have hr7 := HR6.out.grow hg7
    obtain ⟨xa, xc, rfl⟩ := hv'.slice
    have c0 := hr7.cell (j := 4) rfl
    have c1 := hr7.fz 4
    have hr8 : Rs w rb bl lb L (.slice ta tl.length tc) tl #[.int .i64 st, .int .u64 up, .slice none 0 0, .bool mb, .slice xa tl.length xc] (w7.setCell ⟨rb, 4, none⟩ (.slice xa tl.length xc)) := hr7.store 4 (.slice xa tl.length xc) noB5
    have hv8 := bv_store hv' hr7.hR hr7.nb 4 (.slice xa tl.length xc)
    go_upto_region 9 with fail
    generalize w7.setCell ⟨rb, 4, none⟩ (.slice xa tl.length xc) = W8 at *
    clear c0 c1 hr7 hg7 hv' HC HR6
    obtain ⟨d0, d1, d2, d3, d4, d5⟩ := five (r := ⟨st, up, [], mb, tl⟩) hr8.hR
    have HR8 := Lib.hid hr8
    have Hv8 := Lib.hid hv8
    clear hr8 hv8
    have Hself := Lib.hid HR8.out.self
    go_region
    generalize (((((W8.setCell ⟨rb, 0, none⟩ (.int .i64 st)).setCell ⟨rb, 1, none⟩ (.int .u64 up)).setCell ⟨rb, 2, none⟩ (.slice none 0 0)).setCell ⟨rb, 3, none⟩ (.bool mb)).setCell ⟨rb, 4, none⟩ (.slice xa tl.length xc)).drew = W9 at *
    clear d0 d1 d2 d3 d4 d5
    have Hkv := Lib.hid (Hself.out.2 _ _ Hv8.out)
    go_wp2
    exact bodyPost_ret (results_result (r := ⟨st, up, [], mb, tl⟩) rfl rfl Hself.out.1.hR) rfl (Hend.out ⟨st, up, [], mb, tl⟩ _ _ _ rfl rfl rfl (by rw [if_pos hF]) (by rw [if_pos hF]) ⟨Hup.out, kv_nil _, Hkv.out, Nat.zero_le _⟩ Hself.out.1.hg)
  | false =>
    have hF : ¬ F5 = [] := by have := Hkb.out; simpa using this
    have Hcv := conv_text HR6.out.ht
    obtain ⟨TR, HTR⟩ : ∃ T, Hid (T = Lib.trimSuffix tl [10]) := ⟨_, Lib.hid rfl⟩
    have HT : Hid (Calls Tryz.prog 89 #[.string ⟨tl.toArray⟩, .string ⟨#[10]⟩] W6 fun e w' => e = .returned (.string ⟨TR.toArray⟩) ∧ w' = W6) := Lib.hid (by
      rw [HTR.out]
      exact Tryz.strings_TrimSuffix ⟨tl.toArray⟩ ⟨#[10]⟩ W6 (by show tl.toArray.size ≤ _; simp; omega))
    have hTl : TR.length ≤ 1000000 := by
      rw [HTR.out]
      unfold Lib.trimSuffix
      split
      · rw [List.length_take]; omega
      · omega
    have HS2 := Lib.hid (split_any TR [10] HR6.out.hb hTl (by decide))
    have hsl : (Lib.split TR [10]).length ≤ 1000001 := Nat.le_trans (split_len TR [10] (by decide)) (by omega)
    have hsm : ∀ a ∈ Lib.split TR [10], a.length ≤ 1000000 := fun a ha => Nat.le_trans (split_mem ha) hTl
    have hkp : keysP tl = (Lib.split TR [10]).map unescD := by rw [HTR.out]; rfl
    generalize Lib.split TR [10] = S at *
    have hkl : (keysP tl).length ≤ 1000001 := by rw [hkp, List.length_map]; exact hsl
    have Hkl := Lib.hid hkl
    have Hkp := Lib.hid hkp
    have Hsm := Lib.hid hsm
    clear hkp hsm hTl hkl
    go_wp2_with fail
    (with_reducible refine HT.out.mono ?_)
    rintro e x2 ⟨rfl, hw⟩
    have hw' := hw.symm
    subst hw'
    clear hw Hcv
    go_wp2_with fail
    (with_reducible refine HS2.out.mono ?_)
    rintro e x3 ⟨rfl, rfl⟩
    have hS6 := heap_alloc_new W6 (.cells (scells S).toArray 9)
    have hg6 := Grow.alloc W6 (.cells (scells S).toArray 9)
    have hr7 := HR6.out.grow hg6
    have hsz7 : (W6.alloc (.cells (scells S).toArray 9)).heap.size = W6.heap.size + 1 := by simp
    have hlr : rb < W6.heap.size := lt_of_getElem? HR6.out.hR
    obtain ⟨sb, Hsb⟩ : ∃ b, Hid (b = W6.heap.size) := ⟨_, Lib.hid rfl⟩
    obtain ⟨BB, HBB⟩ : ∃ b, Hid (b = W6.heap.size + 1) := ⟨_, Lib.hid rfl⟩
    have hRk : Rk w BB rb sb S st up mb (.slice none 0 0) (W6.alloc (.cells (scells S).toArray 9)) := ⟨hr7.hR, by rw [Hsb.out]; exact hS6, hr7.hg, by rw [hsz7, HBB.out]; exact Nat.le_refl _, by rw [HBB.out]; omega, by rw [HBB.out, Hsb.out]; omega, by rw [Hsb.out]; omega, hr7.n0⟩
    rw [← Hsb.out]
    generalize W6.alloc (.cells (scells S).toArray 9) = W7 at *
    have HRk := Lib.hid hRk
    clear hS6 hg6 hr7 hsz7 hlr hRk HR6 HS2 HT
    go_wp2_with fail
    go_loopw [52] (fun iv wr => ∃ (i : Nat) (kv : Value), iv = .int .i64 i ∧ i ≤ S.length ∧ Rk w BB rb sb S st up mb kv wr ∧ OwnS BB wr kv ((S.take i).map unescD)) (fun iv _ => S.length - (intOf iv).toNat)
    case atStart => exact ⟨0, _, rfl, Nat.zero_le _, HRk.out, row1_nil _ _ _⟩
    case round =>
      clear HRk
      obtain ⟨j, kv, rfl, hj, hrk, hown⟩ := hrel
      obtain ⟨ka, kc, rfl⟩ := hown.slice'
      by_cases hlt : j < S.length
      · obtain ⟨x, hx⟩ : ∃ x, S[j]? = some x := ⟨S[j], by simp [hlt]⟩
        have hcn : wr.cell? ⟨sb, j, none⟩ = some (.string ⟨x.toArray⟩) := ck_cell hrk.hS (by simp [scells, hx])
        have hi1 : (j : Int) < (S.length : Int) := by omega
        have hi0 : (0 : Int) ≤ (j : Int) := by omega
        have hwi : IntKind.i64.wrap ((j : Int) + 1) = (j : Int) + 1 := IntWalk.i64_in _ (by omega)
        have hxl := Hsm.out x (List.mem_of_getElem? hx)
        obtain ⟨bo3, hub⟩ := uneV_d x
        have HUn : Hid (Calls Tryz.prog 17 #[.string ⟨x.toArray⟩] wr fun e w' => e = .returned (.tuple #[.string ⟨(unescD x).toArray⟩, .bool bo3]) ∧ Grow wr w') := Lib.hid (by
          rw [← hub]
          exact unescape_any ⟨x.toArray⟩ wr (by show x.toArray.size ≤ _; simp; omega))
        have hsn : (S.take (j + 1)).map unescD = (S.take j).map unescD ++ [unescD x] := by
          obtain ⟨hi, rfl⟩ := List.getElem?_eq_some_iff.1 hx
          rw [List.take_succ_eq_append_getElem hi, List.map_append]
          rfl
        have Hsn := Lib.hid hsn
        have Hrk := Lib.hid hrk
        have Hown := Lib.hid hown
        clear hrk hown hsn hub hx
        go_wp2_with fail
        (with_reducible refine HUn.out.mono ?_)
        rintro e w8 ⟨rfl, hg8⟩
        have hrk8 := Hrk.out.below (hg8.mono Hrk.out.hB)
        have hown8 := Hown.out.grow hg8
        obtain ⟨v', w9, r1, r2, r3⟩ := append_str (x := unescD x) hown8 hrk8.hB (by rw [List.length_map, List.length_take]; omega)
        rw [← Hsn.out] at r2
        have hrk9 := hrk8.below r3
        obtain ⟨va, vc, rfl⟩ := r2.slice'
        have hlen : ((S.take (j + 1)).map unescD).length = j + 1 := by rw [List.length_map, List.length_take]; omega
        have hlen0 : ((S.take j).map unescD).length = j := by rw [List.length_map, List.length_take]; omega
        rw [hlen] at r1
        rw [hlen0] at r1
        have c2 : w8.cell? ⟨rb, 2, none⟩ = some (.slice ka j kc) := by
          have := ck_cell (j := 2) hrk8.hR rfl
          rw [hlen0] at this
          exact this
        have c3 : (w8.alloc (.cells #[.string ⟨(unescD x).toArray⟩] 9)).cell? ⟨rb, 2, none⟩ = some (.slice ka j kc) := by
          have h8 := hrk8.below ((Grow.alloc w8 (.cells #[.string ⟨(unescD x).toArray⟩] 9)).mono hrk8.hB)
          have := ck_cell (j := 2) h8.hR rfl
          rw [hlen0] at this
          exact this
        have d2 : w9.cell? ⟨rb, 2, none⟩ = some (.slice ka j kc) := by
          have := ck_cell (j := 2) hrk9.hR rfl
          rw [hlen0] at this
          exact this
        have d3 : w9.frozen? ⟨rb, 2, none⟩ = false := by simp [World.frozen?, hrk9.hR]
        have Hrel : Hid (Rk w BB rb sb S st up mb (.slice va (j + 1) vc) (w9.setCell ⟨rb, 2, none⟩ (.slice va (j + 1) vc)) ∧ OwnS BB (w9.setCell ⟨rb, 2, none⟩ (.slice va (j + 1) vc)) (.slice va (j + 1) vc) ((S.take (j + 1)).map unescD)) := Lib.hid (by
          rw [hlen] at r2
          exact ⟨hrk9.store _, ownS_store r2 hrk9.hR 2⟩)
        have Hr1 := Lib.hid r1
        clear r1 r2 r3 hrk8 hown8 hrk9 hlen hlen0 hg8
        go_wp2_with (at_builtin; refine wpList_append rfl rfl rfl rfl Hr1.out ?_)
        go_roundw
        case rel => exact ⟨j + 1, _, by simp, hlt, Hrel.out.1, Hrel.out.2⟩
        case measure => simp [intOf]; omega
      · have hi1 : ¬ ((j : Int) < (S.length : Int)) := by omega
        have hje : (S.take j).map unescD = keysP tl := by rw [Hkp.out, List.take_of_length_le (by omega)]
        rw [hje] at hown hrk
        have Hrk := Lib.hid hrk
        have Hown := Lib.hid hown
        clear hrk hown hje hj
        obtain ⟨d0, d1, d2, d3, d4, d5⟩ := five (r := ⟨st, up, keysP tl, mb, []⟩) Hrk.out.hR
        go_upto_region 16 with fail
        have Hself := Lib.hid Hrk.out.self
        go_region
        generalize (((((wr.setCell ⟨rb, 0, none⟩ (.int .i64 st)).setCell ⟨rb, 1, none⟩ (.int .u64 up)).setCell ⟨rb, 2, none⟩ (.slice ka (keysP tl).length kc)).setCell ⟨rb, 3, none⟩ (.bool mb)).setCell ⟨rb, 4, none⟩ (.slice none 0 0)).drew = W9 at *
        clear d0 d1 d2 d3 d4 d5
        have Hkv := Lib.hid (Hself.out.2.2 _ _ Hown.out)
        go_wp2
        exact bodyPost_ret (results_result (r := ⟨st, up, keysP tl, mb, []⟩) rfl rfl Hself.out.1) rfl (Hend.out ⟨st, up, keysP tl, mb, []⟩ _ _ _ rfl rfl rfl (by rw [if_neg hF]) (by rw [if_neg hF]) ⟨Hup.out, ownS_kv Hkv.out, bv_nil _, (by have := Hkl.out; show (keysP tl).length ≤ _; omega)⟩ Hself.out.2.1)
end Go.Proofs.YtdegmpimcappjaaGreatDoor

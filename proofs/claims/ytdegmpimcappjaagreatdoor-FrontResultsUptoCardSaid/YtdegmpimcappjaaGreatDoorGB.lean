/- Merged out of RB1, RB2, RB3: helpers. -/
import Derived.Test.YtdegmpimcappjaaGreatDoorG1
import Derived.Test.YtdegmpimcappjaaGreatDoorG2
import Derived.Test.YtdegmpimcappjaaGreatDoorFB
import Derived.Test.YtdegmpimcappjaaGreatDoorG9
import Derived.Test.YtdegmpimcappjaaGreatDoorFC
import Derived.Test.YtdegmpimcappjaaGreatDoorGA
/- The document's field of a response's head. -/
namespace Go.Proofs.YtdegmpimcappjaaGreatDoor
open Go.RowKit Go.Gl Go.Front

def fldV (p : List UInt8 × List UInt8 × Bool) : Value := .tuple #[.string ⟨p.1.toArray⟩, .string ⟨p.2.1.toArray⟩, .bool p.2.2]

theorem cutP_no {s p : List UInt8} (h : ¬ p.length ≤ s.length ∨ (s.take p.length == p) = false) : cutP s p = none := by
  unfold cutP Lib.hasPrefix
  rw [if_neg]
  intro hp
  obtain ⟨r, rfl⟩ := List.isPrefixOf_iff_prefix.1 hp
  rcases h with h | h
  · rw [List.length_append] at h; omega
  · simp at h

theorem cutP_yes {s p : List UInt8} (h : (s.take p.length == p) = true) : cutP s p = some (s.drop p.length) := by
  have e : s.take p.length = p := by simpa using h
  unfold cutP Lib.hasPrefix
  rw [if_pos]
  refine List.isPrefixOf_iff_prefix.2 ⟨s.drop p.length, ?_⟩
  have h2 := List.take_append_drop p.length s
  rw [e] at h2
  exact h2

set_option maxRecDepth 100000 in
theorem field_doc (s p : List UInt8) (w : World) (hs : s.length ≤ 1000000) (hp : p.length ≤ 1000) : Calls Tryz.prog 62 #[.string ⟨s.toArray⟩, .string ⟨p.toArray⟩] w fun e w' => e = .returned (fldV (fieldR s p)) ∧ Grow w w' := by
  have hsz : (⟨s.toArray⟩ : ByteArray).size = s.length := by simp [ByteArray.size]
  have hpz : (⟨p.toArray⟩ : ByteArray).size = p.length := by simp [ByteArray.size]
  go_enter Tryz.func62, Tryz.ntmps62
  by_cases hl : p.length ≤ s.length
  · have f1 : ¬ ((s.length : Int) < (p.length : Int)) := by omega
    have f2 : (p.length : Int) ≤ (s.length : Int) := by omega
    have e1 := ext_to s p.length
    have e2 := ext_from s p.length
    obtain ⟨b, hb⟩ : ∃ b, (s.take p.length == p) = b := ⟨_, rfl⟩
    have HU := Lib.hid (until_any (s.drop p.length) [13, 10] w (by rw [List.length_drop]; omega) (by decide))
    cases b with
    | false =>
      have HF : Hid (fieldR s p = ([], s, false)) := Lib.hid (by unfold fieldR; rw [cutP_no (.inr hb)])
      go_wp2
      refine bodyPost_ret (v := fldV ([], s, false)) (by simp [results, Tryz.results62, go_sem, fldV]) rfl ⟨by rw [HF.out], Grow.refl _⟩
    | true =>
      have HF : Hid (fieldR s p = match untilR (s.drop p.length) [13, 10] with
        | none => ([], s, false)
        | some (v, rest) => (v, rest, true)) := Lib.hid (by unfold fieldR; rw [cutP_yes hb]; dsimp only; cases untilR (s.drop p.length) [13, 10] <;> rfl)
      have hb2 : s.take p.length = p := by simpa using hb
      have hb3 : ((s.take p.length) != p) = false := by rw [bne, hb]; rfl
      cases hu : untilR (s.drop p.length) [13, 10] with
      | none =>
        rw [hu] at HF HU
        have HU2 : Hid (Calls Tryz.prog 85 #[.string ⟨(s.drop p.length).toArray⟩, .string ⟨#[13, 10]⟩] w fun e w' => e = .returned (.tuple #[.string ⟨#[]⟩, .string ⟨#[]⟩, .bool false]) ∧ Grow w w') := HU
        clear HU hu
        go_wp2_with fail
        (with_reducible refine HU2.out.mono ?_)
        rintro e w1 ⟨rfl, hg1⟩
        go_wp2
        refine bodyPost_ret (v := fldV ([], s, false)) (by simp [results, Tryz.results62, go_sem, fldV]) rfl ⟨by rw [HF.out], hg1⟩
      | some q =>
        obtain ⟨v, rest⟩ := q
        rw [hu] at HF HU
        have HU2 : Hid (Calls Tryz.prog 85 #[.string ⟨(s.drop p.length).toArray⟩, .string ⟨#[13, 10]⟩] w fun e w' => e = .returned (.tuple #[.string ⟨v.toArray⟩, .string ⟨rest.toArray⟩, .bool true]) ∧ Grow w w') := HU
        clear HU hu
        go_wp2_with fail
        (with_reducible refine HU2.out.mono ?_)
        rintro e w1 ⟨rfl, hg1⟩
        go_wp2
        refine bodyPost_ret (v := fldV (v, rest, true)) (by simp [results, Tryz.results62, go_sem, fldV]) rfl ⟨by rw [HF.out], hg1⟩
  · have f1 : (s.length : Int) < (p.length : Int) := by omega
    have HF : Hid (fieldR s p = ([], s, false)) := Lib.hid (by unfold fieldR; rw [cutP_no (.inl hl)])
    go_wp2
    refine bodyPost_ret (v := fldV ([], s, false)) (by simp [results, Tryz.results62, go_sem, fldV]) rfl ⟨by rw [HF.out], Grow.refl _⟩
end Go.Proofs.YtdegmpimcappjaaGreatDoor

/- The document's lines of keys. -/
namespace Go.Proofs.YtdegmpimcappjaaGreatDoor
open Go.RowKit Go.Gl Go.Front

/-- How far the keys have been read. -/
def LinInv (w : World) (s t : List UInt8) (lv : Value) (wr : World) : Prop :=
  ∃ (acc : List (List UInt8)) (k : Nat), t.length < k ∧ linedR s = (linedF k t).map (acc ++ ·) ∧ acc.length + t.length ≤ s.length ∧ OwnS w.heap.size wr lv acc ∧ Grow w wr

/-- What the reader of the lines tells. -/
def LinPost (o : Option (List (List UInt8))) (n : Int) (w : World) (e : Ending) (w' : World) : Prop :=
  Grow w w' ∧ match o with
  | some l => l.length ≤ 1000000 ∧ ∃ v, e = .returned (.tuple #[v, .bool ((l.length : Int) == n)]) ∧ OwnS w.heap.size w' v l
  | none => e = .returned (.tuple #[.slice none 0 0, .bool false])

def strSz : Value → Nat
  | .string b => b.size
  | _ => 0

theorem lined_end {k : Nat} (h : 0 < k) : linedF k [] = some [] := by
  cases k with
  | zero => omega
  | succ k => rw [linedF, if_pos rfl]

theorem map_acc {o : Option (List (List UInt8))} {acc : List (List UInt8)} {x : List UInt8} : (o.map (x :: ·)).map (acc ++ ·) = o.map ((acc ++ [x]) ++ ·) := by
  cases o <;> simp

set_option maxRecDepth 100000 in
set_option maxHeartbeats 1000000 in
theorem lined_any {s : List UInt8} {n : Int} {w : World} (hs : s.length ≤ 1000000) : Calls Tryz.prog 65 #[.string ⟨s.toArray⟩, .int .i64 n] w (LinPost (linedR s) n w) := by
  go_enter Tryz.func65, Tryz.ntmps65
  go_wp2_with fail
  go_loopw [0, 6] (fun sv lv wr => ∃ t : List UInt8, sv = .string ⟨t.toArray⟩ ∧ LinInv w s t lv wr) (fun sv _ _ => strSz sv)
  case atStart => exact ⟨s, rfl, [], s.length + 1, by omega, by simp [linedR], by simp, row1_nil _ _ _, Grow.refl _⟩
  case round =>
    obtain ⟨t, rfl, acc, k, hk, hl, hlen, hown, hg⟩ := hrel
    obtain ⟨la, lc, rfl⟩ := hown.slice'
    have htz : (⟨t.toArray⟩ : ByteArray).size = t.length := by simp [ByteArray.size]
    have Hown := Lib.hid hown
    have Hg := Lib.hid hg
    have Hl := Lib.hid hl
    have Hlen := Lib.hid hlen
    clear hown hg hl hlen
    by_cases ht : t = []
    · have h1 : (t == []) = true := by rw [ht]; rfl
      have h2 : (t != []) = false := by rw [ht]; rfl
      have HE : Hid (linedR s = some acc) := Lib.hid (by rw [Hl.out, ht, lined_end (by omega)]; simp)
      go_wp2
      exact bodyPost_ret (v := .tuple #[.slice la acc.length lc, .bool ((acc.length : Int) == n)]) (by simp [results, Tryz.results65, go_sem]) rfl ⟨Hg.out, by rw [HE.out]; exact ⟨by have := Hlen.out; omega, _, rfl, Hown.out⟩⟩
    · have h1 : (t == []) = false := by simpa using ht
      have h2 : (t != []) = true := by rw [bne, h1]; rfl
      obtain ⟨k, rfl⟩ : ∃ j, k = j + 1 := ⟨k - 1, by omega⟩
      have HU := Lib.hid (until_any t [10] wr (by have := Hlen.out; omega) (by decide))
      cases hu : untilR t [10] with
      | none =>
        rw [hu] at HU
        have HE : Hid (linedR s = none) := Lib.hid (by rw [Hl.out, linedF, if_neg ht, hu]; rfl)
        have HU2 : Hid (Calls Tryz.prog 85 #[.string ⟨t.toArray⟩, .string ⟨#[10]⟩] wr fun e w' => e = .returned (.tuple #[.string ⟨#[]⟩, .string ⟨#[]⟩, .bool false]) ∧ Grow wr w') := HU
        clear HU hu
        go_wp2_with fail
        (with_reducible refine HU2.out.mono ?_)
        rintro e w1 ⟨rfl, hg1⟩
        go_wp2
        exact bodyPost_ret (v := .tuple #[.slice none 0 0, .bool false]) (by simp [results, Tryz.results65, go_sem]) rfl ⟨Hg.out.trans hg1, by rw [HE.out]⟩
      | some q =>
        obtain ⟨a, rest⟩ := q
        rw [hu] at HU
        obtain ⟨hal, _⟩ := untilR_len hu
        have hless := until_less hu (by decide)
        have HU2 : Hid (Calls Tryz.prog 85 #[.string ⟨t.toArray⟩, .string ⟨#[10]⟩] wr fun e w' => e = .returned (.tuple #[.string ⟨a.toArray⟩, .string ⟨rest.toArray⟩, .bool true]) ∧ Grow wr w') := HU
        have HA : Hid (∀ W, Calls Tryz.prog 18 #[.string ⟨a.toArray⟩] W fun e w' => e = .returned (uneV (unesc a)) ∧ Grow W w') := Lib.hid (fun W => unescapeR_any ⟨a.toArray⟩ W (by show a.toArray.size ≤ _; simp; have := Hlen.out; omega))
        have HL1 : Hid (linedR s = ((match unesc a with
          | none => none
          | some x => (linedF k rest).map (x :: ·)) : Option (List (List UInt8))).map (acc ++ ·)) := Lib.hid (by rw [Hl.out, linedF, if_neg ht, hu]; dsimp only; cases unesc a <;> rfl)
        clear HU hu hal
        cases hx : unesc a with
        | none =>
          rw [hx] at HA HL1
          have HE : Hid (linedR s = none) := HL1
          have HA2 : Hid (∀ W, Calls Tryz.prog 18 #[.string ⟨a.toArray⟩] W fun e w' => e = .returned (.tuple #[.string ⟨#[]⟩, .bool false]) ∧ Grow W w') := HA
          clear HA hx
          go_wp2_with fail
          (with_reducible refine HU2.out.mono ?_)
          rintro e w1 ⟨rfl, hg1⟩
          go_wp2_with fail
          (with_reducible refine (HA2.out _).mono ?_)
          rintro e w2 ⟨rfl, hg2⟩
          go_wp2
          exact bodyPost_ret (v := .tuple #[.slice none 0 0, .bool false]) (by simp [results, Tryz.results65, go_sem]) rfl ⟨(Hg.out.trans hg1).trans hg2, by rw [HE.out]⟩
        | some x =>
          rw [hx] at HA HL1
          have HA2 : Hid (∀ W, Calls Tryz.prog 18 #[.string ⟨a.toArray⟩] W fun e w' => e = .returned (.tuple #[.string ⟨x.toArray⟩, .bool true]) ∧ Grow W w') := HA
          have HE : Hid (linedR s = (linedF k rest).map ((acc ++ [x]) ++ ·)) := Lib.hid (by rw [HL1.out]; exact map_acc)
          clear HA hx HL1
          go_wp2_with fail
          (with_reducible refine HU2.out.mono ?_)
          rintro e w1 ⟨rfl, hg1⟩
          go_wp2_with fail
          (with_reducible refine (HA2.out _).mono ?_)
          rintro e w2 ⟨rfl, hg2⟩
          have hgw := (Hg.out.trans hg1).trans hg2
          obtain ⟨v', w3, r1, r2, r3⟩ := append_str (x := x) (Hown.out.grow (hg1.trans hg2)) hgw.size (by have := Hlen.out; omega)
          obtain ⟨va, vc, rfl⟩ := r2.slice'
          have Hr1 := Lib.hid r1
          have Hinv : Hid (LinInv w s rest (.slice va (acc ++ [x]).length vc) w3) := Lib.hid ⟨acc ++ [x], k, by omega, HE.out, by rw [List.length_append]; have := Hlen.out; simp; omega, r2, Below.trans hgw r3⟩
          have hrz : (⟨rest.toArray⟩ : ByteArray).size = rest.length := by simp [ByteArray.size]
          clear r1 r2 r3 hgw hg1 hg2
          generalize (acc ++ [x]).length = NN at *
          go_wp2_with (at_builtin; refine wpList_append rfl rfl rfl rfl Hr1.out ?_)
          go_roundw
          case rel => exact ⟨rest, rfl, Hinv.out⟩
          case measure => simp [strSz, hrz, htz]; omega
end Go.Proofs.YtdegmpimcappjaaGreatDoor

/- The document's ParseResult. -/
namespace Go.Proofs.YtdegmpimcappjaaGreatDoor
open Go.RowKit Go.Gl Go.Front

theorem hexed_one (l : List UInt8) : ∃ (n : Nat) (b : Bool), hexedV (unhex l) = .tuple #[.int .u64 n, .bool b] ∧ n < 18446744073709551616 ∧ ∀ u, u < 2 ^ 64 → l = hex16 u → n = u := by
  cases hu : unhex l with
  | some u =>
    obtain ⟨h1, h2⟩ := unhex_iff.1 hu
    exact ⟨u, true, rfl, h1, fun v hv hl => hex16_inj h1 hv (h2.trans hl)⟩
  | none =>
    refine ⟨0, false, rfl, by omega, fun v hv hl => ?_⟩
    rw [unhex_iff.2 ⟨hv, hl.symm⟩] at hu
    cases hu

theorem small_one {l : List UInt8} {e : Ending} (h : SmallPost l e) : ∃ (n : Int) (b : Bool), e = .returned (.tuple #[.int .i64 n, .bool b]) ∧ ∀ m : Nat, m ≤ 1000 → l = decF m → n = m := by
  unfold SmallPost at h
  cases hs : smallR l with
  | none =>
    rw [hs] at h
    obtain ⟨n, _, rfl⟩ := h
    refine ⟨n, false, rfl, fun m hm hl => ?_⟩
    rw [hl, smallR_decF (by omega)] at hs
    cases hs
  | some k =>
    rw [hs] at h
    obtain ⟨_, rfl⟩ := h
    refine ⟨k, true, rfl, fun m hm hl => ?_⟩
    rw [hl, smallR_decF (by omega)] at hs
    cases hs
    rfl

theorem fieldR_len {s p v r : List UInt8} {o : Bool} (h : fieldR s p = (v, r, o)) : v.length ≤ s.length ∧ r.length ≤ s.length := by
  unfold fieldR at h
  cases hc : cutP s p with
  | none =>
    rw [hc] at h
    cases h
    exact ⟨Nat.zero_le _, Nat.le_refl _⟩
  | some q =>
    rw [hc] at h
    have h1 := congrArg List.length (cutP_some hc)
    rw [List.length_append] at h1
    dsimp only at h
    cases hu : untilR q [13, 10] with
    | none =>
      rw [hu] at h
      cases h
      exact ⟨Nat.zero_le _, Nat.le_refl _⟩
    | some x =>
      obtain ⟨a, b⟩ := x
      rw [hu] at h
      cases h
      have := untilR_len hu
      omega

theorem results_prR {w : World} {t : Array Value} {rb : Nat} {r : ResD} {kv dv : Value} {i : Nat} {e : Int} (h2 : t.getD 2 undef = .int .u64 i) (h3 : t.getD 3 undef = .pointer (some ⟨rb, 0, none⟩)) (h4 : t.getD 4 undef = .int .i64 e)
    (hW : w.heap[rb]? = some (.cells #[.int .i64 r.status, .int .u64 r.upload, kv, .bool r.more, dv] 48)) :
    (results Tryz.f30 t).run Tryz.prog w = .ok (.tuple #[.int .u64 i, .agg #[.int .i64 r.status, .int .u64 r.upload, kv, .bool r.more, dv], .int .i64 e]) w := by
  obtain ⟨k0, k1, k2, k3, k4, _⟩ := five hW
  simp only [Array.getD_eq_getD_getElem?] at h2 h3 h4
  simp [results, Tryz.results30, go_sem, h2, h3, h4, k0, k1, k2, k3, k4]

/-- The state of the reader: the two results' blocks, what it reads. -/
structure Rd (w0 : World) (rb r2 : Nat) (bv : Value) (l : List UInt8) (cs : Array Value) (W : World) : Prop where
  hZ : W.heap[rb]? = some (.cells #[.int .i64 0, .int .u64 0, .slice none 0 0, .bool false, .slice none 0 0] 48)
  hR : W.heap[r2]? = some (.cells cs 48)
  nb : NoB cs
  hb : Base W
  ht : Bv W bv l
  hg : Grow w0 W
  n1 : rb ≠ r2
  n8 : 8 ≤ r2
  n2 : w0.heap.size ≤ r2
  n0 : w0.heap.size ≤ rb

theorem Rd.grow {w0 W W' : World} {rb r2 : Nat} {bv : Value} {l : List UInt8} {cs : Array Value} (h : Rd w0 rb r2 bv l cs W) (hg : Grow W W') : Rd w0 rb r2 bv l cs W' :=
  ⟨(hg.block _ (lt_of_getElem? h.hZ)).trans h.hZ, (hg.block _ (lt_of_getElem? h.hR)).trans h.hR, h.nb, h.hb.grow hg, h.ht.grow hg, h.hg.trans hg, h.n1, h.n8, h.n2, h.n0⟩

theorem Rd.store {w0 W : World} {rb r2 : Nat} {bv : Value} {l : List UInt8} {cs : Array Value} (h : Rd w0 rb r2 bv l cs W) (j : Nat) (v : Value) (hv : NoB (cs.setIfInBounds j v)) : Rd w0 rb r2 bv l (cs.setIfInBounds j v) (W.setCell ⟨r2, j, none⟩ v) :=
  ⟨(Below.heap_setCell W ⟨r2, j, none⟩ v rb h.n1).trans h.hZ, setCell_heap h.hR j v, hv, h.hb.gx h.n8 (GX.store W j v), bv_store h.ht h.hR h.nb j v, Below.setCell h.hg (p := ⟨r2, j, none⟩) h.n2 v, h.n1, h.n8, h.n2, h.n0⟩

theorem Rd.cell {w0 W : World} {rb r2 : Nat} {bv : Value} {l : List UInt8} {cs : Array Value} (h : Rd w0 rb r2 bv l cs W) {j : Nat} {v : Value} (hj : cs[j]? = some v) : W.cell? ⟨r2, j, none⟩ = some v := ck_cell h.hR hj
theorem Rd.fz {w0 W : World} {rb r2 : Nat} {bv : Value} {l : List UInt8} {cs : Array Value} (h : Rd w0 rb r2 bv l cs W) (j : Nat) : W.frozen? ⟨r2, j, none⟩ = false := by simp [World.frozen?, h.hR]

theorem Rd.none {w0 W : World} {rb r2 : Nat} {bv : Value} {l : List UInt8} {cs : Array Value} (h : Rd w0 rb r2 bv l cs W) (hn : parseRes l = none) :
    (((((W.setCell ⟨rb, 0, none⟩ (.int .i64 0)).setCell ⟨rb, 1, none⟩ (.int .u64 0)).setCell ⟨rb, 2, none⟩ (.slice none 0 0)).setCell ⟨rb, 3, none⟩ (.bool false)).setCell ⟨rb, 4, none⟩ (.slice none 0 0)).heap[rb]? = some (.cells #[.int .i64 0, .int .u64 0, .slice none 0 0, .bool false, .slice none 0 0] 48) ∧
    PrsPost (parseRes l) w0 (.returned (.tuple #[.int .u64 0, .agg #[.int .i64 0, .int .u64 0, .slice none 0 0, .bool false, .slice none 0 0], .int .i64 14])) (((((W.setCell ⟨rb, 0, none⟩ (.int .i64 0)).setCell ⟨rb, 1, none⟩ (.int .u64 0)).setCell ⟨rb, 2, none⟩ (.slice none 0 0)).setCell ⟨rb, 3, none⟩ (.bool false)).setCell ⟨rb, 4, none⟩ (.slice none 0 0)) := by
  refine ⟨set5 h.hZ _ _ _ _ _, ?_⟩
  rw [hn]
  exact ⟨rfl, set5_grow h.hg h.n0 _ _ _ _ _⟩

set_option maxRecDepth 1000000 in
set_option maxHeartbeats 16000000 in
theorem parseResultR_any {w : World} {v : Value} {l : List UInt8} (hb : Base w) (h : Bv w v l) (hl : l.length ≤ 1000000) : Calls Tryz.prog 30 #[v] w (PrsPost (parseRes l) w) := by
  obtain ⟨a, c, rfl, h1, h2, h3, h4⟩ := id h
  have hRd : Rd w w.heap.size (w.heap.size + 1) (.slice a l.length c) l #[.int .i64 0, .int .u64 0, .slice none 0 0, .bool false, .slice none 0 0] ((w.alloc (.cells #[.int .i64 0, .int .u64 0, .slice none 0 0, .bool false, .slice none 0 0] 48)).alloc (.cells #[.int .i64 0, .int .u64 0, .slice none 0 0, .bool false, .slice none 0 0] 48)) := by
    have e0 := heap_alloc_new w (.cells #[.int .i64 0, .int .u64 0, .slice none 0 0, .bool false, .slice none 0 0] 48)
    have e1 := heap_alloc_new (w.alloc (.cells #[.int .i64 0, .int .u64 0, .slice none 0 0, .bool false, .slice none 0 0] 48)) (.cells #[.int .i64 0, .int .u64 0, .slice none 0 0, .bool false, .slice none 0 0] 48)
    have g0 := Grow.alloc w (.cells #[.int .i64 0, .int .u64 0, .slice none 0 0, .bool false, .slice none 0 0] 48)
    have g1 := Grow.alloc (w.alloc (.cells #[.int .i64 0, .int .u64 0, .slice none 0 0, .bool false, .slice none 0 0] 48)) (.cells #[.int .i64 0, .int .u64 0, .slice none 0 0, .bool false, .slice none 0 0] 48)
    have hs0 : (w.alloc (.cells #[.int .i64 0, .int .u64 0, .slice none 0 0, .bool false, .slice none 0 0] 48)).heap.size = w.heap.size + 1 := by simp
    rw [hs0] at e1
    exact ⟨(g1.block _ (lt_of_getElem? e0)).trans e0, e1, noB5, hb.grow (g0.trans g1), h.grow (g0.trans g1), g0.trans g1, by omega, by have := hb.size; omega, by omega, Nat.le_refl _⟩
  have HRd := Lib.hid hRd
  clear hRd hb h h4
  go_enter Tryz.func30, Tryz.ntmps30
  go_upto_region 2 with fail
  generalize (w.alloc (.cells #[.int .i64 0, .int .u64 0, .slice none 0 0, .bool false, .slice none 0 0] 48)).alloc (.cells #[.int .i64 0, .int .u64 0, .slice none 0 0, .bool false, .slice none 0 0] 48) = W0 at *
  obtain ⟨r2, Hr2⟩ : ∃ b, Hid (b = w.heap.size + 1) := ⟨_, Lib.hid rfl⟩
  rw [← Hr2.out] at HRd ⊢
  obtain ⟨rb, Hrb⟩ : ∃ b, Hid (b = w.heap.size) := ⟨_, Lib.hid rfl⟩
  rw [← Hrb.out] at HRd ⊢
  have HE := Lib.hid (ends_any HRd.out.ht (by omega))
  have hge := Lib.index_ge l crlf2
  obtain ⟨at', hat⟩ : ∃ k, Lib.index l crlf2 = k := ⟨_, rfl⟩
  rw [hat] at hge
  have Hat := Lib.hid hat
  by_cases hn : at' = -1
  · subst hn
    have he : endsV l = -1 := by unfold endsV; rw [hat, if_pos rfl]
    rw [he] at HE
    clear hat he hge
    go_wp2_with fail
    (try go_at_call 51)
    (with_reducible refine HE.out.mono ?_)
    rintro e x2 ⟨rfl, hw⟩
    have hw' := hw.symm
    subst hw'
    clear hw
    obtain ⟨c0, c1, c2, c3, c4, c5⟩ := five (r := ⟨0, 0, [], false, []⟩) HRd.out.hZ
    go_wp2
    obtain ⟨q1, q2⟩ := HRd.out.none (parse_no Hat.out)
    exact bodyPost_ret (results_prR (r := ⟨0, 0, [], false, []⟩) (i := 0) rfl rfl rfl q1) rfl q2
  · obtain ⟨k, rfl⟩ : ∃ k : Nat, at' = (k : Int) := ⟨at'.toNat, by omega⟩
    obtain ⟨N, hN⟩ : ∃ N, N = k + 4 := ⟨_, rfl⟩
    have he : endsV l = (N : Int) := by unfold endsV; rw [hat, if_neg hn]; omega
    rw [he] at HE
    have Hc0 := Lib.hid (idx_parts hat)
    have hk2 := Hc0.out.2.2
    have f1 : ¬ ((N : Int) < 0) := by omega
    have HNk := Lib.hid hN
    have hN4 : N ≤ l.length := by omega
    clear hat he hN hk2
    go_wp2_with fail
    (try go_at_call 51)
    (with_reducible refine HE.out.mono ?_)
    rintro e x2 ⟨rfl, hw⟩
    have hw' := hw.symm
    subst hw'
    clear hw HE
    obtain ⟨hcut1, hcut2, hk2⟩ := Hc0.out
    have hN := HNk.out
    by_cases hbig : 1000 < N
    · have f2 : (1000 : Int) < (N : Int) := by omega
      have HN : Hid (parseRes l = Option.none) := Lib.hid (parse_long hcut1 (by rw [Hat.out, hcut2]) (by omega) (by omega))
      obtain ⟨c0, c1, c2, c3, c4, c5⟩ := five (r := ⟨0, 0, [], false, []⟩) HRd.out.hZ
      clear hcut1 hcut2 hN hk2
      go_wp2
      obtain ⟨q1, q2⟩ := HRd.out.none HN.out
      exact bodyPost_ret (results_prR (r := ⟨0, 0, [], false, []⟩) (i := 0) rfl rfl rfl q1) rfl q2
    · have f2 : ¬ ((1000 : Int) < (N : Int)) := by omega
      obtain ⟨bk, off, c', ha, _, _⟩ := bv_some HRd.out.ht (by intro e; rw [e] at hk2; simp at hk2)
      cases ha
      have hN2 : N ≤ l.length := by omega
      have hN3 : N ≤ c := by omega
      have htk : l.take N = l.take k ++ crlf2 := by
        conv => lhs; rw [hcut1]
        rw [List.take_left' (by rw [List.length_append, hcut2, hN]; rfl)]
      have hconv := conv_text (bv_take HRd.out.ht hN2)
      obtain ⟨TL, hTL⟩ : ∃ x, x = l.drop N := ⟨_, rfl⟩
      rw [← hN, ← hTL] at hcut1
      have Hcut := Lib.hid (And.intro hcut1 hcut2)
      have HTL := Lib.hid hTL
      obtain ⟨S, hS⟩ : ∃ x, l.take N = x := ⟨_, rfl⟩
      have hSl : S.length ≤ 1000 := by rw [← hS, List.length_take]; omega
      rw [hS] at hconv htk
      have Htk := Lib.hid htk
      obtain ⟨⟨v1, s1, o1⟩, hp1⟩ : ∃ p, fieldR S nGlc = p := ⟨_, rfl⟩
      obtain ⟨hv1, hs1⟩ := fieldR_len hp1
      have HF1 : Hid (∀ W, Calls Tryz.prog 62 #[.string ⟨S.toArray⟩, .string ⟨#[71, 76, 67, 47, 49, 32]⟩] W fun e w' => e = .returned (.tuple #[.string ⟨v1.toArray⟩, .string ⟨s1.toArray⟩, .bool o1]) ∧ Grow W w') := Lib.hid (fun W => by
        have := field_doc S nGlc W (by omega) (by decide)
        rw [hp1] at this
        exact this)
      have Hp1 := Lib.hid hp1
      clear hcut1 hcut2 hTL hS htk hp1 hn hge hk2 hN
      go_wp2_with fail
      (try go_at_call 62)
      (with_reducible refine (HF1.out _).mono ?_)
      rintro e w1 ⟨rfl, hg1⟩
      have HR1 := Lib.hid (HRd.out.grow hg1)
      clear hg1 HRd HF1 hconv
      cases o1 with
      | false =>
        have HN : Hid (parseRes l = Option.none) := Lib.hid (parse_doc_no Hcut.out.1 (by rw [Hat.out, Hcut.out.2]) (by rw [← Htk.out]; exact Hp1.out))
        obtain ⟨c0, c1, c2, c3, c4, c5⟩ := five (r := ⟨0, 0, [], false, []⟩) HR1.out.hZ
        go_wp2
        obtain ⟨q1, q2⟩ := HR1.out.none HN.out
        exact bodyPost_ret (results_prR (r := ⟨0, 0, [], false, []⟩) (i := 0) rfl rfl rfl q1) rfl q2
      | true =>
      have HS1 : Hid (∀ W, Calls Tryz.prog 63 #[.string ⟨v1.toArray⟩] W fun e w' => SmallPost v1 e ∧ w' = W) := Lib.hid (fun W => smallR_any ⟨v1.toArray⟩ W (by show v1.toArray.size ≤ _; simp; omega))
      go_wp2_with fail
      (try go_at_call 63)
      (with_reducible refine (HS1.out _).mono ?_)
      rintro e x2 ⟨hsp, hw⟩
      have hw' := hw.symm
      subst hw'
      clear hw
      obtain ⟨st, b1, rfl, hst⟩ := small_one hsp
      have c0 := HR1.out.cell (j := 0) rfl
      have c1 := HR1.out.fz 0
      have hr2 : Rd w rb r2 (.slice (some ⟨bk, off, none⟩) l.length c) l #[.int .i64 st, .int .u64 0, .slice none 0 0, .bool false, .slice none 0 0] (w1.setCell ⟨r2, 0, none⟩ (.int .i64 st)) := HR1.out.store 0 (.int .i64 st) noB5
      have Hst := Lib.hid hst
      clear hst hsp HS1 HR1
      go_upto_region 10 with fail
      generalize w1.setCell ⟨r2, 0, none⟩ (.int .i64 st) = W2 at *
      have HR2 := Lib.hid hr2
      clear c0 c1 hr2
      obtain ⟨⟨v2, s2, o2⟩, hp2⟩ : ∃ p, fieldR s1 nId = p := ⟨_, rfl⟩
      obtain ⟨hv2, hs2⟩ := fieldR_len hp2
      have HF2 : Hid (∀ W, Calls Tryz.prog 62 #[.string ⟨s1.toArray⟩, .string ⟨#[105, 100, 58, 32]⟩] W fun e w' => e = .returned (.tuple #[.string ⟨v2.toArray⟩, .string ⟨s2.toArray⟩, .bool o2]) ∧ Grow W w') := Lib.hid (fun W => by
        have := field_doc s1 nId W (by omega) (by decide)
        rw [hp2] at this
        exact this)
      have Hp2 := Lib.hid hp2
      clear hp2
      go_wp2_with fail
      (try go_at_call 62)
      (with_reducible refine (HF2.out _).mono ?_)
      rintro e w3 ⟨rfl, hg⟩
      have HR3 := Lib.hid (HR2.out.grow hg)
      clear hg HR2 HF2
      go_upto_region 11 with fail
      obtain ⟨id', b2, hx2, hi1, hi2⟩ := hexed_one v2
      have HX2 : Hid (∀ W, Calls Tryz.prog 64 #[.string ⟨v2.toArray⟩] W fun e w' => e = .returned (.tuple #[.int .u64 id', .bool b2]) ∧ w' = W) := Lib.hid (fun W => by rw [← hx2]; exact hexed_any ⟨v2.toArray⟩ W (by show v2.toArray.size ≤ _; simp; omega))
      have Hi := Lib.hid (And.intro hi1 hi2)
      clear hi1 hi2 hx2
      go_wp2_with fail
      (try go_at_call 64)
      (with_reducible refine (HX2.out _).mono ?_)
      rintro e x2 ⟨rfl, hw⟩
      have hw' := hw.symm
      subst hw'
      clear hw HX2
      go_upto_region 12 with fail
      obtain ⟨⟨v3, s3, o3⟩, hp3⟩ : ∃ p, fieldR s2 nUp = p := ⟨_, rfl⟩
      obtain ⟨hv3, hs3⟩ := fieldR_len hp3
      have HF3 : Hid (∀ W, Calls Tryz.prog 62 #[.string ⟨s2.toArray⟩, .string ⟨#[117, 112, 108, 111, 97, 100, 58, 32]⟩] W fun e w' => e = .returned (.tuple #[.string ⟨v3.toArray⟩, .string ⟨s3.toArray⟩, .bool o3]) ∧ Grow W w') := Lib.hid (fun W => by
        have := field_doc s2 nUp W (by omega) (by decide)
        rw [hp3] at this
        exact this)
      have Hp3 := Lib.hid hp3
      clear hp3
      go_wp2_with fail
      (try go_at_call 62)
      (with_reducible refine (HF3.out _).mono ?_)
      rintro e w4 ⟨rfl, hg⟩
      have HR4 := Lib.hid (HR3.out.grow hg)
      clear hg HR3 HF3
      go_upto_if 62 with fail
      go_cut [] from 63 to 68 (fun wx => ∃ up : Nat, up < 18446744073709551616 ∧ (o3 = true → ∀ u, u < 2 ^ 64 → v3 = hex16 u → up = u) ∧ (o3 = false → up = 0) ∧ Rd w rb r2 (.slice (some ⟨bk, off, none⟩) l.length c) l #[.int .i64 st, .int .u64 up, .slice none 0 0, .bool false, .slice none 0 0] wx)
      case first =>
        cases o3 with
        | true =>
          obtain ⟨up, b3, hx3, hu1, hu2⟩ := hexed_one v3
          have HX3 : Hid (∀ W, Calls Tryz.prog 64 #[.string ⟨v3.toArray⟩] W fun e w' => e = .returned (.tuple #[.int .u64 up, .bool b3]) ∧ w' = W) := Lib.hid (fun W => by rw [← hx3]; exact hexed_any ⟨v3.toArray⟩ W (by show v3.toArray.size ≤ _; simp; omega))
          clear hx3
          go_wp2_with fail
          (try go_at_call 64)
          (with_reducible refine (HX3.out _).mono ?_)
          rintro e x2 ⟨rfl, hw⟩
          have hw' := hw.symm
          subst hw'
          clear hw HX3
          have c0 := HR4.out.cell (j := 1) rfl
          have c1 := HR4.out.fz 1
          go_wp2
          go_meet
          exact ⟨up, hu1, (fun _ => hu2), (fun h => by cases h), HR4.out.store 1 (.int .u64 up) noB5⟩
        | false =>
          go_wp2
          go_meet
          exact ⟨0, by omega, (fun h => by cases h), (fun _ => rfl), HR4.out⟩
      case rest =>
      obtain ⟨up, hu1, hu2, hu3, hR5⟩ := hcut
      have HR5 := Lib.hid hR5
      have Hu := Lib.hid (And.intro hu1 (And.intro hu2 hu3))
      clear hR5 hu1 hu2 hu3 HR4
      obtain ⟨⟨v4, s4, o4⟩, hp4⟩ : ∃ p, fieldR s3 nMore = p := ⟨_, rfl⟩
      obtain ⟨hv4, hs4⟩ := fieldR_len hp4
      have HF4 : Hid (∀ W, Calls Tryz.prog 62 #[.string ⟨s3.toArray⟩, .string ⟨#[109, 111, 114, 101, 58, 32]⟩] W fun e w' => e = .returned (.tuple #[.string ⟨v4.toArray⟩, .string ⟨s4.toArray⟩, .bool o4]) ∧ Grow W w') := Lib.hid (fun W => by
        have := field_doc s3 nMore W (by omega) (by decide)
        rw [hp4] at this
        exact this)
      have Hp4 := Lib.hid hp4
      clear hp4
      go_wp2_with fail
      (try go_at_call 62)
      (with_reducible refine (HF4.out _).mono ?_)
      rintro e w5 ⟨rfl, hg⟩
      have HR6 := Lib.hid (HR5.out.grow hg)
      have c0 := HR6.out.cell (j := 3) rfl
      have c1 := HR6.out.fz 3
      have hr7 : Rd w rb r2 (.slice (some ⟨bk, off, none⟩) l.length c) l #[.int .i64 st, .int .u64 up, .slice none 0 0, .bool o4, .slice none 0 0] (w5.setCell ⟨r2, 3, none⟩ (.bool o4)) := HR6.out.store 3 (.bool o4) noB5
      clear hg HR5 HF4
      go_upto_region 16 with fail
      generalize w5.setCell ⟨r2, 3, none⟩ (.bool o4) = W7 at *
      have HR7 := Lib.hid hr7
      clear c0 c1 hr7 HR6
      obtain ⟨⟨v5, s5, o5⟩, hp5⟩ : ∃ p, fieldR s4 nKeys = p := ⟨_, rfl⟩
      obtain ⟨hv5, hs5⟩ := fieldR_len hp5
      have HF5 : Hid (∀ W, Calls Tryz.prog 62 #[.string ⟨s4.toArray⟩, .string ⟨#[107, 101, 121, 115, 58, 32]⟩] W fun e w' => e = .returned (.tuple #[.string ⟨v5.toArray⟩, .string ⟨s5.toArray⟩, .bool o5]) ∧ Grow W w') := Lib.hid (fun W => by
        have := field_doc s4 nKeys W (by omega) (by decide)
        rw [hp5] at this
        exact this)
      have Hp5 := Lib.hid hp5
      clear hp5
      go_wp2_with fail
      (try go_at_call 62)
      (with_reducible refine (HF5.out _).mono ?_)
      rintro e w8 ⟨rfl, hg⟩
      have HR8 := Lib.hid (HR7.out.grow hg)
      clear hg HR7 HF5
      go_upto_if 82 with fail
      go_cut [12, 13, 14] from 83 to 103 (fun gv _ _ wx => ∃ (r : ResD) (kv dv : Value) (good : Bool), gv = .bool good ∧ r.status = st ∧ r.upload = up ∧ r.more = o4 ∧ (o5 = false → r.keys = [] ∧ r.data = TL ∧ good = true) ∧ (o5 = true → ∀ q : List (List UInt8), q.length ≤ 1000 → v5 = decF q.length → linedR TL = some q → r.keys = q ∧ r.data = [] ∧ good = true) ∧ Rd w rb r2 (.slice (some ⟨bk, off, none⟩) l.length c) l #[.int .i64 r.status, .int .u64 r.upload, kv, .bool r.more, dv] wx ∧ ResIn wx r kv dv)
      case first =>
        have hNl : (N : Int) ≤ (l.length : Int) := by omega
        have hTLl : TL.length ≤ 1000000 := by rw [HTL.out, List.length_drop]; omega
        cases o5 with
        | true =>
          have HS5 : Hid (∀ W, Calls Tryz.prog 63 #[.string ⟨v5.toArray⟩] W fun e w' => SmallPost v5 e ∧ w' = W) := Lib.hid (fun W => smallR_any ⟨v5.toArray⟩ W (by show v5.toArray.size ≤ _; simp; omega))
          go_wp2_with fail
          (try go_at_call 63)
          (with_reducible refine (HS5.out _).mono ?_)
          rintro e x2 ⟨hsp, hw⟩
          have hw' := hw.symm
          subst hw'
          clear hw
          obtain ⟨k5, b5, rfl, hk5⟩ := small_one hsp
          have Hk5 := Lib.hid hk5
          have hcv := conv_text (bv_dropI HR8.out.ht hN2)
          obtain ⟨ad, had⟩ : ∃ ad, (if c = N then (some ⟨bk, off, none⟩ : Option Addr) else some ⟨bk, off + N, none⟩) = ad := ⟨_, rfl⟩
          rw [had, ← HTL.out] at hcv
          have HLi := Lib.hid (lined_any (s := TL) (n := k5) (w := w8) hTLl)
          obtain ⟨ol, hol⟩ : ∃ o, linedR TL = o := ⟨_, rfl⟩
          rw [hol] at HLi
          have Hol := Lib.hid hol
          clear hsp hk5 HS5 hol
          go_wp2_with fail
          (try go_at_call 65)
          clear had
          (with_reducible refine HLi.out.mono ?_)
          rintro e w9 ⟨hg9, hlp⟩
          have hr9 := HR8.out.grow hg9
          have c0 := hr9.cell (j := 2) rfl
          have c1 := hr9.fz 2
          have HR9 := Lib.hid hr9
          clear hr9 hcv HLi
          cases ol with
          | none =>
            dsimp only at hlp
            subst hlp
            go_wp2
            go_meet
            exact ⟨⟨st, up, [], o4, []⟩, .slice none 0 0, .slice none 0 0, false, rfl, rfl, rfl, rfl, (fun h => by cases h), (fun _ q _ _ h => by rw [Hol.out] at h; cases h), HR9.out.store 2 (.slice none 0 0) noB5, ⟨Hu.out.1, kv_nil _, bv_nil _, Nat.zero_le _⟩⟩
          | some ll =>
            obtain ⟨hll, v9, rfl, hown⟩ := hlp
            obtain ⟨va, vc, rfl⟩ := hown.slice'
            have hkv : Kv (w9.setCell ⟨r2, 2, none⟩ (.slice va ll.length vc)) (.slice va ll.length vc) ll := kv_other (ownS_kv hown) HR9.out.hR noS5 (by simp) fun _ hc => Below.heap_setCell _ _ _ _ hc
            have Hkv := Lib.hid hkv
            have Hll := Lib.hid hll
            clear hown hkv hll
            go_wp2
            go_meet
            refine ⟨⟨st, up, ll, o4, []⟩, .slice va ll.length vc, .slice none 0 0, ((ll.length : Int) == k5), rfl, rfl, rfl, rfl, (fun h => by cases h), (fun _ q hq h5 h => ?_), HR9.out.store 2 (.slice va ll.length vc) noB5, ⟨Hu.out.1, Hkv.out, bv_nil _, by have := Hll.out; show ll.length ≤ _; omega⟩⟩
            rw [Hol.out] at h
            cases h
            refine ⟨rfl, rfl, ?_⟩
            rw [Hk5.out _ hq h5]
            simp
        | false =>
          have hbd := bv_dropI HR8.out.ht hN2
          obtain ⟨ad, had⟩ : ∃ ad, (if c = N then some (⟨bk, off, none⟩ : Addr) else some ⟨bk, off + N, none⟩) = ad := ⟨_, rfl⟩
          rw [had, ← HTL.out] at hbd
          have htll : l.length - N = TL.length := by rw [HTL.out, List.length_drop]
          rw [htll] at hbd
          obtain ⟨v', w9, r1, r3, r4⟩ := append_fresh hbd (by omega)
          obtain ⟨va, vc, rfl⟩ := r3.slice
          have hr9 := HR8.out.grow r4
          have c0 := hr9.cell (j := 4) rfl
          have c1 := hr9.fz 4
          have hbv := bv_store r3 hr9.hR hr9.nb 4 (.slice va TL.length vc)
          have Hrun := Lib.hid r1
          have HR9 := Lib.hid hr9
          have Hbv := Lib.hid hbv
          clear r1 r3 r4 hr9 hbv hbd
          go_wp2_with (at_builtin; refine wpList_append rfl rfl rfl rfl Hrun.out ?_)
          go_meet
          exact ⟨⟨st, up, [], o4, TL⟩, .slice none 0 0, .slice va TL.length vc, true, rfl, rfl, rfl, rfl, (fun _ => ⟨rfl, rfl, rfl⟩), (fun h => by cases h), HR9.out.store 4 (.slice va TL.length vc) noB5, ⟨Hu.out.1, kv_nil _, Hbv.out, Nat.zero_le _⟩⟩
      case rest =>
      obtain ⟨r, kv, dv, good, rfl, hq1, hq2, hq3, hq4, hq5, hR9, hres⟩ := hcut
      have HQ : Hid (parseRes l = if good = true ∧ printR id' r = some l then some (id', r) else Option.none) := Lib.hid (parse_doc Hcut.out.1 (by rw [Hat.out, Hcut.out.2]) (by rw [← Htk.out]; exact Hp1.out) Hp2.out Hp3.out Hp4.out Hp5.out Hi.out.1 hres.up
        (fun m hm h => by rw [hq1]; exact Hst.out m hm h) (fun u hu h => Hi.out.2 u hu h) (fun h u hu h' => by rw [hq2]; exact Hu.out.2.1 h u hu h') (fun h => by rw [hq2]; exact Hu.out.2.2 h) hq3 hq4 hq5)
      have HPR := Lib.hid (printResultR_any Hi.out.1 hR9.hb hres)
      obtain ⟨q0, q1, q2, q3, q4, q5⟩ := five hR9.hR
      have HR9 := Lib.hid hR9
      have Hres := Lib.hid hres
      clear hq1 hq2 hq3 hq4 hq5 hR9 hres HR8 Hst Hu Hp1 Hp2 Hp3 Hp4 Hp5 Hcut Htk HTL
      go_wp2_with fail
      (try go_at_call 26)
      (with_reducible refine HPR.out.mono ?_)
      intro e w10 he
      clear q0 q1 q2 q3 q4 q5
      rcases he with ⟨hR, v, rfl, hv, hg3⟩ | ⟨hR, rfl, hg3⟩
      · have hpe : printR id' r = some (headR id' r ++ crlf2 ++ bodyR r) := by
          unfold printR
          rw [hR, if_pos rfl]
        generalize headR id' r ++ crlf2 ++ bodyR r = Q at *
        obtain ⟨va, vc, rfl⟩ := hv.slice
        have hr10 := HR9.out.grow hg3
        have cv1 := conv_text hv
        have cv2 := conv_text hr10.ht
        have hres := Hres.out.grow hg3
        obtain ⟨eb, heb⟩ : ∃ b, (Q == l) = b := ⟨_, rfl⟩
        have hen : (Q != l) = !eb := by rw [bne, heb]
        have HR10 := Lib.hid hr10
        have Hpe := Lib.hid hpe
        have Heb := Lib.hid heb
        obtain ⟨gb, hgb⟩ : ∃ b, (good && eb) = b := ⟨_, rfl⟩
        cases good with
        | false =>
          have HN : Hid (parseRes l = Option.none) := Lib.hid (by rw [HQ.out, if_neg]; rintro ⟨h, _⟩; cases h)
          obtain ⟨c0, c1, c2, c3, c4, c5⟩ := five (r := ⟨0, 0, [], false, []⟩) HR10.out.hZ
          clear hr10 hpe heb hres hgb hR hv
          go_wp2
          obtain ⟨q1, q2⟩ := HR10.out.none HN.out
          exact bodyPost_ret (results_prR (r := ⟨0, 0, [], false, []⟩) (i := 0) rfl rfl rfl q1) rfl q2
        | true =>
          cases eb with
          | false =>
            have HN : Hid (parseRes l = Option.none) := Lib.hid (by
              rw [HQ.out, if_neg]
              rintro ⟨_, h⟩
              rw [Hpe.out] at h
              have := Heb.out
              rw [Option.some.inj h] at this
              simp at this)
            obtain ⟨c0, c1, c2, c3, c4, c5⟩ := five (r := ⟨0, 0, [], false, []⟩) HR10.out.hZ
            clear hr10 hpe hres hgb hR hv
            go_wp2
            obtain ⟨q1, q2⟩ := HR10.out.none HN.out
            exact bodyPost_ret (results_prR (r := ⟨0, 0, [], false, []⟩) (i := 0) rfl rfl rfl q1) rfl q2
          | true =>
            have HN : Hid (parseRes l = some (id', r)) := Lib.hid (by
              rw [HQ.out, if_pos]
              refine ⟨rfl, ?_⟩
              rw [Hpe.out]
              exact congrArg some (by simpa using Heb.out))
            obtain ⟨q0, q1, q2, q3, q4, q5⟩ := five HR10.out.hR
            obtain ⟨c0, c1, c2, c3, c4, c5⟩ := five (r := ⟨0, 0, [], false, []⟩) HR10.out.hZ
            obtain ⟨ka, kc, rfl, hk⟩ := id hres.k
            obtain ⟨da, dc, rfl⟩ := hres.d.slice
            have hs0 := set5 HR10.out.hZ (.int .i64 r.status) (.int .u64 r.upload) (.slice ka r.keys.length kc) (.bool r.more) (.slice da r.data.length dc)
            have hd := Grow.drew (((((w10.setCell ⟨rb, 0, none⟩ (.int .i64 r.status)).setCell ⟨rb, 1, none⟩ (.int .u64 r.upload)).setCell ⟨rb, 2, none⟩ (.slice ka r.keys.length kc)).setCell ⟨rb, 3, none⟩ (.bool r.more)).setCell ⟨rb, 4, none⟩ (.slice da r.data.length dc))
            have hs := (hd.block _ (lt_of_getElem? hs0)).trans hs0
            have hgs := Grow.trans (set5_grow HR10.out.hg HR10.out.n0 (.int .i64 r.status) (.int .u64 r.upload) (.slice ka r.keys.length kc) (.bool r.more) (.slice da r.data.length dc)) hd
            have hrs := ((RBr.set5 (W := w10) (b := rb) (s := 0) (u := 0) (x := none) (n1 := 0) (c1 := 0) (m := false) (y := none) (n2 := 0) (c2 := 0) HR10.out.hZ r.status r.upload ka r.keys.length kc r.more da r.data.length dc).res hres).grow hd
            have Hs := Lib.hid hs
            have Hgs := Lib.hid hgs
            have Hrs := Lib.hid hrs
            clear hs hgs hrs hres hr10 hpe hgb hk hs0 hd hR hv
            go_upto_region 25 with fail
            go_region
            go_wp2
            refine bodyPost_ret (results_prR (r := r) (i := id') rfl rfl rfl Hs.out) rfl ?_
            rw [HN.out]
            exact ⟨_, _, rfl, Hi.out.1, Hrs.out, Hgs.out⟩
      · have HN : Hid (parseRes l = Option.none) := Lib.hid (by
          rw [HQ.out, if_neg]
          rintro ⟨_, h⟩
          unfold printR at h
          rw [hR] at h
          cases h)
        have hr10 := HR9.out.grow hg3
        have HR10 := Lib.hid hr10
        have cv2 := conv_text hr10.ht
        obtain ⟨c0, c1, c2, c3, c4, c5⟩ := five (r := ⟨0, 0, [], false, []⟩) HR10.out.hZ
        clear hr10 hR
        cases good with
        | false =>
          go_wp2
          obtain ⟨q1, q2⟩ := HR10.out.none HN.out
          exact bodyPost_ret (results_prR (r := ⟨0, 0, [], false, []⟩) (i := 0) rfl rfl rfl q1) rfl q2
        | true =>
          go_wp2
          obtain ⟨q1, q2⟩ := HR10.out.none HN.out
          exact bodyPost_ret (results_prR (r := ⟨0, 0, [], false, []⟩) (i := 0) rfl rfl rfl q1) rfl q2
end Go.Proofs.YtdegmpimcappjaaGreatDoor

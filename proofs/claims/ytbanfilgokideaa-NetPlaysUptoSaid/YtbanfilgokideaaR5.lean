/- The document's net: Send and Double. -/
import Derived.Test.YtbanfilgokideaaR4
namespace Go.Proofs.Ytbanfilgokideaa
open Go.RowKit Go.Gl

theorem BytesA.of {w : World} {v : Value} {l : List UInt8} (h : Bytes w v l) : BytesA w v l := .inr h

/-- What the document's Send makes. -/
def RSent (nodes bound f : Int) (l : List UInt8) : List Int → List RM → List RM → Nat → Prop
  | [], L, L', n => L' = L ∧ n = 0
  | k :: ks, L, L', n => (okR nodes bound L f k ∧ ∃ mv n', n = n' + 1 ∧ RSent nodes bound f l ks (L ++ [⟨f, k, mv, l⟩]) L' n') ∨ (¬ okR nodes bound L f k ∧ RSent nodes bound f l ks L L' n)

theorem rsent_no {nodes bound f : Int} {l : List UInt8} {k : Int} : ∀ {ks : List Int} {L L' : List RM} {n : Nat}, RSent nodes bound f l ks L L' n → ¬ okR nodes bound L' f k → RSent nodes bound f l (ks ++ [k]) L L' n
  | [], L, L', n, ⟨h1, h2⟩, hk => by subst h1; exact .inr ⟨hk, rfl, h2⟩
  | x :: ks, L, L', n, h, hk => by
    rcases h with ⟨h1, mv, n', h2, h3⟩ | ⟨h1, h3⟩
    · exact .inl ⟨h1, mv, n', h2, rsent_no h3 hk⟩
    · exact .inr ⟨h1, rsent_no h3 hk⟩

theorem rsent_yes {nodes bound f : Int} {l : List UInt8} {k : Int} {mv : Value} : ∀ {ks : List Int} {L L' : List RM} {n : Nat}, RSent nodes bound f l ks L L' n → okR nodes bound L' f k → RSent nodes bound f l (ks ++ [k]) L (L' ++ [⟨f, k, mv, l⟩]) (n + 1)
  | [], L, L', n, ⟨h1, h2⟩, hk => by subst h1 h2; exact .inl ⟨hk, mv, 0, rfl, rfl, rfl⟩
  | x :: ks, L, L', n, h, hk => by
    rcases h with ⟨h1, mv', n', h2, h3⟩ | ⟨h1, h3⟩
    · exact .inl ⟨h1, mv', n' + 1, by omega, rsent_yes h3 hk⟩
    · exact .inr ⟨h1, rsent_yes h3 hk⟩

theorem rsent_len {nodes bound f : Int} {l : List UInt8} : ∀ {ks : List Int} {L L' : List RM} {n : Nat}, RSent nodes bound f l ks L L' n → L'.length = L.length + n ∧ n ≤ ks.length
  | [], L, L', n, ⟨h1, h2⟩ => by subst h1 h2; exact ⟨rfl, Nat.le_refl _⟩
  | x :: ks, L, L', n, h => by
    rcases h with ⟨h1, mv', n', h2, h3⟩ | ⟨h1, h3⟩
    · have := rsent_len h3; simp at this ⊢; omega
    · have := rsent_len h3; simp at this ⊢; omega

def RSendPost (B : Nat) (w : World) (q : Nat) (nodes bound time : Int) (L : List RM) (f : Int) (l : List UInt8) (ks : List Int) (e : Ending) (w' : World) : Prop :=
  ∃ (n : Nat) (L' : List RM) (v' : Value), e = .returned (.int .i64 n) ∧ RSent nodes bound f l ks L L' n ∧ RefAt B w' q nodes bound time v' L' ∧ Keep softR B w w'

def RSendInv (B : Nat) (w : World) (q : Nat) (nodes bound time : Int) (L : List RM) (f : Int) (l : List UInt8) (ks : List Int) (kv iv : Value) (wr : World) : Prop :=
  ∃ (i n : Nat) (L' : List RM) (v' : Value), i ≤ ks.length ∧ kv = .int .i64 n ∧ iv = .int .i64 i ∧ RSent nodes bound f l (ks.take i) L L' n ∧ RefAt B wr q nodes bound time v' L' ∧ Keep softR B w wr

set_option maxRecDepth 100000 in
set_option maxHeartbeats 2000000 in
theorem rsend_some {B : Nat} {w : World} {q : Nat} {nodes bound time : Int} {v : Value} {L : List RM} (h : RefAt B w q nodes bound time v L) (f : Int) (ba : Option Addr) (bl bc : Nat) (l : List UInt8) (hb : BytesA w (.slice ba bl bc) l) (hbf : ∀ b, blk (.slice ba bl bc) = some b → l ≠ [] → b < B) (hl : l.length ≤ 140737488355328)
    (tb to tc : Nat) (ks : List Int) (hks : L.length + ks.length < 1000000000) (htc : ∀ (j : Nat) (k : Int), ks[j]? = some k → w.cell? ⟨tb, to + j, none⟩ = some (.int .i64 k)) (htf : tb < B) :
    Calls Try.prog 21 #[.pointer (some ⟨q, 0, none⟩), .int .i64 f, .slice ba bl bc, .slice (some ⟨tb, to, none⟩) ks.length tc] w (RSendPost B w q nodes bound time L f l ks) := by
  have H := Lib.hid h
  have Hb := Lib.hid hb
  have Hbf := Lib.hid hbf
  have Htc := Lib.hid htc
  have Htf := Lib.hid htf
  clear h hb hbf htc htf
  go_enter Try.func21, Try.ntmps21
  go_wp2
  go_loopw [9, 10] (fun k i wr => RSendInv B w q nodes bound time L f l ks k i wr) (fun _ i _ => ks.length - (intOf i).toNat)
  case atStart => exact ⟨0, 0, L, v, Nat.zero_le _, rfl, rfl, ⟨rfl, rfl⟩, H.out, Keep.refl _ _ _⟩
  case round =>
    obtain ⟨i, n, L', v', hi, rfl, rfl, hs, hR, hK⟩ := hrel
    have Hs := Lib.hid hs
    have HR := Lib.hid hR
    have HK := Lib.hid hK
    have hnb := rsent_len hs
    have hn1 : n ≤ ks.length := Nat.le_trans hnb.2 (by simp; omega)
    have hL' : L'.length < 1000000000 := by omega
    clear hs hR hK hnb
    by_cases hlt : i < ks.length
    · obtain ⟨k, hk⟩ : ∃ k, ks[i]? = some k := ⟨ks[i], by simp [hlt]⟩
      have c0 : wr.cell? ⟨tb, to + i, none⟩ = some (.int .i64 k) := by
        rw [HK.out.below.cell (p := ⟨tb, to + i, none⟩) Htf.out]; exact Htc.out i k hk
      have Hk := Lib.hid hk
      have hi1 : (i : Int) < (ks.length : Int) := by omega
      have hi0 : (0 : Int) ≤ (i : Int) := by omega
      have hbr : BytesA wr (.slice ba bl bc) l := Hb.out.keep HK.out.size fun b hb' hl' => HK.out.below.block b (Hbf.out b hb' hl')
      have Hbr := Lib.hid hbr
      clear hk hbr
      go_wp2_with fail
      (with_reducible refine (lay_any HR.out hL' _ _ _ _ _ l Hbr.out hl).mono ?_)
      rintro e w1 (⟨hno, rfl, hg⟩ | ⟨hok, rfl, hK1, v1, mv, hR1⟩)
      · have Hrel : Hid (RSendInv B w q nodes bound time L f l ks (.int .i64 n) (.int .i64 ((i + 1 : Nat) : Int)) w1) :=
          Lib.hid ⟨i + 1, n, L', v', hlt, rfl, rfl, by rw [take_succ_get Hk.out]; exact rsent_no Hs.out hno, HR.out.grow hg, HK.out.trans (Keep.ofGrow hg HR.out.room)⟩
        clear hno hg
        go_wp2
        go_roundw
        case rel => exact Hrel.out
        case measure => simp [intOf]; omega
      · have Hrel : Hid (RSendInv B w q nodes bound time L f l ks (.int .i64 ((n + 1 : Nat) : Int)) (.int .i64 ((i + 1 : Nat) : Int)) w1) :=
          Lib.hid ⟨i + 1, n + 1, _, v1, hlt, rfl, rfl, by rw [take_succ_get Hk.out]; exact rsent_yes Hs.out hok, hR1, HK.out.trans hK1⟩
        have hn2 : (n : Int) ≤ 1000000000 := by omega
        have hn3 : (0 : Int) ≤ (n : Int) := by omega
        clear hok hK1 hR1
        go_wp2
        go_roundw
        case rel => exact Hrel.out
        case measure => simp [intOf]; omega
    · obtain rfl : i = ks.length := by omega
      go_wp2
      go_ret
      refine ⟨n, L', v', rfl, ?_, HR.out, HK.out⟩
      have := Hs.out
      rwa [List.take_length] at this

set_option maxHeartbeats 1000000 in
theorem rsend_nil {B : Nat} {w : World} {q : Nat} {nodes bound time : Int} {v : Value} {L : List RM} (h : RefAt B w q nodes bound time v L) (f : Int) (bv : Value) (l : List UInt8) (ta : Option Addr) (tc : Nat) :
    Calls Try.prog 21 #[.pointer (some ⟨q, 0, none⟩), .int .i64 f, bv, .slice ta 0 tc] w (RSendPost B w q nodes bound time L f l []) := by
  have H := Lib.hid h
  clear h
  go_enter Try.func21, Try.ntmps21
  go_wp2
  go_loopw [9, 10] (fun k i wr => k = .int .i64 0 ∧ i = .int .i64 0 ∧ wr = w) (fun _ _ _ => 0)
  case atStart => exact ⟨rfl, rfl, rfl⟩
  case round =>
    obtain ⟨rfl, rfl, rfl⟩ := hrel
    go_wp2
    go_ret
    exact ⟨0, L, v, rfl, ⟨rfl, rfl⟩, H.out, Keep.refl _ _ _⟩

theorem rsend_any {B : Nat} {w : World} {q : Nat} {nodes bound time : Int} {v : Value} {L : List RM} (h : RefAt B w q nodes bound time v L) (f : Int) (bv : Value) (l : List UInt8) (hb : BytesA w bv l) (hbf : ∀ b, blk bv = some b → l ≠ [] → b < B) (hl : l.length ≤ 140737488355328)
    {w0 : World} (hw0 : Below B w0 w) {tv : Value} {ks : List Int} (ht : Ints w0 tv ks) (hB : w0.heap.size ≤ B) (hks : L.length + ks.length < 1000000000) :
    Calls Try.prog 21 #[.pointer (some ⟨q, 0, none⟩), .int .i64 f, bv, tv] w (RSendPost B w q nodes bound time L f l ks) := by
  obtain ⟨ta, tc, rfl, ht⟩ := ht
  cases ks with
  | nil => exact rsend_nil h f bv l ta tc
  | cons k ks =>
    rcases ht with ht | ⟨b, o, rfl, hlt, hc⟩
    · cases ht
    · have key : ∀ ba bl bc, BytesA w (.slice ba bl bc) l → (∀ b, blk (.slice ba bl bc) = some b → l ≠ [] → b < B) → Calls Try.prog 21 #[.pointer (some ⟨q, 0, none⟩), .int .i64 f, .slice ba bl bc, .slice (some ⟨b, o, none⟩) (k :: ks).length tc] w (RSendPost B w q nodes bound time L f l (k :: ks)) :=
        fun ba bl bc hb hbf => rsend_some h f ba bl bc l hb hbf hl b o tc (k :: ks) hks (fun j x hx => by rw [hw0.cell (p := ⟨b, o + j, none⟩) (show b < B by omega)]; exact hc j x hx) (by omega)
      rcases hb with ⟨rfl, a', c', rfl⟩ | ⟨rfl, rfl⟩ | ⟨b', o', c', rfl, h2, h3⟩
      · exact key _ _ _ (.inl ⟨rfl, a', c', rfl⟩) hbf
      · exact key _ _ _ (.inr (.inl ⟨rfl, rfl⟩)) hbf
      · exact key _ _ _ (.inr (.inr ⟨b', o', c', rfl, h2, h3⟩)) hbf

/-- What the document's Double makes. -/
def RDoubled (B : Nat) (w : World) (q : Nat) (nodes bound time : Int) (L : List RM) (f t pick : Int) (e : Ending) (w' : World) : Prop :=
  (ofL (f, t) L = [] ∧ e = .returned (.bool false) ∧ Grow w w') ∨
  ∃ (i : Nat) (m : RM), L[i]? = some m ∧ m.frm = f ∧ m.to = t ∧ 0 < (ofL (f, t) L).length ∧ ((ofL (f, t) (L.take i)).length : Int) = max pick 0 % ((ofL (f, t) L).length : Int) ∧ RLaid B w q nodes bound time L f t m.bytes e w'

theorem oBytes_slice {E : TypeId} {w : World} {v : Value} {l : List UInt8} (h : OBytes E w v l) : ∃ a n c, v = .slice a n c := by
  rcases h with ⟨h, _⟩ | ⟨b, c, arr, h, _⟩
  · exact ⟨_, _, _, h⟩
  · exact ⟨_, _, _, h⟩

theorem RLaid.pre {B : Nat} {w w1 : World} {q : Nat} {nodes bound time : Int} {L : List RM} {f t : Int} {l : List UInt8} {e : Ending} {w' : World} (h : RLaid B w1 q nodes bound time L f t l e w') (hg : Grow w w1) (hB : B ≤ w.heap.size) : RLaid B w q nodes bound time L f t l e w' := by
  rcases h with ⟨h1, h2, h3⟩ | ⟨h1, h2, h3, h4⟩
  · exact .inl ⟨h1, h2, hg.trans h3⟩
  · exact .inr ⟨h1, h2, (Keep.ofGrow hg hB).trans h3, h4⟩

set_option maxRecDepth 100000 in
set_option maxHeartbeats 1000000 in
theorem rdouble_any {B : Nat} {w : World} {q : Nat} {nodes bound time : Int} {v : Value} {L : List RM} (h : RefAt B w q nodes bound time v L) (hmax : L.length < 1000000000) (f t pick : Int) (hpk : pick ≤ 9223372036854775807) (hby : ∀ m ∈ L, m.bytes.length ≤ 140737488355328) :
    Calls Try.prog 24 #[.pointer (some ⟨q, 0, none⟩), .int .i64 f, .int .i64 t, .int .i64 pick] w (RDoubled B w q nodes bound time L f t pick) := by
  have H := Lib.hid h
  have Hby := Lib.hid hby
  clear h hby
  go_enter Try.func24, Try.ntmps24
  go_wp2_with fail
  (with_reducible refine (rmeant_any H.out (by omega) _ _ _ hpk).mono ?_)
  rintro e w1 ⟨⟨h0, rfl⟩ | ⟨i, m, rfl, hm, hf, ht, hpos, hpick⟩, hg⟩
  · have H0 := Lib.hid h0
    clear h0
    go_wp2
    go_ret
    exact .inl ⟨H0.out, rfl, hg⟩
  · have HR := Lib.hid (H.out.grow hg)
    obtain ⟨k0, k1, k2, k3⟩ := HR.out.cells
    obtain ⟨a, c, hv, hrow⟩ := HR.out.form
    have hil : i < L.length := (List.getElem?_eq_some_iff.1 hm).1
    obtain ⟨g, rfl, hgs, hcs⟩ := hrow (by omega)
    obtain ⟨c0, c1, c2⟩ := hcs i m hm
    have hmem : m ∈ L := List.mem_of_getElem? hm
    obtain ⟨ba, bl, bc, hmv⟩ := oBytes_slice (HR.out.msg m hmem)
    have hbm := (HR.out.msg m hmem).bytes
    rw [hmv] at c2 hbm
    rw [hf] at c0
    rw [ht] at c1
    rw [hv] at k3
    have Hbm := Lib.hid hbm
    have Hm := Lib.hid hm
    have Hf := Lib.hid hf
    have Ht := Lib.hid ht
    have Hpos := Lib.hid hpos
    have Hpick := Lib.hid hpick
    have Hbl := Lib.hid (Hby.out m hmem)
    have hi1 : (i : Int) < (L.length : Int) := by omega
    have hi0 : (0 : Int) ≤ (i : Int) := by omega
    have hd : decide ((0 : Int) ≤ (i : Int)) = true := by simp
    clear hbm hm hf ht hpos hpick hmv hmem hcs hrow hv
    go_wp2_with fail
    (with_reducible refine (lay_any HR.out hmax _ _ _ _ _ m.bytes (BytesA.of Hbm.out) Hbl.out).mono ?_)
    intro e w2 hlaid
    have hfin : RDoubled B w q nodes bound time L f t pick e w2 := .inr ⟨i, m, Hm.out, Hf.out, Ht.out, Hpos.out, Hpick.out, hlaid.pre hg H.out.room⟩
    have Hfin := Lib.hid hfin
    rcases hlaid with ⟨_, rfl, _⟩ | ⟨_, rfl, _⟩
    · clear hfin
      go_wp2
      go_ret
      exact Hfin.out
    · clear hfin
      go_wp2
      go_ret
      exact Hfin.out
end Go.Proofs.Ytbanfilgokideaa

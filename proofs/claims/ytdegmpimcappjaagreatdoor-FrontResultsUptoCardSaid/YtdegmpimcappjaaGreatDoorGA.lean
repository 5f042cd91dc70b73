/- Merged out of RA: helpers. -/
import Derived.Test.YtdegmpimcappjaaGreatDoorG9
import Derived.Test.YtdegmpimcappjaaGreatDoorG5
import Derived.Test.YtdegmpimcappjaaGreatDoorFB
/- The program's ParseResult. -/
namespace Go.Proofs.YtdegmpimcappjaaGreatDoor
open Go.RowKit Go.Gl Go.Front

theorem idx_parts {b : List UInt8} {k : Nat} (h : Lib.index b crlf2 = (k : Int)) : b = b.take k ++ crlf2 ++ b.drop (k + 4) ∧ (b.take k).length = k ∧ k + 4 ≤ b.length := by
  rcases Lib.index_spec b crlf2 with ⟨h1, _⟩ | ⟨i, h1, h2, h3, _⟩
  · rw [h] at h1
    omega
  · rw [h] at h1
    have hik : i = k := by omega
    subst hik
    have hroom := Lib.index_room b crlf2 (by omega)
    have e4 : crlf2.length = 4 := rfl
    unfold Lib.occAt at h3
    obtain ⟨t, ht⟩ := List.isPrefixOf_iff_prefix.1 h3
    refine ⟨?_, by rw [List.length_take]; omega, by omega⟩
    have e5 : b.drop (i + 4) = t := by
      rw [← List.drop_drop, ← ht]
      rfl
    rw [e5, List.append_assoc, ht, List.take_append_drop]

/-- What the two ParseResult tell. -/
def PrsPost (p : Option (Nat × ResD)) (w : World) (e : Ending) (w' : World) : Prop :=
  match p with
  | some (id, r) => ∃ kv dv, e = .returned (.tuple #[.int .u64 id, .agg #[.int .i64 r.status, .int .u64 r.upload, kv, .bool r.more, dv], .int .i64 0]) ∧ id < 18446744073709551616 ∧ ResIn w' r kv dv ∧ Grow w w'
  | none => e = .returned (.tuple #[.int .u64 0, .agg #[.int .i64 0, .int .u64 0, .slice none 0 0, .bool false, .slice none 0 0], .int .i64 14]) ∧ Grow w w'

def PI (hd : List UInt8) (i : Nat) : Prop := i < 18446744073709551616 ∧ ∀ u, u < 2 ^ 64 → fieldP nId (Lib.split hd [13, 10]) = hex16 u → i = u

def PR (hd tl : List UInt8) (r : ResD) : Prop :=
  (∀ m : Nat, m ≤ 1000 → fieldP nGlc (Lib.split hd [13, 10]) = decF m → r.status = m) ∧
    (∀ u, u < 2 ^ 64 → fieldP nUp (Lib.split hd [13, 10]) = hex16 u → r.upload = u) ∧ (fieldP nUp (Lib.split hd [13, 10]) = [] → r.upload = 0) ∧
    r.more = decide (fieldP nMore (Lib.split hd [13, 10]) = yesL) ∧ r.keys = (if fieldP nKeys (Lib.split hd [13, 10]) = [] then [] else keysP tl) ∧ r.data = (if fieldP nKeys (Lib.split hd [13, 10]) = [] then tl else [])

theorem pr_parse {l hd tl : List UInt8} {i : Nat} {r : ResD} (hb : l = hd ++ crlf2 ++ tl) (hi : Lib.index l crlf2 = hd.length) (h1 : PI hd i) (h2 : PR hd tl r) (hu : r.upload < 18446744073709551616) : parseRes l = if printR i r = some l then some (i, r) else none := by
  obtain ⟨a1, a2⟩ := h1
  obtain ⟨b1, b2, b3, b4, b5, b6⟩ := h2
  obtain ⟨st, up, ks, mo, da⟩ := r
  dsimp only at b1 b2 b3 b4 b5 b6 hu
  subst b4 b5 b6
  exact parse_prog hb hi a1 hu b1 a2 b2 b3 rfl

theorem kv_other {W W' : World} {u : Value} {l : List (List UInt8)} {g : Nat} {cs : Array Value} {t : TypeId} (h : Kv W u l) (hP : W.heap[g]? = some (.cells cs t)) (hcs : ∀ (k : Nat) (s : ByteArray), cs[k]? ≠ some (.string s)) (hsz : W.heap.size ≤ W'.heap.size) (hk : ∀ c, c ≠ g → W'.heap[c]? = W.heap[c]?) : Kv W' u l := by
  obtain ⟨a, c, hv, h⟩ := h
  refine ⟨a, c, hv, ?_⟩
  rcases h with h | ⟨b, o, ha, hb, hc⟩
  · exact .inl h
  · refine .inr ⟨b, o, ha, Nat.lt_of_lt_of_le hb hsz, fun j k hj => ?_⟩
    have h5 := hc j k hj
    by_cases e : b = g
    · subst e
      have h6 : W.cell? ⟨b, o + j, none⟩ = cs[o + j]? := by
        unfold World.cell?
        rw [hP]
        rfl
      rw [h6] at h5
      exact absurd h5 (hcs _ _)
    · unfold World.cell? at h5 ⊢
      rw [hk b e]
      exact h5

theorem cells5 {W : World} {b : Nat} {v0 v1 v2 v3 v4 : Value} {t : TypeId} (h : W.heap[b]? = some (.cells #[v0, v1, v2, v3, v4] t)) : W.cell? ⟨b, 0, none⟩ = some v0 ∧ W.cell? ⟨b, 1, none⟩ = some v1 ∧ W.cell? ⟨b, 2, none⟩ = some v2 ∧ W.cell? ⟨b, 3, none⟩ = some v3 ∧ W.cell? ⟨b, 4, none⟩ = some v4 :=
  ⟨ck_cell h rfl, ck_cell h rfl, ck_cell h rfl, ck_cell h rfl, ck_cell h rfl⟩

theorem noS5 {a b : Int} {m : Bool} {x y : Option Addr} {n1 c1 n2 c2 : Nat} : ∀ (k : Nat) (s : ByteArray), (#[.int .i64 a, .int .u64 b, .slice x n1 c1, .bool m, .slice y n2 c2] : Array Value)[k]? ≠ some (.string s) := by
  intro k s h
  match k, h with
  | 0, h => cases h
  | 1, h => cases h
  | 2, h => cases h
  | 3, h => cases h
  | 4, h => cases h
  | k + 5, h => simp at h

theorem set5 {W : World} {b : Nat} {v0 v1 v2 v3 v4 : Value} {t : TypeId} (h : W.heap[b]? = some (.cells #[v0, v1, v2, v3, v4] t)) (y0 y1 y2 y3 y4 : Value) :
    (((((W.setCell ⟨b, 0, none⟩ y0).setCell ⟨b, 1, none⟩ y1).setCell ⟨b, 2, none⟩ y2).setCell ⟨b, 3, none⟩ y3).setCell ⟨b, 4, none⟩ y4).heap[b]? = some (.cells #[y0, y1, y2, y3, y4] t) :=
  setCell_heap (setCell_heap (setCell_heap (setCell_heap (setCell_heap h 0 y0) 1 y1) 2 y2) 3 y3) 4 y4

theorem set5_other {W : World} {b c : Nat} (h : c ≠ b) (y0 y1 y2 y3 y4 : Value) :
    (((((W.setCell ⟨b, 0, none⟩ y0).setCell ⟨b, 1, none⟩ y1).setCell ⟨b, 2, none⟩ y2).setCell ⟨b, 3, none⟩ y3).setCell ⟨b, 4, none⟩ y4).heap[c]? = W.heap[c]? := by
  rw [Below.heap_setCell _ _ _ _ h, Below.heap_setCell _ _ _ _ h, Below.heap_setCell _ _ _ _ h, Below.heap_setCell _ _ _ _ h, Below.heap_setCell _ _ _ _ h]

theorem set5_grow {w W : World} {b : Nat} (h : Grow w W) (hb : w.heap.size ≤ b) (y0 y1 y2 y3 y4 : Value) :
    Grow w (((((W.setCell ⟨b, 0, none⟩ y0).setCell ⟨b, 1, none⟩ y1).setCell ⟨b, 2, none⟩ y2).setCell ⟨b, 3, none⟩ y3).setCell ⟨b, 4, none⟩ y4) :=
  Below.setCell (Below.setCell (Below.setCell (Below.setCell (Below.setCell h (p := ⟨b, 0, none⟩) hb y0) (p := ⟨b, 1, none⟩) hb y1) (p := ⟨b, 2, none⟩) hb y2) (p := ⟨b, 3, none⟩) hb y3) (p := ⟨b, 4, none⟩) hb y4

/-- What one operation does to a world: it grows, or it writes into a result's block. -/
structure RBr (W W' : World) : Prop where
  bv : ∀ v l, Bv W v l → Bv W' v l
  kv : ∀ v l, Kv W v l → Kv W' v l
  box : ∀ (b : Nat) (s : Int) (u : Int) (x : Option Addr) (n1 c1 : Nat) (m : Bool) (y : Option Addr) (n2 c2 : Nat), W.heap[b]? = some (.cells #[.int .i64 s, .int .u64 u, .slice x n1 c1, .bool m, .slice y n2 c2] 48) →
    ∃ (s u : Int) (x : Option Addr) (n1 c1 : Nat) (m : Bool) (y : Option Addr) (n2 c2 : Nat), W'.heap[b]? = some (.cells #[.int .i64 s, .int .u64 u, .slice x n1 c1, .bool m, .slice y n2 c2] 48)

theorem RBr.refl (W : World) : RBr W W := ⟨fun _ _ h => h, fun _ _ h => h, fun _ _ _ _ _ _ _ _ _ _ h => ⟨_, _, _, _, _, _, _, _, _, h⟩⟩
theorem RBr.grow {W W' : World} (h : Grow W W') : RBr W W' := ⟨fun _ _ hb => hb.grow h, fun _ _ hb => hb.grow h, fun _ _ _ _ _ _ _ _ _ _ hb => ⟨_, _, _, _, _, _, _, _, _, (h.block _ (lt_of_getElem? hb)).trans hb⟩⟩
theorem RBr.res {W W' : World} (h : RBr W W') {r : ResD} {kv dv : Value} (hr : ResIn W r kv dv) : ResIn W' r kv dv := ⟨hr.up, h.kv _ _ hr.k, h.bv _ _ hr.d, hr.kl⟩
theorem RBr.set5 {W : World} {b : Nat} {s u : Int} {x : Option Addr} {n1 c1 : Nat} {m : Bool} {y : Option Addr} {n2 c2 : Nat} (hb : W.heap[b]? = some (.cells #[.int .i64 s, .int .u64 u, .slice x n1 c1, .bool m, .slice y n2 c2] 48)) (s' u' : Int) (x' : Option Addr) (n1' c1' : Nat) (m' : Bool) (y' : Option Addr) (n2' c2' : Nat) : RBr W (((((W.setCell ⟨b, 0, none⟩ (.int .i64 s')).setCell ⟨b, 1, none⟩ (.int .u64 u')).setCell ⟨b, 2, none⟩ (.slice x' n1' c1')).setCell ⟨b, 3, none⟩ (.bool m')).setCell ⟨b, 4, none⟩ (.slice y' n2' c2')) :=
  ⟨fun _ _ h => bv_other h hb noB5 (by simp) fun _ hc => set5_other hc _ _ _ _ _, fun _ _ h => kv_other h hb noS5 (by simp) fun _ hc => set5_other hc _ _ _ _ _, fun c s1 u1 x1 n11 c11 m1 y1 n21 c21 h => by
    by_cases e : c = b
    · subst e
      exact ⟨_, _, _, _, _, _, _, _, _, Proofs.YtdegmpimcappjaaGreatDoor.set5 hb _ _ _ _ _⟩
    · exact ⟨_, _, _, _, _, _, _, _, _, (set5_other e _ _ _ _ _).trans h⟩⟩

def SA (B : Nat) (a : Option Addr) (c len k N : Nat) (hd tl : List UInt8) (j : Nat) (v : Value) (W : World) : Prop :=
  match j with
  | 0 => v = .slice a len c
  | 1 => v = .int .i64 k
  | 2 => v = .slice a k c
  | 3 => v = .string ⟨hd.toArray⟩
  | 4 => v = .slice a len c
  | 5 => v = .int .i64 k
  | 6 => v = .int .i64 (N : Int)
  | 7 => Bv W v tl
  | 8 => ∃ (i : Nat) (r : ResD) (kv dv : Value), v = .tuple #[.int .u64 i, .agg #[.int .i64 r.status, .int .u64 r.upload, kv, .bool r.more, dv]] ∧ PI hd i ∧ PR hd tl r ∧ ResIn W r kv dv
  | 9 => ∃ (i : Nat) (r : ResD) (kv dv : Value), v = .tuple #[.int .u64 i, .agg #[.int .i64 r.status, .int .u64 r.upload, kv, .bool r.more, dv]] ∧ PI hd i ∧ PR hd tl r ∧ ResIn W r kv dv
  | 10 => ∃ i : Nat, v = .int .u64 i ∧ PI hd i
  | 11 => ∃ (r : ResD) (kv dv : Value), v = .agg #[.int .i64 r.status, .int .u64 r.upload, kv, .bool r.more, dv] ∧ PR hd tl r ∧ ResIn W r kv dv
  | 12 => ∃ (b : Nat) (s u : Int) (x : Option Addr) (n1 c1 : Nat) (m : Bool) (y : Option Addr) (n2 c2 : Nat), v = .pointer (some ⟨b, 0, none⟩) ∧ B ≤ b ∧ W.heap[b]? = some (.cells #[.int .i64 s, .int .u64 u, .slice x n1 c1, .bool m, .slice y n2 c2] 48)
  | 13 => ∃ i : Nat, v = .int .u64 i ∧ PI hd i
  | _ => True

theorem SA.keep {B : Nat} {a : Option Addr} {c len k N : Nat} {hd tl : List UInt8} : ∀ (j : Nat) (v : Value) (W W' : World), RBr W W' → SA B a c len k N hd tl j v W → SA B a c len k N hd tl j v W' := by
  intro j v W W' hR h
  unfold SA at h
  split at h <;> first
    | exact h
    | exact hR.bv _ _ h
    | (obtain ⟨i, r, kv, dv, h1, h2, h3, h4⟩ := h; exact ⟨i, r, kv, dv, h1, h2, h3, hR.res h4⟩)
    | (obtain ⟨r, kv, dv, h1, h3, h4⟩ := h; exact ⟨r, kv, dv, h1, h3, hR.res h4⟩)
    | (obtain ⟨b, s, u, x, n1, c1, m, y, n2, c2, h1, h2, h3⟩ := h; obtain ⟨s', u', x', n1', c1', m', y', n2', c2', h4⟩ := hR.box _ _ _ _ _ _ _ _ _ _ h3; exact ⟨b, s', u', x', n1', c1', m', y', n2', c2', h1, h2, h4⟩)
    | (unfold SA; split <;> first | trivial | (exfalso; simp_all))

def TA (w1 : World) (hd tl : List UInt8) (l : Array Bool) (a : Act) (W : World) : Prop :=
  Grow w1 W ∧ (l.getD 14 false = true → ∃ (g : Nat) (r : ResD) (kv dv : Value), a.tmps[7]? = some (.pointer (some ⟨g, 0, none⟩)) ∧ W.heap[g]? = some (.cells #[.int .i64 r.status, .int .u64 r.upload, kv, .bool r.more, dv] 48) ∧ PR hd tl r ∧ ResIn W r kv dv)

theorem TA.vac {w1 : World} {hd tl : List UInt8} {l : Array Bool} {a' : Act} {W' : World} (i : Nat) (hi : i ≠ 14) (hny : l.getD 14 false = false) (hB : Grow w1 W') : TA w1 hd tl (l.setIfInBounds i true) a' W' :=
  ⟨hB, fun h => by rw [getD_set_ne false hi, hny] at h; cases h⟩

theorem results_pr {w : World} {t : Array Value} {rb : Nat} {r : ResD} {kv dv : Value} {i : Nat} {e : Int} (h2 : t.getD 2 undef = .int .u64 i) (h3 : t.getD 3 undef = .pointer (some ⟨rb, 0, none⟩)) (h4 : t.getD 4 undef = .int .i64 e)
    (hW : w.heap[rb]? = some (.cells #[.int .i64 r.status, .int .u64 r.upload, kv, .bool r.more, dv] 48)) :
    (results Tryz.f29 t).run Tryz.prog w = .ok (.tuple #[.int .u64 i, .agg #[.int .i64 r.status, .int .u64 r.upload, kv, .bool r.more, dv], .int .i64 e]) w := by
  obtain ⟨k0, k1, k2, k3, k4, _⟩ := five hW
  simp only [Array.getD_eq_getD_getElem?] at h2 h3 h4
  simp [results, Tryz.results29, go_sem, h2, h3, h4, k0, k1, k2, k3, k4]

set_option maxRecDepth 100000 in
set_option maxHeartbeats 16000000 in
theorem parseResult_any {w : World} {v : Value} {l : List UInt8} (hb : Base w) (h : Bv w v l) (hl : l.length ≤ 1000000) : Calls Tryz.prog 29 #[v] w (PrsPost (parseRes l) w) := by
  obtain ⟨a, c, rfl, h1, h2, h3, h4⟩ := id h
  have hg0 : Grow w (w.alloc (.cells #[.int .i64 0, .int .u64 0, .slice none 0 0, .bool false, .slice none 0 0] 48)) := Grow.alloc _ _
  have hB0 := heap_alloc_new w (.cells #[.int .i64 0, .int .u64 0, .slice none 0 0, .bool false, .slice none 0 0] 48)
  have hs0 : (w.alloc (.cells #[.int .i64 0, .int .u64 0, .slice none 0 0, .bool false, .slice none 0 0] 48)).heap.size = w.heap.size + 1 := by simp
  replace hb := hb.grow hg0
  replace h := h.grow hg0
  have h8 := hb.size
  have hga := grow_lit (w.alloc (.cells #[.int .i64 0, .int .u64 0, .slice none 0 0, .bool false, .slice none 0 0] 48))
  have hB1 := (hga.block _ (lt_of_getElem? hB0)).trans hB0
  have HX : Hid (Calls Tryz.prog 45 #[.slice a l.length c, .slice (some ⟨(w.alloc (.cells #[.int .i64 0, .int .u64 0, .slice none 0 0, .bool false, .slice none 0 0] 48)).heap.size, 0, none⟩) 4 4] ((litW (w.alloc (.cells #[.int .i64 0, .int .u64 0, .slice none 0 0, .bool false, .slice none 0 0] 48))).freeze ⟨(w.alloc (.cells #[.int .i64 0, .int .u64 0, .slice none 0 0, .bool false, .slice none 0 0] 48)).heap.size, 4, none⟩ 1) fun e w' => e = .returned (.int .i64 (Lib.index l crlf2)) ∧ Grow ((litW (w.alloc (.cells #[.int .i64 0, .int .u64 0, .slice none 0 0, .bool false, .slice none 0 0] 48))).freeze ⟨(w.alloc (.cells #[.int .i64 0, .int .u64 0, .slice none 0 0, .bool false, .slice none 0 0] 48)).heap.size, 4, none⟩ 1) w') := Lib.hid
    (index_bv (hb.grow hga) (h.grow hga) (bv_crlf2 (w.alloc (.cells #[.int .i64 0, .int .u64 0, .slice none 0 0, .bool false, .slice none 0 0] 48))) (by decide) (by decide) (by omega))
  have hcs := conv_lit (w.alloc (.cells #[.int .i64 0, .int .u64 0, .slice none 0 0, .bool false, .slice none 0 0] 48))
  have Hbv := Lib.hid (h.grow hga)
  have Hba := Lib.hid (hb.grow hga)
  have HB1 := Lib.hid hB1
  rw [hs0] at HX hcs Hbv Hba HB1
  have Hga : Hid (Grow w ((litW (w.alloc (.cells #[.int .i64 0, .int .u64 0, .slice none 0 0, .bool false, .slice none 0 0] 48))).freeze ⟨w.heap.size + 1, 4, none⟩ 1)) := Lib.hid (by rw [← hs0]; exact hg0.trans hga)
  have hge := Lib.index_ge l crlf2
  obtain ⟨at', hat⟩ : ∃ k, Lib.index l crlf2 = k := ⟨_, rfl⟩
  rw [hat] at HX hge
  have Hat := Lib.hid hat
  clear hga h hb h4 hat hg0 hB0 hB1 hs0
  go_enter Tryz.func29, Tryz.ntmps29
  go_wp2_with fail
  (with_reducible refine HX.out.mono ?_)
  rintro e w1 ⟨rfl, hg1⟩
  have hB1 := (hg1.block _ (lt_of_getElem? HB1.out)).trans HB1.out
  have Hg1 := Lib.hid (Hga.out.trans hg1)
  replace Hbv := Lib.hid (Hbv.out.grow hg1)
  replace Hba := Lib.hid (Hba.out.grow hg1)
  clear hg1 HX hcs Hga HB1
  obtain ⟨rb, Hrb⟩ : ∃ b, Hid (b = w.heap.size) := ⟨_, Lib.hid rfl⟩
  rw [← Hrb.out] at hB1 ⊢
  replace HB1 := Lib.hid hB1
  clear hB1
  by_cases hn : at' < 0
  · have hm : at' = -1 := by omega
    subst hm
    obtain ⟨c0, c1, c2, c3, c4, c5⟩ := five (r := ⟨0, 0, [], false, []⟩) HB1.out
    go_wp2
    refine bodyPost_ret (results_pr (r := ⟨0, 0, [], false, []⟩) (i := 0) rfl rfl rfl (set5 HB1.out _ _ _ _ _)) rfl ?_
    rw [parse_no Hat.out]
    exact ⟨rfl, set5_grow Hg1.out (Nat.le_of_eq Hrb.out.symm) _ _ _ _ _⟩
  · obtain ⟨k, rfl⟩ : ∃ k : Nat, at' = (k : Int) := ⟨at'.toNat, by omega⟩
    obtain ⟨hcut1, hcut2, hk2⟩ := idx_parts Hat.out
    have hk1 : k ≤ l.length := by omega
    obtain ⟨bk, off, c', ha, _, _⟩ := bv_some Hbv.out (by intro e; rw [e] at hk2; simp at hk2)
    cases ha
    have hwk : IntKind.i64.wrap ((k : Int) + 4) = (k : Int) + 4 := IntWalk.i64_in _ (by omega)
    obtain ⟨N, hN⟩ : ∃ N, N = k + 4 := ⟨_, rfl⟩
    have hwN : (k : Int) + 4 = (N : Int) := by omega
    rw [hwN] at hwk
    have hN2 : N ≤ l.length := by omega
    have hN3 : N ≤ c := by omega
    have hk3 : k ≤ c := by omega
    obtain ⟨HD, hHD⟩ : ∃ x, x = l.take k := ⟨_, rfl⟩
    obtain ⟨TL, hTL⟩ : ∃ x, x = l.drop N := ⟨_, rfl⟩
    have hh1 : HD.length ≤ 1000000 := by rw [hHD, List.length_take]; omega
    have hh2 : TL.length ≤ 1000000 := by rw [hTL, List.length_drop]; omega
    rw [← hN, ← hHD, ← hTL] at hcut1
    rw [← hHD] at hcut2
    have HPP : Hid (∀ (i : Nat) (r : ResD), PI HD i → PR HD TL r → r.upload < 18446744073709551616 → parseRes l = if printR i r = some l then some (i, r) else none) := Lib.hid (fun i r q1 q2 q3 => pr_parse hcut1 (by rw [Hat.out, hcut2]) q1 q2 q3)
    have HHD := Lib.hid hHD
    have HTL := Lib.hid hTL
    have HwN := Lib.hid hwN
    clear hHD hTL hcut1 hcut2 hn hge hN hwN hk2
    go_wp2_with fail
    go_cut [6, 7] from 17 to 28 (fun iv pv wx => ∃ (i g : Nat) (r : ResD) (kv dv : Value), iv = .int .u64 i ∧ pv = .pointer (some ⟨g, 0, none⟩) ∧ PI HD i ∧ PR HD TL r ∧ wx.heap[g]? = some (.cells #[.int .i64 r.status, .int .u64 r.upload, kv, .bool r.more, dv] 48) ∧ ResIn wx r kv dv ∧ Grow w1 wx)
    case first =>
      rename_i J K hJ hK
      refine wp_frame (fun a0 ha0 => ?_)
      have F0 : a0.tmps[0]? = some (.slice (some ⟨bk, off, none⟩) l.length c) := by rw [ha0]; rfl
      have F5 : a0.tmps[5]? = some (.int .i64 k) := by rw [ha0]; rfl
      have hsz : a0.tmps.size = 46 := by rw [ha0]; rfl
      have Hrest : Hid (∀ a1 wx (i g : Nat) (r : ResD) (kv dv : Value), FrameBut [6, 7, 17, 18, 19, 20, 21, 22, 23, 24, 25, 26, 27, 28] a0 a1 → a1.tmps[6]? = some (.int .u64 i) → a1.tmps[7]? = some (.pointer (some ⟨g, 0, none⟩)) → PI HD i → PR HD TL r → wx.heap[g]? = some (.cells #[.int .i64 r.status, .int .u64 r.upload, kv, .bool r.more, dv] 48) → ResIn wx r kv dv → Grow w1 wx → K a1 wx) := Lib.hid (fun a1 wx i g r kv dv ha h1 h2 h3 h4 h5 h6 h7 => by
        refine hK _ _ (hJ _ _ ?_)
        refine ⟨a1.tmps.getD 6 undef, a1.tmps.getD 7 undef, a1.tmps.getD 17 undef, a1.tmps.getD 18 undef, a1.tmps.getD 19 undef, a1.tmps.getD 20 undef, a1.tmps.getD 21 undef, a1.tmps.getD 22 undef, a1.tmps.getD 23 undef, a1.tmps.getD 24 undef, a1.tmps.getD 25 undef, a1.tmps.getD 26 undef, a1.tmps.getD 27 undef, a1.tmps.getD 28 undef, ⟨i, g, r, kv, dv, by rw [Array.getD_eq_getD_getElem?, h1]; rfl, by rw [Array.getD_eq_getD_getElem?, h2]; rfl, h3, h4, h5, h6, h7⟩, ha.fill.trans ?_⟩
        subst ha0
        kernel_rfl)
      clear ha0 hK hJ
      refine wp_region_flow (SA w1.heap.size (some ⟨bk, off, none⟩) c l.length k N HD TL) (TA w1 HD TL) RBr [6, 7, 17, 18, 19, 20, 21, 22, 23, 24, 25, 26, 27, 28] (by kernel_rfl) (by kernel_rfl) (by rw [hsz]; rfl) SA.keep ⟨Grow.drew _, fun h => by cases h⟩ ?_ (fun a1 W hf => ?_)
      rotate_left
      · obtain ⟨v, hv, i, hq, hi⟩ := hf.slot 13 6 (by rfl) (by rfl)
        subst hq
        obtain ⟨g, r, kv, dv, h6, h7, h8, h9⟩ := hf.world.2 (by rfl)
        exact Hrest.out a1 W i g r kv dv hf.alike hv h6 hi h8 h7 h9 hf.world.1
      clear Hrest
      refine ⟨?_, ?_, ?_, ?_, ?_, ?_, ?_, ?_, ?_, ?_, ?_, ?_, ?_, ?_, ?_, True.intro⟩
      · intro listed a W hf hun haf
        have hs1 : a.tmps.size = 46 := hf.alike.size.trans hsz
        have hB : Grow w1 W := hf.world.1
        have hny := not_yet hf.closed (n := 8) (e := 14) (i := 0) (by kernel_rfl) hun
        have G0 : a.tmps[0]'(by rw [hs1]; decide) = .slice (some ⟨bk, off, none⟩) l.length c := tmp_get ((hf.alike.same 0 (by decide)).trans F0) _
        refine wpOp_act rfl (by rfl) (fun K' hK' => ?_)
        go_simp
        exact hK' _ _ ⟨_, rfl, (fun _ _ => rfl), RBr.refl _, TA.vac 0 (by decide) hny (hB)⟩
      · intro listed a W hf hun haf
        have hs1 : a.tmps.size = 46 := hf.alike.size.trans hsz
        have hB : Grow w1 W := hf.world.1
        have hny := not_yet hf.closed (n := 8) (e := 14) (i := 1) (by kernel_rfl) hun
        have G5 : a.tmps[5]'(by rw [hs1]; decide) = .int .i64 k := tmp_get ((hf.alike.same 5 (by decide)).trans F5) _
        refine wpOp_act rfl (by rfl) (fun K' hK' => ?_)
        go_simp
        exact hK' _ _ ⟨_, rfl, (fun _ _ => rfl), RBr.refl _, TA.vac 1 (by decide) hny (hB)⟩
      · intro listed a W hf hun haf
        have hs1 : a.tmps.size = 46 := hf.alike.size.trans hsz
        have hB : Grow w1 W := hf.world.1
        have hny := not_yet hf.closed (n := 8) (e := 14) (i := 2) (by kernel_rfl) hun
        obtain ⟨v0, s0, q0⟩ := hf.slot 0 18 rfl (after_listed haf 0 (by kernel_rfl))
        have q0' : v0 = _ := q0
        subst q0'
        have G18 := tmp_get s0 (by rw [hs1]; decide)
        obtain ⟨v1, s1, q1⟩ := hf.slot 1 19 rfl (after_listed haf 1 (by kernel_rfl))
        have q1' : v1 = _ := q1
        subst q1'
        have G19 := tmp_get s1 (by rw [hs1]; decide)
        refine wpOp_act rfl (by rfl) (fun K' hK' => ?_)
        go_simp
        exact hK' _ _ ⟨_, rfl, (fun _ _ => rfl), RBr.refl _, TA.vac 2 (by decide) hny (hB)⟩
      · intro listed a W hf hun haf
        have hs1 : a.tmps.size = 46 := hf.alike.size.trans hsz
        have hB : Grow w1 W := hf.world.1
        have hny := not_yet hf.closed (n := 8) (e := 14) (i := 3) (by kernel_rfl) hun
        obtain ⟨v2, s2, q2⟩ := hf.slot 2 20 rfl (after_listed haf 2 (by kernel_rfl))
        have q2' : v2 = _ := q2
        subst q2'
        have G20 := tmp_get s2 (by rw [hs1]; decide)
        have hcv := conv_text (bv_take (Hbv.out.grow hB) (n := k) hk1)
        refine wpOp_act rfl (by rfl) (fun K' hK' => ?_)
        go_simp
        exact hK' _ _ ⟨_, rfl, (fun _ _ => by rw [HHD.out]; rfl), RBr.refl _, TA.vac 3 (by decide) hny (hB)⟩
      · intro listed a W hf hun haf
        have hs1 : a.tmps.size = 46 := hf.alike.size.trans hsz
        have hB : Grow w1 W := hf.world.1
        have hny := not_yet hf.closed (n := 8) (e := 14) (i := 4) (by kernel_rfl) hun
        have G0 : a.tmps[0]'(by rw [hs1]; decide) = .slice (some ⟨bk, off, none⟩) l.length c := tmp_get ((hf.alike.same 0 (by decide)).trans F0) _
        refine wpOp_act rfl (by rfl) (fun K' hK' => ?_)
        go_simp
        exact hK' _ _ ⟨_, rfl, (fun _ _ => rfl), RBr.refl _, TA.vac 4 (by decide) hny (hB)⟩
      · intro listed a W hf hun haf
        have hs1 : a.tmps.size = 46 := hf.alike.size.trans hsz
        have hB : Grow w1 W := hf.world.1
        have hny := not_yet hf.closed (n := 8) (e := 14) (i := 5) (by kernel_rfl) hun
        have G5 : a.tmps[5]'(by rw [hs1]; decide) = .int .i64 k := tmp_get ((hf.alike.same 5 (by decide)).trans F5) _
        refine wpOp_act rfl (by rfl) (fun K' hK' => ?_)
        go_simp
        exact hK' _ _ ⟨_, rfl, (fun _ _ => rfl), RBr.refl _, TA.vac 5 (by decide) hny (hB)⟩
      · intro listed a W hf hun haf
        have hs1 : a.tmps.size = 46 := hf.alike.size.trans hsz
        have hB : Grow w1 W := hf.world.1
        have hny := not_yet hf.closed (n := 8) (e := 14) (i := 6) (by kernel_rfl) hun
        obtain ⟨v5, s5, q5⟩ := hf.slot 5 23 rfl (after_listed haf 5 (by kernel_rfl))
        have q5' : v5 = _ := q5
        subst q5'
        have G23 := tmp_get s5 (by rw [hs1]; decide)
        have hw := HwN.out
        have hwk2 := hwk
        refine wpOp_act rfl (by rfl) (fun K' hK' => ?_)
        go_simp
        exact hK' _ _ ⟨_, rfl, (fun _ _ => rfl), RBr.refl _, TA.vac 6 (by decide) hny (hB)⟩
      · intro listed a W hf hun haf
        have hs1 : a.tmps.size = 46 := hf.alike.size.trans hsz
        have hB : Grow w1 W := hf.world.1
        have hny := not_yet hf.closed (n := 8) (e := 14) (i := 7) (by kernel_rfl) hun
        obtain ⟨v4, s4, q4⟩ := hf.slot 4 22 rfl (after_listed haf 4 (by kernel_rfl))
        have q4' : v4 = _ := q4
        subst q4'
        have G22 := tmp_get s4 (by rw [hs1]; decide)
        obtain ⟨v6, s6, q6⟩ := hf.slot 6 24 rfl (after_listed haf 6 (by kernel_rfl))
        have q6' : v6 = _ := q6
        subst q6'
        have G24 := tmp_get s6 (by rw [hs1]; decide)
        refine wpOp_act rfl (by rfl) (fun K' hK' => ?_)
        go_simp
        exact hK' _ _ ⟨_, rfl, (fun _ _ => by rw [HTL.out]; exact bv_dropI (Hbv.out.grow hB) (n := N) hN2), RBr.refl _, TA.vac 7 (by decide) hny (hB)⟩
      · intro listed a W hf hun haf
        have hs1 : a.tmps.size = 46 := hf.alike.size.trans hsz
        have hB : Grow w1 W := hf.world.1
        have hny := not_yet hf.closed (n := 8) (e := 14) (i := 8) (by kernel_rfl) hun
        obtain ⟨v3, s3, q3⟩ := hf.slot 3 21 rfl (after_listed haf 3 (by kernel_rfl))
        have q3' : v3 = _ := q3
        subst q3'
        have G21 := tmp_get s3 (by rw [hs1]; decide)
        obtain ⟨v7, s7, q7⟩ := hf.slot 7 25 rfl (after_listed haf 7 (by kernel_rfl))
        have G25 := tmp_get s7 (by rw [hs1]; decide)
        have q7b : Bv W v7 TL := q7
        refine wpOp_call rfl (by rfl) (by go_simp) (result_any (Hba.out.grow hB) q7b hh1 hh2) ?_
        rintro e w7 ⟨i, r, kv, dv, rfl, p1, p2, p3, p4, p5, p6, p7, p8, p9, hg7⟩
        exact ⟨_, rfl, _, rfl, (fun _ _ => ⟨i, r, kv, dv, rfl, ⟨p1, p3⟩, ⟨p2, p4, p5, p6, p7, p8⟩, p9⟩), RBr.grow hg7, TA.vac 8 (by decide) hny (hB.trans hg7)⟩
      · intro listed a W hf hun haf
        have hs1 : a.tmps.size = 46 := hf.alike.size.trans hsz
        have hB : Grow w1 W := hf.world.1
        have hny := not_yet hf.closed (n := 8) (e := 14) (i := 9) (by kernel_rfl) hun
        obtain ⟨v8, s8, q8⟩ := hf.slot 8 26 rfl (after_listed haf 8 (by kernel_rfl))
        obtain ⟨i8, r8, kv8, dv8, q8, t8, u8, z8⟩ := q8
        have q8' : v8 = _ := q8
        subst q8'
        have G26 := tmp_get s8 (by rw [hs1]; decide)
        refine wpOp_act rfl (by rfl) (fun K' hK' => ?_)
        go_simp
        exact hK' _ _ ⟨_, rfl, (fun _ _ => ⟨_, _, _, _, rfl, t8, u8, z8⟩), RBr.refl _, TA.vac 9 (by decide) hny (hB)⟩
      · intro listed a W hf hun haf
        have hs1 : a.tmps.size = 46 := hf.alike.size.trans hsz
        have hB : Grow w1 W := hf.world.1
        have hny := not_yet hf.closed (n := 8) (e := 14) (i := 10) (by kernel_rfl) hun
        obtain ⟨v9, s9, q9⟩ := hf.slot 9 17 rfl (after_listed haf 9 (by kernel_rfl))
        obtain ⟨i8, r8, kv8, dv8, q9, t8, u8, z8⟩ := q9
        have q9' : v9 = _ := q9
        subst q9'
        have G17 := tmp_get s9 (by rw [hs1]; decide)
        refine wpOp_act rfl (by rfl) (fun K' hK' => ?_)
        go_simp
        exact hK' _ _ ⟨_, rfl, (fun _ _ => ⟨_, rfl, t8⟩), RBr.refl _, TA.vac 10 (by decide) hny (hB)⟩
      · intro listed a W hf hun haf
        have hs1 : a.tmps.size = 46 := hf.alike.size.trans hsz
        have hB : Grow w1 W := hf.world.1
        have hny := not_yet hf.closed (n := 8) (e := 14) (i := 11) (by kernel_rfl) hun
        obtain ⟨v9, s9, q9⟩ := hf.slot 9 17 rfl (after_listed haf 9 (by kernel_rfl))
        obtain ⟨i8, r8, kv8, dv8, q9, t8, u8, z8⟩ := q9
        have q9' : v9 = _ := q9
        subst q9'
        have G17 := tmp_get s9 (by rw [hs1]; decide)
        refine wpOp_act rfl (by rfl) (fun K' hK' => ?_)
        go_simp
        exact hK' _ _ ⟨_, rfl, (fun _ _ => ⟨_, _, _, rfl, u8, z8⟩), RBr.refl _, TA.vac 11 (by decide) hny (hB)⟩
      · intro listed a W hf hun haf
        have hs1 : a.tmps.size = 46 := hf.alike.size.trans hsz
        have hB : Grow w1 W := hf.world.1
        have hny := not_yet hf.closed (n := 8) (e := 14) (i := 12) (by kernel_rfl) hun
        refine wpOp_act rfl (by rfl) (fun K' hK' => ?_)
        go_simp
        exact hK' _ (W.alloc (.cells #[.int .i64 0, .int .u64 0, .slice none 0 0, .bool false, .slice none 0 0] 48)) ⟨_, rfl, (fun _ _ => ⟨W.heap.size, _, _, _, _, _, _, _, _, _, rfl, hB.size, heap_alloc_new _ _⟩), RBr.grow (Grow.alloc _ _), TA.vac 12 (by decide) hny (hB.trans (Grow.alloc _ _))⟩
      · intro listed a W hf hun haf
        have hs1 : a.tmps.size = 46 := hf.alike.size.trans hsz
        have hB : Grow w1 W := hf.world.1
        have hny := not_yet hf.closed (n := 8) (e := 14) (i := 13) (by kernel_rfl) hun
        obtain ⟨v10, s10, q10⟩ := hf.slot 10 27 rfl (after_listed haf 10 (by kernel_rfl))
        obtain ⟨i8, q10, t8⟩ := q10
        have q10' : v10 = _ := q10
        subst q10'
        have G27 := tmp_get s10 (by rw [hs1]; decide)
        refine wpOp_act rfl (by rfl) (fun K' hK' => ?_)
        go_simp
        exact hK' _ _ ⟨_, rfl, (fun _ _ => ⟨_, rfl, t8⟩), RBr.refl _, TA.vac 13 (by decide) hny (hB)⟩
      · intro listed a W hf hun haf
        have hs1 : a.tmps.size = 46 := hf.alike.size.trans hsz
        have hB : Grow w1 W := hf.world.1
        obtain ⟨v11, s11, q11⟩ := hf.slot 11 28 rfl (after_listed haf 11 (by kernel_rfl))
        obtain ⟨r8, kv8, dv8, q11, u8, z8⟩ := q11
        have q11' : v11 = _ := q11
        subst q11'
        have G28 := tmp_get s11 (by rw [hs1]; decide)
        obtain ⟨v12, s12, q12⟩ := hf.slot 12 7 rfl (after_listed haf 12 (by kernel_rfl))
        obtain ⟨g, s0, s1, x0, x1, x2, m0, y0, y1, y2, q12, lg, hg⟩ := q12
        have q12' : v12 = _ := q12
        subst q12'
        have G7 := tmp_get s12 (by rw [hs1]; decide)
        obtain ⟨c0, c1, c2, c3, c4⟩ := cells5 hg
        have fy : ∀ i, W.frozen? ⟨g, i, none⟩ = false := fun i => by simp [World.frozen?, hg]
        have lW := lt_of_getElem? hg
        obtain ⟨ka, kc, rfl, _⟩ := id z8.k
        obtain ⟨da, dc, rfl⟩ := z8.d.slice
        refine wpOp_act rfl (by rfl) (fun K' hK' => ?_)
        go_simp
        exact hK' _ _ ⟨undef, rfl, (fun _ h => by cases h), RBr.set5 hg _ _ _ _ _ _ _ _ _, set5_grow hB lg _ _ _ _ _, fun _ => ⟨g, r8, _, _, s12, set5 hg _ _ _ _ _, u8, (RBr.set5 hg _ _ _ _ _ _ _ _ _).res z8⟩⟩
    case rest =>

    obtain ⟨i, g, r, kv, dv, rfl, rfl, hi, hr, hg, hres, hgr⟩ := hcut
    have HQ := Lib.hid (HPP.out i r hi hr hres.up)
    have HPR := Lib.hid (printResult_any hi.1 (Hba.out.grow hgr) hres)
    have hB := (hgr.block _ (lt_of_getElem? HB1.out)).trans HB1.out
    have hbv := Hbv.out.grow hgr
    have hgw := Hg1.out.trans hgr
    obtain ⟨q0, q1, q2, q3, q4, q5⟩ := five hg
    have Hg := Lib.hid hg
    have Hres := Lib.hid hres
    have Hi := Lib.hid hi.1
    have HB := Lib.hid hB
    have Hbw := Lib.hid hbv
    have Hgw := Lib.hid hgw
    have Hrl : w.heap.size ≤ rb := Nat.le_of_eq Hrb.out.symm
    clear hi hr hg hres hgr hB hbv hgw HHD HTL HPP HwN hwk hN2 hN3 hk3 hh1 hh2 hk1 Hg1 Hbv Hba HB1 Hat Hrb
    go_wp2_with fail
    (with_reducible refine HPR.out.mono ?_)
    intro e w3 he
    clear q0 q1 q2 q3 q4 q5
    rcases he with ⟨hR, v, rfl, hv, hg3⟩ | ⟨hR, rfl, hg3⟩
    · have hpe : printR i r = some (headR i r ++ crlf2 ++ bodyR r) := by
        unfold printR
        rw [hR, if_pos rfl]
      generalize headR i r ++ crlf2 ++ bodyR r = Q at *
      obtain ⟨va, vc, rfl⟩ := hv.slice
      have HE := Lib.hid (equal_any hv (Hbw.out.grow hg3))
      obtain ⟨eb, heb⟩ : ∃ b, (Q == l) = b := ⟨_, rfl⟩
      rw [heb] at HE
      have hB := (hg3.block _ (lt_of_getElem? HB.out)).trans HB.out
      have hg := (hg3.block _ (lt_of_getElem? Hg.out)).trans Hg.out
      have hgw := Hgw.out.trans hg3
      have hres := Hres.out.grow hg3
      have HR := Lib.hid hpe
      have Heb := Lib.hid heb
      clear hR heb hv hg3 hpe
      go_wp2_with fail
      (with_reducible refine HE.out.mono ?_)
      rintro e x2 ⟨rfl, hw⟩
      have hw' := hw.symm
      subst hw'
      clear hw HE HPR
      cases eb with
      | false =>
        have HN : Hid (parseRes l = none) := Lib.hid (by
          rw [HQ.out, if_neg]
          intro h
          rw [HR.out] at h
          have := Heb.out
          rw [Option.some.inj h] at this
          simp at this)
        obtain ⟨c0, c1, c2, c3, c4, c5⟩ := five (r := ⟨0, 0, [], false, []⟩) hB
        have hs := set5 hB (.int .i64 0) (.int .u64 0) (.slice none 0 0) (.bool false) (.slice none 0 0)
        have hgs := set5_grow hgw Hrl (.int .i64 0) (.int .u64 0) (.slice none 0 0) (.bool false) (.slice none 0 0)
        have Hs := Lib.hid hs
        have Hgs := Lib.hid hgs
        clear hs hgs hg hres hgw HQ HR Heb hB
        go_wp2
        refine bodyPost_ret (results_pr (r := ⟨0, 0, [], false, []⟩) (i := 0) rfl rfl rfl Hs.out) rfl ?_
        rw [HN.out]
        exact ⟨rfl, Hgs.out⟩
      | true =>
        have HN : Hid (parseRes l = some (i, r)) := Lib.hid (by
          rw [HQ.out, if_pos]
          rw [HR.out]
          exact congrArg some (by simpa using Heb.out))
        obtain ⟨q0, q1, q2, q3, q4, q5⟩ := five hg
        obtain ⟨c0, c1, c2, c3, c4, c5⟩ := five (r := ⟨0, 0, [], false, []⟩) hB
        obtain ⟨ka, kc, rfl, hk⟩ := id hres.k
        obtain ⟨da, dc, rfl⟩ := hres.d.slice
        have hs0 := set5 hB (.int .i64 r.status) (.int .u64 r.upload) (.slice ka r.keys.length kc) (.bool r.more) (.slice da r.data.length dc)
        have hd := Grow.drew (((((w3.setCell ⟨rb, 0, none⟩ (.int .i64 r.status)).setCell ⟨rb, 1, none⟩ (.int .u64 r.upload)).setCell ⟨rb, 2, none⟩ (.slice ka r.keys.length kc)).setCell ⟨rb, 3, none⟩ (.bool r.more)).setCell ⟨rb, 4, none⟩ (.slice da r.data.length dc))
        have hs := (hd.block _ (lt_of_getElem? hs0)).trans hs0
        have hgs := Grow.trans (set5_grow hgw Hrl (.int .i64 r.status) (.int .u64 r.upload) (.slice ka r.keys.length kc) (.bool r.more) (.slice da r.data.length dc)) hd
        have hrs := ((RBr.set5 (W := w3) (b := rb) (s := 0) (u := 0) (x := none) (n1 := 0) (c1 := 0) (m := false) (y := none) (n2 := 0) (c2 := 0) hB r.status r.upload ka r.keys.length kc r.more da r.data.length dc).res hres).grow hd
        have Hs := Lib.hid hs
        have Hgs := Lib.hid hgs
        have Hrs := Lib.hid hrs
        clear hs hgs hrs hg hres hgw HQ HR Heb hB hk hs0 hd
        go_upto_region 8 with fail
        go_region
        go_wp2
        refine bodyPost_ret (results_pr (r := r) (i := i) rfl rfl rfl Hs.out) rfl ?_
        rw [HN.out]
        exact ⟨_, _, rfl, Hi.out, Hrs.out, Hgs.out⟩
    · have HN : Hid (parseRes l = none) := Lib.hid (by
        rw [HQ.out, if_neg]
        intro h
        unfold printR at h
        rw [hR] at h
        cases h)
      have hB := (hg3.block _ (lt_of_getElem? HB.out)).trans HB.out
      have hgw := Hgw.out.trans hg3
      obtain ⟨c0, c1, c2, c3, c4, c5⟩ := five (r := ⟨0, 0, [], false, []⟩) hB
      have hs := set5 hB (.int .i64 0) (.int .u64 0) (.slice none 0 0) (.bool false) (.slice none 0 0)
      have hgs := set5_grow hgw Hrl (.int .i64 0) (.int .u64 0) (.slice none 0 0) (.bool false) (.slice none 0 0)
      have Hs := Lib.hid hs
      have Hgs := Lib.hid hgs
      clear hs hgs hgw HQ hR hB hg3
      go_wp2
      refine bodyPost_ret (results_pr (r := ⟨0, 0, [], false, []⟩) (i := 0) rfl rfl rfl Hs.out) rfl ?_
      rw [HN.out]
      exact ⟨rfl, Hgs.out⟩
end Go.Proofs.YtdegmpimcappjaaGreatDoor

/- Merged out of ZF0, ZG0, ZG1, ZG: helpers. -/
import Derived.Test.YtdegmpimcappjaaGreatDoorG2
import Derived.Tactics2
import Derived.Defers
import Derived.Recover
import Derived.Laws.Pointers
import Derived.Test.YtdegmpimcappjaaGreatDoorG1
/- Parts of rows of bytes; what a reader of requests tells. -/
namespace Go.Proofs.YtdegmpimcappjaaGreatDoor
open Go.RowKit Go.Gl Go.Front

theorem bv_take {w : World} {a : Option Addr} {c : Nat} {l : List UInt8} (h : Bv w (.slice a l.length c) l) {n : Nat} (hn : n ≤ l.length) : Bv w (.slice a n c) (l.take n) := by
  obtain ⟨a', c', hv, h1, h2, h3, h4⟩ := h
  cases hv
  refine ⟨a, c, by rw [List.length_take, Nat.min_eq_left hn], by rw [List.length_take]; omega, h2, h3, ?_⟩
  rcases h4 with rfl | ⟨b, o, ha, hb, hc⟩
  · left; simp
  · refine .inr ⟨b, o, ha, hb, fun j k hk => ?_⟩
    rw [List.getElem?_take] at hk
    split at hk
    · exact hc j k hk
    · cases hk

theorem bv_drop {w : World} {b o c : Nat} {l : List UInt8} (h : Bv w (.slice (some ⟨b, o, none⟩) l.length c) l) {n : Nat} (hn : n ≤ l.length) : Bv w (.slice (some ⟨b, o + n, none⟩) (l.length - n) (c - n)) (l.drop n) := by
  obtain ⟨a', c', hv, h1, h2, h3, h4⟩ := h
  cases hv
  refine ⟨_, _, by rw [List.length_drop], by rw [List.length_drop]; omega, by omega, (fun e => by cases e), ?_⟩
  rcases h4 with rfl | ⟨b', o', ha, hb, hc⟩
  · left; simp
  · cases ha
    refine .inr ⟨b, o + n, rfl, hb, fun j k hk => ?_⟩
    rw [List.getElem?_drop] at hk
    rw [Nat.add_assoc]
    exact hc _ k hk

theorem bv_dropI {w : World} {b o c : Nat} {l : List UInt8} (h : Bv w (.slice (some ⟨b, o, none⟩) l.length c) l) {n : Nat} (hn : n ≤ l.length) : Bv w (.slice (if c = n then some ⟨b, o, none⟩ else some ⟨b, o + n, none⟩) (l.length - n) (c - n)) (l.drop n) := by
  by_cases hc : c = n
  · rw [if_pos hc]
    obtain ⟨a', c', hv, h1, h2, h3, h4⟩ := h
    cases hv
    have e : l.drop n = [] := List.drop_eq_nil_of_le (by omega)
    refine ⟨_, _, by rw [List.length_drop], by rw [List.length_drop]; omega, by omega, (fun e => by cases e), .inl e⟩
  · rw [if_neg hc]
    exact bv_drop h hn

/-- No byte stands here. -/
def NoB (cs : Array Value) : Prop := ∀ (k : Nat) (n : Int), cs[k]? ≠ some (.int .u8 n)

theorem noB9 {a b f g : Int} {c d e : ByteArray} {p q : Value} (hp : ∀ n, p ≠ .int .u8 n) (hq : ∀ n, q ≠ .int .u8 n) : NoB #[.int .u64 a, .int .i64 b, .string c, .string d, .string e, .int .i64 f, .int .u64 g, p, q] := by
  intro k n h
  match k, h with
  | 0, h => cases h
  | 1, h => cases h
  | 2, h => cases h
  | 3, h => cases h
  | 4, h => cases h
  | 5, h => cases h
  | 6, h => cases h
  | 7, h =>
    have h' : some p = some (.int .u8 n) := h
    cases h'
    exact hp n rfl
  | 8, h =>
    have h' : some q = some (.int .u8 n) := h
    cases h'
    exact hq n rfl
  | (k + 9), h => simp at h

theorem noB_slices {a b f g : Int} {c d e : ByteArray} {x y : Option Addr} {n1 c1 n2 c2 : Nat} : NoB #[.int .u64 a, .int .i64 b, .string c, .string d, .string e, .int .i64 f, .int .u64 g, .slice x n1 c1, .slice y n2 c2] :=
  noB9 (fun n h => by cases h) (fun n h => by cases h)

theorem bv_other {W W' : World} {u : Value} {l : List UInt8} {g : Nat} {cs : Array Value} {t : TypeId} (h : Bv W u l) (hP : W.heap[g]? = some (.cells cs t)) (hcs : NoB cs) (hsz : W.heap.size ≤ W'.heap.size) (hk : ∀ c, c ≠ g → W'.heap[c]? = W.heap[c]?) : Bv W' u l := by
  obtain ⟨a, c, hv, h1, h2, h3, h4⟩ := h
  refine ⟨a, c, hv, h1, h2, h3, ?_⟩
  rcases h4 with h4 | ⟨b, o, ha, hb, hc⟩
  · exact .inl h4
  · refine .inr ⟨b, o, ha, Nat.lt_of_lt_of_le hb hsz, fun i k hi => ?_⟩
    have h5 := hc i k hi
    by_cases e : b = g
    · subst e
      have h6 : W.cell? ⟨b, o + i, none⟩ = cs[o + i]? := by
        unfold World.cell?
        rw [hP]
        rfl
      rw [h6] at h5
      exact absurd h5 (hcs _ _)
    · exact cell_keep h5 (hk b e)

theorem bv_store {W : World} {u : Value} {l : List UInt8} {g : Nat} {cs : Array Value} {t : TypeId} (h : Bv W u l) (hP : W.heap[g]? = some (.cells cs t)) (hcs : NoB cs) (j : Nat) (v : Value) : Bv (W.setCell ⟨g, j, none⟩ v) u l :=
  bv_other h hP hcs (by simp) fun c hc => Below.heap_setCell _ _ _ _ hc

theorem put9_bv {W : World} {u : Value} {l : List UInt8} {g : Nat} {cs : Array Value} {t : TypeId} (h : Bv W u l) (hP : W.heap[g]? = some (.cells cs t)) (hcs : NoB cs) (y0 y1 y2 y3 y4 y5 y6 y7 y8 : Value) : Bv (put9 W g y0 y1 y2 y3 y4 y5 y6 y7 y8) u l :=
  bv_other h hP hcs (by simp) fun c hc => put9_other hc _ _ _ _ _ _ _ _ _

theorem bv_some {w : World} {v : Value} {l : List UInt8} (h : Bv w v l) (h0 : l ≠ []) : ∃ b o c, v = .slice (some ⟨b, o, none⟩) l.length c ∧ l.length ≤ c ∧ c ≤ maxLen := by
  obtain ⟨a, c, rfl, h1, h2, h3, h4⟩ := h
  rcases h4 with h4 | ⟨b, o, rfl, _, _⟩
  · exact absurd h4 h0
  · exact ⟨b, o, c, rfl, h1, h2⟩

/-- What a reader of requests tells. -/
def PsPost (r : OpD × Nat) (w : World) (e : Ending) (w' : World) : Prop := Grow w w' ∧ ∃ pv dv, e = .returned (.tuple #[.agg #[.int .u64 r.1.id, .int .i64 r.1.kind, .string ⟨r.1.bucket.toArray⟩, .string ⟨r.1.key.toArray⟩, .string ⟨r.1.after.toArray⟩, .int .i64 r.1.n, .int .u64 r.1.upload, pv, dv], .int .i64 (r.2 : Int)]) ∧ Pv w' pv r.1.parts ∧ Bv w' dv r.1.data

theorem ps_zero {w w' : World} {r : OpD × Nat} {k : Nat} (h : r = (opZero, k)) (hg : Grow w w') : PsPost r w (.returned (.tuple #[.agg (opCells opZero (.slice none 0 0)), .int .i64 (k : Int)])) w' := by
  subst h
  exact ⟨hg, _, _, rfl, iv_nil _, bv_nil _⟩

theorem results_rparse {w : World} {t : Array Value} {rb : Nat} {o : OpD} {pv dv : Value} {k : Int} (h2 : t.getD 2 undef = .pointer (some ⟨rb, 0, none⟩)) (h3 : t.getD 3 undef = .int .i64 k) (hW : w.heap[rb]? = some (.cells #[.int .u64 o.id, .int .i64 o.kind, .string ⟨o.bucket.toArray⟩, .string ⟨o.key.toArray⟩, .string ⟨o.after.toArray⟩, .int .i64 o.n, .int .u64 o.upload, pv, dv] 26)) :
    (results Tryz.f20 t).run Tryz.prog w = .ok (.tuple #[.agg #[.int .u64 o.id, .int .i64 o.kind, .string ⟨o.bucket.toArray⟩, .string ⟨o.key.toArray⟩, .string ⟨o.after.toArray⟩, .int .i64 o.n, .int .u64 o.upload, pv, dv], .int .i64 k]) w := by
  obtain ⟨k0, k1, k2, k3, k4, k5, k6, k7, k8, _⟩ := nine hW
  simp only [Array.getD_eq_getD_getElem?] at h2 h3
  simp [results, Tryz.results20, go_sem, h2, h3, k0, k1, k2, k3, k4, k5, k6, k7, k8]

/-- Where a head ends. -/
theorem ends_cut (b : List UInt8) : endsV (b.take 65536) = if cutAt b = -1 then -1 else cutAt b + 4 := rfl

theorem cut_ge (b : List UInt8) (h : cutAt b ≠ -1) : 0 ≤ cutAt b := by
  have := Lib.index_ge (b.take 65536) crlf2
  unfold cutAt at h ⊢
  omega

theorem cut_in (b : List UInt8) (h : cutAt b ≠ -1) : ∃ N : Nat, cutAt b + 4 = (N : Int) ∧ (cutAt b).toNat + 4 = N ∧ N ≤ b.length ∧ N ≤ 65536 ∧ 4 ≤ N := by
  have h4 := cut_ge b h
  obtain ⟨hd, tl, hb, h2, h3⟩ := cut_parts h
  have h5 : b.length = hd.length + 4 + tl.length := by rw [hb]; simp [crlf2]; omega
  exact ⟨(cutAt b).toNat + 4, by omega, rfl, by omega, by omega, by omega⟩
end Go.Proofs.YtdegmpimcappjaaGreatDoor

/- The deferred closure of Parse. -/
namespace Go.Proofs.YtdegmpimcappjaaGreatDoor
open Go.RowKit Go.Gl Go.Front

abbrev z9 : Array Value := #[.int .u64 0, .int .i64 0, .string ⟨#[]⟩, .string ⟨#[]⟩, .string ⟨#[]⟩, .int .i64 0, .int .u64 0, .slice none 0 0, .slice none 0 0]

theorem catch_idle (p q : Addr) (w : World) :
    CallsD Tryz.prog 44 #[.pointer (some p), .pointer (some q)] .returning w fun e u' w' => e = .returned (.tuple #[]) ∧ u' = .returning ∧ w' = w := by
  refine callsD_of_wpS Tryz.func44 rfl fun c₀ cs hu => ?_
  apply wpS_seq
  apply wpS_region
  simp [wpOpsS, go_sem, recoverD, hu, Tryz.ntmps44, Exit.thenS]
  refine wpS_of_wp ?_
  go_wp2
  cases c₀
  simp_all [bodyPostS, results, Tryz.results44]

set_option maxRecDepth 100000 in
theorem catch_bad (b2 b3 : Nat) (w : World) (hO : w.heap[b2]? = some (.cells z9 26)) (hS : w.heap[b3]? = some (.cells #[.int .i64 0] 3)) :
    CallsD Tryz.prog 44 #[.pointer (some ⟨b2, 0, none⟩), .pointer (some ⟨b3, 0, none⟩)] (.panicking ({ v := .iface 3 (.int .i64 400), recovered := false } :: [])) w fun e u' w' =>
      e = .returned (.tuple #[]) ∧ u' = .panicking ({ v := .iface 3 (.int .i64 400), recovered := true } :: []) ∧ w' = (put9 w b2 (.int .u64 0) (.int .i64 0) (.string ⟨#[]⟩) (.string ⟨#[]⟩) (.string ⟨#[]⟩) (.int .i64 0) (.int .u64 0) (.slice none 0 0) (.slice none 0 0)).setCell ⟨b3, 0, none⟩ (.int .i64 400) := by
  refine callsD_of_wpS Tryz.func44 rfl fun c₀ cs hu => ?_
  apply wpS_seq
  apply wpS_region
  simp [wpOpsS, go_sem, recoverD, hu, Tryz.ntmps44, Exit.thenS]
  refine wpS_of_wp ?_
  obtain ⟨c0, c1, c2, c3, c4, c5, c6, c7, c8, c9⟩ := nine (o := opZero) hO
  have d0 : w.cell? ⟨b3, 0, none⟩ = some (.int .i64 0) := ck_cell hS rfl
  have d1 : w.frozen? ⟨b3, 0, none⟩ = false := by simp [World.frozen?, hS]
  have hne : b3 ≠ b2 := by intro e; rw [e, hO] at hS; cases hS
  have hne' := hne.symm
  have hta : (Instr.typeAssert (.iface 3 (.int .i64 400)) 20 3 true).run Tryz.prog w = .ok (.tuple #[.int .i64 400, .bool true]) w := by kernel_rfl
  go_wp2
  cases c₀
  simp_all [bodyPostS, results, Tryz.results44]

/-- What Parse tells, out of its two cells. -/
theorem results_pparse {w : World} {t : Array Value} {b2 b3 : Nat} {o : OpD} {pv dv : Value} {k : Int} (h2 : t.getD 2 undef = .pointer (some ⟨b2, 0, none⟩)) (h3 : t.getD 3 undef = .pointer (some ⟨b3, 0, none⟩))
    (hW : w.heap[b2]? = some (.cells #[.int .u64 o.id, .int .i64 o.kind, .string ⟨o.bucket.toArray⟩, .string ⟨o.key.toArray⟩, .string ⟨o.after.toArray⟩, .int .i64 o.n, .int .u64 o.upload, pv, dv] 26)) (hS : w.heap[b3]? = some (.cells #[.int .i64 k] 3)) :
    (results Tryz.f19 t).run Tryz.prog w = .ok (.tuple #[.agg #[.int .u64 o.id, .int .i64 o.kind, .string ⟨o.bucket.toArray⟩, .string ⟨o.key.toArray⟩, .string ⟨o.after.toArray⟩, .int .i64 o.n, .int .u64 o.upload, pv, dv], .int .i64 k]) w := by
  obtain ⟨k0, k1, k2, k3, k4, k5, k6, k7, k8, _⟩ := nine hW
  have e3 : w.cell? ⟨b3, 0, none⟩ = some (.int .i64 k) := ck_cell hS rfl
  simp only [Array.getD_eq_getD_getElem?] at h2 h3
  simp [results, Tryz.results19, go_sem, h2, h3, k0, k1, k2, k3, k4, k5, k6, k7, k8, e3]

abbrev dParse (b2 b3 : Nat) : Deferred := { target := .fn (.func 44) #[.pointer (some ⟨b2, 0, none⟩), .pointer (some ⟨b3, 0, none⟩)], args := #[] }

theorem leave_ok {w0 W : World} {r : OpD × Nat} {pv dv : Value} {t : Array Value} {b2 b3 : Nat} (h2 : t.getD 2 undef = .pointer (some ⟨b2, 0, none⟩)) (h3 : t.getD 3 undef = .pointer (some ⟨b3, 0, none⟩))
    (hO : W.heap[b2]? = some (.cells #[.int .u64 r.1.id, .int .i64 r.1.kind, .string ⟨r.1.bucket.toArray⟩, .string ⟨r.1.key.toArray⟩, .string ⟨r.1.after.toArray⟩, .int .i64 r.1.n, .int .u64 r.1.upload, pv, dv] 26))
    (hS : W.heap[b3]? = some (.cells #[.int .i64 (r.2 : Int)] 3)) (hg : Grow w0 W) (hpv : Pv W pv r.1.parts) (hdv : Bv W dv r.1.data) :
    Leaves Tryz.prog Tryz.f19 t (PsPost r w0) [dParse b2 b3] .returning W := by
  refine leaves_cons (f := 44) (args := #[.pointer (some ⟨b2, 0, none⟩), .pointer (some ⟨b3, 0, none⟩)]) (by simp) (by simp [go_sem]) ?_
  refine (catch_idle _ _ _).mono ?_
  rintro e u' w'' ⟨rfl, rfl, rfl⟩
  exact ⟨_, results_pparse h2 h3 hO hS, hg, _, _, rfl, hpv, hdv⟩

theorem leave_bad {w0 W : World} {r : OpD × Nat} {t : Array Value} {b2 b3 : Nat} (h2 : t.getD 2 undef = .pointer (some ⟨b2, 0, none⟩)) (h3 : t.getD 3 undef = .pointer (some ⟨b3, 0, none⟩))
    (hO : W.heap[b2]? = some (.cells z9 26)) (hS : W.heap[b3]? = some (.cells #[.int .i64 0] 3)) (hg : Grow w0 W) (l2 : w0.heap.size ≤ b2) (l3 : w0.heap.size ≤ b3) (hr : r = (opZero, 400)) :
    Leaves Tryz.prog Tryz.f19 t (PsPost r w0) [dParse b2 b3] (.panicking [{ v := .iface 3 (.int .i64 400), recovered := false }]) W := by
  have hne : b3 ≠ b2 := by intro e; rw [e, hO] at hS; cases hS
  refine leaves_cons (f := 44) (args := #[.pointer (some ⟨b2, 0, none⟩), .pointer (some ⟨b3, 0, none⟩)]) (by simp) (by simp [go_sem]) ?_
  refine (catch_bad b2 b3 W hO hS).mono ?_
  rintro e u' w'' ⟨rfl, rfl, rfl⟩
  have q1 : (put9 W b2 (.int .u64 0) (.int .i64 0) (.string ⟨#[]⟩) (.string ⟨#[]⟩) (.string ⟨#[]⟩) (.int .i64 0) (.int .u64 0) (.slice none 0 0) (.slice none 0 0)).heap[b3]? = some (.cells #[.int .i64 0] 3) := (put9_other hne _ _ _ _ _ _ _ _ _).trans hS
  have q2 := setCell_heap q1 0 (.int .i64 400)
  have q3 := (Below.heap_setCell (put9 W b2 (.int .u64 0) (.int .i64 0) (.string ⟨#[]⟩) (.string ⟨#[]⟩) (.string ⟨#[]⟩) (.int .i64 0) (.int .u64 0) (.slice none 0 0) (.slice none 0 0)) ⟨b3, 0, none⟩ (.int .i64 400) b2 hne.symm).trans (put9_heap hO (.int .u64 0) (.int .i64 0) (.string ⟨#[]⟩) (.string ⟨#[]⟩) (.string ⟨#[]⟩) (.int .i64 0) (.int .u64 0) (.slice none 0 0) (.slice none 0 0))
  have q4 := (put9_below hg l2 (.int .u64 0) (.int .i64 0) (.string ⟨#[]⟩) (.string ⟨#[]⟩) (.string ⟨#[]⟩) (.int .i64 0) (.int .u64 0) (.slice none 0 0) (.slice none 0 0)).setCell (p := ⟨b3, 0, none⟩) l3 (.int .i64 400)
  rw [hr]
  exact ⟨_, results_pparse (o := opZero) (k := 400) h2 h3 q3 q2, q4, _, _, rfl, iv_nil _, bv_nil _⟩
abbrev zero9 (W : World) (b : Nat) : World := put9 W b (.int .u64 0) (.int .i64 0) (.string ⟨#[]⟩) (.string ⟨#[]⟩) (.string ⟨#[]⟩) (.int .i64 0) (.int .u64 0) (.slice none 0 0) (.slice none 0 0)

theorem leave_zero {w0 W : World} {r : OpD × Nat} {k : Nat} {t : Array Value} {b2 b3 : Nat} (h2 : t.getD 2 undef = .pointer (some ⟨b2, 0, none⟩)) (h3 : t.getD 3 undef = .pointer (some ⟨b3, 0, none⟩))
    (hO : W.heap[b2]? = some (.cells z9 26)) (hS : W.heap[b3]? = some (.cells #[.int .i64 0] 3)) (hg : Grow w0 W) (l2 : w0.heap.size ≤ b2) (l3 : w0.heap.size ≤ b3) (hr : r = (opZero, k)) :
    Leaves Tryz.prog Tryz.f19 t (PsPost r w0) [dParse b2 b3] .returning ((zero9 W b2).setCell ⟨b3, 0, none⟩ (.int .i64 (k : Int))) := by
  have hne : b3 ≠ b2 := by intro e; rw [e, hO] at hS; cases hS
  have q1 : (zero9 W b2).heap[b3]? = some (.cells #[.int .i64 0] 3) := (put9_other hne _ _ _ _ _ _ _ _ _).trans hS
  have q2 := setCell_heap q1 0 (.int .i64 (k : Int))
  have q3 := (Below.heap_setCell (zero9 W b2) ⟨b3, 0, none⟩ (.int .i64 (k : Int)) b2 hne.symm).trans (put9_heap hO (.int .u64 0) (.int .i64 0) (.string ⟨#[]⟩) (.string ⟨#[]⟩) (.string ⟨#[]⟩) (.int .i64 0) (.int .u64 0) (.slice none 0 0) (.slice none 0 0))
  have q4 := (put9_below hg l2 (.int .u64 0) (.int .i64 0) (.string ⟨#[]⟩) (.string ⟨#[]⟩) (.string ⟨#[]⟩) (.int .i64 0) (.int .u64 0) (.slice none 0 0) (.slice none 0 0)).setCell (p := ⟨b3, 0, none⟩) l3 (.int .i64 (k : Int))
  rw [hr]
  exact leave_ok (r := (opZero, k)) h2 h3 q3 q2 q4 (iv_nil _) (bv_nil _)

section pid
variable {P : Program} {Q : Exit → Act → World → Prop} {S : World → Prop}
theorem wpAnyH_of_piD {l : List Oper} (hs : Region.noSelect l.toArray = true) (hQ : ∀ c a o v w, o ∈ l → Q (.panic c) (Act.put a o.dst v) w → Q (.panic c) a w) : ∀ (π : List (Nat × Bool)) (listed : Array Bool) (a : Act) (w : World),
    checkPi l.toArray π listed = true → S w → wpPi P l.toArray Q S (arrange l π) a w → wpAnyH P .any l.toArray Q S π.length listed a w
  | [], listed, a, w, hc, hS, h => wpAnyH_done (by simpa [checkPi] using hc) (by simpa only [arrange, wpPi] using h) _
  | (i, false) :: rest, listed, a, w, hc, hS, h => by
    simp only [checkPi, Bool.and_eq_true] at hc
    simp only [arrange, wpPi] at h
    obtain ⟨v, hy, hr⟩ := h
    have hi := ready_lt (by simpa using hc.1.1)
    have hn := nth_of_lt (l := l) (by simpa using hi)
    exact wpAnyH_take (by simpa using hn) hs hc.1.2 hc.1.1 (fun c a w => hQ c a _ _ w (List.mem_of_getElem? hn)) hy hS (wpAnyH_of_piD hs hQ rest _ _ _ hc.2 hS hr)
  | (i, true) :: rest, listed, a, w, hc, hS, h => by
    simp only [checkPi, Bool.and_eq_true, decide_eq_true_eq] at hc
    refine wpAnyH_all hc.1 (by simp) fun j hj => ?_
    have hji : j = i := by simpa using hj
    subst hji
    have hi : l.toArray[j]? = some (nth l j) := by
      have := ready_lt (ops := l.toArray) (listed := listed) (i := j) (by rw [hc.1]; simp)
      simpa using nth_of_lt (l := l) (by simpa using this)
    simp only [arrange, wpPi] at h
    unfold wpOp
    simp only [hi]
    split
    · rename_i hw
      rw [if_pos hw] at h
      exact .inl (Oper.wp_mono (fun a' w' h' => ⟨h'.1, wpAnyH_of_piD hs hQ rest _ _ _ hc.2 h'.1 h'.2⟩) h)
    · rename_i hw
      rw [if_neg hw] at h
      exact ⟨h.1, wpAnyH_of_piD hs hQ rest _ _ _ hc.2 h.1 h.2⟩

/-- As wp_region_pi, where only the region's own slots are put. -/
theorem wp_region_piD {id : Nat} {a : Act} {w : World} {l : List Oper} (S : World → Prop) (π : List (Nat × Bool)) (hm : P.follows .mixedOrders = true)
    (hB : (Region.noSelect l.toArray && checkPi l.toArray π (Array.replicate l.toArray.size false) && decide (π.length = l.toArray.size)) = true)
    (hQ : ∀ c a o v w, o ∈ l → Q (.panic c) (Act.put a o.dst v) w → Q (.panic c) a w) (hS : S w.drew) (h : wpPi P l.toArray Q S (arrange l π) a w.drew) : (Code.region id l.toArray true).wp P Q a w := by
  simp only [Bool.and_eq_true, decide_eq_true_eq] at hB
  refine wp_region_held (S := S) hm ?_
  rw [← hB.2]
  exact wpAnyH_of_piD hB.1.1 hQ π _ _ _ (by rw [hB.2]; exact hB.1.2) hS h

theorem leaves_same {fn : Func} {t t' : Array Value} {R : Ending → World → Prop} (h : ∀ w, (results fn t).run P w = (results fn t').run P w) : ∀ (ds : List Deferred) (u : FrameMode) (w : World), Leaves P fn t R ds u w → Leaves P fn t' R ds u w
  | [], .returning, w, hl => by
    obtain ⟨v, h1, h2⟩ := hl
    exact ⟨v, (h w).symm.trans h1, h2⟩
  | [], .panicking _, _, hl => hl
  | [], .run, _, hl => hl
  | d :: ds, u, w, hl => by
    obtain ⟨h1, fv, cap, f, args, h2, h3, h4⟩ := hl
    refine ⟨h1, fv, cap, f, args, h2, h3, fun c cs hc => ?_⟩
    obtain ⟨e, u', w', fr, k1, k2⟩ := h4 c cs hc
    refine ⟨e, u', w', fr, ?_, k2⟩
    cases e with
    | returned v => exact leaves_same h ds _ _ k1
    | panicked ch => exact leaves_same h ds _ _ k1
    | outgrown => exact k1
end pid

theorem parse_panic {R : Ending → World → Prop} {c : List PanicEntry} {a : Act} {d : Option Nat} {v : Value} {w : World} (h2 : d ≠ some 2) (h3 : d ≠ some 3)
    (h : bodyPostD Tryz.prog Tryz.f19 R (.panic c) (a.put d v) w) : bodyPostD Tryz.prog Tryz.f19 R (.panic c) a w := by
  cases d with
  | none => exact h
  | some d =>
    have e2 : d ≠ 2 := fun e => h2 (by rw [e])
    have e3 : d ≠ 3 := fun e => h3 (by rw [e])
    refine leaves_same (fun w => ?_) _ _ _ h
    simp [results, Tryz.results19, Act.put, Array.getElem?_setIfInBounds, e2, e3]

theorem rising_pos : ∀ (l : List Int) (a : Int), 0 ≤ a → risingF a l = true → ∀ x ∈ l, x ≠ 0
  | [], _, _, _, x, hx => by cases hx
  | n :: l, a, ha, h, x, hx => by
    unfold risingF at h
    simp only [Bool.and_eq_true, decide_eq_true_eq] at h
    rcases List.mem_cons.1 hx with rfl | hx
    · omega
    · exact rising_pos l n (by omega) h.2 x hx

theorem right_pos {o : OpD} (h : right o = true) : ∀ x ∈ o.parts, x ≠ 0 := by
  have hp : o.parts = [] ∨ partsB o.parts = true := by
    obtain ⟨id, kind, bucket, key, after, n, upload, parts, data⟩ := o
    unfold right at h
    dsimp only at h ⊢
    repeat' split at h
    all_goals simp_all
  rcases hp with hp | hp
  · rw [hp]; intro x hx; cases hx
  · unfold partsB at hp
    simp only [Bool.and_eq_true, decide_eq_true_eq] at hp
    exact rising_pos _ 0 (Int.le_refl _) hp.2

/-- The status's own cell bears no number of a row. -/
theorem pv_status {W : World} {pv v : Value} {l : List Int} {b : Nat} (h : Pv W pv l) (hS : W.heap[b]? = some (.cells #[.int .i64 0] 3)) (hpos : ∀ x ∈ l, x ≠ 0) : Pv (W.setCell ⟨b, 0, none⟩ v) pv l := by
  rcases h with ⟨rfl, h0⟩ | ⟨g, cap, cur, rfl, hB, hg, hn, hc, hm, ht⟩
  · exact .inl ⟨rfl, h0⟩
  · by_cases hgb : g = b
    · subst hgb
      rw [hS] at hg
      cases hg
      cases l with
      | nil => exact .inr ⟨g, cap, _, rfl, hB, setCell_heap hS 0 v, hn, by simpa using hc, hm, rfl⟩
      | cons x l =>
        exfalso
        simp only [icells, List.map_cons, List.length_cons, List.take_succ_cons, List.cons.injEq] at ht
        have h1 := ht.1
        injection h1 with _ h2
        exact hpos x (by simp) h2.symm
    · exact .inr ⟨g, cap, cur, rfl, hB, (Below.heap_setCell W ⟨b, 0, none⟩ v g hgb).trans hg, hn, hc, hm, ht⟩

theorem noB1 {n : Int} : NoB #[.int .i64 n] := by
  intro k m h
  match k, h with
  | 0, h => cases h
  | k + 1, h => simp at h

theorem leave_full {w0 W : World} {o : OpD} {k : Nat} {pv dv : Value} {t : Array Value} {b2 b3 : Nat} (h2 : t.getD 2 undef = .pointer (some ⟨b2, 0, none⟩)) (h3 : t.getD 3 undef = .pointer (some ⟨b3, 0, none⟩))
    (hO : W.heap[b2]? = some (.cells z9 26)) (hS : W.heap[b3]? = some (.cells #[.int .i64 0] 3)) (hg : Grow w0 W) (l2 : w0.heap.size ≤ b2) (l3 : w0.heap.size ≤ b3) (hpv : Pv W pv o.parts) (hbv : Bv W dv o.data) (hpos : ∀ x ∈ o.parts, x ≠ 0) :
    Leaves Tryz.prog Tryz.f19 t (PsPost (o, k) w0) [dParse b2 b3] .returning ((put9 W b2 (.int .u64 o.id) (.int .i64 o.kind) (.string ⟨o.bucket.toArray⟩) (.string ⟨o.key.toArray⟩) (.string ⟨o.after.toArray⟩) (.int .i64 o.n) (.int .u64 o.upload) pv dv).setCell ⟨b3, 0, none⟩ (.int .i64 (k : Int))) := by
  have hne : b3 ≠ b2 := by intro e; rw [e, hO] at hS; cases hS
  have p1 := put9_pv hpv hO (by decide) (.int .u64 o.id) (.int .i64 o.kind) (.string ⟨o.bucket.toArray⟩) (.string ⟨o.key.toArray⟩) (.string ⟨o.after.toArray⟩) (.int .i64 o.n) (.int .u64 o.upload) pv dv
  have d1 := put9_bv hbv hO noB_slices (.int .u64 o.id) (.int .i64 o.kind) (.string ⟨o.bucket.toArray⟩) (.string ⟨o.key.toArray⟩) (.string ⟨o.after.toArray⟩) (.int .i64 o.n) (.int .u64 o.upload) pv dv
  have q0 := put9_heap hO (.int .u64 o.id) (.int .i64 o.kind) (.string ⟨o.bucket.toArray⟩) (.string ⟨o.key.toArray⟩) (.string ⟨o.after.toArray⟩) (.int .i64 o.n) (.int .u64 o.upload) pv dv
  have q1 := (put9_other hne (.int .u64 o.id) (.int .i64 o.kind) (.string ⟨o.bucket.toArray⟩) (.string ⟨o.key.toArray⟩) (.string ⟨o.after.toArray⟩) (.int .i64 o.n) (.int .u64 o.upload) pv dv).trans hS
  have q4 := put9_below hg l2 (.int .u64 o.id) (.int .i64 o.kind) (.string ⟨o.bucket.toArray⟩) (.string ⟨o.key.toArray⟩) (.string ⟨o.after.toArray⟩) (.int .i64 o.n) (.int .u64 o.upload) pv dv
  generalize put9 W b2 (.int .u64 o.id) (.int .i64 o.kind) (.string ⟨o.bucket.toArray⟩) (.string ⟨o.key.toArray⟩) (.string ⟨o.after.toArray⟩) (.int .i64 o.n) (.int .u64 o.upload) pv dv = X at *
  exact leave_ok (r := (o, k)) h2 h3 ((Below.heap_setCell X ⟨b3, 0, none⟩ (.int .i64 (k : Int)) b2 hne.symm).trans q0) (setCell_heap q1 0 (.int .i64 (k : Int))) (q4.setCell (p := ⟨b3, 0, none⟩) l3 (.int .i64 (k : Int))) (pv_status p1 q1 hpos) (bv_store d1 q1 noB1 0 _)
end Go.Proofs.YtdegmpimcappjaaGreatDoor

/- bytes.Index; how long what a head tells is. -/
namespace Go.Proofs.YtdegmpimcappjaaGreatDoor
open Go.RowKit Go.Gl Go.Front

theorem index_nil {p : List UInt8} (hp : p ≠ []) : Lib.index [] p = -1 := by
  cases p with
  | nil => exact absurd rfl hp
  | cons a p => rfl

theorem bytesOf_nums (l : List UInt8) : Lib.bytesOf (l.map fun k => (k.toNat : Int)) = l := by
  unfold Lib.bytesOf
  rw [List.map_map]
  have : ((fun n : Int => UInt8.ofNat n.toNat) ∘ fun k : UInt8 => (k.toNat : Int)) = id := by
    funext k
    simp
  rw [this, List.map_id]

theorem nums_range {l : List UInt8} : ∀ x ∈ (l.map fun k => (k.toNat : Int)), 0 ≤ x ∧ x < 256 := by
  intro x hx
  obtain ⟨k, _, rfl⟩ := List.mem_map.1 hx
  have := k.toNat_lt
  omega

theorem index_bv {w : World} {v u : Value} {l p : List UInt8} (hb : Base w) (h : Bv w v l) (k : Bv w u p) (hp : 2 ≤ p.length) (hpl : p.length ≤ 1000) (hl : l.length < 4294967281) :
    Calls Tryz.prog 45 #[v, u] w fun e w' => e = .returned (.int .i64 (Lib.index l p)) ∧ Grow w w' := by
  obtain ⟨a, c, rfl, h1, h2, h3, h4⟩ := h
  obtain ⟨a', c', rfl, k1, k2, k3, k4⟩ := k
  have hp0 : p ≠ [] := by intro e; rw [e] at hp; simp at hp
  obtain ⟨b2, o2, rfl, _, hc2⟩ := k4.resolve_left hp0
  obtain ⟨m, hm⟩ := hb.max
  cases a with
  | none =>
    have hc := h3 rfl
    subst hc
    have hl0 : l = [] := List.eq_nil_of_length_eq_zero (by omega)
    subst hl0
    refine (Tryz.bytes_Index_nil _ p.length c' w (by omega) (fun e => by omega)).mono ?_
    rintro e w' ⟨rfl, rfl⟩
    exact ⟨by rw [if_neg (by omega), index_nil hp0], Grow.refl _⟩
  | some a1 =>
    refine (Tryz.bytes_Index_at a1 ⟨b2, o2, none⟩ l.length c p.length c' (l.map fun k => (k.toNat : Int)) (p.map fun k => (k.toNat : Int)) m w (by simp) (by simp) nums_range nums_range (fun i hi => ?_) (fun i hi => ?_) h1 hl (by omega) hm).mono ?_
    · rcases h4 with h4 | ⟨b, o, he, _, hc⟩
      · rw [h4] at hi; simp at hi
      · cases he
        rw [Addr.add_lit, hc i l[i] (by simp [hi])]
        simp [List.getD_eq_getElem?_getD, hi]
    · rw [Addr.add_lit, hc2 i p[i] (by simp [hi])]
      simp [List.getD_eq_getElem?_getD, hi]
    · rintro e w' ⟨rfl, q, rfl⟩
      exact ⟨by rw [bytesOf_nums, bytesOf_nums], Grow.drewN _ q⟩

/-- How long a name and a list may be. -/
structure Sm (n : Nat) (o : OpD) : Prop where
  b : o.bucket.length ≤ n
  p : o.parts.length ≤ n + 1

theorem uploadP_in {how s : List UInt8} {o : OpD} (h : uploadP how s = some o) : Sm s.length o := by
  unfold uploadP at h
  simp only at h
  split at h
  · cases h
  · split at h
    · obtain ⟨n, _, rfl⟩ := Option.map_eq_some_iff.1 h
      exact ⟨Nat.zero_le _, Nat.zero_le _⟩
    · split at h
      · rename_i parts hpa
        obtain ⟨l, hl, rfl⟩ := Option.map_eq_some_iff.1 h
        refine ⟨Nat.zero_le _, ?_⟩
        have e1 := numsP_len _ _ hl
        have e2 := split_len parts [44] (by simp)
        split at hpa
        · have e3 := congrArg List.length (cutP_some hpa)
          rw [List.length_append] at e3
          have e4 : (if 16 < s.length then s.drop 16 else []).length ≤ s.length := by split <;> simp
          show l.length ≤ _
          omega
        · cases hpa
      · generalize (if 16 < s.length then s.drop 16 else []) = rest at h
        split at h
        · cases h
          exact ⟨Nat.zero_le _, Nat.zero_le _⟩
        · cases h

theorem targetP_in {how s : List UInt8} {o : OpD} (h : targetP how s = some o) : Sm s.length o := by
  unfold targetP at h
  split at h
  · rename_i rest hr
    have e := congrArg List.length (cutP_some hr)
    rw [List.length_append] at e
    have e2 := uploadP_in h
    exact ⟨by have := e2.b; omega, by have := e2.p; omega⟩
  · have c1 := cut_lens s [47]
    split at h
    · cases h
    · rename_i x s1 hc
      rw [hc] at c1
      simp only at c1
      have c2 := cut_lens s1 [47]
      split at h
      rename_i name key is hn
      rw [hn] at c2
      simp only at c2
      split at h
      · obtain ⟨k, _, rfl⟩ := Option.map_eq_some_iff.1 h
        exact ⟨by show name.length ≤ _; omega, Nat.zero_le _⟩
      · have c3 := cut_lens s1 [63, 112, 114, 101, 102, 105, 120, 61]
        split at h
        · rename_i nm rest hnm
          rw [hnm] at c3
          simp only at c3
          split at h
          · cases h
          · split at h
            · cases h
            · split at h
              · cases h
                exact ⟨by show nm.length ≤ _; omega, Nat.zero_le _⟩
              · cases h
        · cases h
          exact ⟨by show s1.length ≤ _; omega, Nat.zero_le _⟩

theorem headP_in {s : List UInt8} {o : OpD} {len : List UInt8} (h : headP s = some (o, len)) : Sm s.length o := by
  unfold headP at h
  split at h
  · rename_i l0 l1 l2 hs
    have e0 : l0.length ≤ s.length := split_mem (s := s) (sep := [13, 10]) (by rw [hs]; simp)
    split at h
    · rename_i w0 w1 w2 hw
      have e1 : w1.length ≤ l0.length := split_mem (s := l0) (sep := [32]) (by rw [hw]; simp)
      split at h
      · split at h
        · rename_i o' id size ht hid hsz
          obtain ⟨u, hu, he⟩ := Option.map_eq_some_iff.1 h
          cases he
          have e2 := targetP_in ht
          exact ⟨by have := e2.b; show o'.bucket.length ≤ _; omega, by have := e2.p; show o'.parts.length ≤ _; omega⟩
        · cases h
      · cases h
    · cases h
  · cases h
end Go.Proofs.YtdegmpimcappjaaGreatDoor

/- The program's Parse. -/
namespace Go.Proofs.YtdegmpimcappjaaGreatDoor
open Go.RowKit Go.Gl Go.Front

theorem cut_pos (b : List UInt8) (h : cutAt b ≠ -1) : ∃ k : Nat, cutAt b = (k : Int) ∧ k + 4 ≤ b.length ∧ k ≤ 65532 := by
  obtain ⟨N, h1, h2, h3, h4, h5⟩ := cut_in b h
  exact ⟨(cutAt b).toNat, by omega, by omega, by omega⟩

theorem gx_grow {w0 W W' : World} {g : Nat} (h : Grow w0 W) (hx : GX g W W') (hg : w0.heap.size ≤ g) : Grow w0 W' :=
  Below.grown h hx h.size (fun b e => by cases e; exact hg)

theorem bv_gx {W W' : World} {g : Nat} {v : Value} {l : List UInt8} {cs : Array Value} {t : TypeId} (h : Bv W v l) (hP : W.heap[g]? = some (.cells cs t)) (hcs : NoB cs) (hx : GX g W W') : Bv W' v l := by
  obtain ⟨_, _, _, hsz, hk⟩ := hx
  refine ?_
  obtain ⟨a, c, hv, h1, h2, h3, h4⟩ := h
  refine ⟨a, c, hv, h1, h2, h3, ?_⟩
  rcases h4 with h4 | ⟨b, o, ha, hb, hc⟩
  · exact .inl h4
  · refine .inr ⟨b, o, ha, Nat.lt_of_lt_of_le hb hsz, fun i k hi => ?_⟩
    have h5 := hc i k hi
    by_cases e : b = g
    · subst e
      have h6 : W.cell? ⟨b, o + i, none⟩ = cs[o + i]? := by
        unfold World.cell?
        rw [hP]
        rfl
      rw [h6] at h5
      exact absurd h5 (hcs _ _)
    · exact cell_keep h5 (hk b hb (fun e' => by cases e'; exact e rfl))

abbrev litW (W : World) : World := W.alloc (.cells #[.int .u8 13, .int .u8 10, .int .u8 13, .int .u8 10] 5)

theorem conv_lit (W : World) : (convert 24 24 (.slice (some ⟨W.heap.size, 0, none⟩) 4 4)).run Tryz.prog (litW W) = .ok (.slice (some ⟨W.heap.size, 0, none⟩) 4 4) ((litW W).freeze ⟨W.heap.size, 4, none⟩ 1) := by
  have hsh : (litW W).shape? W.heap.size = some (5, 4) := by
    have hB := heap_alloc_new W (.cells #[.int .u8 13, .int .u8 10, .int .u8 13, .int .u8 10] 5)
    unfold World.shape?
    rw [hB]
    rfl
  simp [convert, go_sem, markStringish, hsh]

theorem grow_lit (W : World) : Grow W ((litW W).freeze ⟨W.heap.size, 4, none⟩ 1) :=
  Lib.below_freeze (Grow.alloc _ _) (p := ⟨W.heap.size, 4, none⟩) (Nat.le_refl _) 1

theorem bv_four {W : World} {b : Nat} {f : Nat × Nat} (hB : W.heap[b]? = some (.cells #[.int .u8 13, .int .u8 10, .int .u8 13, .int .u8 10] 5 f)) : Bv W (.slice (some ⟨b, 0, none⟩) 4 4) crlf2 := by
  have c0 : W.cell? ⟨b, 0, none⟩ = some (.int .u8 13) := by unfold World.cell?; rw [hB]; rfl
  have c1 : W.cell? ⟨b, 1, none⟩ = some (.int .u8 10) := by unfold World.cell?; rw [hB]; rfl
  have c2 : W.cell? ⟨b, 2, none⟩ = some (.int .u8 13) := by unfold World.cell?; rw [hB]; rfl
  have c3 : W.cell? ⟨b, 3, none⟩ = some (.int .u8 10) := by unfold World.cell?; rw [hB]; rfl
  refine ⟨_, 4, rfl, Nat.le_refl _, by unfold maxLen; omega, (fun h => by cases h), .inr ⟨b, 0, rfl, lt_of_getElem? hB, fun j k hk => ?_⟩⟩
  match j, hk with
  | 0, hk => cases hk; exact c0
  | 1, hk => cases hk; exact c1
  | 2, hk => cases hk; exact c2
  | 3, hk => cases hk; exact c3
  | j + 4, hk => cases hk

theorem bv_crlf2 (W : World) : Bv ((litW W).freeze ⟨W.heap.size, 4, none⟩ 1) (.slice (some ⟨W.heap.size, 0, none⟩) 4 4) crlf2 := by
  have hB : ((litW W).freeze ⟨W.heap.size, 4, none⟩ 1).heap[W.heap.size]? = some (.cells #[.int .u8 13, .int .u8 10, .int .u8 13, .int .u8 10] 5 (4, 5)) := by
    simp [litW, World.freeze, World.alloc, -World.alloc_eq, Array.getElem_modify]
  exact bv_four hB

set_option maxRecDepth 100000 in
set_option maxHeartbeats 16000000 in
theorem parseP_any {w : World} {v : Value} {l : List UInt8} (hb : Base w) (h : Bv w v l) (hl : l.length ≤ 10000000) : Calls Tryz.prog 19 #[v] w (PsPost (parseP l) w) := by
  have hmf : ∀ (fn : Fn) (first cap : Array Value) (w : World), (Instr.makeFunc fn first cap).run Tryz.prog w = .ok (.func fn first cap) w := fun _ _ _ _ => rfl
  have hB2 : ((w.alloc (.cells #[.int .u64 0, .int .i64 0, .string ⟨#[]⟩, .string ⟨#[]⟩, .string ⟨#[]⟩, .int .i64 0, .int .u64 0, .slice none 0 0, .slice none 0 0] 26)).alloc (.cells #[.int .i64 0] 3)).heap[w.heap.size]? = some (.cells z9 26) := (heap_alloc_old _ _ (by simp)).trans (heap_alloc_new _ _)
  have hB3 : ((w.alloc (.cells #[.int .u64 0, .int .i64 0, .string ⟨#[]⟩, .string ⟨#[]⟩, .string ⟨#[]⟩, .int .i64 0, .int .u64 0, .slice none 0 0, .slice none 0 0] 26)).alloc (.cells #[.int .i64 0] 3)).heap[w.heap.size + 1]? = some (.cells #[.int .i64 0] 3) := by
    have := heap_alloc_new (w.alloc (.cells #[.int .u64 0, .int .i64 0, .string ⟨#[]⟩, .string ⟨#[]⟩, .string ⟨#[]⟩, .int .i64 0, .int .u64 0, .slice none 0 0, .slice none 0 0] 26)) (.cells #[.int .i64 0] 3)
    simpa using this
  have hgw : Grow w ((w.alloc (.cells #[.int .u64 0, .int .i64 0, .string ⟨#[]⟩, .string ⟨#[]⟩, .string ⟨#[]⟩, .int .i64 0, .int .u64 0, .slice none 0 0, .slice none 0 0] 26)).alloc (.cells #[.int .i64 0] 3)) := (Grow.alloc _ _).trans (Grow.alloc _ _)
  replace h := h.grow hgw
  replace hb := hb.grow hgw
  have h8 := hb.size
  obtain ⟨a, c, rfl, h1, h2, h3, h4⟩ := id h
  go_enter_defers Tryz.func19, Tryz.ntmps19
  go_upto_region 2 with fail
  clear hmf
  generalize (w.alloc (.cells #[.int .u64 0, .int .i64 0, .string ⟨#[]⟩, .string ⟨#[]⟩, .string ⟨#[]⟩, .int .i64 0, .int .u64 0, .slice none 0 0, .slice none 0 0] 26)).alloc (.cells #[.int .i64 0] 3) = W1 at *
  obtain ⟨b2, Hb2⟩ : ∃ b, Hid (b = w.heap.size) := ⟨_, Lib.hid rfl⟩
  rw [← Hb2.out] at hB2 hB3 ⊢
  have hl2 : w.heap.size ≤ b2 := Nat.le_of_eq Hb2.out.symm
  have hl3 : w.heap.size ≤ b2 + 1 := by omega
  have Hbv := Lib.hid h
  have Hba := Lib.hid hb
  have Hl2 := Lib.hid hl2
  have Hl3 := Lib.hid hl3
  have HB2 := Lib.hid hB2
  have HB3 := Lib.hid hB3
  have Hgw := Lib.hid hgw
  clear h hb h3 h4 hl2 hl3 hB2 hB3 hgw
  go_cut [4] from 12 to 21 (fun v wx => v = .int .i64 (cutAt l) ∧ Grow W1 wx)
  case first =>
    have hga := grow_lit W1
    obtain ⟨n, hn⟩ : ∃ n, n = min l.length 65536 := ⟨_, rfl⟩
    have f0 : min ((l.length : Nat) : Int) 65536 = (n : Int) := by omega
    have f2 : (n : Int) ≤ (c : Int) := by omega
    have hbt0 := bv_take Hbv.out (n := n) (by omega)
    have hnt : l.take n = l.take 65536 := by
      rcases Nat.le_total l.length 65536 with h | h
      · rw [List.take_of_length_le (by omega), List.take_of_length_le h]
      · rw [show n = 65536 by omega]
    have hbt : Bv W1 (.slice a n c) (l.take 65536) := by rw [← hnt]; exact hbt0
    have HX : Hid (Calls Tryz.prog 45 #[.slice a n c, .slice (some ⟨W1.heap.size, 0, none⟩) 4 4] ((litW W1).freeze ⟨W1.heap.size, 4, none⟩ 1) fun e w' => e = .returned (.int .i64 (cutAt l)) ∧ Grow ((litW W1).freeze ⟨W1.heap.size, 4, none⟩ 1) w') := Lib.hid (by
      have h := index_bv (Hba.out.grow hga) (hbt.grow hga) (bv_crlf2 W1) (by decide) (by decide) (by rw [List.length_take]; omega)
      exact h)
    have Hga := Lib.hid hga
    have hcs := conv_lit W1
    clear hga hbt hbt0 hnt hn
    go_wp2_with fail
    (with_reducible refine HX.out.mono ?_)
    rintro e w2 ⟨rfl, hg2⟩
    go_wp2
    go_meet
    exact ⟨rfl, Hga.out.trans hg2⟩
  case rest =>
  obtain ⟨rfl, hg1⟩ := hcut
  have hB2 := (hg1.block _ (lt_of_getElem? HB2.out)).trans HB2.out
  have hB3 := (hg1.block _ (lt_of_getElem? HB3.out)).trans HB3.out
  have hgw := Hgw.out.trans hg1
  have hb := Hba.out.grow hg1
  have hbv := Hbv.out.grow hg1
  clear hg1
  by_cases hct : cutAt l = -1
  · rw [hct]
    by_cases hg : 65536 < l.length
    · have f1 : (65536 : Int) < (l.length : Int) := by omega
      have HN : Hid (parseP l = (opZero, 413)) := Lib.hid (by unfold parseP; rw [if_pos hct, if_pos hg])
      obtain ⟨c0, c1, c2, c3, c4, c5, c6, c7, c8, c9⟩ := nine (o := opZero) hB2
      have d0 : wc.cell? ⟨b2 + 1, 0, none⟩ = some (.int .i64 0) := ck_cell hB3 rfl
      have d1 : wc.frozen? ⟨b2 + 1, 0, none⟩ = false := by simp [World.frozen?, hB3]
      have Hend := Lib.hid (And.intro hB2 (And.intro hB3 hgw))
      clear hct hB2 hB3 hgw hb hbv
      go_wp2
      exact leave_zero rfl rfl Hend.out.1 Hend.out.2.1 Hend.out.2.2 Hl2.out Hl3.out HN.out
    · have f1 : ¬ ((65536 : Int) < (l.length : Int)) := by omega
      have HN : Hid (parseP l = (opZero, 400)) := Lib.hid (by unfold parseP; rw [if_pos hct, if_neg hg])
      obtain ⟨c0, c1, c2, c3, c4, c5, c6, c7, c8, c9⟩ := nine (o := opZero) hB2
      have d0 : wc.cell? ⟨b2 + 1, 0, none⟩ = some (.int .i64 0) := ck_cell hB3 rfl
      have d1 : wc.frozen? ⟨b2 + 1, 0, none⟩ = false := by simp [World.frozen?, hB3]
      have Hend := Lib.hid (And.intro hB2 (And.intro hB3 hgw))
      clear hct hB2 hB3 hgw hb hbv
      go_wp2
      exact leave_zero rfl rfl Hend.out.1 Hend.out.2.1 Hend.out.2.2 Hl2.out Hl3.out HN.out
  · obtain ⟨k, hk, hk4, hk65⟩ := cut_pos l hct
    rw [hk]
    have HR : Hid (parseP l = match headP (l.take k) with
      | none => (opZero, 400)
      | some (o, len) =>
        if right o = true then
          if (o.kind = 3 ∨ o.kind = 8) ∧ largeB len = true then
            if headD o (decF 0) = l.take (k - len.length) ++ ([48] ++ crlf2) then (opZero, 413) else (opZero, 400)
          else if printD { o with data := l.drop (k + 4) } = some l then ({ o with data := l.drop (k + 4) }, 200) else (opZero, 400)
        else (opZero, 400)) := Lib.hid (by
      unfold parseP
      rw [if_neg hct, show (cutAt l).toNat = k by omega]
      rfl)
    have hne : l ≠ [] := by intro e; rw [e] at hk4; simp at hk4
    obtain ⟨bk, off, c', ha, _, _⟩ := bv_some hbv hne
    cases ha
    clear hct hk hne
    have f2 : (k : Int) ≤ (c : Int) := by omega
    have f3 : ¬ ((k : Int) < 0) := by omega
    have hP : (wc.alloc (.cells #[.int .u64 0, .int .i64 0, .string ⟨#[]⟩, .string ⟨#[]⟩, .string ⟨#[]⟩, .int .i64 0, .int .u64 0, .slice none 0 0, .slice none 0 0] 73)).heap[wc.heap.size]? = some (.cells (opCells opZero (.slice none 0 0)) 73) := heap_alloc_new _ _
    have hga : Grow wc (wc.alloc (.cells #[.int .u64 0, .int .i64 0, .string ⟨#[]⟩, .string ⟨#[]⟩, .string ⟨#[]⟩, .int .i64 0, .int .u64 0, .slice none 0 0, .slice none 0 0] 73)) := Grow.alloc _ _
    go_upto_region 8 with fail
    generalize wc.alloc (.cells #[.int .u64 0, .int .i64 0, .string ⟨#[]⟩, .string ⟨#[]⟩, .string ⟨#[]⟩, .int .i64 0, .int .u64 0, .slice none 0 0, .slice none 0 0] 73) = W2 at *
    have n2 : b2 ≠ wc.heap.size := by have := lt_of_getElem? hB2; omega
    have n3 : b2 + 1 ≠ wc.heap.size := by have := lt_of_getElem? hB3; omega
    have hwg : w.heap.size ≤ wc.heap.size := hgw.size
    have hg8 : 8 ≤ wc.heap.size := hb.size
    replace hB2 := (hga.block _ (lt_of_getElem? hB2)).trans hB2
    replace hB3 := (hga.block _ (lt_of_getElem? hB3)).trans hB3
    replace hgw := hgw.trans hga
    replace hb := hb.grow hga
    replace hbv := hbv.grow hga
    clear hga
    generalize wc.heap.size = g at *
    have hbk := bv_take hbv (n := k) (by omega)
    have hconv := conv_text hbk
    have HQ : Hid (Calls Tryz.prog 46 #[.pointer (some ⟨g, 0, none⟩), .string ⟨(l.take k).toArray⟩] W2 (HdPost g (headP (l.take k)) W2)) := Lib.hid (qhead_any hb hg8 hP (by rw [List.length_take]; omega))
    clear hbk
    have HB2 := Lib.hid hB2
    have HB3 := Lib.hid hB3
    have Hgw := Lib.hid hgw
    have Hba := Lib.hid hb
    have Hbv := Lib.hid hbv
    have HP := Lib.hid hP
    clear hB2 hB3 hgw hb hbv hP
    go_wp2_with fail
    (with_reducible refine HQ.out.mono ?_)
    intro e w3 he
    clear hconv HQ
    cases hh : headP (l.take k) with
    | none =>
      rw [hh] at he
      obtain ⟨rfl, hgx⟩ := he
      have HN : Hid (parseP l = (opZero, 400)) := Lib.hid (by rw [HR.out, hh])
      have Hend := Lib.hid (And.intro (hgx.block HB2.out n2) (And.intro (hgx.block HB3.out n3) (gx_grow Hgw.out hgx hwg)))
      clear hh hgx HR
      go_wp2
      exact leave_bad rfl rfl Hend.out.1 Hend.out.2.1 Hend.out.2.2 Hl2.out Hl3.out HN.out
    | some oc =>
      obtain ⟨o, len⟩ := oc
      rw [hh] at he
      obtain ⟨rfl, ⟨pv, hP3, hpv⟩, hgx⟩ := he
      obtain ⟨hba, pp, hpp⟩ := headP_bare hh
      have hsm := headP_in hh
      have hlen : len.length ≤ k := by
        have h1 := congrArg List.length hpp
        rw [List.length_append, List.length_take] at h1
        omega
      have hsk : (l.take k).length ≤ 65532 := by rw [List.length_take]; omega
      have hsb := hsm.b
      have hsp := hsm.p
      obtain ⟨oi, ok, ob, oy, oa, on, ou, ol, od⟩ := o
      have hdn := hba.data
      have hoi := hba.id
      have hou := hba.up
      simp only at hdn hoi hou hsb hsp hpv
      subst hdn
      have HR2 : Hid (parseP l = if right ⟨oi, ok, ob, oy, oa, on, ou, ol, []⟩ = true then
          if (ok = 3 ∨ ok = 8) ∧ largeB len = true then
            if headD ⟨oi, ok, ob, oy, oa, on, ou, ol, []⟩ (decF 0) = l.take (k - len.length) ++ ([48] ++ crlf2) then (opZero, 413) else (opZero, 400)
          else if printD ⟨oi, ok, ob, oy, oa, on, ou, ol, l.drop (k + 4)⟩ = some l then (⟨oi, ok, ob, oy, oa, on, ou, ol, l.drop (k + 4)⟩, 200) else (opZero, 400)
        else (opZero, 400)) := Lib.hid (by rw [HR.out, hh])
      clear hh hpp hsm hba
      have HB23 := Lib.hid (hgx.block HB2.out n2)
      have HB33 := Lib.hid (hgx.block HB3.out n3)
      have Hgw3 := Lib.hid (gx_grow Hgw.out hgx hwg)
      have Hba3 := Lib.hid (Hba.out.gx hg8 hgx)
      have Hbv3 := Lib.hid (bv_gx Hbv.out HP.out noB_slices hgx)
      clear hgx HR
      obtain ⟨ba, bc, rfl⟩ := hpv.slice'
      have HPr : Hid (Calls Tryz.prog 13 #[.agg #[.int .u64 oi, .int .i64 ok, .string ⟨ob.toArray⟩, .string ⟨oy.toArray⟩, .string ⟨oa.toArray⟩, .int .i64 on, .int .u64 ou, .slice ba ol.length bc, .slice none 0 0]] w3 (PrPost ⟨oi, ok, ob, oy, oa, on, ou, ol, []⟩ w3)) := Lib.hid (print_any (o := ⟨oi, ok, ob, oy, oa, on, ou, ol, []⟩) hoi hou Hba3.out hpv.iv (bv_nil _) (by show ob.length ≤ _; omega) (by show ol.length ≤ _; omega))
      obtain ⟨a0, a1, a2, a3, a4, a5, a6, a7, a8, a9⟩ := nine (o := ⟨oi, ok, ob, oy, oa, on, ou, ol, []⟩) hP3
      simp only at a0 a1 a2 a3 a4 a5 a6 a7 a8
      have HP3 := Lib.hid hP3
      have Hpv := Lib.hid hpv
      clear hP3 hpv
      go_wp2_with fail
      (with_reducible refine HPr.out.mono ?_)
      intro e w4 he
      clear HPr a0 a1 a2 a3 a4 a5 a6 a7 a8 a9
      rcases he with ⟨hr, v, rfl, hv, hg4⟩ | ⟨hr, rfl, hg4⟩
      · have HR3 : Hid (parseP l = if (ok = 3 ∨ ok = 8) ∧ largeB len = true then
            if headD ⟨oi, ok, ob, oy, oa, on, ou, ol, []⟩ (decF 0) = l.take (k - len.length) ++ ([48] ++ crlf2) then (opZero, 413) else (opZero, 400)
          else if printD ⟨oi, ok, ob, oy, oa, on, ou, ol, l.drop (k + 4)⟩ = some l then (⟨oi, ok, ob, oy, oa, on, ou, ol, l.drop (k + 4)⟩, 200) else (opZero, 400)) := Lib.hid (by rw [HR2.out, if_pos hr])
        have Hpos := Lib.hid (right_pos hr)
        clear hr HR2
        have hP4 := (hg4.block _ (lt_of_getElem? HP3.out)).trans HP3.out
        have hbv4 := Hbv3.out.grow hg4
        have HP4 := Lib.hid hP4
        have HB24 := Lib.hid ((hg4.block _ (lt_of_getElem? HB23.out)).trans HB23.out)
        have HB34 := Lib.hid ((hg4.block _ (lt_of_getElem? HB33.out)).trans HB33.out)
        have Hgw4 := Lib.hid (Hgw3.out.trans hg4)
        have Hba4 := Lib.hid (Hba3.out.grow hg4)
        have Hbv4 := Lib.hid hbv4
        have Hpv4 := Lib.hid (Hpv.out.grow hg4)
        have Hv := Lib.hid hv
        obtain ⟨ea, ec, rfl⟩ := hv.slice
        have hnl : ∃ n, n = (headD ⟨oi, ok, ob, oy, oa, on, ou, ol, []⟩ (decF 0) ++ []).length := ⟨_, rfl⟩
        obtain ⟨en, hen⟩ := hnl
        have hen2 : (headD ⟨oi, ok, ob, oy, oa, on, ou, ol, []⟩ (decF (List.length ([] : List UInt8))) ++ []).length = en := hen.symm
        simp only at Hv ⊢
        rw [hen2] at Hv ⊢
        clear hen hen2 hv hg4
        obtain ⟨N, HN0⟩ : ∃ N, Hid (N = k + 4) := ⟨_, Lib.hid rfl⟩
        have hN := HN0.out
        have hwk : IntKind.i64.wrap ((k : Int) + 4) = (N : Int) := by rw [IntWalk.i64_in _ (by omega)]; omega
        have g2 : (N : Int) ≤ (c : Int) := by omega
        have g3 : ¬ ((N : Int) < 0) := by omega
        have g4 : (N : Int) ≤ (l.length : Int) := by omega
        have hbd := bv_dropI hbv4 (n := N) (by omega)
        rw [← hN] at HR3
        obtain ⟨ad, had⟩ : ∃ ad, (if c = N then some (⟨bk, off, none⟩ : Addr) else some ⟨bk, off + N, none⟩) = ad := ⟨_, rfl⟩
        rw [had] at hbd
        have Hbd := Lib.hid hbd
        clear hbd hbv4 hN
        go_wp2_with fail
        (with_reducible refine (must_ok _).mono ?_)
        rintro e w5 ⟨rfl, hw⟩
        have hw' := hw.symm
        subst hw'
        clear hw
        go_upto_region 12 with fail
        clear hwk g2 g3 g4 had
        obtain ⟨k3, hk3⟩ : ∃ b, (ok == 3) = b := ⟨_, rfl⟩
        obtain ⟨k8, hk8⟩ : ∃ b, (ok == 8) = b := ⟨_, rfl⟩
        have HLg : Hid (Calls Tryz.prog 48 #[.string ⟨len.toArray⟩] w4 fun e w' => e = .returned (.bool (largeB len)) ∧ Grow w4 w') := Lib.hid (large_any len Hba4.out (by omega))
        have HR4 : Hid (parseP l = if ((k3 || k8) && largeB len) = true then
            if headD ⟨oi, ok, ob, oy, oa, on, ou, ol, []⟩ (decF 0) = l.take (k - len.length) ++ ([48] ++ crlf2) then (opZero, 413) else (opZero, 400)
          else if printD ⟨oi, ok, ob, oy, oa, on, ou, ol, l.drop N⟩ = some l then (⟨oi, ok, ob, oy, oa, on, ou, ol, l.drop N⟩, 200) else (opZero, 400)) := Lib.hid (by
          rw [HR3.out]
          have h1 : ((ok = 3 ∨ ok = 8) ∧ largeB len = true) ↔ ((k3 || k8) && largeB len) = true := by
            rw [← hk3, ← hk8]
            simp
          by_cases hx : ((k3 || k8) && largeB len) = true
          · rw [if_pos hx, if_pos (h1.2 hx)]
          · rw [if_neg hx, if_neg (fun h => hx (h1.1 h))])
        clear HR3
        obtain ⟨a0, a1, a2, a3, a4, a5, a6, a7, a8, a9⟩ := nine (o := ⟨oi, ok, ob, oy, oa, on, ou, ol, []⟩) hP4
        simp only at a0 a1 a2 a3 a4 a5 a6 a7 a8
        clear hP4
        go_cut [10] from 51 to 65 (fun v wx => v = .bool (k3 || k8) ∧ wx = w4)
        case first =>
          cases k3 with
          | true =>
            go_wp2
            go_meet
            exact ⟨rfl, rfl⟩
          | false =>
            cases k8 with
            | true =>
              go_wp2
              go_meet
              exact ⟨rfl, rfl⟩
            | false =>
              go_wp2
              go_meet
              exact ⟨rfl, rfl⟩
        case rest =>
        obtain ⟨rfl, hw⟩ := hcut
        have hw' := hw.symm
        subst hw'
        clear hw hk3 hk8
        generalize (k3 || k8) = dt at *
        go_upto_region 13 with fail
        go_cut [69] from 65 to 70 (fun v wx => v = .bool (dt && largeB len) ∧ Grow w4 wx)
        case first =>
          have HG0 := Lib.hid (Grow.refl w4)
          cases dt with
          | true =>
            go_wp2_with fail
            (with_reducible refine HLg.out.mono ?_)
            rintro e w6 ⟨rfl, hg6⟩
            go_wp2
            go_meet
            exact ⟨rfl, hg6⟩
          | false =>
            go_wp2
            go_meet
            exact ⟨rfl, HG0.out⟩
        case rest =>
        obtain ⟨rfl, hg6⟩ := hcut
        clear a0 a1 a2 a3 a4 a5 a6 a7 a8 a9 HLg
        generalize (dt && largeB len) = bg at *
        have hP6 := (hg6.block _ (lt_of_getElem? HP4.out)).trans HP4.out
        have hB26 := (hg6.block _ (lt_of_getElem? HB24.out)).trans HB24.out
        have hB36 := (hg6.block _ (lt_of_getElem? HB34.out)).trans HB34.out
        have hgw6 := Hgw4.out.trans hg6
        have hba6 := Hba4.out.grow hg6
        have hbv6 := Hbv4.out.grow hg6
        have hpv6 := Hpv4.out.grow hg6
        have hv6 := Hv.out.grow hg6
        have hbd6 := Hbd.out.grow hg6
        clear hg6
        cases bg with
        | true =>
          have HR5 : Hid (parseP l = if headD ⟨oi, ok, ob, oy, oa, on, ou, ol, []⟩ (decF 0) = l.take (k - len.length) ++ ([48] ++ crlf2) then (opZero, 413) else (opZero, 400)) := Lib.hid (by rw [HR4.out]; rfl)
          clear hpv6 hbd6 hba6 HR4
          have x8c : wc.cell? ⟨g, 8, none⟩ = some (.slice none 0 0) := ck_cell hP6 rfl
          have x8f : wc.frozen? ⟨g, 8, none⟩ = false := by simp [World.frozen?, hP6]
          have hB27 : (wc.setCell ⟨g, 8, none⟩ (.slice none 0 0)).heap[b2]? = some (.cells z9 26) := (Below.heap_setCell wc ⟨g, 8, none⟩ (.slice none 0 0) b2 n2).trans hB26
          have hB37 : (wc.setCell ⟨g, 8, none⟩ (.slice none 0 0)).heap[b2 + 1]? = some (.cells #[.int .i64 0] 3) := (Below.heap_setCell wc ⟨g, 8, none⟩ (.slice none 0 0) (b2 + 1) n3).trans hB36
          have hgw7 := gx_grow hgw6 (GX.store wc 8 (.slice none 0 0)) hwg
          have hbv7 := bv_store hbv6 hP6 noB_slices 8 (.slice none 0 0)
          have hv7 := bv_store hv6 hP6 noB_slices 8 (.slice none 0 0)
          clear hP6 hB26 hB36 hgw6 hbv6 hv6
          go_upto_region 15 with fail
          generalize wc.setCell ⟨g, 8, none⟩ (.slice none 0 0) = W7 at *
          clear x8c x8f
          obtain ⟨HL, HHL⟩ : ∃ HL, Hid (HL = headD ⟨oi, ok, ob, oy, oa, on, ou, ol, []⟩ (decF (List.length ([] : List UInt8))) ++ []) := ⟨_, Lib.hid rfl⟩
          rw [← HHL.out] at hv7
          obtain ⟨M, HM⟩ : ∃ M, Hid (M + len.length = k) := ⟨k - len.length, Lib.hid (by omega)⟩
          have hM := HM.out
          have hwm : IntKind.i64.wrap ((k : Int) - (len.length : Int)) = (M : Int) := by rw [IntWalk.i64_in _ (by omega)]; omega
          have g2 : (M : Int) ≤ (c : Int) := by omega
          have g3 : ¬ ((M : Int) < 0) := by omega
          have hbM := bv_take hbv7 (n := M) (by omega)
          have hC1 : ∀ W, Grow W7 W → (convert 24 9 (.slice ea en ec)).run Tryz.prog W = .ok (.string ⟨HL.toArray⟩) W := fun W hW => conv_text (hv7.grow hW)
          have hC2 : ∀ W, Grow W7 W → (convert 24 9 (.slice (some ⟨bk, off, none⟩) M c)).run Tryz.prog W = .ok (.string ⟨(l.take M).toArray⟩) W := fun W hW => conv_text (hbM.grow hW)
          obtain ⟨LM, HLM⟩ : ∃ LM, Hid (LM = l.take M) := ⟨_, Lib.hid rfl⟩
          have hLl : LM.length ≤ 65536 := by rw [HLM.out, List.length_take]; omega
          rw [← HLM.out] at hC2
          have Hend := Lib.hid (And.intro hB27 (And.intro hB37 hgw7))
          clear hB27 hB37 hgw7 hbv7 hv7 hbM hM
          refine wp_region_piD (fun W => Grow W7 W) [(0, false), (1, false), (2, false), (3, false), (4, false), (5, false), (6, false), (7, false), (8, false), (9, false), (10, false), (11, false), (12, false), (13, true)] (by kernel_rfl) (by kernel_rfl) ?_ (Grow.drew _) ?_
          · intro cc aa oo vv ww hoo hqq
            have h23 := (List.all_eq_true (p := fun o : Oper => o.dst != some 2 && o.dst != some 3)).1 (by kernel_rfl) oo hoo
            simp only [Bool.and_eq_true, bne_iff_ne] at h23
            exact parse_panic h23.1 h23.2 hqq
          simp only [arrange, nth]
          repeat (first | (first | (refine wpPi_quiet (v := ?_) (by rfl) (fun W hW => ?_) ?_; rotate_left; (obtain hW' := hW; go_simp; with_reducible rfl); simp only [Act.put, List.setIfInBounds_toArray, List.set_cons_zero, List.set_cons_succ]) | (refine wpPi_off (by rfl) ?_; simp only [Act.put, List.setIfInBounds_toArray, List.set_cons_zero, List.set_cons_succ])) | (refine wpPi_quiet (by rfl) (fun W hW => exec_addS rfl rfl rfl (by (try simp only [List.length_append, List.length_cons, List.length_nil]); omega)) ?_; (try simp only [Act.put, List.setIfInBounds_toArray, List.set_cons_zero, List.set_cons_succ])))
          have HMU : Hid (Calls Tryz.prog 47 #[.bool (HL == LM ++ [48, 13, 10, 13, 10])] W7.drew fun e w' => e = (if (HL == LM ++ [48, 13, 10, 13, 10]) then .returned (.tuple #[]) else badE) ∧ w' = W7.drew) := Lib.hid (must_any _ _)
          have HS : Hid ((HL == LM ++ [48, 13, 10, 13, 10]) = true ↔ headD ⟨oi, ok, ob, oy, oa, on, ou, ol, []⟩ (decF 0) = l.take (k - len.length) ++ ([48] ++ crlf2)) := Lib.hid (by
            have hM := HM.out
            rw [beq_iff_eq, HHL.out, HLM.out, show k - len.length = M by omega]
            simp only [List.append_nil, List.length_nil]
            rfl)
          obtain ⟨eqb, heqb⟩ : ∃ b, (HL == LM ++ [48, 13, 10, 13, 10]) = b := ⟨_, rfl⟩
          rw [heqb] at HS HMU
          refine wpPi_callE (by rfl) (by go_simp) HMU.out ?_
          rintro e w8 ⟨he, hw⟩
          have hw' := hw.symm
          subst hw'
          clear hw
          have hgd := Grow.drew W7
          have hB28 := (hgd.block _ (lt_of_getElem? Hend.out.1)).trans Hend.out.1
          have hB38 := (hgd.block _ (lt_of_getElem? Hend.out.2.1)).trans Hend.out.2.1
          have hgw8 := Hend.out.2.2.trans hgd
          clear hC1 hC2 heqb
          cases eqb with
          | true =>
            have HN : Hid (parseP l = (opZero, 413)) := Lib.hid (by rw [HR5.out, if_pos (HS.out.1 rfl)])
            refine .inl ⟨_, he, hgd, ?_⟩
            try simp only [Act.put, List.setIfInBounds_toArray, List.set_cons_zero, List.set_cons_succ]
            refine wpPi_nil ?_
            clear he hgd HMU HS
            generalize W7.drew = W8 at *
            obtain ⟨c0, c1, c2, c3, c4, c5, c6, c7, c8, c9⟩ := nine (o := opZero) hB28
            have d0 : W8.cell? ⟨b2 + 1, 0, none⟩ = some (.int .i64 0) := ck_cell hB38 rfl
            have d1 : W8.frozen? ⟨b2 + 1, 0, none⟩ = false := by simp [World.frozen?, hB38]
            have Hen2 := Lib.hid (And.intro hB28 (And.intro hB38 hgw8))
            clear hB28 hB38 hgw8
            go_wp2
            exact leave_zero rfl rfl Hen2.out.1 Hen2.out.2.1 Hen2.out.2.2 Hl2.out Hl3.out HN.out
          | false =>
            have HN : Hid (parseP l = (opZero, 400)) := Lib.hid (by rw [HR5.out, if_neg (fun h => by have := HS.out.2 h; cases this)])
            refine .inr ⟨_, he, ?_⟩
            clear he hgd HMU HS
            generalize W7.drew = W8 at *
            have Hen2 := Lib.hid (And.intro hB28 (And.intro hB38 hgw8))
            clear hB28 hB38 hgw8
            go_wp2
            exact leave_bad rfl rfl Hen2.out.1 Hen2.out.2.1 Hen2.out.2.2 Hl2.out Hl3.out HN.out
        | false =>
          have HR5 : Hid (parseP l = if printD ⟨oi, ok, ob, oy, oa, on, ou, ol, l.drop N⟩ = some l then (⟨oi, ok, ob, oy, oa, on, ou, ol, l.drop N⟩, 200) else (opZero, 400)) := Lib.hid (by rw [HR4.out]; rfl)
          clear HR4 hv6
          have HCl : Hid (Calls Tryz.prog 49 #[.slice ad (l.length - N) (c - N)] wc fun e w' => (∃ v', e = .returned v' ∧ Bv w' v' (l.drop N)) ∧ Grow wc w') := Lib.hid (clone_any hbd6 (by rw [List.length_drop]; omega))
          have x8c : wc.cell? ⟨g, 8, none⟩ = some (.slice none 0 0) := ck_cell hP6 rfl
          have Hst := Lib.hid (And.intro hP6 (And.intro hB26 (And.intro hB36 (And.intro hgw6 (And.intro hba6 (And.intro hbv6 hpv6))))))
          clear hP6 hB26 hB36 hgw6 hba6 hbv6 hpv6 hbd6 x8c
          go_wp2_with fail
          (with_reducible refine HCl.out.mono ?_)
          rintro e w7 ⟨⟨v', rfl, hv'⟩, hg7⟩
          obtain ⟨hP6, hB26, hB36, hgw6, hba6, hbv6, hpv6⟩ := Hst.out
          have hP7 := (hg7.block _ (lt_of_getElem? hP6)).trans hP6
          have hB27 := (hg7.block _ (lt_of_getElem? hB26)).trans hB26
          have hB37 := (hg7.block _ (lt_of_getElem? hB36)).trans hB36
          have hgw7 := hgw6.trans hg7
          have hba7 := hba6.grow hg7
          have hbv7 := hbv6.grow hg7
          have hpv7 := hpv6.grow hg7
          clear hP6 hB26 hB36 hgw6 hba6 hbv6 hpv6 hg7 HCl Hst
          obtain ⟨va, vc, rfl⟩ := hv'.slice
          rw [List.length_drop] at hv' ⊢
          have x8c : w7.cell? ⟨g, 8, none⟩ = some (.slice none 0 0) := ck_cell hP7 rfl
          have x8f : w7.frozen? ⟨g, 8, none⟩ = false := by simp [World.frozen?, hP7]
          have hP8 : (w7.setCell ⟨g, 8, none⟩ (.slice va (l.length - N) vc)).heap[g]? = some (.cells #[.int .u64 oi, .int .i64 ok, .string ⟨ob.toArray⟩, .string ⟨oy.toArray⟩, .string ⟨oa.toArray⟩, .int .i64 on, .int .u64 ou, .slice ba ol.length bc, .slice va (l.length - N) vc] 73) := setCell_heap hP7 8 _
          have hB28 : (w7.setCell ⟨g, 8, none⟩ (.slice va (l.length - N) vc)).heap[b2]? = some (.cells z9 26) := (Below.heap_setCell w7 ⟨g, 8, none⟩ _ b2 n2).trans hB27
          have hB38 : (w7.setCell ⟨g, 8, none⟩ (.slice va (l.length - N) vc)).heap[b2 + 1]? = some (.cells #[.int .i64 0] 3) := (Below.heap_setCell w7 ⟨g, 8, none⟩ _ (b2 + 1) n3).trans hB37
          have hgw8 := gx_grow hgw7 (GX.store w7 8 (.slice va (l.length - N) vc)) hwg
          have hba8 := hba7.gx hg8 (GX.store w7 8 (.slice va (l.length - N) vc))
          have hbv8 := bv_store hbv7 hP7 noB_slices 8 (.slice va (l.length - N) vc)
          have hv8 := bv_store hv' hP7 noB_slices 8 (.slice va (l.length - N) vc)
          have hpv8 := pv_store hpv7 hP7 (by decide) 8 (.slice va (l.length - N) vc)
          clear hP7 hB27 hB37 hgw7 hba7 hbv7 hpv7 hv'
          go_upto_region 18 with fail
          generalize w7.setCell ⟨g, 8, none⟩ (.slice va (l.length - N) vc) = W8 at *
          clear x8c x8f
          have HPr2 : Hid (Calls Tryz.prog 13 #[.agg #[.int .u64 oi, .int .i64 ok, .string ⟨ob.toArray⟩, .string ⟨oy.toArray⟩, .string ⟨oa.toArray⟩, .int .i64 on, .int .u64 ou, .slice ba ol.length bc, .slice va (l.length - N) vc]] W8 (PrPost ⟨oi, ok, ob, oy, oa, on, ou, ol, l.drop N⟩ W8)) := Lib.hid (print_any (o := ⟨oi, ok, ob, oy, oa, on, ou, ol, l.drop N⟩) hoi hou hba8 hpv8.iv hv8 (by show ob.length ≤ _; omega) (by show ol.length ≤ _; omega))
          have Hst := Lib.hid (And.intro hP8 (And.intro hB28 (And.intro hB38 (And.intro hgw8 (And.intro hbv8 (And.intro hv8 hpv8))))))
          obtain ⟨a0, a1, a2, a3, a4, a5, a6, a7, a8, a9⟩ := nine (o := ⟨oi, ok, ob, oy, oa, on, ou, ol, []⟩) hP8
          simp only at a0 a1 a2 a3 a4 a5 a6 a7 a8
          clear hP8 hB28 hB38 hgw8 hba8 hbv8 hv8 hpv8
          go_wp2_with fail
          (with_reducible refine HPr2.out.mono ?_)
          intro e w9 he
          clear a0 a1 a2 a3 a4 a5 a6 a7 a8 a9 HPr2
          rcases he with ⟨hr, v, rfl, hv9, hg9⟩ | ⟨hr, rfl, hg9⟩
          · obtain ⟨hP8, hB28, hB38, hgw8, hbv8, hv8, hpv8⟩ := Hst.out
            have hP9 := (hg9.block _ (lt_of_getElem? hP8)).trans hP8
            have Hst9 := Lib.hid (And.intro ((hg9.block _ (lt_of_getElem? hB28)).trans hB28) (And.intro ((hg9.block _ (lt_of_getElem? hB38)).trans hB38) (And.intro (hgw8.trans hg9) (And.intro (hv8.grow hg9) (hpv8.grow hg9)))))
            have hbv9 := hbv8.grow hg9
            clear hP8 hB28 hB38 hgw8 hbv8 hv8 hpv8 hg9 Hst
            have hv9' : Bv w9 v (headD ⟨oi, ok, ob, oy, oa, on, ou, ol, l.drop N⟩ (decF (l.drop N).length) ++ l.drop N) := hv9
            obtain ⟨T9, HT9⟩ : ∃ T, Hid (T = headD ⟨oi, ok, ob, oy, oa, on, ou, ol, l.drop N⟩ (decF (l.drop N).length) ++ l.drop N) := ⟨_, Lib.hid rfl⟩
            rw [← HT9.out] at hv9'
            clear hv9
            obtain ⟨eqb, heqb⟩ : ∃ b, (T9 == l) = b := ⟨_, rfl⟩
            have HEq : Hid (Calls Tryz.prog 50 #[v, .slice (some ⟨bk, off, none⟩) l.length c] w9 fun e w' => e = .returned (.bool eqb) ∧ w' = w9) := Lib.hid (by rw [← heqb]; exact equal_any hv9' hbv9)
            have HN0 : Hid (parseP l = if eqb = true then (⟨oi, ok, ob, oy, oa, on, ou, ol, l.drop N⟩, 200) else (opZero, 400)) := Lib.hid (by
              rw [HR5.out]
              unfold printD
              rw [if_pos hr, ← heqb, HT9.out]
              by_cases hx : (headD ⟨oi, ok, ob, oy, oa, on, ou, ol, l.drop N⟩ (decF (l.drop N).length) ++ l.drop N) = l
              · rw [if_pos (congrArg some hx), if_pos (beq_iff_eq.2 hx)]
              · rw [if_neg (fun h => hx (Option.some.inj h)), if_neg (fun h => hx (beq_iff_eq.1 h))])
            obtain ⟨za, zc, rfl⟩ := hv9'.slice
            obtain ⟨a0, a1, a2, a3, a4, a5, a6, a7, a8, a9⟩ := nine (o := ⟨oi, ok, ob, oy, oa, on, ou, ol, []⟩) hP9
            simp only at a0 a1 a2 a3 a4 a5 a6 a7 a8
            clear hv9' hbv9 hP9 heqb hr HR5 HT9
            go_wp2_with fail
            (with_reducible refine HEq.out.mono ?_)
            rintro e w10 ⟨rfl, hw⟩
            have hw' := hw.symm
            subst hw'
            clear hw
            cases eqb with
            | true =>
              have HN : Hid (parseP l = (⟨oi, ok, ob, oy, oa, on, ou, ol, l.drop N⟩, 200)) := Lib.hid (by rw [HN0.out]; rfl)
              clear HN0
              go_wp2_with fail
              (with_reducible refine (must_ok _).mono ?_)
              rintro e w11 ⟨rfl, hw⟩
              have hw' := hw.symm
              subst hw'
              clear hw
              obtain ⟨hB29, hB39, _⟩ := Hst9.out
              obtain ⟨c0, c1, c2, c3, c4, c5, c6, c7, c8, c9⟩ := nine (o := opZero) hB29
              have d0 : w9.cell? ⟨b2 + 1, 0, none⟩ = some (.int .i64 0) := ck_cell hB39 rfl
              have d1 : w9.frozen? ⟨b2 + 1, 0, none⟩ = false := by simp [World.frozen?, hB39]
              clear hB29 hB39
              go_wp2
              rw [HN.out]
              exact leave_full (o := ⟨oi, ok, ob, oy, oa, on, ou, ol, l.drop N⟩) (k := 200) rfl rfl Hst9.out.1 Hst9.out.2.1 Hst9.out.2.2.1 Hl2.out Hl3.out Hst9.out.2.2.2.2 Hst9.out.2.2.2.1 Hpos.out
            | false =>
              have HN : Hid (parseP l = (opZero, 400)) := Lib.hid (by rw [HN0.out]; rfl)
              clear HN0
              go_wp2_with fail
              (with_reducible refine (must_bad _).mono ?_)
              rintro e w11 ⟨rfl, hw⟩
              have hw' := hw.symm
              subst hw'
              clear hw
              go_wp2
              exact leave_bad rfl rfl Hst9.out.1 Hst9.out.2.1 Hst9.out.2.2.1 Hl2.out Hl3.out HN.out
          · have HN : Hid (parseP l = (opZero, 400)) := Lib.hid (by
              rw [HR5.out, if_neg (by unfold printD; rw [hr]; simp)])
            obtain ⟨_, hB28, hB38, hgw8, _⟩ := Hst.out
            have Hend := Lib.hid (And.intro ((hg9.block _ (lt_of_getElem? hB28)).trans hB28) (And.intro ((hg9.block _ (lt_of_getElem? hB38)).trans hB38) (hgw8.trans hg9)))
            clear hB28 hB38 hgw8 hg9 hr HR5 Hst
            go_wp2_with fail
            (with_reducible refine (must_bad _).mono ?_)
            rintro e w10 ⟨rfl, hw⟩
            have hw' := hw.symm
            subst hw'
            clear hw
            go_wp2
            exact leave_bad rfl rfl Hend.out.1 Hend.out.2.1 Hend.out.2.2 Hl2.out Hl3.out HN.out
      · have HN : Hid (parseP l = (opZero, 400)) := Lib.hid (by rw [HR2.out, if_neg (by rw [hr]; simp)])
        have Hend := Lib.hid (And.intro ((hg4.block _ (lt_of_getElem? HB23.out)).trans HB23.out) (And.intro ((hg4.block _ (lt_of_getElem? HB33.out)).trans HB33.out) (Hgw3.out.trans hg4)))
        clear hr hg4 HR2
        go_wp2_with fail
        (with_reducible refine (must_bad _).mono ?_)
        rintro e w5 ⟨rfl, hw⟩
        have hw' := hw.symm
        subst hw'
        clear hw
        go_wp2
        exact leave_bad rfl rfl Hend.out.1 Hend.out.2.1 Hend.out.2.2 Hl2.out Hl3.out HN.out
end Go.Proofs.YtdegmpimcappjaaGreatDoor

/- The net in memory (NetAt), and what meant and its closure tell of it; no further condition. -/
import Derived.Test.YtbanfilgokideaaN1
import Derived.Deep.RegionHeld3
namespace Go.Proofs.Ytbanfilgokideaa
open Go.RowKit Go.Gl

theorem keyOk52 : KeyOk Try.prog 52 pairV :=
  keyOk_pair Try.underlying52 (by kernel_rfl) (by decide) (by decide) rfl rfl Try.underlying3 Try.underlying3 (fun b k w => by cases b <;> kernel_rfl)

theorem zero53 (w : World) : (zeroValue 53).run Try.prog w = .ok (.slice none 0 0) w := by kernel_rfl

/-- A message: the value that lies in a bag's row, and the bytes that it reads as. -/
structure Msg where
  val : Value
  bytes : List UInt8

/-- A bag: its link, its stamp in the map, its row, its messages. -/
structure Bag where
  key : Int × Int
  born : Nat
  row : Nat
  cap : Nat
  msgs : List Msg

def Bag.val (g : Bag) : Value := .slice (some ⟨g.row, 0, none⟩) g.msgs.length g.cap
def Bag.ent (g : Bag) : Ent (Int × Int) := ⟨g.key, g.val, g.born⟩

structure BagAt (B : Nat) (w : World) (g : Bag) : Prop where
  own : w.ownsRow B 22 1 g.val g.msgs.length (g.msgs.map Msg.val)
  msg : ∀ m ∈ g.msgs, OBytes 5 w m.val m.bytes

structure NetAt (B : Nat) (w : World) (p r : Nat) (nodes bound now : Int) (gs : List Bag) : Prop where
  self : w.heap[p]? = some (.cells #[.int .i64 nodes, .int .i64 bound, .int .i64 now, .map (some r)] 49 (0, 0))
  map : ∃ clock, MapAt w r pairV (gs.map Bag.ent) clock ∧ ∀ g ∈ gs, g.born < clock
  keys : (gs.map Bag.key).Nodup
  borns : (gs.map Bag.born).Nodup
  rows : (gs.map Bag.row).Nodup
  bags : ∀ g ∈ gs, BagAt B w g
  base : B ≤ r
  room : B ≤ w.heap.size

/-- The kinds of blocks that a net turns: its map, its rows of messages. -/
def softN (o : Obj) : Prop := (∃ es c, o = .map es c) ∨ ∃ a f, o = .cells a 22 f

theorem BagAt.row {B : Nat} {w : World} {g : Bag} (h : BagAt B w g) : ∃ arr : Array Value, w.heap[g.row]? = some (.cells arr 22 (0, 0)) ∧ B ≤ g.row ∧ g.msgs.length ≤ g.cap ∧ arr.size = g.cap ∧ ∀ (i : Nat) (m : Msg), g.msgs[i]? = some m → arr[i]? = some m.val := by
  rcases h.own.2 with ⟨h1, _⟩ | ⟨b, cap, cur, h1, h2, h3, h4, _, h6, h7⟩
  · simp [Bag.val] at h1
  · simp only [Bag.val, Value.slice.injEq, Option.some.injEq, Addr.mk.injEq] at h1
    obtain ⟨⟨rfl, _⟩, _, rfl⟩ := h1
    refine ⟨cur, h3, h2, h4, by simpa using h6, fun i m hm => ?_⟩
    have h8 : (g.msgs.map Msg.val)[i]? = some m.val := by simp [hm]
    rw [← h7, List.getElem?_take] at h8
    split at h8
    · simpa using h8
    · cases h8

theorem oBytes_hard {B : Nat} {w w' : World} {v : Value} {l : List UInt8} (h : OBytes 5 w v l) (hk : Keep softN B w w') : OBytes 5 w' v l := by
  rcases h with h | ⟨b, c, arr, h1, h2, h3⟩
  · exact .inl h
  · exact .inr ⟨b, c, arr, h1, hk.hard b _ h2 (by simp [softN]), h3⟩

/-- A bag whose row stays. -/
theorem BagAt.keep {B : Nat} {w w' : World} {g : Bag} (h : BagAt B w g) (hk : Keep softN B w w') (hr : w'.heap[g.row]? = w.heap[g.row]?) : BagAt B w' g := by
  refine ⟨⟨h.own.1, ?_⟩, fun m hm => oBytes_hard (h.msg m hm) hk⟩
  rcases h.own.2 with h1 | ⟨b, cap, cur, h1, h2, h3, h4⟩
  · exact .inl h1
  · refine .inr ⟨b, cap, cur, h1, h2, ?_, h4⟩
    have : b = g.row := by simp only [Bag.val, Value.slice.injEq, Option.some.injEq, Addr.mk.injEq] at h1; exact h1.1.1.symm
    rw [this] at h3 ⊢
    rw [hr, h3]

/-- The messages of a link. -/
def msgsAt (k : Int × Int) (gs : List Bag) : List Msg := ((gs.find? (fun g => decide (k = g.key))).map Bag.msgs).getD []

/-- The value at a link. -/
def bagVal (k : Int × Int) (gs : List Bag) : Value := ((gs.find? (fun g => decide (k = g.key))).map Bag.val).getD (.slice none 0 0)

theorem valAt_bag (k : Int × Int) (gs : List Bag) : valAt k (.slice none 0 0) (gs.map Bag.ent) = bagVal k gs := by
  unfold valAt bagVal
  induction gs with
  | nil => rfl
  | cons g gs ih =>
    by_cases h : k = g.key
    · simp [Bag.ent, h]
    · simpa [Bag.ent, h, List.find?_cons] using ih

theorem NetAt.lookup {B : Nat} {w : World} {p r : Nat} {nodes bound now : Int} {gs : List Bag} (h : NetAt B w p r nodes bound now gs) (k : Int × Int) :
    (Instr.lookup 47 (.map (some r)) (pairV k) false).run Try.prog w = .ok (bagVal k gs) w := by
  obtain ⟨c, hm, _⟩ := h.map
  rw [run_lookup keyOk52 Try.underlying47 (zero53 w) hm k, valAt_bag]

theorem bagVal_len (k : Int × Int) (gs : List Bag) : ∃ a c, bagVal k gs = .slice a (msgsAt k gs).length c := by
  unfold bagVal msgsAt
  cases gs.find? (fun g => decide (k = g.key)) with
  | none => exact ⟨none, 0, rfl⟩
  | some g => exact ⟨_, _, rfl⟩

theorem BagAt.grow {B : Nat} {w w' : World} {g : Bag} (h : BagAt B w g) (hg : Grow w w') (hB : B ≤ w.heap.size) : BagAt B w' g := by
  obtain ⟨arr, h1, _⟩ := h.row
  exact h.keep (Keep.ofGrow hg hB) (by rw [hg.heap h1, h1])

theorem NetAt.grow {B : Nat} {w w' : World} {p r : Nat} {nodes bound now : Int} {gs : List Bag} (h : NetAt B w p r nodes bound now gs) (hg : Grow w w') : NetAt B w' p r nodes bound now gs := by
  obtain ⟨c, h1, h2⟩ := h.map
  exact ⟨hg.heap h.self, ⟨c, hg.heap h1, h2⟩, h.keys, h.borns, h.rows, fun g hgm => (h.bags g hgm).grow hg h.room, h.base, Nat.le_trans h.room hg.size⟩

theorem NetAt.cells {B : Nat} {w : World} {p r : Nat} {nodes bound now : Int} {gs : List Bag} (h : NetAt B w p r nodes bound now gs) :
    w.cell? ⟨p, 0, none⟩ = some (.int .i64 nodes) ∧ w.cell? ⟨p, 1, none⟩ = some (.int .i64 bound) ∧ w.cell? ⟨p, 2, none⟩ = some (.int .i64 now) ∧ w.cell? ⟨p, 3, none⟩ = some (.map (some r)) := by
  simp [World.cell?, h.self]

/-- What 'meant' tells: the link, the place, whether there is one. -/
def Meant (w : World) (f t pick : Int) (n : Nat) (e : Ending) (w' : World) : Prop :=
  e = .returned (.tuple #[.agg #[.int .i64 f, .int .i64 t], .int .i64 (if n = 0 then 0 else ((max pick 0) % n)), .bool (decide (n ≠ 0))]) ∧ Grow w w'

set_option maxHeartbeats 1000000 in
theorem meant1_zero {B : Nat} {w : World} {p r : Nat} {nodes bound now : Int} {gs : List Bag} (h : NetAt B w p r nodes bound now gs) (f t pick : Int) (bf bt bn bp : Nat)
    (hf : w.cell? ⟨bf, 0, none⟩ = some (.int .i64 f)) (ht : w.cell? ⟨bt, 0, none⟩ = some (.int .i64 t)) (hn : w.cell? ⟨bn, 0, none⟩ = some (.pointer (some ⟨p, 0, none⟩))) (hp : w.cell? ⟨bp, 0, none⟩ = some (.int .i64 pick))
    (h0 : (msgsAt (f, t) gs).length = 0) :
    Calls Try.prog 31 #[.pointer (some ⟨bf, 0, none⟩), .pointer (some ⟨bt, 0, none⟩), .pointer (some ⟨bn, 0, none⟩), .pointer (some ⟨bp, 0, none⟩)] w (Meant w f t pick 0) := by
  have hlk : ∀ x y n, (Instr.lookup 47 (.map (some r)) (.agg #[.int .i64 f, .int .i64 t]) false).run Try.prog (((w.alloc x).alloc y).drewN n) = .ok (bagVal (f, t) gs) (((w.alloc x).alloc y).drewN n) :=
    fun x y n => (h.grow (w' := ((w.alloc x).alloc y).drewN n) (((Grow.alloc _ _).trans (Grow.alloc _ _)).trans (Grow.drewN _ _))).lookup (f, t)
  obtain ⟨a, c, hv⟩ := bagVal_len (f, t) gs
  rw [h0] at hv
  rw [hv] at hlk
  obtain ⟨c0, c1, c2, c3⟩ := h.cells
  have l1 := World.block_lt_of_cell? w _ hf
  have l2 := World.block_lt_of_cell? w _ ht
  have l3 := World.block_lt_of_cell? w _ hn
  have l4 := World.block_lt_of_cell? w _ hp
  have l5 := World.block_lt_of_cell? w _ c0
  dsimp only at l1 l2 l3 l4 l5
  clear h hv h0
  go_enter Try.func31, Try.ntmps31
  go_wp2
  go_quiet (fail)
  go_wp2
  exact bodyPost_ret (v := .tuple #[.agg #[.int .i64 f, .int .i64 t], .int .i64 0, .bool false]) (by simp [results, Try.results31, go_sem]) rfl
    ⟨rfl, by (repeat (first | exact Below.refl _ _ | refine Below.drew ?_ | refine bDrewN ?_ | refine Below.setCell ?_ (by simp) _ | refine Below.alloc ?_ (by simp) _))⟩

set_option maxHeartbeats 1000000 in
theorem meant1_some {B : Nat} {w : World} {p r : Nat} {nodes bound now : Int} {gs : List Bag} (h : NetAt B w p r nodes bound now gs) (f t pick : Int) (bf bt bn bp : Nat)
    (hf : w.cell? ⟨bf, 0, none⟩ = some (.int .i64 f)) (ht : w.cell? ⟨bt, 0, none⟩ = some (.int .i64 t)) (hn : w.cell? ⟨bn, 0, none⟩ = some (.pointer (some ⟨p, 0, none⟩))) (hp : w.cell? ⟨bp, 0, none⟩ = some (.int .i64 pick))
    (n : Nat) (h0 : (msgsAt (f, t) gs).length = n) (hpos : 0 < n) :
    Calls Try.prog 31 #[.pointer (some ⟨bf, 0, none⟩), .pointer (some ⟨bt, 0, none⟩), .pointer (some ⟨bn, 0, none⟩), .pointer (some ⟨bp, 0, none⟩)] w (Meant w f t pick n) := by
  have hlk : ∀ x y n, (Instr.lookup 47 (.map (some r)) (.agg #[.int .i64 f, .int .i64 t]) false).run Try.prog (((w.alloc x).alloc y).drewN n) = .ok (bagVal (f, t) gs) (((w.alloc x).alloc y).drewN n) :=
    fun x y n => (h.grow (w' := ((w.alloc x).alloc y).drewN n) (((Grow.alloc _ _).trans (Grow.alloc _ _)).trans (Grow.drewN _ _))).lookup (f, t)
  obtain ⟨a, c, hv⟩ := bagVal_len (f, t) gs
  rw [h0] at hv
  rw [hv] at hlk
  obtain ⟨c0, c1, c2, c3⟩ := h.cells
  have l1 := World.block_lt_of_cell? w _ hf
  have l2 := World.block_lt_of_cell? w _ ht
  have l3 := World.block_lt_of_cell? w _ hn
  have l4 := World.block_lt_of_cell? w _ hp
  have l5 := World.block_lt_of_cell? w _ c0
  dsimp only at l1 l2 l3 l4 l5
  have hl2 : ∀ W, Grow w W → (Instr.lookup 47 (.map (some r)) (.agg #[.int .i64 f, .int .i64 t]) false).run Try.prog W = .ok (.slice a n c) W :=
    fun W hW => hv ▸ (h.grow hW).lookup (f, t)
  have hcl := Grow.cells (w := w)
  clear h hv h0 hlk
  have hne : ((n : Int) == 0) = false := by simp; omega
  obtain ⟨q, hq⟩ : ∃ q : Int, q = max pick 0 := ⟨_, rfl⟩
  have hmx : ∀ W : World, (Builtin.max_ #[3, 3] 3 #[.int .i64 pick, .int .i64 0]).run Try.prog W = .ok (.int .i64 q) W := fun W => by
    rw [hq]; by_cases hp0 : pick < 0
    · simp [Builtin.max_, Builtin.max2, hp0, Int.max_eq_right (Int.le_of_lt hp0)]
    · simp [Builtin.max_, Builtin.max2, hp0, Int.max_eq_left (Int.not_lt.1 hp0)]
  have hq0 : 0 ≤ q := by omega
  have hn0 : n ≠ 0 := by omega
  have Hq := Lib.hid hq
  clear hq
  go_enter Try.func31, Try.ntmps31
  go_wp2
  refine wp_region_pi (fun W => Below w.heap.size w W ∧ W.cell? ⟨w.heap.size + 1, 0, none⟩ = some (.int .i64 f) ∧ W.cell? ⟨w.heap.size + 1, 1, none⟩ = some (.int .i64 t))
    [(0, false), (1, false), (2, false), (3, false), (4, false), (5, false), (6, false), (7, false)] (by kernel_rfl) (by kernel_rfl) (fun c a d v w h => by cases d <;> exact h) ⟨by (repeat (first | exact Below.refl _ _ | assumption | refine Below.drew ?_ | refine bDrewN ?_ | refine Below.setCell ?_ (by first | omega | (simp <;> omega)) _ | refine Below.alloc ?_ (by first | omega | (simp <;> omega)) _)), by simp, by simp⟩ ?_
  simp only [arrange, nth]
  repeat (first | (refine wpPi_quiet (v := ?_) (by rfl) (fun W hW => ?_) ?_; rotate_left; (obtain ⟨hW, hW1, hW2⟩ := hW; go_simp; with_reducible rfl); simp only [Act.put, List.setIfInBounds_toArray, List.set_cons_zero, List.set_cons_succ]) | (refine wpPi_off (by rfl) ?_; simp only [Act.put, List.setIfInBounds_toArray, List.set_cons_zero, List.set_cons_succ]))
  refine wpPi_nil ?_
  go_wp2
  refine wp_region_pi (fun W => Below w.heap.size w W ∧ W.cell? ⟨w.heap.size + 1, 0, none⟩ = some (.int .i64 f) ∧ W.cell? ⟨w.heap.size + 1, 1, none⟩ = some (.int .i64 t))
    [(0, false), (1, false), (2, false), (3, false), (4, false), (5, false), (6, false), (7, false), (8, false), (9, false), (10, false), (11, true), (12, false), (13, false)] (by kernel_rfl) (by kernel_rfl) (fun c a d v w h => by cases d <;> exact h) ⟨by (repeat (first | exact Below.refl _ _ | assumption | refine Below.drew ?_ | refine bDrewN ?_ | refine Below.setCell ?_ (by first | omega | (simp <;> omega)) _ | refine Below.alloc ?_ (by first | omega | (simp <;> omega)) _)), by simp, by simp⟩ ?_
  simp only [arrange, nth]
  repeat (first | (refine wpPi_quiet (v := ?_) (by rfl) (fun W hW => ?_) ?_; rotate_left; (obtain ⟨hW, hW1, hW2⟩ := hW; go_simp; with_reducible rfl); simp only [Act.put, List.setIfInBounds_toArray, List.set_cons_zero, List.set_cons_succ]) | (refine wpPi_off (by rfl) ?_; simp only [Act.put, List.setIfInBounds_toArray, List.set_cons_zero, List.set_cons_succ]))
  refine wpPi_act (by rfl) (fun K hK => ?_)
  go_simp
  refine hK _ _ ⟨⟨by (repeat (first | exact Below.refl _ _ | assumption | refine Below.drew ?_ | refine bDrewN ?_ | refine Below.setCell ?_ (by first | omega | (simp <;> omega)) _ | refine Below.alloc ?_ (by first | omega | (simp <;> omega)) _)), by simp, by simp⟩, ?_⟩
  clear hK K
  try simp only [Act.put, List.setIfInBounds_toArray, List.set_cons_zero, List.set_cons_succ]
  repeat (first | (refine wpPi_quiet (v := ?_) (by rfl) (fun W hW => ?_) ?_; rotate_left; (obtain ⟨hW, hW1, hW2⟩ := hW; go_simp; with_reducible rfl); simp only [Act.put, List.setIfInBounds_toArray, List.set_cons_zero, List.set_cons_succ]) | (refine wpPi_off (by rfl) ?_; simp only [Act.put, List.setIfInBounds_toArray, List.set_cons_zero, List.set_cons_succ]))
  refine wpPi_nil ?_
  go_wp2
  exact bodyPost_ret (v := .tuple #[.agg #[.int .i64 f, .int .i64 t], .int .i64 (q.tmod n), .bool true]) (by simp [results, Try.results31, go_sem]) rfl
    ⟨by rw [if_neg hn0, ← Hq.out, Int.tmod_eq_emod_of_nonneg hq0]; simp [hn0], by (repeat (first | exact Below.refl _ _ | assumption | refine Below.drew ?_ | refine bDrewN ?_ | refine Below.setCell ?_ (by first | omega | (simp <;> omega)) _ | refine Below.alloc ?_ (by first | omega | (simp <;> omega)) _))⟩

theorem meant1_any {B : Nat} {w : World} {p r : Nat} {nodes bound now : Int} {gs : List Bag} (h : NetAt B w p r nodes bound now gs) (f t pick : Int) (bf bt bn bp : Nat)
    (hf : w.cell? ⟨bf, 0, none⟩ = some (.int .i64 f)) (ht : w.cell? ⟨bt, 0, none⟩ = some (.int .i64 t)) (hn : w.cell? ⟨bn, 0, none⟩ = some (.pointer (some ⟨p, 0, none⟩))) (hp : w.cell? ⟨bp, 0, none⟩ = some (.int .i64 pick)) :
    Calls Try.prog 31 #[.pointer (some ⟨bf, 0, none⟩), .pointer (some ⟨bt, 0, none⟩), .pointer (some ⟨bn, 0, none⟩), .pointer (some ⟨bp, 0, none⟩)] w (Meant w f t pick (msgsAt (f, t) gs).length) := by
  by_cases h0 : (msgsAt (f, t) gs).length = 0
  · rw [h0]; exact meant1_zero h f t pick bf bt bn bp hf ht hn hp h0
  · exact meant1_some h f t pick bf bt bn bp hf ht hn hp _ rfl (by omega)

set_option maxHeartbeats 400000 in
theorem meant_any (w : World) (p : Nat) (f t pick : Int) :
    Calls Try.prog 19 #[.pointer (some ⟨p, 0, none⟩), .int .i64 f, .int .i64 t, .int .i64 pick] w fun e w' =>
      e = .returned (.func (.func 31) #[] #[.pointer (some ⟨w.heap.size + 1, 0, none⟩), .pointer (some ⟨w.heap.size + 2, 0, none⟩), .pointer (some ⟨w.heap.size, 0, none⟩), .pointer (some ⟨w.heap.size + 3, 0, none⟩)]) ∧
      w' = (((w.alloc (.cells #[.pointer (some ⟨p, 0, none⟩)] 24)).alloc (.cells #[.int .i64 f] 3)).alloc (.cells #[.int .i64 t] 3)).alloc (.cells #[.int .i64 pick] 3) := by
  go_enter Try.func19, Try.ntmps19
  go_wp2
  go_ret
  exact ⟨rfl, rfl⟩
end Go.Proofs.Ytbanfilgokideaa

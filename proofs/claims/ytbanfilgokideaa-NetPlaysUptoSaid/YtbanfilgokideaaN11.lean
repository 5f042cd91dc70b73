/- NetOwn returns true for every slice of bytes that lies in memory, and turns nothing that was there. -/
import Derived.Test.YtbanfilgokideaaN10
namespace Go.Proofs.Ytbanfilgokideaa
open Go.RowKit Go.Gl

/-- A net stays where one row of bytes is turned that none of its messages lies in. -/
theorem NetAt.except {B : Nat} {w w' : World} {p r : Nat} {nodes bound now : Int} {gs : List Bag} (h : NetAt B w p r nodes bound now gs) {b0 : Nat} {arr : Array Value} {f : Nat × Nat} (hb0 : w.heap[b0]? = some (.cells arr 5 f))
    (hsz : w.heap.size ≤ w'.heap.size) (hk : ∀ b, b < w.heap.size → b ≠ b0 → w'.heap[b]? = w.heap[b]?) (hm : ∀ g ∈ gs, ∀ m ∈ g.msgs, blk m.val ≠ some b0) : NetAt B w' p r nodes bound now gs := by
  obtain ⟨c, h1, h2⟩ := h.map
  have key : ∀ (b : Nat) (o : Obj), w.heap[b]? = some o → b ≠ b0 → w'.heap[b]? = some o := fun b o hb hne => by rw [hk b (lt_of_getElem? hb) hne, hb]
  refine ⟨key _ _ h.self (fun e => by rw [← e, h.self] at hb0; cases hb0), ⟨c, key _ _ h1 (fun e => by rw [← e, show w.heap[r]? = _ from h1] at hb0; cases hb0), h2⟩, h.keys, h.borns, h.rows, fun g hg => ⟨⟨(h.bags g hg).own.1, ?_⟩, fun m hm' => ?_⟩, h.base, Nat.le_trans h.room hsz⟩
  · rcases (h.bags g hg).own.2 with h3 | ⟨b, cap, cur, h3, h4, h5, h6⟩
    · exact .inl h3
    · exact .inr ⟨b, cap, cur, h3, h4, key _ _ h5 (fun e => by rw [← e, h5] at hb0; cases hb0), h6⟩
  · rcases (h.bags g hg).msg m hm' with h3 | ⟨b, c, arr, h3, h4, h5⟩
    · exact .inl h3
    · exact .inr ⟨b, c, arr, h3, key _ _ h4 (fun e => hm g hg m hm' (by rw [h3]; simp [blk, e])), h5⟩

/-- A row of n bytes, whatever they are. -/
def ByteRow (w : World) (b n : Nat) : Prop := ∃ arr : Array Value, w.heap[b]? = some (.cells arr 5 (0, 0)) ∧ ∀ i, i < n → ∃ z : Int, arr[i]? = some (.int .u8 z)

theorem ByteRow.cell {w : World} {b n i : Nat} (h : ByteRow w b n) (hi : i < n) : ∃ z : Int, w.cell? ⟨b, i, none⟩ = some (.int .u8 z) ∧ w.frozen? ⟨b, i, none⟩ = false := by
  obtain ⟨arr, h1, h2⟩ := h
  obtain ⟨z, hz⟩ := h2 i hi
  exact ⟨z, by simp [World.cell?, h1, hz], by simp [World.frozen?, h1]⟩

theorem ByteRow.set {w : World} {b n i : Nat} {z : Int} (h : ByteRow w b n) : ByteRow (w.setCell ⟨b, i, none⟩ (.int .u8 z)) b n := by
  obtain ⟨arr, h1, h2⟩ := h
  refine ⟨arr.setIfInBounds i (.int .u8 z), ?_, fun j hj => ?_⟩
  · rw [setCell_eq_setRow w b i arr 5 (0, 0) _ h1]
    exact setRow_heap w b arr _ 5 _ h1
  · obtain ⟨y, hy⟩ := h2 j hj
    by_cases hij : i = j
    · subst hij
      exact ⟨z, by simp [(lt_of_getElem? hy)]⟩
    · exact ⟨y, by rw [Array.getElem?_setIfInBounds_ne hij]; exact hy⟩

theorem ByteRow.of {w : World} {b c : Nat} {l : List UInt8} (h : OBytes 5 w (.slice (some ⟨b, 0, none⟩) l.length c) l) : ByteRow w b l.length := by
  rcases h with ⟨h, _⟩ | ⟨b', c', arr, h1, h2, _, h4⟩
  · cases h
  · cases h1
    refine ⟨arr, h2, fun i hi => ⟨l[i].toNat, h4 i l[i] (by simp [hi])⟩⟩

theorem own_sent {V : View} {n : Nat} {vs : List Value} {l : List UInt8} (h : Sent 2 9 0 l [1, 1] (vw []) V n vs) : ∃ v1 v2, vs = [v1, v2] ∧ V = [((0, 1), [⟨v1, l⟩, ⟨v2, l⟩])] := by
  simp [Sent, okB, lookV, pushV, vw] at h
  obtain ⟨v1, n1, rfl, vs1, rfl, v2, n2, rfl, vs2, rfl, rfl, rfl, rfl⟩ := h
  exact ⟨v1, v2, rfl, rfl⟩

set_option maxRecDepth 100000 in
set_option maxHeartbeats 2000000 in
theorem own_short (w : World) (a : Option Addr) (n c : Nat) (hn : n = 0 ∨ 1000 < n) : Calls Try.prog 3 #[.slice a n c] w (fun e w' => e = .returned (.bool true) ∧ Grow w w') := by
  rcases hn with rfl | hn
  · go_enter Try.func3, Try.ntmps3
    go_wp2_with fail
    (with_reducible refine (known_true _).mono ?_)
    rintro e w1 ⟨rfl, hg1⟩
    go_wp2
    go_ret
    exact ⟨rfl, hg1⟩
  · have h1 : decide (1000 < (n : Int)) = true := by simp; omega
    have h2 : (1000 : Int) < (n : Int) := by omega
    go_enter Try.func3, Try.ntmps3
    go_wp2_with fail
    (with_reducible refine (known_true _).mono ?_)
    rintro e w1 ⟨rfl, hg1⟩
    go_wp2
    go_ret
    exact ⟨rfl, hg1⟩

def OwnInv1 (w1 : World) (p r : Nat) (gs : List Bag) (mb n : Nat) (i : Value) (wr : World) : Prop :=
  ∃ k : Nat, k ≤ n ∧ i = .int .i64 k ∧ NetAt w1.heap.size wr p r 2 9 0 gs ∧ ByteRow wr mb n ∧ Below w1.heap.size w1 wr

def viewOf (ms : List Msg) : View := match ms with | [] => [] | m :: r => [((0, 1), m :: r)]

theorem take_viewOf (m : Msg) (ms : List Msg) : takeV (0, 1) 0 (viewOf (m :: ms)) = viewOf ms := by
  cases ms <;> simp [takeV, viewOf]

def OwnInv2 (w1 : World) (p r : Nat) (l : List UInt8) (i : Value) (wr : World) : Prop :=
  ∃ (k : Nat) (gs : List Bag) (ms : List Msg), k + ms.length = 3 ∧ i = .int .i64 k ∧ NetAt w1.heap.size wr p r 2 9 0 gs ∧ vw gs = viewOf ms ∧ (∀ m ∈ ms, m.bytes = l ∧ ∀ x, blk m.val = some x → w1.heap.size ≤ x) ∧ (ms.map Msg.val).Pairwise (fun a b => ∀ x, blk a = some x → blk b ≠ some x) ∧ Below w1.heap.size w1 wr

def OwnInv3 (w1 : World) (p r : Nat) (gs : List Bag) (q b n c : Nat) (i : Value) (wr : World) : Prop :=
  ∃ k : Nat, k ≤ n ∧ i = .int .i64 k ∧ NetAt w1.heap.size wr p r 2 9 0 gs ∧ ByteRow wr b n ∧ wr.heap[q]? = some (.cells #[.int .i64 0, .int .i64 1, .slice (some ⟨b, 0, none⟩) n c] 31 (0, 0)) ∧ Below w1.heap.size w1 wr

set_option maxRecDepth 100000 in
set_option maxHeartbeats 4000000 in
theorem own_main (w : World) (ab ao c : Nat) (l : List UInt8) (hl0 : 0 < l.length) (hl1 : l.length ≤ 1000) (hb : Bytes w (.slice (some ⟨ab, ao, none⟩) l.length c) l) :
    Calls Try.prog 3 #[.slice (some ⟨ab, ao, none⟩) l.length c] w (fun e w' => e = .returned (.bool true) ∧ Grow w w') := by
  have h1 : decide (1000 < (l.length : Int)) = false := by simp; omega
  have h2 : ((l.length : Int) == 0) = false := beq_eq_false_iff_ne.2 (by omega)
  have h3 : (l.length : Int) ≤ 1000 := by omega
  have h4 : ¬ (l.length = 0) := by omega
  have Hb := Lib.hid hb
  clear hb
  go_enter Try.func3, Try.ntmps3
  go_wp2_with fail
  (with_reducible refine (known_true _).mono ?_)
  rintro e w1 ⟨rfl, hg1⟩
  go_wp2_with fail
  (with_reducible refine (new_net _ _ _ (by decide) (by decide) (by decide) (by decide)).mono ?_)
  rintro e w2 ⟨p, r, rfl, hN2, hg2⟩
  have hb2 : Bytes w2 (.slice (some ⟨ab, ao, none⟩) l.length c) l := hg2.bytes (hg1.bytes Hb.out)
  have hab : ab < w1.heap.size := by
    rcases hg1.bytes Hb.out with ⟨h, _⟩ | ⟨b, o, c, h, h5, _⟩
    · cases h
    · cases h; exact h5
  obtain ⟨cap, hcap, hrun⟩ := run_append_copy (P := Try.prog) (w := w2.alloc (.cells #[] 5)) (t := 22) (E := 5) (ty := 22) (b0 := w2.heap.size) (b := ab) (o := ao) (c := c) Try.underlying22 Try.info5 hl0 (by omega)
    (fun i x hx => by
      rcases hb2 with ⟨h, _⟩ | ⟨b, o, c, h, h5, h6⟩
      · cases h
      · cases h
        rw [World.cell?_alloc_lt _ _ _ h5]
        exact h6 i x hx)
  have Hrun := Lib.hid hrun
  have HN2 := Lib.hid hN2
  clear hrun hN2 hb2
  go_wp2_with (first | (at_builtin; refine wpList_append rfl rfl rfl rfl Hrun.out ?_) | fail)
  have hgx : Grow w2 (((w2.alloc (.cells #[] 5)).alloc (.cells ((bcells l).toArray ++ Builtin.zeroCells #[.int .u8 0] (cap - l.length)) 5)).alloc (.cells #[.int .i64 1, .int .i64 1] 3)).drew := by (repeat (first | exact Below.refl _ _ | assumption | refine Below.drew ?_ | refine bDrewN ?_ | refine Below.setCell ?_ (by first | omega | (simp <;> omega)) _ | refine Below.alloc ?_ (by first | omega | (simp <;> omega)) _))
  have hom : OBytes 5 (((w2.alloc (.cells #[] 5)).alloc (.cells ((bcells l).toArray ++ Builtin.zeroCells #[.int .u8 0] (cap - l.length)) 5)).alloc (.cells #[.int .i64 1, .int .i64 1] 3)).drew (.slice (some ⟨w2.heap.size + 1, 0, none⟩) l.length cap) l := by
    have := oBytes_new (w := w2.alloc (.cells #[] 5)) (E := 5) (n := w2.heap.size + 1) hcap (by simp)
    refine this.keep fun b hb => ?_
    cases hb
    exact heap_alloc_old _ _ (by simp)
  have hkk : (((w2.alloc (.cells #[] 5)).alloc (.cells ((bcells l).toArray ++ Builtin.zeroCells #[.int .u8 0] (cap - l.length)) 5)).alloc (.cells #[.int .i64 1, .int .i64 1] 3)).drew.heap[w2.heap.size + 1 + 1]? = some (.cells #[.int .i64 1, .int .i64 1] 3 (0, 0)) := by
    have := heap_alloc_new ((w2.alloc (.cells #[] 5)).alloc (.cells ((bcells l).toArray ++ Builtin.zeroCells #[.int .u8 0] (cap - l.length)) 5)) (.cells #[.int .i64 1, .int .i64 1] 3)
    simp only [World.size_alloc] at this
    exact this
  generalize (((w2.alloc (.cells #[] 5)).alloc (.cells ((bcells l).toArray ++ Builtin.zeroCells #[.int .u8 0] (cap - l.length)) 5)).alloc (.cells #[.int .i64 1, .int .i64 1] 3)).drew = W3 at *
  have hmb1 : w1.heap.size ≤ w2.heap.size + 1 := by have := hg2.size; omega
  generalize w2.heap.size + 1 = mb at *
  have hN3 := HN2.out.grow hgx
  have hmb2 : mb < W3.heap.size := by
    rcases hom with ⟨h, _⟩ | ⟨b, c, arr, h, h5, _⟩
    · cases h
    · cases h; exact lt_of_getElem? h5
  have hfm : ∀ b, blk (.slice (some ⟨mb, 0, none⟩) l.length cap) = some b → Firm softN w1.heap.size W3 b := fun b hb => by
    cases hb
    rcases hom with ⟨h, _⟩ | ⟨b, c, arr, h, h5, _⟩
    · cases h
    · cases h; exact firm_hard h5 (by decide)
  have hsend : Calls Try.prog 8 #[.pointer (some ⟨p, 0, none⟩), .int .i64 0, .slice (some ⟨mb, 0, none⟩) l.length cap, .slice (some ⟨mb + 1, 0, none⟩) 2 2] W3 (SendPost w1.heap.size W3 p r 2 9 0 (vw []) 0 l [1, 1]) :=
    send_some hN3 (by decide) 0 _ l (.inr hom.bytes) (fun b hb _ => hfm b hb) (by omega) _ 0 2 [1, 1] (by decide) (ints_cells hkk) (firm_hard hkk (by decide))
  have Hsend := Lib.hid hsend
  have HK3 : Hid (Keep softN w1.heap.size w1 W3) := Lib.hid (Keep.ofGrow (hg2.trans hgx) (Nat.le_refl _))
  have Hom := Lib.hid hom
  clear hsend hkk hN3 hgx hg2 hom hfm Hrun HN2
  (with_reducible refine Hsend.out.mono ?_)
  rintro e w4 ⟨gs4, n, vs, rfl, hn, hN4, hs4, hK4, hfr4⟩
  obtain ⟨v1, v2, rfl, hV4⟩ := own_sent hs4
  have hm4 : msgsAt (0, 1) gs4 = [⟨v1, l⟩, ⟨v2, l⟩] := by rw [msgsAt_view, hV4]; rfl
  have hd := double_yes hN4 0 1 0 (by rw [hm4]; simp) (by rw [hm4]; simp) (by rw [hm4]; simp) 0 (by rw [hm4]; simp) ⟨v1, l⟩ (by rw [hm4]; rfl) (by simp; omega)
  have Hd := Lib.hid hd
  have HK4 := Lib.hid (HK3.out.trans hK4)
  have HV4 := Lib.hid hV4
  have Hfr4 := Lib.hid hfr4
  have hs34 := hK4.size
  have Hom4 := Lib.hid (oBytes_hard Hom.out hK4)
  clear hd hm4 hV4 hN4 hK4 hs4 hfr4 hn
  go_wp2_with fail
  (with_reducible refine Hd.out.mono ?_)
  rintro e w5 ⟨rfl, hK5, v3, gs5, hN5, hV5, hfr5⟩
  rw [HV4.out] at hV5
  have hV5' : vw gs5 = [((0, 1), [⟨v1, l⟩, ⟨v2, l⟩, ⟨v3, l⟩])] := by rw [hV5]; simp [pushV]
  have HV5 := Lib.hid hV5'
  have HN5 := Lib.hid hN5
  have HK5 := Lib.hid (HK4.out.trans hK5)
  have Hom5 := Lib.hid (ByteRow.of (oBytes_hard Hom4.out hK5))
  -- the rows of bytes are apart
  have hap : (∀ v ∈ [v1, v2, v3], blk v ≠ some mb) ∧ [v1, v2, v3].Pairwise fun a b => ∀ x, blk a = some x → blk b ≠ some x := by
    have hfr := Hfr4.out
    obtain ⟨f1, f2⟩ := hfr
    simp only [List.mem_cons, List.not_mem_nil, or_false, forall_eq_or_imp, forall_eq] at f1
    simp only [List.pairwise_cons, List.mem_cons, List.not_mem_nil, or_false, forall_eq] at f2
    have hsz := hK5.size
    refine ⟨?_, ?_⟩
    · simp only [List.mem_cons, List.not_mem_nil, or_false, forall_eq_or_imp, forall_eq]
      refine ⟨fun e => ?_, fun e => ?_, fun e => ?_⟩
      · have := f1.1 _ e; omega
      · have := f1.2 _ e; omega
      · have := hfr5 _ e; omega
    · simp only [List.pairwise_cons, List.mem_cons, List.not_mem_nil, or_false, forall_eq_or_imp, forall_eq, false_implies, implies_true, List.Pairwise.nil, and_true]
      refine ⟨⟨f2.1, fun x hx e => ?_⟩, fun x hx e => ?_⟩
      · have := f1.1 _ hx; have := hfr5 _ e; omega
      · have := f1.2 _ hx; have := hfr5 _ e; omega
  have hmg : ∀ g ∈ gs5, ∀ m ∈ g.msgs, blk m.val ≠ some mb := fun g hg m hm => by
    have : (g.key, g.msgs) ∈ vw gs5 := List.mem_map.2 ⟨g, hg, rfl⟩
    rw [hV5'] at this
    simp only [List.mem_singleton, Prod.mk.injEq] at this
    rw [this.2] at hm
    refine hap.1 m.val ?_
    simp only [List.mem_cons, List.not_mem_nil, or_false] at hm ⊢
    rcases hm with rfl | rfl | rfl <;> simp
  have hbs : (∀ x, blk v1 = some x → w1.heap.size ≤ x) ∧ (∀ x, blk v2 = some x → w1.heap.size ≤ x) ∧ (∀ x, blk v3 = some x → w1.heap.size ≤ x) := by
    have f1 := Hfr4.out.1
    simp only [List.mem_cons, List.not_mem_nil, or_false, forall_eq_or_imp, forall_eq] at f1
    have h5 := HK3.out.size
    exact ⟨fun x hx => by have := f1.1 x hx; omega, fun x hx => by have := f1.2 x hx; omega, fun x hx => by have := hfr5 x hx; omega⟩
  have Hbs := Lib.hid hbs
  have Hap := Lib.hid hap
  have Hmg := Lib.hid hmg
  clear hV5 hV5' hN5 hK5 hfr5 hap hmg hbs
  go_wp2_with fail
  go_loopw [6] (fun i wr => OwnInv1 w1 p r gs5 mb l.length i wr) (fun i _ => l.length - (intOf i).toNat)
  case atStart => exact ⟨0, Nat.zero_le _, rfl, HN5.out, Hom5.out, HK5.out.below⟩
  case round =>
    obtain ⟨k, hk, rfl, hN, hrow, hbel⟩ := hrel
    by_cases hlt : k < l.length
    · obtain ⟨z, hz, hzf⟩ := hrow.cell hlt
      have hk1 : (k : Int) < (l.length : Int) := by omega
      have hk0 : (0 : Int) ≤ (k : Int) := by omega
      have Hfin : Hid (∀ v : Int, OwnInv1 w1 p r gs5 mb l.length (.int .i64 ((k + 1 : Nat) : Int)) (wr.setCell ⟨mb, k, none⟩ (.int .u8 v))) := Lib.hid fun v => by
        obtain ⟨arr, ha, _⟩ := hrow
        refine ⟨k + 1, hlt, rfl, hN.except ha (by simp) (fun b _ hb => Below.heap_setCell _ _ _ _ hb) Hmg.out, ByteRow.set ⟨arr, ha, ‹_›⟩, hbel.setCell hmb1 _⟩
      clear hN hrow hbel
      go_wp2
      go_roundw
      case rel => exact Hfin.out _
      case measure => simp [intOf]; omega
    · have HN := Lib.hid hN
      have Hbel := Lib.hid hbel
      clear hN hrow hbel
      go_wp2_with fail
      obtain ⟨wo, rfl⟩ : ∃ wo : World, wo = wr := ⟨_, rfl⟩
      go_loopw [7] (fun i wr => OwnInv2 w1 p r l i wr) (fun i _ => 3 - (intOf i).toNat)
      case atStart =>
        refine ⟨0, gs5, [⟨v1, l⟩, ⟨v2, l⟩, ⟨v3, l⟩], rfl, rfl, HN.out, HV5.out, ?_, ?_, Hbel.out⟩
        · intro m hm
          simp only [List.mem_cons, List.not_mem_nil, or_false] at hm
          rcases hm with rfl | rfl | rfl
          · exact ⟨rfl, Hbs.out.1⟩
          · exact ⟨rfl, Hbs.out.2.1⟩
          · exact ⟨rfl, Hbs.out.2.2⟩
        · exact Hap.out.2
      case round =>
        obtain ⟨k2, gs6, ms, hk2, rfl, hN6, hV6, hby6, hap6, hbel6⟩ := hrel
        cases ms with
        | nil =>
          have hk3 : k2 = 3 := by simpa using hk2
          subst hk3
          clear hN6 hV6 hby6 hap6
          go_wp2
          go_ret
          exact ⟨rfl, hg1.trans hbel6⟩
        | cons m ms =>
          simp only [List.length_cons] at hk2
          have hk3 : (k2 : Int) < 3 := by omega
          have hm6 : msgsAt (0, 1) gs6 = m :: ms := by rw [msgsAt_view, hV6]; rfl
          have hf6 := full_of_view hV6 (by simp [viewOf])
          have hob : OBytes 5 wr m.val l := by
            obtain ⟨_, _, m', hm', _, _, ho, _⟩ := hN6.msgAt (k := (0, 1)) (j := 0) (by rw [hm6]; simp)
            rw [hm6] at hm'; cases hm'; rw [(hby6 m (by simp)).1] at ho; exact ho
          obtain ⟨b, cm, hmv⟩ : ∃ b c, m.val = .slice (some ⟨b, 0, none⟩) l.length c := by
            rcases hob with ⟨_, h⟩ | ⟨b, c, arr, h, _⟩
            · rw [h] at hl0; simp at hl0
            · exact ⟨b, c, h⟩
          have hdel := deliver_some hN6 hf6 0 1 0 (by rw [hm6]; simp; omega) 0 (by rw [hm6]; simp) m (by rw [hm6]; rfl)
          rw [hmv] at hdel hob
          have Hdel := Lib.hid hdel
          have Hob := Lib.hid hob
          have HV6 := Lib.hid hV6
          have Hby6 := Lib.hid hby6
          have Hap6 := Lib.hid hap6
          have Hbel6 := Lib.hid hbel6
          have Hmv := Lib.hid hmv
          clear hdel hob hV6 hby6 hap6 hbel6 hmv hm6 hf6 hN6
          go_wp2_with fail
          (with_reducible refine Hdel.out.mono ?_)
          rintro e w7 ⟨rfl, hK7, gs7, hN7, hV7⟩
          rw [HV6.out, take_viewOf] at hV7
          have hob7 := oBytes_hard Hob.out hK7
          have hbel7 : Below w1.heap.size w1 w7 := Hbel6.out.trans hK7.below
          have hbB : w1.heap.size ≤ b := (Hby6.out m (by simp)).2 b (by rw [Hmv.out]; rfl)
          have hby7 : Bytes w7 (.slice (some ⟨ab, ao, none⟩) l.length c) l := Bytes.keep (hg1.bytes Hb.out) hbel7.size fun x hx => by cases hx; exact hbel7.block _ hab
          have hcv : ∀ x, (convert 22 9 (.slice (some ⟨b, 0, none⟩) l.length cm)).run Try.prog (w7.alloc x) = .ok (.string ⟨l.toArray⟩) (w7.alloc x) := fun x =>
            run_string Try.underlying22 Try.underlying5 Try.underlying9 (Grow.bytes (Grow.alloc w7 x) hob7.bytes)
          have hcv2 : ∀ x, (convert 22 9 (.slice (some ⟨ab, ao, none⟩) l.length c)).run Try.prog (w7.alloc x) = .ok (.string ⟨l.toArray⟩) (w7.alloc x) := fun x =>
            run_string Try.underlying22 Try.underlying5 Try.underlying9 (Grow.bytes (Grow.alloc w7 x) hby7)
          have HN7 := Lib.hid hN7
          have HV7 := Lib.hid hV7
          have Hob7 := Lib.hid hob7
          have Hbel7 := Lib.hid hbel7
          clear hK7 hN7 hV7 hob7 hby7 hbel7
          go_wp2_with fail
          clear hcv hcv2
          have hq7 : (w7.alloc (.cells #[.int .i64 0, .int .i64 1, .slice (some ⟨b, 0, none⟩) l.length cm] 31)).heap[w7.heap.size]? = some (.cells #[.int .i64 0, .int .i64 1, .slice (some ⟨b, 0, none⟩) l.length cm] 31 (0, 0)) := heap_alloc_new _ _
          have hrow7 : ByteRow (w7.alloc (.cells #[.int .i64 0, .int .i64 1, .slice (some ⟨b, 0, none⟩) l.length cm] 31)) b l.length := by
            obtain ⟨arr, h5, h6⟩ := ByteRow.of Hob7.out
            exact ⟨arr, (Grow.alloc w7 _).heap h5, h6⟩
          have hbq : b ≠ w7.heap.size := by
            obtain ⟨arr, h5, _⟩ := ByteRow.of Hob7.out
            have := lt_of_getElem? h5; omega
          have hmg7 : ∀ g ∈ gs7, ∀ m' ∈ g.msgs, blk m'.val ≠ some b := fun g hg m' hm' e => by
            have h5 : (g.key, g.msgs) ∈ vw gs7 := List.mem_map.2 ⟨g, hg, rfl⟩
            rw [HV7.out] at h5
            have h6 : m' ∈ ms := by
              cases ms with
              | nil => simp [viewOf] at h5
              | cons a r =>
                simp only [viewOf, List.mem_singleton, Prod.mk.injEq] at h5
                rw [h5.2] at hm'; exact hm'
            have h7 := Hap6.out
            simp only [List.map_cons, List.pairwise_cons] at h7
            exact h7.1 m'.val (List.mem_map_of_mem h6) b (by rw [Hmv.out]; rfl) e
          have hN8 := HN7.out.grow (Grow.alloc w7 (.cells #[.int .i64 0, .int .i64 1, .slice (some ⟨b, 0, none⟩) l.length cm] 31))
          have hbel8 : Below w1.heap.size w1 (w7.alloc (.cells #[.int .i64 0, .int .i64 1, .slice (some ⟨b, 0, none⟩) l.length cm] 31)) := Hbel7.out.alloc Hbel7.out.size _
          generalize w7.alloc (.cells #[.int .i64 0, .int .i64 1, .slice (some ⟨b, 0, none⟩) l.length cm] 31) = W8 at *
          generalize w7.heap.size = q at *
          have H8 : Hid (OwnInv3 w1 p r gs7 q b l.length cm (.int .i64 ((0 : Nat) : Int)) W8) := Lib.hid ⟨0, Nat.zero_le _, rfl, hN8, hrow7, hq7, hbel8⟩
          have Hmg7 := Lib.hid hmg7
          clear hmg7 hN8 hbel8 hrow7 hq7
          obtain ⟨wo2, rfl⟩ : ∃ wo2 : World, wo2 = wr := ⟨_, rfl⟩
          go_loopw [10] (fun i wr => OwnInv3 w1 p r gs7 q b l.length cm i wr) (fun i _ => l.length - (intOf i).toNat)
          case atStart => exact H8.out
          case round =>
            obtain ⟨k4, hk4, rfl, hN9, hrow9, hq9, hbel9⟩ := hrel
            have hc2 : wr.cell? ⟨q, 2, none⟩ = some (.slice (some ⟨b, 0, none⟩) l.length cm) := by simp [World.cell?, hq9]
            by_cases hlt4 : k4 < l.length
            · obtain ⟨z, hz, hzf⟩ := hrow9.cell hlt4
              have hk41 : (k4 : Int) < (l.length : Int) := by omega
              have hk40 : (0 : Int) ≤ (k4 : Int) := by omega
              have Hfin : Hid (∀ v : Int, OwnInv3 w1 p r gs7 q b l.length cm (.int .i64 ((k4 + 1 : Nat) : Int)) (wr.drew.setCell ⟨b, k4, none⟩ (.int .u8 v))) := Lib.hid fun v => by
                obtain ⟨arr, ha, ha2⟩ := hrow9
                refine ⟨k4 + 1, hlt4, rfl, (hN9.grow (Grow.drew wr)).except (b0 := b) ha (by simp) (fun x _ hx => Below.heap_setCell _ _ _ _ hx) Hmg7.out, ByteRow.set (w := wr.drew) ⟨arr, ha, ha2⟩, ?_, (hbel9.drew).setCell hbB _⟩
                rw [Below.heap_setCell _ _ _ _ (Ne.symm hbq)]; exact hq9
              clear hN9 hrow9 hq9 hbel9
              go_wp2
              refine wp_region_pi (fun W => W.cell? ⟨q, 2, none⟩ = some (.slice (some ⟨b, 0, none⟩) l.length cm)) [(0, false), (1, false), (2, false), (3, false), (4, false), (5, false), (6, false), (7, true), (8, false), (9, false), (10, true)] (by kernel_rfl) (by kernel_rfl) (fun c a d v w h => by cases d <;> exact h) hc2 ?_
              simp only [arrange, nth]
              repeat (first | (refine wpPi_quiet (v := ?_) (by rfl) (fun W hW => ?_) ?_; rotate_left; (obtain hW := hW; go_simp; with_reducible rfl); simp only [Act.put, List.setIfInBounds_toArray, List.set_cons_zero, List.set_cons_succ]) | (refine wpPi_off (by rfl) ?_; simp only [Act.put, List.setIfInBounds_toArray, List.set_cons_zero, List.set_cons_succ]))
              refine wpPi_act (by rfl) (fun K hK => ?_)
              go_simp
              refine hK _ _ ⟨hc2, ?_⟩
              clear hK K
              try simp only [Act.put, List.setIfInBounds_toArray, List.set_cons_zero, List.set_cons_succ]
              repeat (first | (refine wpPi_quiet (v := ?_) (by rfl) (fun W hW => ?_) ?_; rotate_left; (obtain hW := hW; go_simp; with_reducible rfl); simp only [Act.put, List.setIfInBounds_toArray, List.set_cons_zero, List.set_cons_succ]) | (refine wpPi_off (by rfl) ?_; simp only [Act.put, List.setIfInBounds_toArray, List.set_cons_zero, List.set_cons_succ]))
              refine wpPi_act (by rfl) (fun K hK => ?_)
              go_simp
              refine hK _ _ ⟨by rw [World.cell?_drew, World.cell?_setCell_far _ _ _ _ hbq]; exact hc2, ?_⟩
              clear hK K
              try simp only [Act.put, List.setIfInBounds_toArray, List.set_cons_zero, List.set_cons_succ]
              refine wpPi_nil ?_
              go_wp2
              go_roundw
              case rel => exact Hfin.out _
              case measure => simp [intOf]; omega
            · have Hout : Hid (OwnInv2 w1 p r l (.int .i64 ((k2 + 1 : Nat) : Int)) wr) := by
                refine Lib.hid ⟨k2 + 1, gs7, ms, by omega, rfl, hN9, HV7.out, fun m' hm' => Hby6.out m' (List.mem_cons_of_mem _ hm'), ?_, hbel9⟩
                have h7 := Hap6.out
                simp only [List.map_cons, List.pairwise_cons] at h7
                exact h7.2
              clear hN9 hrow9 hq9 hbel9
              go_wp2
              go_roundw
              case rel => exact Hout.out
              case measure => simp [intOf]; omega
end Go.Proofs.Ytbanfilgokideaa

/- net.Send over a row of receivers: what was laid in, in order, in fresh rows; at most 10^9 receivers, a bound of at most 65536. -/
import Derived.Test.YtbanfilgokideaaN7
namespace Go.Proofs.Ytbanfilgokideaa
open Go.RowKit Go.Gl

/-- The messages of a link, in the view. -/
def lookV (k : Int × Int) (V : View) : List Msg := ((V.find? (fun x => decide (k = x.1))).map (·.2)).getD []

theorem msgsAt_view (k : Int × Int) (gs : List Bag) : msgsAt k gs = lookV k (vw gs) := by
  unfold msgsAt lookV vw
  rw [List.find?_map]
  simp only [Option.map_map]
  rfl

/-- May a message be laid in? -/
def okB (nodes bound f : Int) (k : Int) (V : View) : Bool := decide (0 ≤ f ∧ f < nodes) && decide (0 ≤ k ∧ k < nodes) && decide (((lookV (f, k) V).length : Int) < bound)

/-- What a Send comes to: the view behind it, how many were laid in, their values. -/
def Sent (nodes bound f : Int) (l : List UInt8) : List Int → View → View → Nat → List Value → Prop
  | [], V, V', n, vs => V' = V ∧ n = 0 ∧ vs = []
  | k :: ks, V, V', n, vs => (okB nodes bound f k V = true ∧ ∃ v n' vs', n = n' + 1 ∧ vs = v :: vs' ∧ Sent nodes bound f l ks (pushV (f, k) ⟨v, l⟩ V) V' n' vs') ∨ (okB nodes bound f k V = false ∧ Sent nodes bound f l ks V V' n vs)

theorem sent_yes {nodes bound f : Int} {l : List UInt8} {k : Int} {v : Value} : ∀ {ks : List Int} {V V1 : View} {n : Nat} {vs : List Value}, Sent nodes bound f l ks V V1 n vs → okB nodes bound f k V1 = true → Sent nodes bound f l (ks ++ [k]) V (pushV (f, k) ⟨v, l⟩ V1) (n + 1) (vs ++ [v])
  | [], V, V1, n, vs, ⟨h1, h2, h3⟩, hok => by
    subst h1 h2 h3
    exact .inl ⟨hok, v, 0, [], rfl, rfl, rfl, rfl, rfl⟩
  | k' :: ks, V, V1, n, vs, h, hok => by
    rcases h with ⟨h1, v', n', vs', rfl, rfl, h2⟩ | ⟨h1, h2⟩
    · exact .inl ⟨h1, v', n' + 1, vs' ++ [v], rfl, rfl, sent_yes h2 hok⟩
    · exact .inr ⟨h1, sent_yes h2 hok⟩

theorem sent_no {nodes bound f : Int} {l : List UInt8} {k : Int} : ∀ {ks : List Int} {V V1 : View} {n : Nat} {vs : List Value}, Sent nodes bound f l ks V V1 n vs → okB nodes bound f k V1 = false → Sent nodes bound f l (ks ++ [k]) V V1 n vs
  | [], V, V1, n, vs, ⟨h1, h2, h3⟩, hok => by
    subst h1 h2 h3
    exact .inr ⟨hok, rfl, rfl, rfl⟩
  | k' :: ks, V, V1, n, vs, h, hok => by
    rcases h with ⟨h1, v', n', vs', rfl, rfl, h2⟩ | ⟨h1, h2⟩
    · exact .inl ⟨h1, v', n', vs', rfl, rfl, sent_no h2 hok⟩
    · exact .inr ⟨h1, sent_no h2 hok⟩

/-- New values, each in a row of its own. -/
def Fresh (lo hi : Nat) (vs : List Value) : Prop := (∀ v ∈ vs, ∀ b, blk v = some b → lo ≤ b ∧ b < hi) ∧ vs.Pairwise fun a b => ∀ x, blk a = some x → blk b ≠ some x

theorem Fresh.mono {lo hi hi' : Nat} {vs : List Value} (h : Fresh lo hi vs) (hh : hi ≤ hi') : Fresh lo hi' vs := ⟨fun v hv b hb => by have := h.1 v hv b hb; omega, h.2⟩
theorem Fresh.snoc {lo mid hi : Nat} {vs : List Value} {v : Value} (h : Fresh lo mid vs) (hlo : lo ≤ mid) (hv : ∀ b, blk v = some b → mid ≤ b ∧ b < hi) (hh : mid ≤ hi) : Fresh lo hi (vs ++ [v]) := by
  refine ⟨fun x hx b hb => ?_, List.pairwise_append.2 ⟨h.2, by simp, fun a ha b hb x hx hbx => ?_⟩⟩
  · rcases List.mem_append.1 hx with h1 | h1
    · have := h.1 x h1 b hb; omega
    · have : x = v := by simpa using h1
      subst this
      have := hv b hb; omega
  · have : b = v := by simpa using hb
    subst this
    have h1 := h.1 a ha x hx
    have h2 := hv x hbx
    omega

/-- The state of a Send's loop. -/
def SendInv (B : Nat) (w : World) (p r : Nat) (nodes bound now : Int) (V0 : View) (f : Int) (l : List UInt8) (ks : List Int) (laid i : Value) (wr : World) : Prop :=
  ∃ (c : Nat) (gs : List Bag) (n : Nat) (vs : List Value), c ≤ ks.length ∧ i = .int .i64 c ∧ laid = .int .i64 n ∧ n ≤ c ∧ NetAt B wr p r nodes bound now gs ∧ Sent nodes bound f l (ks.take c) V0 (vw gs) n vs ∧
    Keep softN B w wr ∧ wr.heap[w.heap.size]? = some (.cells #[.pointer (some ⟨p, 0, none⟩)] 24 (0, 0)) ∧ Fresh w.heap.size wr.heap.size vs

def SendPost (B : Nat) (w : World) (p r : Nat) (nodes bound now : Int) (V0 : View) (f : Int) (l : List UInt8) (ks : List Int) (e : Ending) (w' : World) : Prop :=
  ∃ (gs : List Bag) (n : Nat) (vs : List Value), e = .returned (.int .i64 n) ∧ n ≤ ks.length ∧ NetAt B w' p r nodes bound now gs ∧ Sent nodes bound f l ks V0 (vw gs) n vs ∧ Keep softN B w w' ∧ Fresh w.heap.size w'.heap.size vs

theorem node_yes {k nodes : Int} {bx p : Nat} {w : World} (h1 : w.cell? ⟨bx, 0, none⟩ = some (.pointer (some ⟨p, 0, none⟩))) (h2 : w.cell? ⟨p, 0, none⟩ = some (.int .i64 nodes)) (h : decide (0 ≤ k ∧ k < nodes) = true) :
    Calls Try.prog 17 #[.int .i64 k, .pointer (some ⟨bx, 0, none⟩)] w fun e w' => e = .returned (.bool true) ∧ w = w' :=
  (node_any k nodes bx p w h1 h2).mono fun e w' ⟨he, hw⟩ => ⟨by rw [he, h], hw⟩
theorem node_no {k nodes : Int} {bx p : Nat} {w : World} (h1 : w.cell? ⟨bx, 0, none⟩ = some (.pointer (some ⟨p, 0, none⟩))) (h2 : w.cell? ⟨p, 0, none⟩ = some (.int .i64 nodes)) (h : decide (0 ≤ k ∧ k < nodes) = false) :
    Calls Try.prog 17 #[.int .i64 k, .pointer (some ⟨bx, 0, none⟩)] w fun e w' => e = .returned (.bool false) ∧ w = w' :=
  (node_any k nodes bx p w h1 h2).mono fun e w' ⟨he, hw⟩ => ⟨by rw [he, h], hw⟩

theorem take_succ_get {ks : List Int} {c : Nat} {k : Int} (h : ks[c]? = some k) : ks.take (c + 1) = ks.take c ++ [k] := by
  obtain ⟨h1, h2⟩ := List.getElem?_eq_some_iff.1 h
  rw [List.take_succ_eq_append_getElem h1, h2]

/-- The round in which nothing is laid in. -/
theorem send_round_no {B : Nat} {w wr wr' : World} {p r : Nat} {nodes bound now : Int} {V0 : View} {f : Int} {l : List UInt8} {ks : List Int} {c n : Nat} {gs : List Bag} {vs : List Value} {k : Int} (hc : c < ks.length) (hk : ks[c]? = some k) (hnc : n ≤ c)
    (hN : NetAt B wr p r nodes bound now gs) (hsent : Sent nodes bound f l (ks.take c) V0 (vw gs) n vs) (hK : Keep softN B w wr) (hbox : wr.heap[w.heap.size]? = some (.cells #[.pointer (some ⟨p, 0, none⟩)] 24 (0, 0))) (hfr : Fresh w.heap.size wr.heap.size vs)
    (hno : okB nodes bound f k (vw gs) = false) (hg : Grow wr wr') : SendInv B w p r nodes bound now V0 f l ks (.int .i64 n) (.int .i64 ((c + 1 : Nat) : Int)) wr' :=
  ⟨c + 1, gs, n, vs, hc, rfl, rfl, by omega, hN.grow hg, by rw [take_succ_get hk]; exact sent_no hsent hno, hK.trans (Keep.ofGrow hg hN.room), hg.heap hbox, hfr.mono hg.size⟩

set_option maxRecDepth 100000 in
set_option maxHeartbeats 2000000 in
theorem send_some {B : Nat} {w : World} {p r : Nat} {nodes bound now : Int} {gs : List Bag} (h : NetAt B w p r nodes bound now gs) (hbound : bound ≤ 65536) (f : Int) (bv : Value) (l : List UInt8) (hb : BytesA w bv l) (hbf : ∀ b, blk bv = some b → l ≠ [] → Firm softN B w b) (hl : l.length ≤ 140737488355328)
    (tb to tc : Nat) (ks : List Int) (hks : ks.length ≤ 1000000000) (htc : ∀ (j : Nat) (k : Int), ks[j]? = some k → w.cell? ⟨tb, to + j, none⟩ = some (.int .i64 k)) (htf : Firm softN B w tb) :
    Calls Try.prog 8 #[.pointer (some ⟨p, 0, none⟩), .int .i64 f, bv, .slice (some ⟨tb, to, none⟩) ks.length tc] w (SendPost B w p r nodes bound now (vw gs) f l ks) := by
  have HN := Lib.hid h
  have Hb := Lib.hid hb
  have Hbf := Lib.hid hbf
  have Htc := Lib.hid htc
  have Htf := Lib.hid htf
  clear h hb hbf htc htf
  go_enter Try.func8, Try.ntmps8
  go_wp2
  go_loopw [9, 17] (fun laid i wr => SendInv B w p r nodes bound now (vw gs) f l ks laid i wr) (fun _ i _ => ks.length - (intOf i).toNat)
  case atStart =>
    exact ⟨0, gs, 0, [], Nat.zero_le _, rfl, rfl, Nat.le_refl _, HN.out.grow (by (repeat (first | exact Below.refl _ _ | assumption | refine Below.drew ?_ | refine bDrewN ?_ | refine Below.setCell ?_ (by first | omega | (simp <;> omega)) _ | refine Below.alloc ?_ (by first | omega | (simp <;> omega)) _))), ⟨rfl, rfl, rfl⟩, Keep.ofGrow (by (repeat (first | exact Below.refl _ _ | assumption | refine Below.drew ?_ | refine bDrewN ?_ | refine Below.setCell ?_ (by first | omega | (simp <;> omega)) _ | refine Below.alloc ?_ (by first | omega | (simp <;> omega)) _))) HN.out.room, heap_alloc_new w _, ⟨(fun _ h => by cases h), List.Pairwise.nil⟩⟩
  case round =>
    obtain ⟨c, gs', n, vs, hc, rfl, rfl, hnc, hN, hsent, hK, hbox, hfr⟩ := hrel
    by_cases hlt : c < ks.length
    · obtain ⟨k, hkc⟩ : ∃ k, ks[c]? = some k := ⟨ks[c], by simp [hlt]⟩
      have hcell : wr.cell? ⟨tb, to + c, none⟩ = some (.int .i64 k) := by
        rw [← Htc.out c k hkc]
        simp only [World.cell?, (Htf.out.keep hK).1]
      have hcl := Grow.cells (w := wr)
      obtain ⟨c0, c1, c2, c3⟩ := hN.cells
      have cbx : wr.cell? ⟨w.heap.size, 0, none⟩ = some (.pointer (some ⟨p, 0, none⟩)) := by simp [World.cell?, hbox]
      have lp := World.block_lt_of_cell? wr _ c0
      have lbx := World.block_lt_of_cell? wr _ cbx
      dsimp only at lp lbx
      obtain ⟨a, cp, hv⟩ := bagVal_len (f, k) gs'
      have hl2 : ∀ W, Below wr.heap.size wr W → (Instr.lookup 47 (.map (some r)) (.agg #[.int .i64 f, .int .i64 k]) false).run Try.prog W = .ok (.slice a (msgsAt (f, k) gs').length cp) W :=
        fun W hW => hv ▸ (hN.grow hW).lookup (f, k)
      have hmv := msgsAt_view (f, k) gs'
      obtain ⟨q, hq⟩ : ∃ q, (msgsAt (f, k) gs').length = q := ⟨_, rfl⟩
      rw [hq] at hl2
      have hb1 : (c : Int) < (ks.length : Int) := by omega
      have hb2 : (0 : Int) ≤ (c : Int) := by omega
      have hok : okB nodes bound f k (vw gs') = (decide (0 ≤ f ∧ f < nodes) && decide (0 ≤ k ∧ k < nodes) && decide ((q : Int) < bound)) := by
        unfold okB; rw [← hmv, hq]
      have HN1 := Lib.hid hN
      have Hsent := Lib.hid hsent
      have HK := Lib.hid hK
      have Hbox := Lib.hid hbox
      have Hfr := Lib.hid hfr
      have Hok := Lib.hid hok
      have Hq := Lib.hid hq
      clear hN hsent hK hbox hfr hv hmv hok hq
      cases hf : decide (0 ≤ f ∧ f < nodes) with
      | false =>
        go_wp2
        refine wp_region_pi (fun W => Below wr.heap.size wr W ∧ W.cell? ⟨wr.heap.size, 0, none⟩ = some (.int .i64 f) ∧ W.cell? ⟨wr.heap.size, 1, none⟩ = some (.int .i64 k)) [(0, false), (1, false), (2, true), (3, false), (4, false), (5, false), (6, true), (7, false), (8, false), (9, false), (10, false), (11, false), (12, false), (13, false), (14, false), (15, false), (16, false), (17, false), (18, false), (19, false), (20, false), (21, false)] (by kernel_rfl) (by kernel_rfl) (fun c a d v w h => by cases d <;> exact h) ⟨?_, by simp, by simp⟩ ?_
        · (repeat (first | exact Below.refl _ _ | assumption | refine Below.drew ?_ | refine bDrewN ?_ | refine Below.setCell ?_ (by first | omega | (simp <;> omega)) _ | refine Below.alloc ?_ (by first | omega | (simp <;> omega)) _))
        simp only [arrange, nth]
        have hg7 : Grow wr (wr.alloc (.cells #[.int .i64 f, .int .i64 k] 52)).drew := by (repeat (first | exact Below.refl _ _ | assumption | refine Below.drew ?_ | refine bDrewN ?_ | refine Below.setCell ?_ (by first | omega | (simp <;> omega)) _ | refine Below.alloc ?_ (by first | omega | (simp <;> omega)) _))
        have hx0 : (wr.alloc (.cells #[.int .i64 f, .int .i64 k] 52)).drew.cell? ⟨wr.heap.size, 0, none⟩ = some (.int .i64 f) := by simp
        have hx1 : (wr.alloc (.cells #[.int .i64 f, .int .i64 k] 52)).drew.cell? ⟨wr.heap.size, 1, none⟩ = some (.int .i64 k) := by simp
        have hxb : (wr.alloc (.cells #[.int .i64 f, .int .i64 k] 52)).drew.heap[wr.heap.size]? = some (.cells #[.int .i64 f, .int .i64 k] 52 (0, 0)) := heap_alloc_new wr _
        generalize (wr.alloc (.cells #[.int .i64 f, .int .i64 k] 52)).drew = W7 at *
        have Hg7 := Lib.hid hg7
        have Hxb := Lib.hid hxb
        clear hxb
        repeat (first | (refine wpPi_quiet (v := ?_) (by rfl) (fun W hW => ?_) ?_; rotate_left; (obtain ⟨hW, hW1, hW2⟩ := hW; go_simp; with_reducible rfl); simp only [Act.put, List.setIfInBounds_toArray, List.set_cons_zero, List.set_cons_succ]) | (refine wpPi_off (by rfl) ?_; simp only [Act.put, List.setIfInBounds_toArray, List.set_cons_zero, List.set_cons_succ]))
        refine wpPi_act (by rfl) (fun K hK => ?_)
        go_simp
        (with_reducible refine (node_no (nodes := nodes) (p := p) ((hcl _ _ _ Hg7.out lbx).trans cbx) ((hcl _ _ _ Hg7.out lp).trans c0) hf).mono ?_)
        rintro e w' ⟨rfl, rfl⟩
        refine hK _ _ ⟨⟨Hg7.out, hx0, hx1⟩, ?_⟩
        clear hK K
        try simp only [Act.put, List.setIfInBounds_toArray, List.set_cons_zero, List.set_cons_succ]
        repeat (first | (refine wpPi_quiet (v := ?_) (by rfl) (fun W hW => ?_) ?_; rotate_left; (obtain ⟨hW, hW1, hW2⟩ := hW; go_simp; with_reducible rfl); simp only [Act.put, List.setIfInBounds_toArray, List.set_cons_zero, List.set_cons_succ]) | (refine wpPi_off (by rfl) ?_; simp only [Act.put, List.setIfInBounds_toArray, List.set_cons_zero, List.set_cons_succ]))
        refine wpPi_act_off (by rfl) ⟨Hg7.out, hx0, hx1⟩ ?_
        try simp only [Act.put, List.setIfInBounds_toArray, List.set_cons_zero, List.set_cons_succ]
        repeat (first | (refine wpPi_quiet (v := ?_) (by rfl) (fun W hW => ?_) ?_; rotate_left; (obtain ⟨hW, hW1, hW2⟩ := hW; go_simp; with_reducible rfl); simp only [Act.put, List.setIfInBounds_toArray, List.set_cons_zero, List.set_cons_succ]) | (refine wpPi_off (by rfl) ?_; simp only [Act.put, List.setIfInBounds_toArray, List.set_cons_zero, List.set_cons_succ]))
        refine wpPi_nil ?_
        go_wp2
        go_roundw
        case rel => exact send_round_no hlt hkc hnc HN1.out Hsent.out HK.out Hbox.out Hfr.out (by rw [Hok.out, hf]; rfl) (Hg7.out.trans (by (repeat (first | exact Below.refl _ _ | assumption | refine Below.drew ?_ | refine bDrewN ?_ | refine Below.setCell ?_ (by first | omega | (simp <;> omega)) _ | refine Below.alloc ?_ (by first | omega | (simp <;> omega)) _))))
        case measure => simp [intOf]; omega
      | true =>
        cases hk' : decide (0 ≤ k ∧ k < nodes) with
        | false =>
          go_wp2
          refine wp_region_pi (fun W => Below wr.heap.size wr W ∧ W.cell? ⟨wr.heap.size, 0, none⟩ = some (.int .i64 f) ∧ W.cell? ⟨wr.heap.size, 1, none⟩ = some (.int .i64 k)) [(0, false), (1, false), (2, true), (3, false), (4, false), (5, false), (6, true), (7, false), (8, false), (9, false), (10, false), (11, false), (12, false), (13, false), (14, false), (15, false), (16, false), (17, false), (18, false), (19, false), (20, false), (21, false)] (by kernel_rfl) (by kernel_rfl) (fun c a d v w h => by cases d <;> exact h) ⟨?_, by simp, by simp⟩ ?_
          · (repeat (first | exact Below.refl _ _ | assumption | refine Below.drew ?_ | refine bDrewN ?_ | refine Below.setCell ?_ (by first | omega | (simp <;> omega)) _ | refine Below.alloc ?_ (by first | omega | (simp <;> omega)) _))
          simp only [arrange, nth]
          have hg7 : Grow wr (wr.alloc (.cells #[.int .i64 f, .int .i64 k] 52)).drew := by (repeat (first | exact Below.refl _ _ | assumption | refine Below.drew ?_ | refine bDrewN ?_ | refine Below.setCell ?_ (by first | omega | (simp <;> omega)) _ | refine Below.alloc ?_ (by first | omega | (simp <;> omega)) _))
          have hx0 : (wr.alloc (.cells #[.int .i64 f, .int .i64 k] 52)).drew.cell? ⟨wr.heap.size, 0, none⟩ = some (.int .i64 f) := by simp
          have hx1 : (wr.alloc (.cells #[.int .i64 f, .int .i64 k] 52)).drew.cell? ⟨wr.heap.size, 1, none⟩ = some (.int .i64 k) := by simp
          have hxb : (wr.alloc (.cells #[.int .i64 f, .int .i64 k] 52)).drew.heap[wr.heap.size]? = some (.cells #[.int .i64 f, .int .i64 k] 52 (0, 0)) := heap_alloc_new wr _
          generalize (wr.alloc (.cells #[.int .i64 f, .int .i64 k] 52)).drew = W7 at *
          have Hg7 := Lib.hid hg7
          have Hxb := Lib.hid hxb
          clear hxb
          repeat (first | (refine wpPi_quiet (v := ?_) (by rfl) (fun W hW => ?_) ?_; rotate_left; (obtain ⟨hW, hW1, hW2⟩ := hW; go_simp; with_reducible rfl); simp only [Act.put, List.setIfInBounds_toArray, List.set_cons_zero, List.set_cons_succ]) | (refine wpPi_off (by rfl) ?_; simp only [Act.put, List.setIfInBounds_toArray, List.set_cons_zero, List.set_cons_succ]))
          refine wpPi_act (by rfl) (fun K hK => ?_)
          go_simp
          (with_reducible refine (node_yes (nodes := nodes) (p := p) ((hcl _ _ _ Hg7.out lbx).trans cbx) ((hcl _ _ _ Hg7.out lp).trans c0) hf).mono ?_)
          rintro e w' ⟨rfl, rfl⟩
          refine hK _ _ ⟨⟨Hg7.out, hx0, hx1⟩, ?_⟩
          clear hK K
          try simp only [Act.put, List.setIfInBounds_toArray, List.set_cons_zero, List.set_cons_succ]
          repeat (first | (refine wpPi_quiet (v := ?_) (by rfl) (fun W hW => ?_) ?_; rotate_left; (obtain ⟨hW, hW1, hW2⟩ := hW; go_simp; with_reducible rfl); simp only [Act.put, List.setIfInBounds_toArray, List.set_cons_zero, List.set_cons_succ]) | (refine wpPi_off (by rfl) ?_; simp only [Act.put, List.setIfInBounds_toArray, List.set_cons_zero, List.set_cons_succ]))
          refine wpPi_act (by rfl) (fun K hK => ?_)
          go_simp
          (with_reducible refine (node_no (nodes := nodes) (p := p) ((hcl _ _ _ Hg7.out lbx).trans cbx) ((hcl _ _ _ Hg7.out lp).trans c0) hk').mono ?_)
          rintro e w' ⟨rfl, rfl⟩
          refine hK _ _ ⟨⟨Hg7.out, hx0, hx1⟩, ?_⟩
          clear hK K
          try simp only [Act.put, List.setIfInBounds_toArray, List.set_cons_zero, List.set_cons_succ]
          repeat (first | (refine wpPi_quiet (v := ?_) (by rfl) (fun W hW => ?_) ?_; rotate_left; (obtain ⟨hW, hW1, hW2⟩ := hW; go_simp; with_reducible rfl); simp only [Act.put, List.setIfInBounds_toArray, List.set_cons_zero, List.set_cons_succ]) | (refine wpPi_off (by rfl) ?_; simp only [Act.put, List.setIfInBounds_toArray, List.set_cons_zero, List.set_cons_succ]))
          refine wpPi_nil ?_
          go_wp2
          go_roundw
          case rel => exact send_round_no hlt hkc hnc HN1.out Hsent.out HK.out Hbox.out Hfr.out (by rw [Hok.out, hf, hk']; rfl) (Hg7.out.trans (by (repeat (first | exact Below.refl _ _ | assumption | refine Below.drew ?_ | refine bDrewN ?_ | refine Below.setCell ?_ (by first | omega | (simp <;> omega)) _ | refine Below.alloc ?_ (by first | omega | (simp <;> omega)) _))))
          case measure => simp [intOf]; omega
        | true =>
          by_cases hqb : (q : Int) < bound
          · have hqb' : decide ((q : Int) < bound) = true := by simpa using hqb
            go_wp2
            refine wp_region_pi (fun W => Below wr.heap.size wr W ∧ W.cell? ⟨wr.heap.size, 0, none⟩ = some (.int .i64 f) ∧ W.cell? ⟨wr.heap.size, 1, none⟩ = some (.int .i64 k)) [(0, false), (1, false), (2, true), (3, false), (4, false), (5, false), (6, true), (7, false), (8, false), (9, false), (10, false), (11, false), (12, false), (13, false), (14, false), (15, false), (16, false), (17, false), (18, false), (19, false), (20, false), (21, false)] (by kernel_rfl) (by kernel_rfl) (fun c a d v w h => by cases d <;> exact h) ⟨?_, by simp, by simp⟩ ?_
            · (repeat (first | exact Below.refl _ _ | assumption | refine Below.drew ?_ | refine bDrewN ?_ | refine Below.setCell ?_ (by first | omega | (simp <;> omega)) _ | refine Below.alloc ?_ (by first | omega | (simp <;> omega)) _))
            simp only [arrange, nth]
            have hg7 : Grow wr (wr.alloc (.cells #[.int .i64 f, .int .i64 k] 52)).drew := by (repeat (first | exact Below.refl _ _ | assumption | refine Below.drew ?_ | refine bDrewN ?_ | refine Below.setCell ?_ (by first | omega | (simp <;> omega)) _ | refine Below.alloc ?_ (by first | omega | (simp <;> omega)) _))
            have hx0 : (wr.alloc (.cells #[.int .i64 f, .int .i64 k] 52)).drew.cell? ⟨wr.heap.size, 0, none⟩ = some (.int .i64 f) := by simp
            have hx1 : (wr.alloc (.cells #[.int .i64 f, .int .i64 k] 52)).drew.cell? ⟨wr.heap.size, 1, none⟩ = some (.int .i64 k) := by simp
            have hxb : (wr.alloc (.cells #[.int .i64 f, .int .i64 k] 52)).drew.heap[wr.heap.size]? = some (.cells #[.int .i64 f, .int .i64 k] 52 (0, 0)) := heap_alloc_new wr _
            generalize (wr.alloc (.cells #[.int .i64 f, .int .i64 k] 52)).drew = W7 at *
            have Hg7 := Lib.hid hg7
            have Hxb := Lib.hid hxb
            clear hxb
            repeat (first | (refine wpPi_quiet (v := ?_) (by rfl) (fun W hW => ?_) ?_; rotate_left; (obtain ⟨hW, hW1, hW2⟩ := hW; go_simp; with_reducible rfl); simp only [Act.put, List.setIfInBounds_toArray, List.set_cons_zero, List.set_cons_succ]) | (refine wpPi_off (by rfl) ?_; simp only [Act.put, List.setIfInBounds_toArray, List.set_cons_zero, List.set_cons_succ]))
            refine wpPi_act (by rfl) (fun K hK => ?_)
            go_simp
            (with_reducible refine (node_yes (nodes := nodes) (p := p) ((hcl _ _ _ Hg7.out lbx).trans cbx) ((hcl _ _ _ Hg7.out lp).trans c0) hf).mono ?_)
            rintro e w' ⟨rfl, rfl⟩
            refine hK _ _ ⟨⟨Hg7.out, hx0, hx1⟩, ?_⟩
            clear hK K
            try simp only [Act.put, List.setIfInBounds_toArray, List.set_cons_zero, List.set_cons_succ]
            repeat (first | (refine wpPi_quiet (v := ?_) (by rfl) (fun W hW => ?_) ?_; rotate_left; (obtain ⟨hW, hW1, hW2⟩ := hW; go_simp; with_reducible rfl); simp only [Act.put, List.setIfInBounds_toArray, List.set_cons_zero, List.set_cons_succ]) | (refine wpPi_off (by rfl) ?_; simp only [Act.put, List.setIfInBounds_toArray, List.set_cons_zero, List.set_cons_succ]))
            refine wpPi_act (by rfl) (fun K hK => ?_)
            go_simp
            (with_reducible refine (node_yes (nodes := nodes) (p := p) ((hcl _ _ _ Hg7.out lbx).trans cbx) ((hcl _ _ _ Hg7.out lp).trans c0) hk').mono ?_)
            rintro e w' ⟨rfl, rfl⟩
            refine hK _ _ ⟨⟨Hg7.out, hx0, hx1⟩, ?_⟩
            clear hK K
            try simp only [Act.put, List.setIfInBounds_toArray, List.set_cons_zero, List.set_cons_succ]
            repeat (first | (refine wpPi_quiet (v := ?_) (by rfl) (fun W hW => ?_) ?_; rotate_left; (obtain ⟨hW, hW1, hW2⟩ := hW; go_simp; with_reducible rfl); simp only [Act.put, List.setIfInBounds_toArray, List.set_cons_zero, List.set_cons_succ]) | (refine wpPi_off (by rfl) ?_; simp only [Act.put, List.setIfInBounds_toArray, List.set_cons_zero, List.set_cons_succ]))
            refine wpPi_nil ?_
            go_wp2
            have hgW : Grow wr W7.drew := Hg7.out.trans (by (repeat (first | exact Below.refl _ _ | assumption | refine Below.drew ?_ | refine bDrewN ?_ | refine Below.setCell ?_ (by first | omega | (simp <;> omega)) _ | refine Below.alloc ?_ (by first | omega | (simp <;> omega)) _)))
            have hN1 := HN1.out.grow hgW
            have hloc : W7.drew.heap[wr.heap.size]? = some (.cells #[.int .i64 f, .int .i64 k] 52 (0, 0)) := Hxb.out
            have hbx8 : W7.drew.heap[w.heap.size]? = some (.cells #[.pointer (some ⟨p, 0, none⟩)] 24 (0, 0)) := hgW.heap Hbox.out
            have hS0 : ∀ W, Keep softN B W7.drew W → (W.cell? ⟨w.heap.size, 0, none⟩ = some (.pointer (some ⟨p, 0, none⟩)) ∧ W.cell? ⟨p, 3, none⟩ = some (.map (some r)) ∧ W.cell? ⟨wr.heap.size, 0, none⟩ = some (.int .i64 f) ∧ W.cell? ⟨wr.heap.size, 1, none⟩ = some (.int .i64 k)) := fun W hW =>
              ⟨hW.cell hbx8 (not_softN (by decide) _ _) rfl, hW.cell hN1.self (not_softN (by decide) _ _) rfl, hW.cell hloc (not_softN (by decide) _ _) rfl, hW.cell hloc (not_softN (by decide) _ _) rfl⟩
            have hby : BytesA W7.drew bv l := (Hb.out.keep HK.out.size fun b hb hl => ((Hbf.out b hb hl).keep HK.out).1).grow hgW
            refine wp_region_pi (fun W => (W.cell? ⟨w.heap.size, 0, none⟩ = some (.pointer (some ⟨p, 0, none⟩)) ∧ W.cell? ⟨p, 3, none⟩ = some (.map (some r)) ∧ W.cell? ⟨wr.heap.size, 0, none⟩ = some (.int .i64 f) ∧ W.cell? ⟨wr.heap.size, 1, none⟩ = some (.int .i64 k))) [(0, false), (1, false), (2, false), (3, false), (4, false), (5, false), (6, true), (7, true), (8, true), (9, false), (11, false), (10, true), (12, true)] (by kernel_rfl) (by kernel_rfl) (fun c a d v w h => by cases d <;> exact h) (hS0 _ (Keep.refl _ _ _)) ?_
            simp only [arrange, nth]
            have HgW := Lib.hid hgW
            have HN2 := Lib.hid hN1
            have HS := Lib.hid hS0
            have Hby := Lib.hid hby
            have Hbx8 := Lib.hid hbx8
            clear hgW hN1 hS0 hby hbx8 hloc hl2
            generalize W7.drew = W8 at *
            repeat (first | (refine wpPi_quiet (v := ?_) (by rfl) (fun W hW => ?_) ?_; rotate_left; (obtain ⟨hW1, hW2, hW3, hW4⟩ := hW; go_simp; with_reducible rfl); simp only [Act.put, List.setIfInBounds_toArray, List.set_cons_zero, List.set_cons_succ]) | (refine wpPi_off (by rfl) ?_; simp only [Act.put, List.setIfInBounds_toArray, List.set_cons_zero, List.set_cons_succ]))
            refine wpPi_act (by rfl) (fun K hK => ?_)
            go_simp
            (with_reducible refine (clone_anyA Hby.out hl).mono ?_)
            rintro e w2 ⟨v', rfl, hob, hfr2, hg2⟩
            dsimp only
            refine hK _ _ ⟨HS.out _ (Keep.ofGrow hg2 HN2.out.room), ?_⟩
            clear hK K
            try simp only [Act.put, List.setIfInBounds_toArray, List.set_cons_zero, List.set_cons_succ]
            refine wpPi_run (by rfl) (execOp_buildSlice1 (v := v') rfl Try.underlying53 Try.info22 rfl rfl (oBytes_one hob)) (HS.out _ (Keep.ofGrow (hg2.trans (Grow.alloc _ _)) HN2.out.room)) ?_
            try simp only [Act.put, List.setIfInBounds_toArray, List.set_cons_zero, List.set_cons_succ]
            have hg3 : Grow W8 (w2.alloc (.cells #[v'] 22)) := hg2.trans (Grow.alloc _ _)
            have hnb : (w2.alloc (.cells #[v'] 22)).heap[w2.heap.size]? = some (.cells #[v'] 22 (0, 0)) := heap_alloc_new _ _
            have hob3 : OBytes 5 (w2.alloc (.cells #[v'] 22)) v' l := hob.keep fun b hb => by
              rcases hob with ⟨rfl, _⟩ | ⟨b', c, arr, rfl, h4, _⟩
              · cases hb
              · cases hb; exact heap_alloc_old _ _ (lt_of_getElem? h4)
            have hblk : ∀ b, blk v' = some b → W8.heap.size ≤ b ∧ b < (w2.alloc (.cells #[v'] 22)).heap.size := fun b hb => ⟨hfr2 b hb, by
              rcases hob with ⟨rfl, _⟩ | ⟨b', c, arr, rfl, h4, _⟩
              · cases hb
              · cases hb
                have := lt_of_getElem? h4
                simp; omega⟩
            have hN3 := HN2.out.grow hg3
            generalize w2.alloc (.cells #[v'] 22) = W3 at *
            obtain ⟨v0, st, Wa, hr1, hKa, v1, Wb, hr2, hKb, Wc, hr3, hKc, gs2, hNc, hvw⟩ := net_push hN3 (f, k) ⟨v', l⟩ hob3 (oBytes_one hob3) hnb (by have := Hq.out; omega)
            simp only [pairV] at hr1
            have HK3 : Hid (Keep softN B W8 W3) := Lib.hid (Keep.ofGrow hg3 HN2.out.room)
            have HKa := Lib.hid hKa
            have HKb := Lib.hid hKb
            have HKc := Lib.hid hKc
            have HNc := Lib.hid hNc
            have Hvw := Lib.hid hvw
            have Hr2 := Lib.hid hr2
            have Hblk := Lib.hid hblk
            clear hKa hKb hKc hNc hvw hN3 hob hob3 hnb hr2 hblk
            refine wpPi_act (by rfl) (fun K hK => ?_)
            go_simp
            refine hK _ _ ⟨HS.out _ (HK3.out.trans HKa.out), ?_⟩
            clear hK K
            try simp only [Act.put, List.setIfInBounds_toArray, List.set_cons_zero, List.set_cons_succ]
            (first | (refine wpPi_quiet (v := ?_) (by rfl) (fun W hW => ?_) ?_; rotate_left; (obtain ⟨hW1, hW2, hW3, hW4⟩ := hW; go_simp; with_reducible rfl); simp only [Act.put, List.setIfInBounds_toArray, List.set_cons_zero, List.set_cons_succ]) | (refine wpPi_off (by rfl) ?_; simp only [Act.put, List.setIfInBounds_toArray, List.set_cons_zero, List.set_cons_succ]))
            (first | (refine wpPi_quiet (v := ?_) (by rfl) (fun W hW => ?_) ?_; rotate_left; (obtain ⟨hW1, hW2, hW3, hW4⟩ := hW; go_simp; with_reducible rfl); simp only [Act.put, List.setIfInBounds_toArray, List.set_cons_zero, List.set_cons_succ]) | (refine wpPi_off (by rfl) ?_; simp only [Act.put, List.setIfInBounds_toArray, List.set_cons_zero, List.set_cons_succ]))
            refine wpPi_run (by rfl) (execOp_append rfl rfl rfl Hr2.out) (HS.out _ (HK3.out.trans HKb.out)) ?_
            try simp only [Act.put, List.setIfInBounds_toArray, List.set_cons_zero, List.set_cons_succ]
            refine wpPi_act (by rfl) (fun K hK => ?_)
            go_simp
            refine hK _ _ ⟨HS.out _ (HK3.out.trans HKc.out), ?_⟩
            clear hK K
            try simp only [Act.put, List.setIfInBounds_toArray, List.set_cons_zero, List.set_cons_succ]
            refine wpPi_nil ?_
            go_wp2
            go_roundw
            case rel =>
              have hKall : Keep softN B wr Wc := (Keep.ofGrow HgW.out HN1.out.room).trans (HK3.out.trans HKc.out)
              refine ⟨c + 1, gs2, n + 1, vs ++ [v'], hlt, rfl, rfl, by omega, HNc.out, ?_, HK.out.trans hKall, hKall.hard _ _ Hbox.out (not_softN (by decide) _ _), ?_⟩
              · rw [take_succ_get hkc, Hvw.out]
                exact sent_yes Hsent.out (by rw [Hok.out, hf, hk']; simpa using hqb)
              · refine Fresh.snoc (mid := W8.heap.size) (Hfr.out.mono HgW.out.size) ?_ (fun b hb => ?_) ?_
                · have := HK.out.size; have := HgW.out.size; omega
                · have h1 := Hblk.out b hb
                  have h2 := HKc.out.size
                  exact ⟨h1.1, by omega⟩
                · have := HK3.out.size; have := HKc.out.size; omega
            case measure => simp [intOf]; omega
          · have hqb' : decide ((q : Int) < bound) = false := by simpa using hqb
            go_wp2
            refine wp_region_pi (fun W => Below wr.heap.size wr W ∧ W.cell? ⟨wr.heap.size, 0, none⟩ = some (.int .i64 f) ∧ W.cell? ⟨wr.heap.size, 1, none⟩ = some (.int .i64 k)) [(0, false), (1, false), (2, true), (3, false), (4, false), (5, false), (6, true), (7, false), (8, false), (9, false), (10, false), (11, false), (12, false), (13, false), (14, false), (15, false), (16, false), (17, false), (18, false), (19, false), (20, false), (21, false)] (by kernel_rfl) (by kernel_rfl) (fun c a d v w h => by cases d <;> exact h) ⟨?_, by simp, by simp⟩ ?_
            · (repeat (first | exact Below.refl _ _ | assumption | refine Below.drew ?_ | refine bDrewN ?_ | refine Below.setCell ?_ (by first | omega | (simp <;> omega)) _ | refine Below.alloc ?_ (by first | omega | (simp <;> omega)) _))
            simp only [arrange, nth]
            have hg7 : Grow wr (wr.alloc (.cells #[.int .i64 f, .int .i64 k] 52)).drew := by (repeat (first | exact Below.refl _ _ | assumption | refine Below.drew ?_ | refine bDrewN ?_ | refine Below.setCell ?_ (by first | omega | (simp <;> omega)) _ | refine Below.alloc ?_ (by first | omega | (simp <;> omega)) _))
            have hx0 : (wr.alloc (.cells #[.int .i64 f, .int .i64 k] 52)).drew.cell? ⟨wr.heap.size, 0, none⟩ = some (.int .i64 f) := by simp
            have hx1 : (wr.alloc (.cells #[.int .i64 f, .int .i64 k] 52)).drew.cell? ⟨wr.heap.size, 1, none⟩ = some (.int .i64 k) := by simp
            have hxb : (wr.alloc (.cells #[.int .i64 f, .int .i64 k] 52)).drew.heap[wr.heap.size]? = some (.cells #[.int .i64 f, .int .i64 k] 52 (0, 0)) := heap_alloc_new wr _
            generalize (wr.alloc (.cells #[.int .i64 f, .int .i64 k] 52)).drew = W7 at *
            have Hg7 := Lib.hid hg7
            have Hxb := Lib.hid hxb
            clear hxb
            repeat (first | (refine wpPi_quiet (v := ?_) (by rfl) (fun W hW => ?_) ?_; rotate_left; (obtain ⟨hW, hW1, hW2⟩ := hW; go_simp; with_reducible rfl); simp only [Act.put, List.setIfInBounds_toArray, List.set_cons_zero, List.set_cons_succ]) | (refine wpPi_off (by rfl) ?_; simp only [Act.put, List.setIfInBounds_toArray, List.set_cons_zero, List.set_cons_succ]))
            refine wpPi_act (by rfl) (fun K hK => ?_)
            go_simp
            (with_reducible refine (node_yes (nodes := nodes) (p := p) ((hcl _ _ _ Hg7.out lbx).trans cbx) ((hcl _ _ _ Hg7.out lp).trans c0) hf).mono ?_)
            rintro e w' ⟨rfl, rfl⟩
            refine hK _ _ ⟨⟨Hg7.out, hx0, hx1⟩, ?_⟩
            clear hK K
            try simp only [Act.put, List.setIfInBounds_toArray, List.set_cons_zero, List.set_cons_succ]
            repeat (first | (refine wpPi_quiet (v := ?_) (by rfl) (fun W hW => ?_) ?_; rotate_left; (obtain ⟨hW, hW1, hW2⟩ := hW; go_simp; with_reducible rfl); simp only [Act.put, List.setIfInBounds_toArray, List.set_cons_zero, List.set_cons_succ]) | (refine wpPi_off (by rfl) ?_; simp only [Act.put, List.setIfInBounds_toArray, List.set_cons_zero, List.set_cons_succ]))
            refine wpPi_act (by rfl) (fun K hK => ?_)
            go_simp
            (with_reducible refine (node_yes (nodes := nodes) (p := p) ((hcl _ _ _ Hg7.out lbx).trans cbx) ((hcl _ _ _ Hg7.out lp).trans c0) hk').mono ?_)
            rintro e w' ⟨rfl, rfl⟩
            refine hK _ _ ⟨⟨Hg7.out, hx0, hx1⟩, ?_⟩
            clear hK K
            try simp only [Act.put, List.setIfInBounds_toArray, List.set_cons_zero, List.set_cons_succ]
            repeat (first | (refine wpPi_quiet (v := ?_) (by rfl) (fun W hW => ?_) ?_; rotate_left; (obtain ⟨hW, hW1, hW2⟩ := hW; go_simp; with_reducible rfl); simp only [Act.put, List.setIfInBounds_toArray, List.set_cons_zero, List.set_cons_succ]) | (refine wpPi_off (by rfl) ?_; simp only [Act.put, List.setIfInBounds_toArray, List.set_cons_zero, List.set_cons_succ]))
            refine wpPi_nil ?_
            go_wp2
            go_roundw
            case rel => exact send_round_no hlt hkc hnc HN1.out Hsent.out HK.out Hbox.out Hfr.out (by rw [Hok.out, hf, hk', hqb']; rfl) (Hg7.out.trans (by (repeat (first | exact Below.refl _ _ | assumption | refine Below.drew ?_ | refine bDrewN ?_ | refine Below.setCell ?_ (by first | omega | (simp <;> omega)) _ | refine Below.alloc ?_ (by first | omega | (simp <;> omega)) _))))
            case measure => simp [intOf]; omega
    · obtain rfl : c = ks.length := by omega
      go_wp2
      go_ret
      rw [List.take_length] at hsent
      exact ⟨gs', n, vs, rfl, hnc, hN, hsent, hK, hfr⟩
end Go.Proofs.Ytbanfilgokideaa

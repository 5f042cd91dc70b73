/- Merged out of FP, FG, FH: helpers. -/
import Derived.Test.YtfchjoejdijjeaaCQ
import Derived.Test.YtfchjoejdijjeaaCV
set_option linter.unusedSimpArgs false
set_option linter.unusedVariables false
/- The plain chain: bounds that every operation keeps. -/
namespace Go.Ch
section
variable {C : Type} {L K : Nat}
def BodyLe (L : Nat) : Body C → Prop
  | .entry k _ => k ≤ L
  | .tail k => k ≤ L
  | .whole => True
  | .state a l => l.length ≤ L ∧ a ≤ l.length
def MsgC (L K : Nat) (x : Msg C) : Prop := BodyLe L x.body ∧ x.epoch ≤ K
def BoxC (L : Nat) (b : Box C) : Prop := b.cmds.length ≤ L ∧ b.first ≤ b.cmds.length
structure OutC (L K : Nat) (o : Out C) : Prop where
  box : BoxC L o.b
  ep : o.d.cfg.epoch ≤ K
  ms : ∀ x ∈ o.ms, MsgC L K x
  cs : ∀ x ∈ o.cs, x.idx ≤ L
  ml : o.ms.length ≤ 20
  cl : o.cs.length ≤ L + 1
theorem BodyLe.up {L' : Nat} (h : L ≤ L') : ∀ {y : Body C}, BodyLe L y → BodyLe L' y
  | .entry _ _, hy => Nat.le_trans hy h
  | .tail _, hy => Nat.le_trans hy h
  | .whole, _ => trivial
  | .state _ _, hy => ⟨Nat.le_trans hy.1 h, hy.2⟩
theorem MsgC.up {L' K' : Nat} (h : L ≤ L') (k : K ≤ K') {x : Msg C} (hx : MsgC L K x) : MsgC L' K' x := ⟨hx.1.up h, Nat.le_trans hx.2 k⟩
theorem BoxC.up {L' : Nat} (h : L ≤ L') {b : Box C} (hb : BoxC L b) : BoxC L' b := ⟨Nat.le_trans hb.1 h, hb.2⟩

variable {d : Nd} {b : Box C}
theorem entriesF_mem {m : Mem} {x : Msg C} : ∀ {k : Nat} {l : List C}, x ∈ entriesF d m k l → ∃ j c, x = ⟨d.self, m.node, d.cfg.epoch, .entry (k + j) c⟩ ∧ j < l.length
  | k, [], h => by cases h
  | k, c :: l, h => by
    rcases List.mem_cons.1 h with rfl | h
    · exact ⟨0, c, rfl, by simp⟩
    · obtain ⟨j, c', rfl, hj⟩ := entriesF_mem h
      exact ⟨j + 1, c', by rw [Nat.add_assoc, Nat.add_comm 1 j], by simp; omega⟩
theorem comsF_mem {x : Com C} : ∀ {k : Nat} {l : List C}, x ∈ comsF k l → ∃ j, x.idx = k + j ∧ j < l.length
  | k, [], h => by cases h
  | k, c :: l, h => by
    rcases List.mem_cons.1 h with rfl | h
    · exact ⟨0, rfl, by simp⟩
    · obtain ⟨j, hx, hj⟩ := comsF_mem h
      exact ⟨j + 1, by omega, by simp; omega⟩
theorem comsF_length : ∀ (k : Nat) (l : List C), (comsF k l).length = l.length
  | _, [] => rfl
  | k, x :: l => by simp [comsF, comsF_length (k + 1) l]
theorem entriesF_length (m : Mem) : ∀ (k : Nat) (l : List C), (entriesF d m k l).length = l.length
  | _, [] => rfl
  | k, x :: l => by simp [entriesF, entriesF_length m (k + 1) l]
theorem sayM_mem {o : Option Mem} {y : Body C} {x : Msg C} (h : x ∈ sayM d o y) : x.epoch = d.cfg.epoch ∧ x.body = y := by
  unfold sayM at h
  cases o with
  | none => cases h
  | some m => rw [List.mem_singleton.1 h]; exact ⟨rfl, rfl⟩
theorem sayM_len (o : Option Mem) (y : Body C) : (sayM d o y).length ≤ 1 := by unfold sayM; cases o <;> simp
theorem sayM_c {o : Option Mem} {y : Body C} (hy : BodyLe L y) (he : d.cfg.epoch ≤ K) : ∀ x ∈ sayM d o y, MsgC L K x := fun x hx => by
  obtain ⟨h1, h2⟩ := sayM_mem hx
  exact ⟨by rw [h2]; exact hy, by rw [h1]; exact he⟩
theorem doneM_c {k : Nat} (hk : k ≤ L) (he : d.cfg.epoch ≤ K) : ∀ x ∈ (doneM d k : List (Msg C)), MsgC L K x := sayM_c hk he
theorem doneM_len (k : Nat) : (doneM d k : List (Msg C)).length ≤ 1 := sayM_len _ _
theorem beat_c (hb : BoxC L b) (he : d.cfg.epoch ≤ K) : (∀ x ∈ beatM d b, MsgC L K x) ∧ (beatM d b).length ≤ 16 := by
  unfold beatM
  cases d.behind with
  | none => simp
  | some m =>
    simp only
    by_cases h1 : (d.has && wholeB d b) = true
    · rw [if_pos h1]
      by_cases h2 : (!m.whole && !d.told) = true
      · rw [if_pos h2]
        refine ⟨fun x hx => ?_, by simp⟩
        rw [List.mem_singleton.1 hx]
        exact ⟨hb, he⟩
      · rw [if_neg h2]
        refine ⟨fun x hx => ?_, by rw [entriesF_length]; simp; omega⟩
        obtain ⟨j, c, rfl, hj⟩ := entriesF_mem hx
        have h3 := hb.1
        refine ⟨?_, he⟩
        show b.first + 1 + j ≤ L
        simp at hj; omega
    · rw [if_neg h1]; simp
theorem trim_c (hb : BoxC L b) (up : Nat) : BoxC L (b.trim up) := by
  unfold Box.trim
  split
  · refine ⟨hb.1, ?_⟩
    show min up b.cmds.length ≤ b.cmds.length
    omega
  · exact hb
theorem keptC_c (hb : BoxC L b) : (∀ x ∈ keptC b, x.idx ≤ L) ∧ (keptC b).length ≤ L + 1 := by
  have h1 := hb.1
  refine ⟨fun x hx => ?_, by unfold keptC; rw [comsF_length]; simp; omega⟩
  obtain ⟨j, hx, hj⟩ := comsF_mem hx
  simp at hj; omega
theorem onM_c (hb : BoxC L b) (he : d.cfg.epoch ≤ K) {k : Nat} (hk : k ≤ L) (c : C) (a : Bool) : OutC L K (onM d b k c a) := by
  unfold onM
  by_cases ht : d.tail = true
  · rw [if_pos ht]
    exact ⟨trim_c hb k, he, doneM_c hk he, fun x hx => by rw [List.mem_singleton.1 hx]; exact hk, Nat.le_trans (doneM_len _) (by decide), by simp⟩
  · rw [if_neg ht]
    cases d.behind with
    | none => exact ⟨hb, he, by simp, by simp, by simp, by simp⟩
    | some m =>
      simp only
      by_cases hw : (m.whole || d.told) = true
      · simp only [if_pos hw]
        exact ⟨hb, he, fun x hx => sayM_c (L := L) (K := K) (o := some m) (y := Body.entry k c) hk he x hx, by simp, by show (sayM d (some m) (.entry k c)).length ≤ 20; have := sayM_len (d := d) (some m) (.entry k c); omega, by simp⟩
      · simp only [if_neg hw]
        exact ⟨hb, he, by simp, by simp, by simp, by simp⟩
theorem none_c (hb : BoxC L b) (he : d.cfg.epoch ≤ K) : OutC L K (⟨d, b, [], []⟩ : Out C) := ⟨hb, he, by simp, by simp, by simp, by simp⟩
theorem run_c (hb : BoxC L b) (c : C) : BoxC (L + 1) (b.run c) := by
  have h1 := hb.1
  have h2 := hb.2
  exact ⟨by simp [Box.run]; omega, by simp [Box.run]; omega⟩
theorem subM_c (hb : BoxC L b) (he : d.cfg.epoch ≤ K) (c : C) : OutC (L + 1) K (subM d b c) := by
  unfold subM
  split
  · exact onM_c (run_c hb c) he (by have := hb.1; omega) c true
  · exact none_c (hb.up (by omega)) he
theorem markB_c (hb : BoxC L b) (c : Cfg) : BoxC L (markB d b c) := by
  unfold markB
  split
  · exact hb
  · split
    · exact hb
    · exact hb
theorem confM_c (hb : BoxC L b) (he : d.cfg.epoch ≤ K) {c : Cfg} (hc : c.epoch ≤ K) : OutC L K (confM d b c) := by
  unfold confM
  split
  · exact none_c hb he
  · split
    · exact none_c hb he
    · have h1 := markB_c (d := d) hb c
      simp only
      split
      · have h2 : BoxC L (keptB (markB d b c)) := trim_c h1 _
        have h3 := beat_c (d := nextD d c) (K := K) h2 hc
        have h4 := keptC_c h1
        exact ⟨h2, hc, h3.1, h4.1, Nat.le_trans h3.2 (by decide), h4.2⟩
      · have h3 := beat_c (d := nextD d c) (K := K) h1 hc
        exact ⟨h1, hc, h3.1, by simp, Nat.le_trans h3.2 (by decide), by simp⟩
theorem entryM_c (hb : BoxC L b) (he : d.cfg.epoch ≤ K) {k : Nat} (hk : k ≤ L) (c : C) : OutC L K (entryM d b k c) := by
  unfold entryM
  split
  · exact none_c hb he
  · rename_i h0
    split
    · split
      · exact ⟨hb, he, doneM_c hb.1 he, by simp, Nat.le_trans (doneM_len _) (by decide), by simp⟩
      · split
        · exact ⟨hb, he, doneM_c (Nat.le_trans hb.2 hb.1) he, by simp, Nat.le_trans (doneM_len _) (by decide), by simp⟩
        · exact none_c hb he
    · rename_i h1
      split
      · exact none_c hb he
      · refine onM_c ⟨?_, ?_⟩ he hk c true
        · simp [Box.run]; omega
        · have := hb.2; simp [Box.run]; omega
theorem stateM_c (hb : BoxC L b) (he : d.cfg.epoch ≤ K) {a : Nat} {l : List C} (hl : l.length ≤ L) (ha : a ≤ l.length) : OutC L K (stateM d b a l) := by
  unfold stateM
  split
  · refine ⟨hb, he, fun x hx => ?_, by simp, ?_, by simp⟩
    · rcases List.mem_append.1 hx with hx | hx
      · exact sayM_c (show BodyLe L .whole from trivial) he x hx
      · split at hx
        · exact doneM_c hb.1 he x hx
        · cases hx
    · have h1 := sayM_len (d := d) d.ahead (.whole : Body C)
      have h2 := doneM_len (C := C) (d := d) b.cmds.length
      rw [List.length_append]
      split
      · omega
      · simp only [List.length_nil]; omega
  · split
    · exact none_c hb he
    · have h1 : BoxC L ((b.load a l).mark d.cfg.epoch true) := ⟨hl, ha⟩
      simp only
      split
      · have h4 := keptC_c h1
        refine ⟨trim_c h1 _, he, fun x hx => ?_, h4.1, ?_, h4.2⟩
        · rcases List.mem_append.1 hx with hx | hx
          · exact sayM_c (show BodyLe L .whole from trivial) he x hx
          · exact doneM_c hl he x hx
        · have h2 := sayM_len (d := d) d.ahead (.whole : Body C)
          have h3 := doneM_len (C := C) (d := d) l.length
          rw [List.length_append]; omega
      · exact ⟨h1, he, sayM_c (show BodyLe L .whole from trivial) he, by simp, Nat.le_trans (sayM_len _ _) (by decide), by simp⟩
theorem recvM_c (hb : BoxC L b) (he : d.cfg.epoch ≤ K) {x : Msg C} (hx : MsgC L K x) : OutC L K (recvM d b x) := by
  obtain ⟨src, dst, ep, body⟩ := x
  unfold recvM
  split
  · exact none_c hb he
  · cases body with
    | entry k c => simp only; split
                   · exact entryM_c hb he hx.1 c
                   · exact none_c hb he
    | tail k => simp only; split
                · exact ⟨trim_c hb _, he, doneM_c hx.1 he, by simp, Nat.le_trans (doneM_len _) (by decide), by simp⟩
                · exact none_c hb he
    | whole => simp only; split
               · exact ⟨hb, he, by simp, by simp, by simp, by simp⟩
               · exact none_c hb he
    | state a l => simp only; split
                   · exact stateM_c hb he hx.1.1 hx.1.2
                   · exact none_c hb he
theorem comRow_len [DecidableEq C] : ∀ {cs : List (Com C)} {row : List C}, row.length ≤ L → (∀ x ∈ cs, x.idx ≤ L) → (comRow row cs).1.length ≤ L
  | [], row, h, _ => h
  | x :: cs, row, h, hc => by
    rw [comRow]
    have hx := hc x (by simp)
    have hc' : ∀ y ∈ cs, y.idx ≤ L := fun y hy => hc y (by simp [hy])
    split
    · exact comRow_len (by simp; omega) hc'
    · split
      · exact h
      · split
        · exact comRow_len h hc'
        · exact h
end

/-- What bounds the law's world: entries, configurations. -/
structure Cap {C : Type} (L K : Nat) (W : Wd C) : Prop where
  box : ∀ b ∈ W.boxes, BoxC L b
  nd : ∀ d ∈ W.nds, d.cfg.epoch ≤ K
  msg : ∀ x ∈ W.bag, MsgC L K x
  bag : W.bag.length ≤ 800000
  dst : ∀ x ∈ W.bag, x.dst < W.nds.length
  row : W.row.length ≤ L
  ep : ∀ c ∈ W.cfgs, CfgOk c ∧ c.epoch ≤ K
  cl : W.cfgs.length ≤ K + 1
  c0 : 0 < W.cfgs.length
  bir : ∀ n ∈ W.births, n ≤ 1000000
end Go.Ch

/- The law's world: configure. -/
namespace Go.Ch
section
variable {C : Type} {L L' K : Nat} {W : Wd C}
theorem Cap.up (h : Cap L K W) {K' : Nat} (hL : L ≤ L') (hK : K ≤ K') : Cap L' K' W :=
  ⟨fun b hb => (h.box b hb).up hL, fun d hd => Nat.le_trans (h.nd d hd) hK, fun x hx => (h.msg x hx).up hL hK, h.bag, h.dst, Nat.le_trans h.row hL, fun c hc => ⟨(h.ep c hc).1, Nat.le_trans (h.ep c hc).2 hK⟩, Nat.le_trans h.cl (by omega), h.c0, h.bir⟩
end
section
variable {C : Type} [DecidableEq C] {L L' K : Nat} {W : Wd C}
theorem told_ok {i : Nat} {ms : List (Msg C)} {cs : List (Com C)} (h : (W.told i ms cs).ok = true) : W.ok = true ∧ msOk W.nds.length i ms = true ∧ (comRow W.row cs).2 = true := by
  unfold Wd.told at h
  simpa [and_assoc] using h
theorem put_ok {i : Nat} {o : Out C} (h : (W.put i o).ok = true) : W.ok = true ∧ msOk W.nds.length i o.ms = true ∧ (comRow W.row o.cs).2 = true := by
  have := told_ok h
  simpa using this
theorem Cap.told (h : Cap L K W) {i : Nat} {ms : List (Msg C)} {cs : List (Com C)} (hm : ∀ x ∈ ms, MsgC L K x) (hc : ∀ x ∈ cs, x.idx ≤ L) (hml : ms.length ≤ 1000) (hok : (W.told i ms cs).ok = true) : Cap L K (W.told i ms cs) := by
  refine ⟨h.box, h.nd, fun x hx => ?_, ?_, fun x hx => ?_, comRow_len h.row hc, h.ep, h.cl, h.c0, h.bir⟩
  · rcases List.mem_append.1 hx with hx | hx
    · exact h.msg x hx
    · exact hm x (List.mem_of_mem_take hx)
  · show (W.bag ++ ms.take (400 - W.bag.length)).length ≤ 800000
    have := h.bag
    simp; omega
  · rcases List.mem_append.1 hx with hx | hx
    · exact h.dst x hx
    · have h2 := List.all_eq_true.1 (told_ok hok).2.1 x (List.mem_of_mem_take hx)
      have : (x.src = i ∧ x.dst < W.nds.length) ∧ ¬ x.dst = i := by simpa using h2
      exact this.1.2
theorem Cap.put (h : Cap L K W) (hL : L ≤ L') {i : Nat} {o : Out C} (ho : OutC L' K o) (hok : (W.put i o).ok = true) : Cap L' K (W.put i o) := by
  have h' := h.up hL (Nat.le_refl K)
  refine Cap.told (W := { W with nds := W.nds.set i o.d, boxes := W.boxes.set i o.b }) ⟨fun b hb => ?_, fun d hd => ?_, h'.msg, h'.bag, fun x hx => by rw [List.length_set]; exact h'.dst x hx, h'.row, h'.ep, h'.cl, h'.c0, h'.bir⟩ ho.ms ho.cs (Nat.le_trans ho.ml (by decide)) hok
  · rcases List.mem_or_eq_of_mem_set hb with hb | rfl
    · exact h'.box b hb
    · exact ho.box
  · rcases List.mem_or_eq_of_mem_set hd with hd | rfl
    · exact h'.nd d hd
    · exact ho.ep
end
end Go.Ch
namespace Go.Proofs.Ytfchjoejdijjeaa
open Go.RowKit Go.Gl Go.Wal Go.Ch Go.Shelf
section
variable {C : Type} {f : C → List UInt8} {w w' : World} {wb : Nat} {V : Vs} {ps : List Pl} {W : Wd C}
theorem OutPost.sep {N : Nat → Prop} {nb bb : Nat} {cv : Value} {o : Out C} {e : Ending} (h : OutPost f N w nb bb cv o e w') : ∃ F', Sep (FN nb bb cv) w w' F' := by
  obtain ⟨mv, kv, cv', cfv', sv', he, h1, hs, h3, h4⟩ := h
  exact ⟨_, hs⟩
/-- The world's blocks that an operation of a node leaves alone. -/
theorem WAt.same (h : WAt f w wb V ps W) {p : Pl} (hp : p ∈ ps) {F' : Nat → Prop} (hs : Sep (FN p.nb p.bb p.cv) w w' F') {g : Nat} {cur : Array Value} {t : TypeId} (hc : w.heap[g]? = some (.cells cur t (0, 0))) (h1 : t ≠ 79) (h2 : t ≠ 47) (h3 : t ≠ 28) : w'.heap[g]? = some (.cells cur t (0, 0)) := by
  rw [hs.out g (lt_of_getElem? hc) (fun hP => ?_), hc]
  obtain ⟨_, u, hd, hu⟩ := h.nds.ty hp (x := g) hP
  refine ty_ne hc hd ?_ rfl
  rcases hu with rfl | rfl | rfl <;> assumption
theorem WAt.nds_len (h : WAt f w wb V ps W) : W.nds.length = ps.length := h.nds.ln
end
section
variable {C : Type} [DecidableEq C] {f : C → List UInt8} {w w' w1 w2 : World} {wb : Nat} {V : Vs} {ps : List Pl} {W : Wd C} {L K : Nat}
/-- What an operation of the law's world leaves. -/
def OpPost (f : C → List UInt8) (w : World) (wb : Nat) (V : Vs) (ps : List Pl) (W' : Wd C) (e : Ending) (w' : World) : Prop :=
  e = .returned (.tuple #[]) ∧ ∃ V' ps', ps'.length = ps.length ∧ WAt f w' wb V' ps' W' ∧ Sep (FW wb V ps) w w' (FW wb V' ps')
theorem wd_put {i : Nat} {o : Out C} (hok : (W.put i o).ok = true) : ({ W with nds := W.nds.set i o.d, boxes := W.boxes.set i o.b, bag := bagK ({ W with nds := W.nds.set i o.d, boxes := W.boxes.set i o.b } : Wd C) o.ms o.ms.length, row := (comRow W.row o.cs).1 } : Wd C) = W.put i o := by
  obtain ⟨h1, h2, h3⟩ := put_ok hok
  unfold Wd.put Wd.told bagK
  simp only [List.take_length]
  congr 1
  simp [h1, h2, h3]
/-- Behind a node's operation: its messages and commits are taken. -/
theorem told_put (h : WAt f w wb V ps W) (cap : Cap L K W) (hL : L ≤ 90000) (hps : ps.length ≤ 16) {i : Nat} {p : Pl} (hp : ps[i]? = some p) {o : Out C} (hoc : OutC L K o) (hok : (W.put i o).ok = true) {mv kv : Value} {q : Pl} (hf : ∀ c, (f c).length ≤ 1048576)
    (hw : WAt f w1 wb V (ps.set i q) { W with nds := W.nds.set i o.d, boxes := W.boxes.set i o.b }) (hm : MsgR f (NW wb V (ps.set i q)) w1 mv o.ms) (hk : ComR f (NW wb V (ps.set i q)) w1 kv o.cs) (hs : Sep (FW wb V ps) w w1 (FW wb V (ps.set i q))) :
    Calls Try.prog 20 #[.pointer (some ⟨wb, 0, none⟩), .int .i64 (i : Int), mv, kv] w1 (OpPost f w wb V ps (W.put i o)) := by
  obtain ⟨h1, h2, h3⟩ := put_ok hok
  refine (wtold_any hw hm hk (i := i) (by simpa [h.nds_len] using h2) h3 (by have := cap.bag; show W.bag.length ≤ _; omega) (by have := cap.row; have := hoc.cl; show W.row.length + _ ≤ _; omega) (fun x hx => by have := hoc.cs x hx; omega) hf (by have := hoc.ml; omega) (by simp; omega)).mono ?_
  rintro e w' ⟨he, V', h4, h5⟩
  exact ⟨he, V', ps.set i q, by simp, by rw [← wd_put hok]; exact h4, hs.trans h5⟩
end
end Go.Proofs.Ytfchjoejdijjeaa

/- The law's world: configure. -/
namespace Go.Proofs.Ytfchjoejdijjeaa
open Go.RowKit Go.Gl Go.Wal Go.Ch Go.Shelf
section
variable {C : Type} {f : C → List UInt8} {w w' w1 w2 : World} {wb : Nat} {V : Vs} {ps : List Pl} {W : Wd C} {L K : Nat}
theorem nd_of {i : Nat} {d : Nd} (h : W.nds[i]? = some d) : W.nd i = d := by unfold Wd.nd; rw [List.getD_eq_getElem?_getD, h]; rfl
theorem box_of {i : Nat} {b : Box C} (h : W.boxes[i]? = some b) : W.box i = b := by unfold Wd.box; rw [List.getD_eq_getElem?_getD, h]; rfl
theorem cfg_of {n : Nat} {c : Cfg} (h : W.cfgs[n]? = some c) : W.cfgs.getD n ⟨0, [], []⟩ = c := by rw [List.getD_eq_getElem?_getD, h]; rfl
end
section
variable {C : Type} [DecidableEq C] {f : C → List UInt8} {w w' w1 w2 : World} {wb : Nat} {V : Vs} {ps : List Pl} {W : Wd C} {L K : Nat}
set_option maxRecDepth 100000 in
set_option maxHeartbeats 4000000 in
theorem wconfigure_any (h : WAt f w wb V ps W) (cap : Cap L K W) (hL : L ≤ 90000) (hps : ps.length ≤ 16) (hf : ∀ c, (f c).length ≤ 1048576) {i n : Nat} (hi : i < ps.length) (hn : n < W.cfgs.length) (hok : (W.configure i n).ok = true) :
    Calls Try.prog 18 #[.pointer (some ⟨wb, 0, none⟩), .int .i64 (i : Int), .int .i64 (n : Int)] w (OpPost f w wb V ps (W.configure i n)) := by
  have hg := Grow.drew w
  have hd1 := h.grow hg
  obtain ⟨p, d, b, g, gc, hp, hd, hbx, hnd, hnv, hcell, hgl⟩ := hd1.node hi
  obtain ⟨c, hc⟩ : ∃ c, W.cfgs[n]? = some c := ⟨W.cfgs[n], by simp [hn]⟩
  obtain ⟨gk, kc, cv, sv, hkv, hgk, k0, k1, k2, hcf⟩ := hd1.cfgs.get hc
  obtain ⟨ca, cc, rfl⟩ := hcf.chain.slice
  obtain ⟨sa, sc, rfl⟩ := hcf.stores.slice
  have hce := cap.ep c (List.mem_of_getElem? hc)
  have hcw : W.configure i n = W.put i (confM d b c) := by unfold Wd.configure; rw [nd_of hd, box_of hbx, cfg_of hc]
  rw [hcw] at hok ⊢
  obtain ⟨gcur, hgc⟩ := hd1.nrow.block (g := g) (by rw [hnv]; rfl)
  obtain ⟨_, kcur, hkc⟩ := hd1.cfgs.lt (g := gk) (by rw [hkv]; rfl)
  have hblk := hd1.blk
  have Hgc := Lib.hid hgc
  have Hkc := Lib.hid hkc
  have Hbk := Lib.hid hblk
  have Hcall := Lib.hid (conf_any hnd hf hcf hce.1)
  have hoc : OutC L K (confM d b c) := confM_c (cap.box b (List.mem_of_getElem? hbx)) (cap.nd d (List.mem_of_getElem? hd)) hce.2
  have Hoc := Lib.hid hoc
  have Hok := Lib.hid hok
  have Hcap := Lib.hid cap
  have Hp := Lib.hid hp
  have Hd1 := Lib.hid hd1
  have Hg := Lib.hid hg
  obtain ⟨n0, _, _, _, n4, _, _⟩ := hd1.cells
  rw [hnv] at n0
  rw [hkv] at n4
  have hwl := hd1.wlt
  have hi1 : (i : Int) < (ps.length : Int) := by omega
  have hn1 : (n : Int) < (W.cfgs.length : Int) := by omega
  obtain ⟨WP, hWP⟩ : ∃ X, W.put i (confM d b c) = X := ⟨_, rfl⟩
  rw [hWP]
  have HWP := Lib.hid hWP
  clear hgc hkc hblk h cap hok hoc hcw hce hd1 hp hd hbx hnd hcf hc hg hWP
  go_enter Try.func18, Try.ntmps18
  go_wp2_with fail
  refine wp_region_row (fun Wx => wb < Wx.heap.size ∧ Wx.cell? ⟨wb, 0, none⟩ = some (.slice (some ⟨g, 0, none⟩) ps.length gc) ∧ Wx.cell? ⟨wb, 4, none⟩ = some (.slice (some ⟨gk, 0, none⟩) W.cfgs.length kc) ∧ Wx.cell? ⟨g, i, none⟩ = some (ptrN p) ∧ Wx.cell? ⟨gk, n * 3, none⟩ = some (.int .i64 (c.epoch : Int)) ∧ Wx.cell? ⟨gk, n * 3 + 1, none⟩ = some (.slice ca c.chain.length cc) ∧ Wx.cell? ⟨gk, n * 3 + 2, none⟩ = some (.slice sa c.stores.length sc)) [14] (by kernel_rfl) (fun c a d v w h => by cases d <;> exact h) ⟨hwl, n0, n4, hcell, k0, k1, k2⟩ ?_
  generalize w.drew = wd at *
  simp only [inRow]
  repeat ((first | (apply wpPi_quiet; rfl; rintro W ⟨hW0, hW1, hW2, hW3, hW4, hW5, hW6⟩; go_simp; with_reducible rfl) | (apply wpPi_off; rfl)); simp only [putA, List.set])
  refine wpPi_call (by rfl) (by go_simp) Hcall.out ?_
  rintro e w3 ho
  obtain ⟨F', hsep⟩ := ho.sep
  have hpm := List.mem_of_getElem? Hp.out
  have s1 := Hd1.out.same hpm hsep Hbk.out (by decide) (by decide) (by decide)
  have s2 := Hd1.out.same hpm hsep Hgc.out (by decide) (by decide) (by decide)
  have s3 := Hd1.out.same hpm hsep Hkc.out (by decide) (by decide) (by decide)
  obtain ⟨mv, kv, q, rfl, _, _, hw, hm, hk, hs⟩ := Hd1.out.turn Hp.out ho
  have Htold := Lib.hid (told_put Hd1.out Hcap.out hL hps Hp.out Hoc.out Hok.out hf hw hm hk hs)
  refine ⟨_, rfl, ⟨lt_of_getElem? s1, ?_, ?_, ?_, ?_, ?_, ?_⟩, ?_⟩
  · rw [← n0]; simp [World.cell?, s1, Hbk.out]
  · rw [← n4]; simp [World.cell?, s1, Hbk.out]
  · rw [← hcell]; simp [World.cell?, s2, Hgc.out]
  · rw [← k0]; simp [World.cell?, s3, Hkc.out]
  · rw [← k1]; simp [World.cell?, s3, Hkc.out]
  · rw [← k2]; simp [World.cell?, s3, Hkc.out]
  obtain ⟨ma, mc, rfl⟩ := hm.slice
  obtain ⟨ka, kc2, rfl⟩ := hk.slice
  clear s1 s2 s3 hw hm hk hs ho hsep n0 n4 hcell k0 k1 k2 hgl hgk
  try first | simp only [putA, List.set] | simp only [putN]
  repeat ((first | (apply wpPi_quiet; rfl; rintro W ⟨hW0, hW1, hW2, hW3, hW4, hW5, hW6⟩; go_simp; with_reducible rfl) | (apply wpPi_off; rfl)); simp only [putA, List.set])
  refine wpPi_nil ?_
  go_wp2_with fail
  (with_reducible refine Htold.out.mono ?_)
  rintro e w4 ⟨rfl, V', ps', h1, h2, h3⟩
  have hpost : OpPost f w wb V ps WP (.returned (.tuple #[])) w4 := ⟨rfl, V', ps', h1, by rw [← HWP.out]; exact h2, (Sep.ofGrow Hg.out).trans h3⟩
  clear h1 h2 h3 Htold
  go_wp2
  exact ⟨rfl, .tuple #[], by simp [results, Try.results18, go_sem], hpost⟩
end
end Go.Proofs.Ytfchjoejdijjeaa

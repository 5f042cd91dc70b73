/- Merged out of E8, E9, EA: helpers. -/
import Derived.Test.YtfchjoejdijjeaaCI
set_option linter.unusedSimpArgs false
set_option linter.unusedVariables false
/- A node: what an operation leaves; on. -/
namespace Go.Proofs.Ytfchjoejdijjeaa
open Go.RowKit Go.Gl Go.Wal Go.Ch Go.Shelf
section
variable {C : Type} (f : C → List UInt8) (N : Nat → Prop) (w : World) (nb bb : Nat) (cv : Value)
/-- What an operation of a node leaves: the node, messages, commits. -/
def OutPost (o : Out C) (e : Ending) (w' : World) : Prop :=
  ∃ mv kv cv' cfv' sv', e = .returned (.tuple #[mv, kv]) ∧ NdAt f (Nw N w (FN nb bb cv')) w' nb bb cv' cfv' sv' o.d o.b ∧ Sep (FN nb bb cv) w w' (FN nb bb cv') ∧ MsgR f (Nw N w (FN nb bb cv')) w' mv o.ms ∧ ComR f (Nw N w (FN nb bb cv')) w' kv o.cs
end
section
variable {C : Type} {f : C → List UInt8} {N : Nat → Prop} {w w' w1 : World} {nb bb : Nat} {cv cfv sv : Value} {d : Nd} {b : Box C}

theorem nw_nw {F1 F2 : Nat → Prop} {w2 : World} (hs : Sep F1 w1 w2 F2) (hw : w.heap.size ≤ w1.heap.size) (x : Nat) (hx : Nw (Nw N w F1) w1 F2 x) : Nw N w F2 x := by
  rcases hx with ⟨h1, h2⟩ | ⟨h1, h2⟩
  · rcases h1 with h1 | ⟨h1, h3⟩
    · exact .inl h1
    · refine .inr ⟨h1, fun hF => ?_⟩
      rcases hs.foot x hF with h4 | h4
      · exact h3 h4
      · omega
  · exact .inr ⟨by omega, h2⟩
theorem NdAt.mono {M : Nat → Prop} (h : NdAt f N w nb bb cv cfv sv d b) (hM : ∀ x, N x → x < w.heap.size → M x) (hap : ∀ x, M x → ¬ FN nb bb cv x) : NdAt f M w nb bb cv cfv sv d b :=
  ⟨h.blk, ⟨h.box.blk, h.box.row.mono hM, fun x hx hF => hap x hx (.inr hF), h.box.len, h.box.fst, h.box.ep⟩, h.cfg.mono hM, fun x hx e => hap x hx (.inl e), h.ep, h.slf, h.bir⟩
/-- The node as it stands behind a step that left its blocks where they were. -/
theorem NdAt.nw (h : NdAt f N w nb bb cv cfv sv d b) {d' : Nd} {b' : Box C} {cfv' sv' : Value} (h' : NdAt f N w' nb bb cv cfv' sv' d' b') (hs : Sep (FN nb bb cv) w w' (FN nb bb cv)) : NdAt f (Nw N w (FN nb bb cv)) w' nb bb cv cfv' sv' d' b' :=
  h'.mono (fun x hx _ => by
    by_cases hl : x < w.heap.size
    · exact .inl ⟨hx, hl⟩
    · exact .inr ⟨by omega, h.apart x hx⟩) (nw_apart h.apart hs.foot)
theorem nw_in (h : NdAt f N w nb bb cv cfv sv d b) (x : Nat) (hx : N x) : Nw N w (FN nb bb cv) x := by
  by_cases hl : x < w.heap.size
  · exact .inl ⟨hx, hl⟩
  · exact .inr ⟨by omega, h.apart x hx⟩
theorem nw_new {F' : Nat → Prop} (hF : ∀ x, F' x → x < w1.heap.size) (hw : w.heap.size ≤ w1.heap.size) (x : Nat) (hx : w1.heap.size ≤ x) : Nw N w F' x := .inr ⟨by omega, fun h => by have := hF x h; omega⟩

/-- An operation behind a step. -/
theorem OutPost.after {cv1 : Value} {o : Out C} {e : Ending} (hap : ∀ x, N x → ¬ FN nb bb cv x) (hs : Sep (FN nb bb cv) w w1 (FN nb bb cv1)) (h : OutPost f (Nw N w (FN nb bb cv1)) w1 nb bb cv1 o e w') : OutPost f N w nb bb cv o e w' := by
  obtain ⟨mv, kv, cv', cfv', sv', he, h1, h2, h3, h4⟩ := h
  have hm := nw_nw (N := N) h2 hs.size
  exact ⟨mv, kv, cv', cfv', sv', he, h1.mono (fun x hx _ => hm x hx) (nw_apart hap (hs.trans h2).foot), hs.trans h2, h3.mono (fun x hx _ => hm x hx), h4.mono (fun x hx _ => hm x hx)⟩

theorem OutPost.grown {o : Out C} {e : Ending} (h : OutPost f N w1 nb bb cv o e w') (hap : ∀ x, N x → ¬ FN nb bb cv x) (hg : Grow w w1) : OutPost f N w nb bb cv o e w' := by
  obtain ⟨mv, kv, cv', cfv', sv', he, h1, h2, h3, h4⟩ := h
  have hs := (Sep.ofGrow (F := FN nb bb cv) hg).trans h2
  have hm : ∀ x, Nw N w1 (FN nb bb cv') x → x < w'.heap.size → Nw N w (FN nb bb cv') x := fun x hx _ => by
    rcases hx with ⟨h5, h6⟩ | ⟨h5, h6⟩
    · by_cases hl : x < w.heap.size
      · exact .inl ⟨h5, hl⟩
      · refine .inr ⟨by omega, fun hF => ?_⟩
        rcases h2.foot x hF with h7 | h7
        · exact hap x h5 h7
        · omega
    · exact .inr ⟨Nat.le_trans hg.size h5, h6⟩
  exact ⟨mv, kv, cv', cfv', sv', he, h1.mono hm (nw_apart hap hs.foot), hs, h3.mono hm, h4.mono hm⟩

/-- One commit in a block. -/
theorem comR_one {M : Nat → Prop} {g : Nat} {x : Com C} {xv av : Value} (hb : w.heap[g]? = some (.cells #[.int .u64 (x.idx : Int), xv, av] 86 (0, 0))) (hM : M g) (hg : GoodC f M w ⟨x, xv, av⟩) : ComR f M w (.slice (some ⟨g, 0, none⟩) 1 1) [x] := by
  refine ⟨[⟨x, xv, av⟩], rfl, ⟨some ⟨g, 0, none⟩, 1, rfl, Nat.le_refl _, by decide, (fun e => by cases e), .inr ⟨g, 0, rfl, hM, lt_of_getElem? hb, fun i y hy c u hu => ?_⟩⟩, fun y hy => by rw [List.mem_singleton.1 hy]; exact hg⟩
  match i, hy with
  | 0, hy =>
    cases hy
    have : (#[.int .u64 (x.idx : Int), xv, av] : Array Value)[c]? = some u := by simpa [encC] using hu
    unfold World.cell?
    rw [hb]
    simpa using this
  | i + 1, hy => simp at hy

set_option maxRecDepth 100000 in
set_option maxHeartbeats 4000000 in
theorem non_any (h : NdAt f N w nb bb cv cfv sv d b) (hf : ∀ c, (f c).length ≤ 1048576) {k : Nat} (hk : k ≤ 1000000) {c : C} {xv av : Value} {an : Bool} {A : List UInt8} (hA : A = if an = true then did ++ f c else []) (hx : Bw N w xv (f c)) (ha : Bw N w av A) :
    Calls Try.prog 43 #[.pointer (some ⟨nb, 0, none⟩), .int .u64 (k : Int), xv, av] w (OutPost f N w nb bb cv (onM d b k c an)) := by
  have H := Lib.hid h
  have hlt := h.lt
  have k7 := h.m
  have Ht := Lib.hid (ptail_any h.pl)
  obtain ⟨xa, xc, rfl⟩ := hx.slice
  obtain ⟨aa, ac, rfl⟩ := ha.slice
  have Hx := Lib.hid hx
  have Ha := Lib.hid ha
  have HA := Lib.hid hA
  clear hA
  cases ht : d.tail with
  | true =>
    have hon : onM d b k c an = ⟨d, b.trim k, doneM d k, [⟨k, c, an⟩]⟩ := by unfold onM; rw [if_pos ht]
    rw [ht] at Ht
    rw [hon]
    clear h hx ha ht hon
    go_enter Try.func43, Try.ntmps43
    go_wp2_with fail
    (with_reducible refine Ht.out.mono ?_)
    rintro e w1 ⟨rfl, hg1⟩
    have hn1 := H.out.grow hg1
    have hl1 := hn1.lt
    have k71 := hn1.m
    have m4 := Try.methTrim (.pointer (some ⟨bb, 0, none⟩))
    have Htr := Lib.hid (trim_any hn1.box (up := k) (by omega))
    clear Ht
    go_wp2_with fail
    (with_reducible refine Htr.out.mono ?_)
    rintro e w2 ⟨rfl, hb2, hs2⟩
    obtain ⟨hn2, hsn2⟩ := hn1.turn0 hb2 hs2
    have Hs2 := Lib.hid ((Sep.ofGrow hg1).trans hsn2)
    have Hn2 := Lib.hid hn2
    have Hd := Lib.hid (ndone_any hn2 (i := k) (by omega))
    have hl2 := hn2.lt
    have Hx2 := Lib.hid ((Hx.out.grow hg1).kp (Kp.ofSep hsn2 hn1.apart))
    have Ha2 := Lib.hid ((Ha.out.grow hg1).kp (Kp.ofSep hsn2 hn1.apart))
    clear hn1 hb2 hs2 hsn2 hn2 hg1 Htr k71
    go_wp2_with fail
    (with_reducible refine Hd.out.mono ?_)
    rintro e w3 ⟨mv, rfl, ho3, hg3⟩
    have Ho3 := Lib.hid ho3
    have Hcl := Lib.hid (clone_any (Hx2.out.grow hg3).1 (by have := hf c; omega))
    have Hg3 := Lib.hid hg3
    obtain ⟨qa, qc, rfl⟩ := ho3.slice
    clear ho3 hg3 Hd
    go_wp2_with fail
    (with_reducible refine Hcl.out.mono ?_)
    rintro e w4 ⟨v4, rfl, h4, hg4⟩
    have hbc := run_buildC1
    have H4 := Lib.hid h4
    have Hg4 := Lib.hid hg4
    obtain ⟨ua, uc, rfl⟩ := h4.slice
    clear h4 hg4 Hcl
    go_wp2
    go_ret2
    have hgf := (Hg3.out.trans Hg4.out).trans (Grow.alloc w4 (.cells #[.int .u64 (k : Int), .slice ua (f c).length uc, .slice aa A.length ac] 86))
    have hsF := Hs2.out.grow hgf
    have hz2 : ∀ x, FN nb bb cv x → x < w2.heap.size := fun x hx => by have := H.out.flt hx; have := Hs2.out.size; omega
    refine ⟨_, _, cv, _, _, rfl, H.out.nw (Hn2.out.grow hgf) hsF, hsF, ((Ho3.out.msgR.grow Hg4.out).grow (Grow.alloc _ _)).mono (fun x hx _ => nw_new hz2 Hs2.out.size x hx), ?_⟩
    refine comR_one (x := ⟨k, c, an⟩) (heap_alloc_new w4 _) (.inr ⟨?_, fun hF => ?_⟩) ⟨?_, ?_⟩
    · have := Hs2.out.size; have := Hg3.out.size; have := Hg4.out.size; omega
    · have := hz2 _ hF; have := Hg3.out.size; have := Hg4.out.size; omega
    · exact ((H4.out.bw (N := fun x => w2.heap.size ≤ x) (fun x h1 _ => by have := Hg3.out.size; omega)).grow (Grow.alloc _ _)).mono (fun x hx _ => nw_new hz2 Hs2.out.size x hx)
    · have h9 := (Ha2.out.grow hgf).mono (fun x hx _ => nw_in H.out x hx)
      have he : ansD f (⟨k, c, an⟩ : Com C) = A := HA.out.symm
      show Bw _ _ _ (ansD f ⟨k, c, an⟩)
      rw [he]
      exact h9
  | false =>
    obtain ⟨M, hM⟩ : ∃ M, d.behind.getD zeroM = M := ⟨_, rfl⟩
    obtain ⟨ss, hss⟩ : ∃ s, d.behind.isSome = s := ⟨_, rfl⟩
    obtain ⟨mn, mb, mw⟩ := M
    have hon : onM d b k c an = ⟨d, b, if (ss && (mw || d.told)) = true then [⟨d.self, mn, d.cfg.epoch, .entry k c⟩] else [], []⟩ := by
      unfold onM
      rw [if_neg (by rw [ht]; decide)]
      cases ho : d.behind with
      | none => rw [ho] at hss; cases hss; rfl
      | some m => rw [ho] at hss hM; cases hss; cases hM; rfl
    obtain ⟨RL, hRL⟩ : ∃ l : List (Msg C), (if (ss && (mw || d.told)) = true then [⟨d.self, mn, d.cfg.epoch, .entry k c⟩] else []) = l := ⟨_, rfl⟩
    rw [hRL] at hon
    have HRL := Lib.hid hRL
    rw [ht] at Ht
    rw [hon]
    clear h hx ha ht hon HA Ha hRL
    have HM := Lib.hid hM
    have HSS := Lib.hid hss
    clear hM hss
    go_enter Try.func43, Try.ntmps43
    go_wp2_with fail
    (with_reducible refine Ht.out.mono ?_)
    rintro e w1 ⟨rfl, hg1⟩
    have Hb := Lib.hid (om_split (nbehind_any (H.out.grow hg1)) HM.out HSS.out)
    clear Ht
    go_wp2_with fail
    (with_reducible refine Hb.out.mono ?_)
    rintro e w2 ⟨rfl, hg2⟩
    have hr2 := heap_alloc_new w2 (.cells #[.int .i64 (mn : Int), .int .i64 (mb : Int), .bool mw] 71)
    have Hg := Lib.hid ((hg1.trans hg2).trans (Grow.alloc w2 (.cells #[.int .i64 (mn : Int), .int .i64 (mb : Int), .bool mw] 71)))
    clear hg1 hg2 Hb
    go_upto_region 5 with fail
    generalize w2.alloc (.cells #[.int .i64 (mn : Int), .int .i64 (mb : Int), .bool mw] 71) = w3 at *
    have q0 : w3.cell? ⟨w2.heap.size, 0, none⟩ = some (.int .i64 (mn : Int)) := by simp [World.cell?, hr2]
    have q1 : w3.cell? ⟨w2.heap.size, 1, none⟩ = some (.int .i64 (mb : Int)) := by simp [World.cell?, hr2]
    have q2 : w3.cell? ⟨w2.heap.size, 2, none⟩ = some (.bool mw) := by simp [World.cell?, hr2]
    have lq : w2.heap.size < w3.heap.size := lt_of_getElem? hr2
    have hn3 := H.out.grow Hg.out
    have k6 := hn3.pl.c6
    have hl3 := hn3.lt
    obtain ⟨td, htd⟩ : ∃ t, d.told = t := ⟨_, rfl⟩
    rw [htd] at k6
    obtain ⟨R, hR⟩ : ∃ R : Bool, (ss && (mw || td)) = R := ⟨_, rfl⟩
    have HR := Lib.hid hR
    have Htd := Lib.hid htd
    have hsay : Hid (Calls Try.prog 33 #[.pointer (some ⟨nb, 0, none⟩), memV ⟨mn, mb, mw⟩, .bool R, .int .i64 1, .int .u64 (k : Int), .slice xa (f c).length xc] w3.drew fun e w' => ∃ v, e = .returned v ∧ OwnMs f w3.heap.size w' v RL ∧ Grow w3.drew w') := by
      rw [← HRL.out, htd, hR]
      cases R with
      | false => exact Lib.hid ((say_none ⟨mn, mb, mw⟩ _ _ _ _ _).mono fun e w' h => ⟨_, h.1, ownMs_nil _ _, h.2⟩)
      | true =>
        refine Lib.hid ((say_k (hn3.grow (Grow.drew w3)) ⟨mn, mb, mw⟩ (k := 1) (i := k) (kI := 1) (iI := (k : Int)) rfl rfl (by decide) (by omega) ((Hx.out.grow Hg.out).grow (Grow.drew w3)).1 (by have := hf c; omega)).mono fun e w' h => ?_)
        obtain ⟨v, h1, h2, h3⟩ := h.own (f := f) (x := ⟨d.self, mn, d.cfg.epoch, .entry k c⟩) rfl rfl rfl
        exact ⟨v, h1, h2, h3⟩
    clear hn3 hr2 hR htd
    have HS : Hid (∀ W, Grow w3 W → nb < W.heap.size ∧ W.cell? ⟨nb, 6, none⟩ = some (.bool td) ∧ W.cell? ⟨w2.heap.size, 0, none⟩ = some (.int .i64 (mn : Int)) ∧ W.cell? ⟨w2.heap.size, 1, none⟩ = some (.int .i64 (mb : Int)) ∧ W.cell? ⟨w2.heap.size, 2, none⟩ = some (.bool mw) ∧ w2.heap.size < W.heap.size) := Lib.hid fun W hW => by
      have hc := (bcell hW).1
      exact ⟨Nat.lt_of_lt_of_le hl3 hW.size, by rw [hc _ _ hl3]; exact k6, by rw [hc _ _ lq]; exact q0, by rw [hc _ _ lq]; exact q1, by rw [hc _ _ lq]; exact q2, Nat.lt_of_lt_of_le lq hW.size⟩
    refine wp_region_row (fun W => nb < W.heap.size ∧ W.cell? ⟨nb, 6, none⟩ = some (.bool td) ∧ W.cell? ⟨w2.heap.size, 0, none⟩ = some (.int .i64 (mn : Int)) ∧ W.cell? ⟨w2.heap.size, 1, none⟩ = some (.int .i64 (mb : Int)) ∧ W.cell? ⟨w2.heap.size, 2, none⟩ = some (.bool mw) ∧ w2.heap.size < W.heap.size) [16] (by kernel_rfl) (fun c a d v w h => by cases d <;> exact h) (HS.out _ (Grow.drew w3)) ?_
    simp only [inRow]
    have hfin : Hid (∀ (v : Value) (w4 : World), OwnMs f w3.heap.size w4 v RL → Grow w3.drew w4 → OutPost f N w nb bb cv ⟨d, b, RL, []⟩ (.returned (.tuple #[v, .slice none 0 0])) w4) := Lib.hid fun v w4 hv hg4 => by
      have hgf := Hg.out.trans ((Grow.drew w3).trans hg4)
      have hsF : Sep (FN nb bb cv) w w4 (FN nb bb cv) := Sep.ofGrow hgf
      exact ⟨_, _, cv, _, _, rfl, H.out.nw (H.out.grow hgf) hsF, hsF, hv.msgR.mono (fun x hx _ => nw_new (w1 := w3) (fun y hy => by have := H.out.flt hy; have := Hg.out.size; omega) Hg.out.size x hx), comR_nil _ _⟩
    clear k6 q0 q1 q2 lq hl3
    cases ss <;> cases mw <;> cases td
    all_goals
      first | (obtain rfl : R = true := HR.out.symm) | (obtain rfl : R = false := HR.out.symm)
      repeat ((first | (apply wpPi_quiet; rfl; rintro W ⟨hl, hW0, hW1, hW2, hW3, hW4⟩; go_simp; with_reducible rfl) | (apply wpPi_off; rfl)); simp only [putA, List.set])
      refine wpPi_call (by rfl) (by go_simp) hsay.out ?_
      rintro e w4 ⟨v4, rfl, ho4, hg4⟩
      refine ⟨_, rfl, HS.out _ ((Grow.drew w3).trans hg4), ?_⟩
      have Hf := Lib.hid (hfin.out _ _ ho4 hg4)
      obtain ⟨va, vc, rfl⟩ := ho4.slice
      clear ho4 hg4
      try first | simp only [putA, List.set] | simp only [putN]
      repeat ((first | (apply wpPi_quiet; rfl; rintro W ⟨hl, hW0, hW1, hW2, hW3, hW4⟩; go_simp; with_reducible rfl) | (apply wpPi_off; rfl)); simp only [putA, List.set])
      refine wpPi_nil ?_
      go_wp2
      go_ret2
      exact Hf.out
end
end Go.Proofs.Ytfchjoejdijjeaa

/- A node: Submit, and an entry that is run. -/
namespace Go.Proofs.Ytfchjoejdijjeaa
open Go.RowKit Go.Gl Go.Wal Go.Ch Go.Shelf
section
variable {C : Type} {f : C → List UInt8} {N : Nat → Prop} {w w' w1 : World} {nb bb : Nat} {cv cfv sv : Value} {d : Nd} {b : Box C}

/-- A run, then on: told at the node. -/
theorem run_node (h : NdAt f N w nb bb cv cfv sv d b) {c : C} {e : Ending} (hr : RunPost f N w bb cv b c e w') :
    ∃ av cv', e = .returned (.tuple #[av, .int .i64 0]) ∧ NdAt f (Nw N w (FN nb bb cv')) w' nb bb cv' cfv sv d (b.run c) ∧ Sep (FN nb bb cv) w w' (FN nb bb cv') ∧ Bw (Nw N w (FN nb bb cv')) w' av (did ++ f c) ∧
      (∀ (v : Value) (l : List UInt8), Bw N w v l → Bw (Nw N w (FN nb bb cv')) w' v l) := by
  obtain ⟨av, cv', he, hb, hs, ha⟩ := hr
  obtain ⟨h1, h2⟩ := h.turn hb hs
  refine ⟨av, cv', he, h1, h2, ha.mono (fun x hx hl => ?_), fun v l hv => (hv.mono (fun x hx hl => Or.inl ⟨hx, hl⟩)).kp ?_⟩
  · rcases hx with hx | ⟨h3, h4⟩
    · exact .inl hx
    · refine .inr ⟨h3, fun hF => ?_⟩
      rcases hF with rfl | hF
      · have := h.lt; omega
      · exact h4 hF
  · refine ⟨hs.size, fun x hx hl => hs.out x hl (fun hF => ?_)⟩
    rcases hx with ⟨hx, _⟩ | ⟨hx, _⟩
    · exact h.box.apart x hx hF
    · omega

def SubPost (f : C → List UInt8) (N : Nat → Prop) (w : World) (nb bb : Nat) (cv : Value) (o : Out C) (code : Int) (e : Ending) (w' : World) : Prop :=
  ∃ mv kv, e = .returned (.tuple #[mv, kv, .int .i64 code]) ∧ OutPost f N w nb bb cv o (.returned (.tuple #[mv, kv])) w'
def subE (d : Nd) (b : Box C) : Int := if headB d b = true then (if b.full = true then 5 else 0) else 22

theorem OutPost.same (h : NdAt f N w nb bb cv cfv sv d b) (hg : Grow w w') : OutPost f N w nb bb cv ⟨d, b, [], []⟩ (.returned (.tuple #[.slice none 0 0, .slice none 0 0])) w' :=
  ⟨_, _, cv, _, _, rfl, h.nw (h.grow hg) (Sep.ofGrow hg), Sep.ofGrow hg, msgR_nil _ _, comR_nil _ _⟩

theorem OutPost.msgs {v : Value} {ms : List (Msg C)} {B : Nat} (h : NdAt f N w nb bb cv cfv sv d b) (hg : Grow w w') (hv : OwnMs f B w' v ms) (hB : w.heap.size ≤ B) : OutPost f N w nb bb cv ⟨d, b, ms, []⟩ (.returned (.tuple #[v, .slice none 0 0])) w' :=
  ⟨_, _, cv, _, _, rfl, h.nw (h.grow hg) (Sep.ofGrow hg), Sep.ofGrow hg, hv.msgR.mono (fun x hx _ => .inr ⟨by omega, fun hF => by have := h.flt hF; omega⟩), comR_nil _ _⟩

set_option maxRecDepth 100000 in
set_option maxHeartbeats 4000000 in
theorem nsubmit_any (h : NdAt f N w nb bb cv cfv sv d b) (hf : ∀ c, (f c).length ≤ 1048576) (hl : b.cmds.length < 99999) {c : C} {xv : Value} (hx : Bw N w xv (f c)) :
    Calls Try.prog 27 #[.pointer (some ⟨nb, 0, none⟩), xv] w (SubPost f N w nb bb cv (subM d b c) (subE d b)) := by
  have H := Lib.hid h
  have hlt := h.lt
  have Hh := Lib.hid (nhead_any h)
  obtain ⟨xa, xc, rfl⟩ := hx.slice
  have Hx := Lib.hid hx
  have m1 := Try.methApplied (.pointer (some ⟨bb, 0, none⟩))
  have m2 := Try.methRun (.pointer (some ⟨bb, 0, none⟩))
  obtain ⟨SB, hSB⟩ : ∃ o, subM d b c = o := ⟨_, rfl⟩
  obtain ⟨SE, hSE⟩ : ∃ o, subE d b = o := ⟨_, rfl⟩
  rw [hSB, hSE]
  have HSB := Lib.hid hSB
  have HSE := Lib.hid hSE
  clear h hx hSB hSE
  cases hd : headB d b with
  | false =>
    rw [hd] at Hh
    have hp : Hid (∀ w', Grow w w' → SubPost f N w nb bb cv SB SE (.returned (.tuple #[.slice none 0 0, .slice none 0 0, .int .i64 22])) w') := Lib.hid fun w' hg => by
      rw [← HSB.out, ← HSE.out]
      unfold subM subE takes
      rw [hd]
      exact ⟨_, _, rfl, OutPost.same H.out hg⟩
    clear hd
    go_enter Try.func27, Try.ntmps27
    go_wp2_with fail
    (with_reducible refine Hh.out.mono ?_)
    rintro e w1 ⟨rfl, hg1⟩
    go_wp2
    go_ret3
    exact hp.out _ hg1
  | true =>
    rw [hd] at Hh
    cases hfu : b.full with
    | true =>
      have hp : Hid (∀ w', Grow w w' → SubPost f N w nb bb cv SB SE (.returned (.tuple #[.slice none 0 0, .slice none 0 0, .int .i64 5])) w') := Lib.hid fun w' hg => by
        rw [← HSB.out, ← HSE.out]
        unfold subM subE takes
        rw [hd, hfu]
        exact ⟨_, _, rfl, OutPost.same H.out hg⟩
      have hlen := H.out.box.len
      clear hd
      go_enter Try.func27, Try.ntmps27
      go_wp2_with fail
      (with_reducible refine Hh.out.mono ?_)
      rintro e w1 ⟨rfl, hg1⟩
      have hn1 := H.out.grow hg1
      have k7 := hn1.m
      have hl1 := hn1.lt
      have Ha := Lib.hid (applied_any hn1.box)
      have Hr := Lib.hid (run_full hn1.box hfu)
      clear hn1 Hh
      go_wp2_with fail
      (with_reducible refine Ha.out.mono ?_)
      rintro e w2 ⟨rfl, hw1⟩
      have hw2 := hw1.symm
      subst hw2
      clear hw1 Ha
      go_wp2_with fail
      (with_reducible refine (Hr.out _ _).mono ?_)
      rintro e w2 ⟨rfl, hw1⟩
      have hw2 := hw1.symm
      subst hw2
      clear hw1 Hr
      go_wp2
      go_ret3
      exact hp.out _ hg1
    | false =>
      have hsb : SB = onM d (b.run c) (b.cmds.length + 1) c true := by
        rw [← HSB.out]; unfold subM takes; rw [hd, hfu]; rfl
      have hse : SE = 0 := by rw [← HSE.out]; unfold subE; rw [hd, hfu]; rfl
      have Hsb := Lib.hid hsb
      obtain ⟨n, hn⟩ : ∃ n, n = b.cmds.length + 1 := ⟨_, rfl⟩
      rw [← hn] at Hsb
      have hnl : n ≤ 100000 := by omega
      subst hse
      have hlen := H.out.box.len
      clear hd hsb HSB HSE
      go_enter Try.func27, Try.ntmps27
      go_wp2_with fail
      (with_reducible refine Hh.out.mono ?_)
      rintro e w1 ⟨rfl, hg1⟩
      have hn1 := H.out.grow hg1
      have k7 := hn1.m
      have hl1 := hn1.lt
      have Ha := Lib.hid (applied_any hn1.box)
      have hr := run_any hn1.box hf hfu (by omega) (Hx.out.grow hg1)
      rw [← hn] at hr
      have Hr := Lib.hid hr
      have Hg1 := Lib.hid hg1
      have hi : (b.cmds.length : Int) + 1 = (n : Int) := by omega
      clear hn1 Hh hr hg1 hn
      go_wp2_with fail
      (with_reducible refine Ha.out.mono ?_)
      rintro e w2 ⟨rfl, hw1⟩
      have hw2 := hw1.symm
      subst hw2
      clear hw1 Ha
      go_wp2_with fail
      (with_reducible refine Hr.out.mono ?_)
      rintro e w2 hr
      obtain ⟨av, cv', rfl, hn2, hs2, ha2, hx2⟩ := run_node (H.out.grow Hg1.out) hr
      have hl2 := hn2.lt
      obtain ⟨A, hA⟩ : ∃ A, did ++ f c = A := ⟨_, rfl⟩
      rw [hA] at ha2
      have Ho := Lib.hid (non_any hn2 hf (k := n) (by omega) (an := true) (A := A) (by rw [if_pos rfl]; exact hA.symm) (hx2 _ _ (Hx.out.grow Hg1.out)) ha2)
      obtain ⟨aa, ac, rfl⟩ := ha2.slice
      have Hs2 := Lib.hid hs2
      clear hn2 hs2 ha2 hx2 hr Hr hA
      go_wp2_with fail
      (with_reducible refine Ho.out.mono ?_)
      rintro e w3 ho
      rw [← Hsb.out] at ho
      have hq : OutPost f N w nb bb cv SB e w3 := (ho.after (H.out.grow Hg1.out).apart Hs2.out).grown H.out.apart Hg1.out
      obtain ⟨mv, kv, cv3, cfv3, sv3, rfl, q1, q2, q3, q4⟩ := hq
      have Hq : Hid (SubPost f N w nb bb cv SB 0 (.returned (.tuple #[mv, kv, .int .i64 0])) w3) := Lib.hid ⟨mv, kv, rfl, mv, kv, cv3, cfv3, sv3, rfl, q1, q2, q3, q4⟩
      obtain ⟨ma, mc, rfl⟩ := q3.slice
      obtain ⟨ka, kc, rfl⟩ := q4.slice
      clear q1 q2 q3 q4 ho Ho
      go_wp2
      go_ret3
      exact Hq.out
end
end Go.Proofs.Ytfchjoejdijjeaa

/- A node: an entry is taken in. -/
namespace Go.Proofs.Ytfchjoejdijjeaa
open Go.RowKit Go.Gl Go.Wal Go.Ch Go.Shelf
section
variable {C : Type} {f : C → List UInt8} {N : Nat → Prop} {w w' w1 : World} {nb bb : Nat} {cv cfv sv : Value} {d : Nd} {b : Box C}

set_option maxRecDepth 100000 in
set_option maxHeartbeats 4000000 in
theorem nentry_any (h : NdAt f N w nb bb cv cfv sv d b) (hf : ∀ c, (f c).length ≤ 1048576) (hl : b.cmds.length < 99999) {kd ep : Int} {k : Nat} (hk : k ≤ 1000000) {c : C} {xv : Value} (hx : Bw N w xv (f c)) :
    Calls Try.prog 52 #[.pointer (some ⟨nb, 0, none⟩), .agg #[.int .i64 kd, .int .i64 ep, .int .u64 (k : Int), xv]] w (OutPost f N w nb bb cv (entryM d b k c)) := by
  obtain ⟨xa, xc, rfl⟩ := hx.slice
  have hg0 : Grow w (w.alloc (.cells #[.int .i64 kd, .int .i64 ep, .int .u64 (k : Int), .slice xa (f c).length xc] 108)) := Grow.alloc _ _
  have hr0 := heap_alloc_new w (.cells #[.int .i64 kd, .int .i64 ep, .int .u64 (k : Int), .slice xa (f c).length xc] 108)
  obtain ⟨O, hO⟩ : ∃ o, entryM d b k c = o := ⟨_, rfl⟩
  rw [hO]
  have HO := Lib.hid hO
  have H0 := Lib.hid h
  have Hg0 := Lib.hid hg0
  have Hr0 := Lib.hid hr0
  have Hx := Lib.hid (hx.grow hg0)
  have m1 := Try.methApplied (.pointer (some ⟨bb, 0, none⟩))
  have m2 := Try.methRun (.pointer (some ⟨bb, 0, none⟩))
  have m3 := Try.methFirst (.pointer (some ⟨bb, 0, none⟩))
  have hfst := h.box.fst
  clear h hx hO hg0 hr0
  go_enter Try.func52, Try.ntmps52
  go_upto_region 1 with fail
  generalize w.alloc (.cells #[.int .i64 kd, .int .i64 ep, .int .u64 (k : Int), .slice xa (f c).length xc] 108) = w1 at *
  have h1 := H0.out.grow Hg0.out
  have H := Lib.hid h1
  have k7 := h1.m
  have hlt := h1.lt
  have s2 : w1.cell? ⟨w.heap.size, 2, none⟩ = some (.int .u64 (k : Int)) := by have := Hr0.out; simp [World.cell?, this]
  have s3 : w1.cell? ⟨w.heap.size, 3, none⟩ = some (.slice xa (f c).length xc) := by have := Hr0.out; simp [World.cell?, this]
  have l2 : w.heap.size < w1.heap.size := lt_of_getElem? Hr0.out
  have hsame : Hid (entryM d b k c = ⟨d, b, [], []⟩ → ∀ w', Grow w1 w' → OutPost f N w nb bb cv O (.returned (.tuple #[.slice none 0 0, .slice none 0 0])) w') := Lib.hid fun he w' hg => by
    rw [← HO.out, he]; exact (OutPost.same H.out hg).grown H0.out.apart Hg0.out
  have Ha := Lib.hid (applied_any h1.box)
  have Hw := Lib.hid (nwhole_any h1)
  obtain ⟨wh, hwh⟩ : ∃ q, wholeB d b = q := ⟨_, rfl⟩
  rw [hwh] at Hw
  have Hwh := Lib.hid hwh
  clear h1 hwh
  go_wp2_with fail
  (with_reducible refine Ha.out.mono ?_)
  rintro e w2 ⟨rfl, hw1⟩
  have hw2 := hw1.symm
  subst hw2
  clear hw1 Ha
  go_wp2_with fail
  (with_reducible refine Hw.out.mono ?_)
  rintro e w2 ⟨rfl, hg2⟩
  have Hg2 := Lib.hid hg2
  have h2 := H.out.grow hg2
  have H2 := Lib.hid h2
  have hc2 := (bcell hg2).1
  have k72 := h2.m
  have hlt2 := h2.lt
  have t2 : w2.cell? ⟨w.heap.size, 2, none⟩ = some (.int .u64 (k : Int)) := by rw [hc2 _ _ l2]; exact s2
  have t3 : w2.cell? ⟨w.heap.size, 3, none⟩ = some (.slice xa (f c).length xc) := by rw [hc2 _ _ l2]; exact s3
  have l22 : w.heap.size < w2.heap.size := Nat.lt_of_lt_of_le l2 hg2.size
  clear h2 hc2 s2 s3 hg2 Hw
  cases wh with
  | false =>
    have he : entryM d b k c = ⟨d, b, [], []⟩ := by unfold entryM; rw [Hwh.out]; rfl
    have hp := Lib.hid (hsame.out he w2 Hg2.out)
    clear he
    go_wp2
    go_ret2
    exact hp.out
  | true =>
    have hbl : IntKind.u64.wrap ((b.cmds.length : Int) + 1) = (b.cmds.length : Int) + 1 := by simp [IntKind.wrap, IntKind.bits, IntKind.signed]; omega
    by_cases h3 : b.cmds.length + 1 < k
    · have e1 : decide ((b.cmds.length : Int) + 1 < (k : Int)) = true := by simp; omega
      have he : entryM d b k c = ⟨d, b, [], []⟩ := by unfold entryM; rw [Hwh.out, decide_eq_true h3]; rfl
      have hp := Lib.hid (hsame.out he w2 Hg2.out)
      clear he
      go_wp2
      go_ret2
      exact hp.out
    · have e1 : decide ((b.cmds.length : Int) + 1 < (k : Int)) = false := by simp; omega
      by_cases h4 : k ≤ b.cmds.length
      · have e2 : decide (k ≤ b.cmds.length) = true := by simpa using h4
        have Hfi := Lib.hid (bfirst_any H2.out.box)
        have Ht := Lib.hid (ptail_any H2.out.pl)
        obtain ⟨tl, htl⟩ : ∃ q, d.tail = q := ⟨_, rfl⟩
        rw [htl] at Ht
        have he0 : entryM d b k c = if tl = true then ⟨d, b, doneM d b.cmds.length, []⟩ else if k < b.first + 1 then ⟨d, b, doneM d b.first, []⟩ else ⟨d, b, [], []⟩ := by
          unfold entryM; rw [Hwh.out, decide_eq_false h3, if_neg (by decide), if_pos h4, htl]
        have He0 := Lib.hid he0
        obtain ⟨q, hq⟩ : ∃ q, q = b.first + 1 := ⟨_, rfl⟩
        rw [← hq] at Hfi He0
        have hq1 : IntKind.u64.wrap ((q : Int) - 1) = (b.first : Int) := by simp [IntKind.wrap, IntKind.bits, IntKind.signed]; omega
        have hdn : Hid (∀ (ms : List (Msg C)) w', entryM d b k c = ⟨d, b, ms, []⟩ → ∀ v B, w1.heap.size ≤ B → OwnMs f B w' v ms → Grow w1 w' → OutPost f N w nb bb cv O (.returned (.tuple #[v, .slice none 0 0])) w') := Lib.hid fun ms w' he v B hB hv hg => by
          rw [← HO.out, he]; exact (OutPost.msgs H.out hg hv hB).grown H0.out.apart Hg0.out
        clear he0 hq htl
        go_wp2_with fail
        (with_reducible refine Hfi.out.mono ?_)
        rintro e w3 ⟨rfl, hw1⟩
        have hw2 := hw1.symm
        subst hw2
        clear hw1 Hfi
        go_wp2_with fail
        (with_reducible refine Ht.out.mono ?_)
        rintro e w3 ⟨rfl, hg3⟩
        have Hg3 := Lib.hid (Hg2.out.trans hg3)
        have h5 := H2.out.grow hg3
        have hlt3 := h5.lt
        have hc3 := (bcell hg3).1
        have u2 : w3.cell? ⟨w.heap.size, 2, none⟩ = some (.int .u64 (k : Int)) := by rw [hc3 _ _ l22]; exact t2
        have l23 : w.heap.size < w3.heap.size := Nat.lt_of_lt_of_le l22 hg3.size
        cases tl with
        | true =>
          have Hd := Lib.hid (ndone_any h5 (i := b.cmds.length) (by omega))
          have He := Lib.hid (He0.out.trans (if_pos rfl))
          clear h5 hc3 hg3 Ht
          go_wp2_with fail
          (with_reducible refine Hd.out.mono ?_)
          rintro e w4 ⟨v, rfl, ho, hg4⟩
          have Hp := Lib.hid (hdn.out _ _ He.out v _ Hg3.out.size ho (Hg3.out.trans hg4))
          obtain ⟨va, vc, rfl⟩ := ho.slice
          clear ho hg4 Hd
          go_wp2
          go_ret2
          exact Hp.out
        | false =>
          have he1 := He0.out.trans (if_neg (by decide))
          by_cases h6 : k < q
          · have e3 : decide (k < q) = true := by simpa using h6
            have Hd := Lib.hid (ndone_any h5 (i := b.first) (by omega))
            have He := Lib.hid (he1.trans (if_pos h6))
            clear h5 hc3 hg3 Ht he1
            go_wp2_with fail
            (with_reducible refine Hd.out.mono ?_)
            rintro e w4 ⟨v, rfl, ho, hg4⟩
            have Hp := Lib.hid (hdn.out _ _ He.out v _ Hg3.out.size ho (Hg3.out.trans hg4))
            obtain ⟨va, vc, rfl⟩ := ho.slice
            clear ho hg4 Hd
            go_wp2
            go_ret2
            exact Hp.out
          · have e3 : decide (k < q) = false := by simpa using h6
            have hp := Lib.hid (hsame.out (he1.trans (if_neg h6)) w3 Hg3.out)
            clear h5 hc3 hg3 Ht he1
            go_wp2
            go_ret2
            exact hp.out
      · have e2 : decide (k ≤ b.cmds.length) = false := by simpa using h4
        have hkk : k = b.cmds.length + 1 := by omega
        have he0 : entryM d b k c = if b.full = true then ⟨d, b, [], []⟩ else onM d (b.run c) k c true := by
          unfold entryM; rw [Hwh.out, decide_eq_false h3, if_neg (by decide), if_neg h4]
        have He0 := Lib.hid he0
        have Hkk := Lib.hid hkk
        have hx2 := Hx.out.grow Hg2.out
        have Hx2 := Lib.hid hx2
        have hnf : ¬ FN nb bb cv w.heap.size := fun hF => by have := H0.out.flt hF; omega
        have Hnf := Lib.hid hnf
        clear he0 hkk hx2 hnf
        go_upto_region 11 with fail
        have hd2 : NdAt f N w2.drew nb bb cv cfv sv d b := H2.out.grow (Grow.drew w2)
        have u2 : w2.drew.cell? ⟨w.heap.size, 2, none⟩ = some (.int .u64 (k : Int)) := t2
        have u3 : w2.drew.cell? ⟨w.heap.size, 3, none⟩ = some (.slice xa (f c).length xc) := t3
        refine wp_region_row (fun W => nb < W.heap.size ∧ W.cell? ⟨nb, 7, none⟩ = some (.iface 48 (.pointer (some ⟨bb, 0, none⟩))) ∧ w.heap.size < W.heap.size ∧ W.cell? ⟨w.heap.size, 2, none⟩ = some (.int .u64 (k : Int)) ∧ W.cell? ⟨w.heap.size, 3, none⟩ = some (.slice xa (f c).length xc)) [8] (by kernel_rfl) (fun c a d v w h => by cases d <;> exact h) ⟨hd2.lt, hd2.m, l22, u2, u3⟩ ?_
        have Hx3 := Lib.hid (Hx2.out.grow (Grow.drew w2))
        have Hg3 := Lib.hid (Hg2.out.trans (Grow.drew w2))
        have l23 : w.heap.size < w2.drew.heap.size := l22
        clear t2 t3 k7 k72 hlt hlt2 l22
        generalize w2.drew = wd at *
        simp only [inRow]
        repeat ((first | (apply wpPi_quiet; rfl; rintro W ⟨hl0, hW0, hl1, hW1, hW2⟩; go_simp; with_reducible rfl) | (apply wpPi_off; rfl)); simp only [putA, List.set])
        have Hd2 := Lib.hid hd2
        cases hfu : b.full with
        | true =>
          have hp := Lib.hid (hsame.out (He0.out.trans (if_pos hfu)) wd Hg3.out)
          refine wpPi_call (by rfl) (by go_simp) (run_full hd2.box hfu (k : Int) (.slice xa (f c).length xc)) ?_
          rintro e w3 ⟨rfl, hw1⟩
          have hw2 := hw1.symm
          subst hw2
          clear hw1
          refine ⟨_, rfl, ⟨hd2.lt, hd2.m, l23, u2, u3⟩, ?_⟩
          clear hd2
          try first | simp only [putA, List.set] | simp only [putN]
          repeat ((first | (apply wpPi_quiet; rfl; rintro W ⟨hl0, hW0, hl1, hW1, hW2⟩; go_simp; with_reducible rfl) | (apply wpPi_off; rfl)); simp only [putA, List.set])
          refine wpPi_nil ?_
          go_wp2
          go_ret2
          exact hp.out
        | false =>
          have He := Lib.hid (He0.out.trans (if_neg (by rw [hfu]; decide)))
          have hr := run_any hd2.box hf hfu (by omega) Hx3.out
          rw [← Hkk.out] at hr
          refine wpPi_call (by rfl) (by go_simp) hr ?_
          rintro e w3 hr3
          obtain ⟨av, cv', rfl, hn3, hs3, ha3, hx3⟩ := run_node hd2 hr3
          have hwx : w3.heap[w.heap.size]? = wd.heap[w.heap.size]? := hs3.out _ l23 Hnf.out
          have v2 : w3.cell? ⟨w.heap.size, 2, none⟩ = some (.int .u64 (k : Int)) := by rw [← u2]; simp [World.cell?, hwx]
          have v3 : w3.cell? ⟨w.heap.size, 3, none⟩ = some (.slice xa (f c).length xc) := by rw [← u3]; simp [World.cell?, hwx]
          have lv : w.heap.size < w3.heap.size := Nat.lt_of_lt_of_le l23 hs3.size
          refine ⟨_, rfl, ⟨hn3.lt, hn3.m, lv, v2, v3⟩, ?_⟩
          obtain ⟨A, hA⟩ : ∃ A, did ++ f c = A := ⟨_, rfl⟩
          rw [hA] at ha3
          have Ho := Lib.hid (non_any hn3 hf hk (an := true) (A := A) (by rw [if_pos rfl]; exact hA.symm) (hx3 _ _ Hx3.out) ha3)
          have hfin : Hid (∀ e w4, OutPost f (Nw N wd (FN nb bb cv')) w3 nb bb cv' (onM d (b.run c) k c true) e w4 → OutPost f N w nb bb cv O e w4) := Lib.hid fun e w4 ho => by
            rw [← HO.out, He.out]
            exact ((ho.after Hd2.out.apart hs3).grown H.out.apart Hg3.out).grown H0.out.apart Hg0.out
          obtain ⟨aa, ac, rfl⟩ := ha3.slice
          clear hd2 hr hr3 hn3 hs3 ha3 hx3 hA hwx u2 u3
          try first | simp only [putA, List.set] | simp only [putN]
          repeat ((first | (apply wpPi_quiet; rfl; rintro W ⟨hl0, hW0, hl1, hW1, hW2⟩; go_simp; with_reducible rfl) | (apply wpPi_off; rfl)); simp only [putA, List.set])
          refine wpPi_nil ?_
          go_wp2_with fail
          (with_reducible refine Ho.out.mono ?_)
          rintro e w4 ho
          obtain ⟨mv, kv, cv3, cfv3, sv3, rfl, q1, q2, q3, q4⟩ := hfin.out _ _ ho
          have Hq : Hid (OutPost f N w nb bb cv O (.returned (.tuple #[mv, kv])) w4) := Lib.hid ⟨mv, kv, cv3, cfv3, sv3, rfl, q1, q2, q3, q4⟩
          obtain ⟨ma, mc, rfl⟩ := q3.slice
          obtain ⟨ka, kc, rfl⟩ := q4.slice
          clear q1 q2 q3 q4 ho Ho hfin
          go_wp2
          go_ret2
          exact Hq.out
end
end Go.Proofs.Ytfchjoejdijjeaa

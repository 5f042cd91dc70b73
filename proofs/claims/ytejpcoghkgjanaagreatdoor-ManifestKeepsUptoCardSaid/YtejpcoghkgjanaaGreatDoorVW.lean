/- Merged out of KO, KQ: helpers. -/
import Derived.Test.YtejpcoghkgjanaaGreatDoorVV
import Derived.Test.YtejpcoghkgjanaaGreatDoorVL
import Derived.Test.YtejpcoghkgjanaaGreatDoorVR
/- Crash where all is synced: nothing is lost. -/
namespace Go.Proofs.YtejpcoghkgjanaaGreatDoor
open Go.RowKit Go.Gl Go.Wal Go.Sort Mn

theorem look_at : ∀ {V : Vw}, NamesV V → ∀ e ∈ V, lookV e.1 V = some e.2
  | e0 :: V, hN, e, he => by
    rw [look_cons]
    rcases List.mem_cons.1 he with rfl | h
    · rw [if_pos rfl]
    · rw [if_neg (hN.head e h)]
      exact look_at hN.tail e h

theorem cut_all {V : Vw} (hN : NamesV V) {n : ByteArray} {b : List UInt8} {s : Nat} (hl : lookV n V = some (b, s)) (hs : s = b.length) : cutV n b.length V = V := by
  unfold cutV
  refine (List.map_congr_left (g := id) fun e he => ?_).trans (List.map_id V)
  by_cases h1 : e.1 = n
  · rw [if_pos h1]
    have h2 := look_at hN e he
    rw [h1, hl] at h2
    obtain ⟨e1, e2, e3⟩ := e
    cases h2
    subst hs
    simp only [id, List.take_length]
  · rw [if_neg h1]; rfl

theorem crash_same {picks : List Int} {V : Vw} (hN : NamesV V) (hs : ∀ e ∈ V, e.2.2 = e.2.1.length) : ∀ (ns : List (List UInt8)) (i : Nat), crashV picks i ns V = V
  | [], _ => rfl
  | n :: ns, i => by
    unfold crashV
    cases hl : lookV ⟨n.toArray⟩ V with
    | none => exact crash_same hN hs ns (i + 1)
    | some q =>
      obtain ⟨b, s⟩ := q
      have hbs : s = b.length := by
        obtain ⟨e, he, h2⟩ := List.mem_map.1 (look_mem.1 (show lookV ⟨n.toArray⟩ V ≠ none by rw [hl]; simp))
        have h3 := look_at hN e he
        rw [h2, hl] at h3
        have h4 := hs e he
        rw [← Option.some.inj h3] at h4
        exact h4
      have hk : keptD picks i b.length s = b.length := by
        have := keptD_le picks i (Nat.le_of_eq hbs)
        omega
      show crashV picks (i + 1) ns (cutV _ (keptD picks i b.length s) V) = V
      rw [hk, cut_all hN hl hbs]
      exact crash_same hN hs ns (i + 1)

theorem dl_crash {Z B : Nat} {w : World} {p r : Nat} {f : Lk} {T K : Nat} {F : Nat → Prop} (h : Dl Z B w p r f T K F) (hK : K < 1000000000) (hs : ∀ n q, f n = some q → q.2 = q.1.length) {pv : Value} {picks : List Int} (hp : Iv w pv picks) (hfree : picks ≠ [] → IvFree F pv) :
    Calls Tryz.prog 13 #[.pointer (some ⟨p, 0, none⟩), pv] w fun e w' => e = .returned (.tuple #[]) ∧ DlTo Z B w p r F w' f T K := by
  obtain ⟨V, hd, rfl, rfl, hV⟩ := h
  have hN := hd.names
  have hsV : ∀ e ∈ V, e.2.2 = e.2.1.length := fun e he => hs e.1 e.2 (look_at hN e he)
  obtain ⟨hZ, h0, born, fs, h1, rfl, rfl⟩ := hd
  refine (crash_any h1 (by omega) (by simp [vw] at hV; omega) hp hfree).mono ?_
  rintro e w' ⟨he, fs', hd', hsep, hv⟩
  rw [crash_same hN hsV] at hv
  exact ⟨he, _, ⟨_, ⟨hZ, by rw [hv]; exact h0, born, fs', hd', rfl, rfl⟩, by rw [hv], by rw [hv], by rw [hv]; exact hV⟩, hsep⟩
theorem dl_new (Z : Nat) (w : World) (h1 : 1 ≤ Z) (h2 : Z ≤ 16777216) :
    Calls Tryz.prog 5 #[.int .i64 (Z : Int)] w fun e w' => e = .returned (.tuple #[.pointer (some ⟨w.heap.size + 1, 0, none⟩), .int .i64 0]) ∧ (∃ F, Dl Z w.heap.size w' (w.heap.size + 1) w.heap.size (fun _ => none) 0 0 F) ∧ Grow w w' := by
  refine (new_ok (Z : Int) w (by omega) (by omega)).mono ?_
  rintro e w' ⟨rfl, hd, hg⟩
  exact ⟨rfl, ⟨_, [], ⟨by omega, Nat.zero_le _, 0, [], hd, rfl, rfl⟩, rfl, rfl, Nat.le_refl _⟩, hg⟩
end Go.Proofs.YtejpcoghkgjanaaGreatDoor

/- Where the law's loop stands. -/
namespace Go.Proofs.YtejpcoghkgjanaaGreatDoor
open Go.RowKit Go.Gl Go.Wal Mn

theorem Dl.gxv {Z B : Nat} {w w' : World} {p r : Nat} {f : Lk} {T K : Nat} {F : Nat → Prop} (h : Dl Z B w p r f T K F) {sb : Nat} {cs : Array Value} {fz : Nat × Nat} (hb : w.heap[sb]? = some (.cells cs 38 fz)) (hG : GX sb w w') : Dl Z B w' p r f T K F := by
  have hnf := h.apart hb (by decide) (by decide) (by decide)
  obtain ⟨V, ⟨hZ, h0, born, fs, hd, h1, h2⟩, h3, h4, h5⟩ := h
  subst h2
  obtain ⟨c, hm, hc⟩ := hd.map
  obtain ⟨_, _, _, gs, ge⟩ := hG
  have ho : ∀ b, Foot p r fs b → w'.heap[b]? = w.heap[b]? := fun b hbf => ge b (hd.foot_lt hbf).2 (fun e => hnf (by cases e; exact hbf))
  refine ⟨V, ⟨hZ, h0, born, fs, ⟨(ho p (.inl rfl)).trans hd.self, ⟨c, (ho r (.inr (.inl rfl))).trans hm, hc⟩, hd.names, hd.borns, hd.fbs, hd.rows, fun f hf => ?_, hd.base.1, hd.base.2.1, Nat.le_trans hd.base.2.2 gs⟩, h1, rfl⟩, h3, h4, h5⟩
  have hfa := hd.files f hf
  exact ⟨(ho _ (.inr (.inr ⟨f, hf, .inl rfl⟩))).trans hfa.cell, hfa.row.keep (fun b hb => ho b (.inr (.inr ⟨f, hf, .inr hb⟩))), hfa.base, hfa.sync⟩

abbrev frsD (es : List EdD) : List UInt8 := framesD crcTab (es.map encD)
theorem frs_snoc (es : List EdD) (e : EdD) : frsD (es ++ [e]) = frsD es ++ frameD crcTab (encD e) := by simp [frsD, framesD]
theorem frs_one (e : EdD) : frsD [e] = frameD crcTab (encD e) := by simp [frsD, framesD]

/-- What the disk tells of the manifest. -/
structure Mf (f : Lk) (T n i : Nat) (es : List EdD) (V : VerD) : Prop where
  cur : f curN = some (digB n, (digB n).length)
  man : f (manN n) = some (frsD es, (frsD es).length)
  sync : ∀ m q, f m = some q → q.2 = q.1.length
  tmp : f ctmpN = none
  one : OneMan f n
  nle : n ≤ i
  all : applyAllD verZero es = (0, V)
  good : Good V
  eds : ∀ e ∈ es, EdFit e ∧ e.drop.length ≤ 10000 ∧ (encD e).length ≤ 67108864
  sum : (es.map (fun e => e.add.length)).sum ≤ 20 * i
  el : es.length ≤ i + 1
  tl : V.tabs.length ≤ 20 * i
  tk : keyN V.tabs ≤ 10000 * i
  fl : (frsD es).length ≤ 12000 * i + 200
  total : T ≤ (frsD es).length + 6 * (n + 1)

theorem pre_cur : Lib.hasPrefix (curN).data.toList mPre = false := by decide

theorem mf_fresh {T : Nat} (hT : T ≤ 6) : Mf (turnL 0 [] (fun _ => none)) T 0 0 [] verZero := by
  have e1 : ∀ k, turnL 0 [] (fun _ => none) k = if k = curN then some (digB 0, (digB 0).length) else if k = manN 0 then some ([], 0) else none := fun k => rfl
  refine ⟨by rw [e1, if_pos rfl], by rw [e1, if_neg (man_cur 0), if_pos rfl]; rfl, fun m q hq => ?_, by rw [e1, if_neg (by decide), if_neg (Ne.symm (man_tmp 0))], ⟨by rw [e1, if_neg (man_cur 0), if_pos rfl]; simp, fun k hk hn => ?_⟩, Nat.le_refl _, rfl, good_zero, (fun _ h => by cases h), Nat.le_refl _, by simp, Nat.le_refl _, Nat.le_refl _, by simp [frsD, framesD], by simpa [frsD, framesD] using hT⟩
  · rw [e1] at hq
    split at hq
    · cases hq; rfl
    · split at hq
      · cases hq; rfl
      · cases hq
  · rw [e1] at hn
    split at hn
    · rename_i h; rw [h, pre_cur] at hk; cases hk
    · split at hn
      · assumption
      · exact absurd rfl hn

theorem Mf.later {f : Lk} {T n i : Nat} {es : List EdD} {V : VerD} (h : Mf f T n i es V) : Mf f T n (i + 1) es V :=
  ⟨h.cur, h.man, h.sync, h.tmp, h.one, by have := h.nle; omega, h.all, h.good, h.eds, by have := h.sum; omega, by have := h.el; omega, by have := h.tl; omega, by have := h.tk; omega, by have := h.fl; omega, h.total⟩

theorem frame_le {e : EdD} (h1 : e.add.length ≤ 20) (h2 : e.drop.length ≤ 20) (h3 : keyN e.add ≤ 10000) : (encD e).length ≤ 11300 ∧ (frameD crcTab (encD e)).length ≤ 12000 := by
  have hlen := encD_len e
  have h4 := frame_len crcTab (encD e)
  have h5 := numD_len (encD e).length
  constructor
  · omega
  · rw [h4]; omega

theorem Mf.commit {f : Lk} {T n i : Nat} {es : List EdD} {V : VerD} (h : Mf f T n i es V) {e : EdD} (h0 : (applyD V e).1 = 0) (h1 : e.add.length ≤ 20) (h2 : e.drop.length ≤ 20) (h3 : keyN e.add ≤ 10000) (hseq : 0 ≤ e.seq ∧ e.seq < 18446744073709551616) :
    Mf (f.set (manN n) (frsD es ++ frameD crcTab (encD e), (frsD es ++ frameD crcTab (encD e)).length)) (T + (frameD crcTab (encD e)).length) n (i + 1) (es ++ [e]) (applyD V e).2 := by
  obtain ⟨f1, f2⟩ := frame_le h1 h2 h3
  have htook := took_of h0
  have hfit := fit_took h.good htook hseq (by omega) (by omega) (by omega)
  refine ⟨by rw [lk_set_ne _ (Ne.symm (man_cur n))]; exact h.cur, by rw [lk_set_same, frs_snoc], fun m q hq => ?_, by rw [lk_set_ne _ (Ne.symm (man_tmp n))]; exact h.tmp, ⟨by rw [lk_set_same]; simp, fun k hk hn => ?_⟩, by have := h.nle; omega, ?_, good_apply h.good h0 hseq, fun x hx => ?_, ?_, by have := h.el; simp; omega, ?_, ?_, ?_, ?_⟩
  · unfold Lk.set at hq
    split at hq
    · cases hq; rfl
    · exact h.sync m q hq
  · unfold Lk.set at hn
    split at hn
    · assumption
    · exact h.one.2 k hk hn
  · have := applyAll_snoc h.all h0 (W := (applyD V e).2) rfl
    simpa using this
  · rcases List.mem_append.1 hx with h4 | h4
    · exact h.eds x h4
    · rw [List.mem_singleton.1 h4]; exact ⟨hfit, by omega, by omega⟩
  · rw [List.map_append, List.sum_append]
    have := h.sum
    simp; omega
  · have := took_len htook; have := h.tl; omega
  · have := took_key htook; have := h.tk; omega
  · rw [frs_snoc, List.length_append]; have := h.fl; omega
  · rw [frs_snoc, List.length_append]; have := h.total; omega

theorem Mf.rotate {f : Lk} {T n i : Nat} {es : List EdD} {V : VerD} (h : Mf f T n i es V) (hi : i ≤ 100) {m : Nat} (hm : m = n + 1) {T' : Nat} (hT : T' ≤ T + (wholeB V).length + 6 - lkLen f (manN n)) :
    Mf ((turnL m (wholeB V) f).del (manN n)) T' m (i + 1) [wholeD V] V := by
  have hmn : manN m ≠ manN n := fun e => by have := manN_inj e; omega
  have hwl := wholeB_len V
  have htl := h.tl
  have htk := h.tk
  have e1 : ∀ k, ((turnL m (wholeB V) f).del (manN n)) k = if k = manN n then none else if k = curN then some (digB m, (digB m).length) else if k = manN m then some (wholeB V, (wholeB V).length) else f k := fun k => rfl
  have e2 : frsD [wholeD V] = wholeB V := frs_one _
  have e3 : lkLen f (manN n) = (frsD es).length := by unfold lkLen; rw [h.man]
  refine ⟨by rw [e1, if_neg (Ne.symm (man_cur n)), if_pos rfl], by rw [e1, if_neg hmn, if_neg (man_cur m), if_pos rfl, e2], fun k q hq => ?_, by rw [e1, if_neg (Ne.symm (man_tmp n)), if_neg (by decide), if_neg (Ne.symm (man_tmp m))]; exact h.tmp, ⟨by rw [e1, if_neg hmn, if_neg (man_cur m), if_pos rfl]; simp, fun k hk hn => ?_⟩, by have := h.nle; omega, ?_, h.good, fun x hx => ?_, ?_, by simp, by omega, by omega, ?_, ?_⟩
  · rw [e1] at hq
    split at hq
    · cases hq
    · split at hq
      · cases hq; rfl
      · split at hq
        · cases hq; rfl
        · exact h.sync k q hq
  · rw [e1] at hn
    split at hn
    · exact absurd rfl hn
    · split at hn
      · rename_i h4; rw [h4, pre_cur] at hk; cases hk
      · split at hn
        · assumption
        · rename_i h5 _ _; exact absurd (h.one.2 k hk hn) h5
  · rw [applyAll_one, apply_whole h.good, if_pos rfl]
  · rw [List.mem_singleton.1 hx]
    have hlen := encD_len (wholeD V)
    have a1 : (wholeD V).add = V.tabs := rfl
    have a2 : (wholeD V).drop = [] := rfl
    rw [a1, a2] at hlen
    simp only [List.length_nil] at hlen
    exact ⟨fit_whole h.good (by omega), by rw [a2]; simp, by omega⟩
  · show ([wholeD V].map (fun e => e.add.length)).sum ≤ _
    have a1 : (wholeD V).add = V.tabs := rfl
    simp only [List.map_cons, List.map_nil, List.sum_cons, List.sum_nil, a1]
    omega
  · rw [e2]; omega
  · rw [e2]; rw [e3] at hT; have := h.total; omega
end Go.Proofs.YtejpcoghkgjanaaGreatDoor

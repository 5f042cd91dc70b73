/- The plain law of NetPlays: a net's view and the document's row of messages go alike. -/
import Derived.Test.YtbanfilgokideaaS3
import Derived.Test.YtbanfilgokideaaS5
namespace Go.Proofs.Ytbanfilgokideaa
open Go.RowKit Go.Gl

/-- The view and the row hold the same. -/
structure Cpl (nodes bound : Int) (V : View) (L : List RM) : Prop where
  keys : (keysV V).Nodup
  full : AllM (fun m => m.bytes.length ≤ 1000) V
  look : ∀ k, (lookV k V).map Msg.bytes = (ofL k L).map RM.bytes
  rng : ∀ m ∈ L, (0 ≤ m.frm ∧ m.frm < nodes) ∧ (0 ≤ m.to ∧ m.to < nodes)
  cap : ∀ k, ((ofL k L).length : Int) ≤ bound
  byt : ∀ m ∈ L, m.bytes.length ≤ 1000

theorem Cpl.len {nodes bound : Int} {V : View} {L : List RM} (h : Cpl nodes bound V L) (k : Int × Int) : (lookV k V).length = (ofL k L).length := by
  have := congrArg List.length (h.look k)
  simpa using this

theorem Cpl.nil {nodes bound : Int} (hb : 0 ≤ bound) : Cpl nodes bound [] [] :=
  ⟨by simp [keysV], (fun x hx => by cases hx), fun k => rfl, (fun m hm => by cases hm), (fun k => by simpa [ofL] using hb), (fun m hm => by cases hm)⟩

theorem lookV_cons (k : Int × Int) (x : (Int × Int) × List Msg) (V : View) : lookV k (x :: V) = if k = x.1 then x.2 else lookV k V := by
  unfold lookV
  rw [List.find?_cons]
  by_cases h : k = x.1
  · simp [h]
  · simp [h]

theorem look_none {k : Int × Int} : ∀ {V : View}, k ∉ keysV V → lookV k V = []
  | [], _ => rfl
  | x :: V, h => by
    simp only [keysV, List.map_cons, List.mem_cons, not_or] at h
    rw [lookV_cons, if_neg h.1]
    exact look_none (V := V) h.2

theorem look_app {k : Int × Int} (x : (Int × Int) × List Msg) : ∀ {V : View}, k ∉ keysV V → lookV k (V ++ [x]) = if k = x.1 then x.2 else []
  | [], _ => by rw [List.nil_append, lookV_cons]; rfl
  | y :: V, h => by
    simp only [keysV, List.map_cons, List.mem_cons, not_or] at h
    rw [List.cons_append, lookV_cons, if_neg h.1]
    exact look_app x (V := V) h.2

theorem look_app_in {k : Int × Int} (x : (Int × Int) × List Msg) : ∀ {V : View}, k ≠ x.1 → lookV k (V ++ [x]) = lookV k V
  | [], h => by rw [List.nil_append, lookV_cons, if_neg h]
  | y :: V, h => by rw [List.cons_append, lookV_cons, lookV_cons, look_app_in x h]

theorem look_map {k k0 : Int × Int} (m : Msg) : ∀ {V : View}, k0 ∈ keysV V → lookV k (V.map fun x => if x.1 = k0 then (x.1, x.2 ++ [m]) else x) = if k = k0 then lookV k V ++ [m] else lookV k V
  | [], h => by cases h
  | y :: V, h => by
    rw [List.map_cons, lookV_cons, lookV_cons]
    by_cases hy : y.1 = k0
    · rw [if_pos hy]
      by_cases hk : k = k0
      · rw [if_pos hk, if_pos (by rw [hk, hy]), if_pos (by rw [hk, hy])]
      · rw [if_neg hk, if_neg (fun e => hk (e.trans hy)), if_neg (fun e => hk (e.trans hy))]
        have : ∀ W : View, lookV k (W.map fun x => if x.1 = k0 then (x.1, x.2 ++ [m]) else x) = lookV k W := by
          intro W
          induction W with
          | nil => rfl
          | cons z W ih =>
            rw [List.map_cons, lookV_cons, lookV_cons, ih]
            by_cases hz : z.1 = k0
            · rw [if_pos hz]
              by_cases e : k = z.1
              · exact absurd (e.trans hz) hk
              · rw [if_neg e, if_neg e]
            · rw [if_neg hz]
        exact this V
    · rw [if_neg hy]
      have h' : k0 ∈ keysV V := by
        rcases List.mem_cons.1 h with h | h
        · exact absurd h.symm hy
        · exact h
      rw [look_map m h']
      by_cases hk : k = y.1
      · rw [if_pos hk, if_pos hk, if_neg (fun e => hy (hk.symm.trans e))]
      · rw [if_neg hk, if_neg hk]

theorem look_push (k k0 : Int × Int) (m : Msg) (V : View) : lookV k (pushV k0 m V) = if k = k0 then lookV k V ++ [m] else lookV k V := by
  unfold pushV
  by_cases h : k0 ∈ V.map (·.1)
  · rw [if_pos h]; exact look_map m h
  · rw [if_neg h]
    by_cases hk : k = k0
    · subst hk
      rw [if_pos rfl, look_app _ h, if_pos rfl, look_none h]; rfl
    · rw [if_neg hk, look_app_in _ hk]

theorem keys_take (k : Int × Int) (j : Nat) (V : View) : ∀ a, a ∈ keysV (takeV k j V) → a ∈ keysV V := by
  intro a ha
  obtain ⟨x, hx, rfl⟩ := List.mem_map.1 ha
  obtain ⟨y, hy, rfl⟩ := List.mem_map.1 (List.mem_filter.1 hx).1
  refine List.mem_map.2 ⟨y, hy, ?_⟩
  split <;> rfl

theorem look_take (k k0 : Int × Int) (j : Nat) : ∀ {V : View}, (keysV V).Nodup → (∀ x ∈ V, x.2 ≠ []) → lookV k (takeV k0 j V) = if k = k0 then (lookV k V).eraseIdx j else lookV k V
  | [], _, _ => by simp [takeV, lookV]
  | y :: V, hn, hf => by
    simp only [keysV, List.map_cons, List.nodup_cons] at hn
    have ih := look_take k k0 j (V := V) hn.2 (fun x hx => hf x (List.mem_cons_of_mem _ hx))
    have hy0 := hf y (List.mem_cons_self ..)
    have hsplit : takeV k0 j (y :: V) = if ((if y.1 = k0 then (y.1, y.2.eraseIdx j) else y) : (Int × Int) × List Msg).2 = [] then takeV k0 j V else (if y.1 = k0 then (y.1, y.2.eraseIdx j) else y) :: takeV k0 j V := by
      unfold takeV
      rw [List.map_cons]
      generalize (if y.1 = k0 then (y.1, y.2.eraseIdx j) else y : (Int × Int) × List Msg) = z
      rw [List.filter_cons]
      cases hz : z.2 with
      | nil => simp
      | cons a b => simp
    rw [hsplit, lookV_cons]
    by_cases hy : y.1 = k0
    · rw [if_pos hy]
      by_cases hk : k = k0
      · rw [if_pos hk] at ih
        rw [if_pos hk, if_pos (hk.trans hy.symm)]
        by_cases he : y.2.eraseIdx j = []
        · rw [if_pos he, ih, he]
          have : k ∉ keysV V := by rw [hk, ← hy]; exact hn.1
          rw [look_none this]; rfl
        · rw [if_neg he, lookV_cons, if_pos (hk.trans hy.symm)]
      · rw [if_neg hk] at ih
        have hky : ¬ k = y.1 := fun e => hk (e.trans hy)
        rw [if_neg hk, if_neg hky]
        by_cases he : y.2.eraseIdx j = []
        · rw [if_pos he, ih]
        · rw [if_neg he, lookV_cons, if_neg hky, ih]
    · rw [if_neg hy, if_neg hy0, lookV_cons]
      by_cases hk : k = y.1
      · rw [if_pos hk, if_pos hk, if_neg (fun e => hy (hk.symm.trans e))]
      · rw [if_neg hk, if_neg hk, ih]

theorem look_clear (k : Int × Int) (x : Int) : ∀ V : View, lookV k (clearV x V) = if offK x k = true then lookV k V else []
  | [] => by simp [clearV, lookV]
  | y :: V => by
    have ih := look_clear k x V
    unfold clearV at ih ⊢
    rw [List.filter_cons]
    by_cases hy : offK x y.1 = true
    · rw [if_pos hy, lookV_cons, lookV_cons, ih]
      by_cases hk : k = y.1
      · rw [if_pos hk, if_pos hk, if_pos (by rw [hk]; exact hy)]
      · rw [if_neg hk, if_neg hk]
    · rw [if_neg hy, lookV_cons, ih]
      by_cases hk : k = y.1
      · have : ¬ offK x k = true := by rw [hk]; exact hy
        rw [if_neg this, if_neg this]
      · rw [if_neg hk]

theorem ofL_split {L : List RM} {i : Nat} {m : RM} (h : L[i]? = some m) : L = L.take i ++ m :: L.drop (i + 1) := by
  obtain ⟨hi, rfl⟩ := List.getElem?_eq_some_iff.1 h
  rw [List.getElem_cons_drop, List.take_append_drop]

theorem ofL_app (k : Int × Int) (A C : List RM) : ofL k (A ++ C) = ofL k A ++ ofL k C := by unfold ofL; rw [List.filter_append]
theorem ofL_cons_yes {m : RM} {k : Int × Int} (h1 : m.frm = k.1) (h2 : m.to = k.2) (C : List RM) : ofL k (m :: C) = m :: ofL k C := by
  unfold ofL; rw [List.filter_cons, if_pos (by simp [h1, h2])]
theorem ofL_cons_no {m : RM} {k : Int × Int} (h : ¬ (m.frm = k.1 ∧ m.to = k.2)) (C : List RM) : ofL k (m :: C) = ofL k C := by
  unfold ofL; rw [List.filter_cons, if_neg (by simpa using h)]

theorem ofL_at {L : List RM} {i : Nat} {m : RM} {k : Int × Int} (h : L[i]? = some m) (h1 : m.frm = k.1) (h2 : m.to = k.2) : (ofL k L)[(ofL k (L.take i)).length]? = some m := by
  have e2 : ofL k L = ofL k (L.take i) ++ m :: ofL k (L.drop (i + 1)) := by
    conv => lhs; rw [ofL_split h]
    rw [ofL_app, ofL_cons_yes h1 h2]
  rw [e2]
  simp

theorem erase_mid {α : Type} (A C : List α) (m : α) : (A ++ m :: C).eraseIdx A.length = A ++ C := by
  rw [List.eraseIdx_append_of_length_le (Nat.le_refl _)]; simp

theorem ofL_erase {L : List RM} {i : Nat} {m : RM} (h : L[i]? = some m) (k : Int × Int) : ofL k (L.eraseIdx i) = if m.frm = k.1 ∧ m.to = k.2 then (ofL k L).eraseIdx (ofL k (L.take i)).length else ofL k L := by
  have e1 : L.eraseIdx i = L.take i ++ L.drop (i + 1) := List.eraseIdx_eq_take_drop_succ ..
  rw [e1, ofL_app]
  by_cases hk : m.frm = k.1 ∧ m.to = k.2
  · rw [if_pos hk]
    have e2 : ofL k L = ofL k (L.take i) ++ m :: ofL k (L.drop (i + 1)) := by
      conv => lhs; rw [ofL_split h]
      rw [ofL_app, ofL_cons_yes hk.1 hk.2]
    rw [e2, erase_mid]
  · rw [if_neg hk]
    conv => rhs; rw [ofL_split h]
    rw [ofL_app, ofL_cons_no hk]

theorem ofL_off (k : Int × Int) (x : Int) (L : List RM) : ofL k (offL x L) = if offK x k = true then ofL k L else [] := by
  unfold ofL offL
  rw [List.filter_filter]
  by_cases hk : offK x k = true
  · rw [if_pos hk]
    apply List.filter_congr
    intro m _
    simp only [offK, Bool.and_eq_true, Bool.not_eq_true', decide_eq_false_iff_not] at hk
    by_cases h1 : m.frm = k.1
    · by_cases h2 : m.to = k.2
      · simp [h1, h2, hk.1, hk.2]
      · simp [h2]
    · simp [h1]
  · rw [if_neg hk]
    refine List.filter_eq_nil_iff.2 fun m _ hm => ?_
    simp only [Bool.and_eq_true, decide_eq_true_eq, Bool.not_eq_true', decide_eq_false_iff_not] at hm
    apply hk
    simp only [offK, Bool.and_eq_true, Bool.not_eq_true', decide_eq_false_iff_not]
    rw [← hm.1.1, ← hm.1.2]; exact hm.2

/-- One message more on both sides. -/
theorem Cpl.push {nodes bound : Int} {V : View} {L : List RM} (h : Cpl nodes bound V L) {f k : Int} (v mv : Value) {l : List UInt8} (hl : l.length ≤ 1000) (hok : okR nodes bound L f k) : Cpl nodes bound (pushV (f, k) ⟨v, l⟩ V) (L ++ [⟨f, k, mv, l⟩]) := by
  have hof : ∀ a, ofL a (L ++ [(⟨f, k, mv, l⟩ : RM)]) = if a = (f, k) then ofL a L ++ [⟨f, k, mv, l⟩] else ofL a L := fun a => by
    rw [ofL_snoc]
    by_cases ha : a = (f, k)
    · subst ha; simp
    · rw [if_neg ha, if_neg]
      simp only [Bool.and_eq_true, decide_eq_true_eq]
      intro hh
      exact ha (Prod.ext hh.1.symm hh.2.symm)
  refine ⟨nodup_push h.keys _ _, h.full.push _ hl, fun a => ?_, fun m hm => ?_, fun a => ?_, fun m hm => ?_⟩
  · rw [look_push, hof]
    by_cases ha : a = (f, k)
    · rw [if_pos ha, if_pos ha, List.map_append, List.map_append, h.look]; rfl
    · rw [if_neg ha, if_neg ha, h.look]
  · rcases List.mem_append.1 hm with h1 | h1
    · exact h.rng m h1
    · have : m = ⟨f, k, mv, l⟩ := by simpa using h1
      subst this
      exact ⟨⟨hok.1, hok.2.1⟩, hok.2.2.1, hok.2.2.2.1⟩
  · rw [hof]
    by_cases ha : a = (f, k)
    · rw [if_pos ha, ha]
      have := hok.2.2.2.2
      simp; omega
    · rw [if_neg ha]; exact h.cap a
  · rcases List.mem_append.1 hm with h1 | h1
    · exact h.byt m h1
    · have : m = ⟨f, k, mv, l⟩ := by simpa using h1
      subst this; exact hl

theorem Cpl.ok {nodes bound : Int} {V : View} {L : List RM} (h : Cpl nodes bound V L) (f k : Int) : okB nodes bound f k V = true ↔ okR nodes bound L f k := by
  unfold okB okR
  rw [h.len (f, k)]
  simp only [Bool.and_eq_true, decide_eq_true_eq]
  constructor
  · rintro ⟨⟨⟨a, b⟩, c, d⟩, e⟩; exact ⟨a, b, c, d, e⟩
  · rintro ⟨a, b, c, d, e⟩; exact ⟨⟨⟨a, b⟩, c, d⟩, e⟩

theorem Cpl.sent {nodes bound f : Int} {l : List UInt8} (hl : l.length ≤ 1000) : ∀ {ks : List Int} {V V' : View} {L L' : List RM} {n n' : Nat} {vs : List Value}, Cpl nodes bound V L → Sent nodes bound f l ks V V' n vs → RSent nodes bound f l ks L L' n' → n = n' ∧ Cpl nodes bound V' L'
  | [], V, V', L, L', n, n', vs, h, hs, hr => by
    obtain ⟨rfl, rfl, rfl⟩ := hs
    obtain ⟨rfl, rfl⟩ := hr
    exact ⟨rfl, h⟩
  | k :: ks, V, V', L, L', n, n', vs, h, hs, hr => by
    rcases hs with ⟨h1, v, n1, vs1, rfl, rfl, hs⟩ | ⟨h1, hs⟩
    · have hok := (h.ok f k).1 h1
      rcases hr with ⟨h2, mv, n2, rfl, hr⟩ | ⟨h2, hr⟩
      · have := Cpl.sent hl (h.push v mv hl hok) hs hr
        exact ⟨by omega, this.2⟩
      · exact absurd hok h2
    · have hno : ¬ okR nodes bound L f k := fun e => by rw [(h.ok f k).2 e] at h1; cases h1
      rcases hr with ⟨h2, mv, n2, rfl, hr⟩ | ⟨h2, hr⟩
      · exact absurd h2 hno
      · exact Cpl.sent hl h hs hr

theorem Cpl.take {nodes bound : Int} {V : View} {L : List RM} (h : Cpl nodes bound V L) {i : Nat} {m : RM} (hm : L[i]? = some m) : Cpl nodes bound (takeV (m.frm, m.to) (ofL (m.frm, m.to) (L.take i)).length V) (L.eraseIdx i) := by
  have hmem : ∀ y ∈ L.eraseIdx i, y ∈ L := fun y hy => List.mem_of_mem_eraseIdx hy
  refine ⟨nodup_take h.keys _ _, h.full.take _ _, fun a => ?_, fun y hy => h.rng y (hmem y hy), fun a => ?_, fun y hy => h.byt y (hmem y hy)⟩
  · rw [look_take _ _ _ h.keys (fun x hx => (h.full x hx).1), ofL_erase hm]
    by_cases ha : a = (m.frm, m.to)
    · subst ha
      rw [if_pos rfl, if_pos ⟨rfl, rfl⟩, ← map_eraseIdx', h.look, map_eraseIdx']
    · rw [if_neg ha, if_neg (fun e => ha (Prod.ext e.1.symm e.2.symm)), h.look]
  · have h1 : (ofL a (L.eraseIdx i)).length ≤ (ofL a L).length := ((List.eraseIdx_sublist L i).filter _).length_le
    have h2 := h.cap a
    omega

theorem Cpl.clear {nodes bound : Int} {V : View} {L : List RM} (h : Cpl nodes bound V L) (x : Int) : Cpl nodes bound (clearV x V) (offL x L) := by
  have hmem : ∀ y ∈ offL x L, y ∈ L := fun y hy => (List.mem_filter.1 hy).1
  refine ⟨h.keys.sublist (List.filter_sublist.map _), fun y hy => h.full y (List.mem_filter.1 hy).1, fun a => ?_, fun y hy => h.rng y (hmem y hy), fun a => ?_, fun y hy => h.byt y (hmem y hy)⟩
  · rw [look_clear, ofL_off]
    split
    · exact h.look a
    · rfl
  · have h1 : (ofL a (offL x L)).length ≤ (ofL a L).length := ((List.filter_sublist (l := L)).filter _).length_le
    have h2 := h.cap a
    omega

theorem sum_oneK {K : List (Int × Int)} {k : Int × Int} (hn : K.Nodup) (hk : k ∈ K) : (K.map fun x => if x = k then 1 else 0).sum = 1 := by
  induction K with
  | nil => cases hk
  | cons x K ih =>
    simp only [List.nodup_cons] at hn
    simp only [List.map_cons, List.sum_cons]
    by_cases hx : x = k
    · have : (K.map fun x => if x = k then 1 else 0).sum = 0 := by
        refine sum_zero fun n hn' => ?_
        obtain ⟨y, hy, rfl⟩ := List.mem_map.1 hn'
        rw [if_neg]
        intro e
        exact hn.1 (by rw [hx, ← e]; exact hy)
      rw [if_pos hx, this]
    · rw [if_neg hx, ih hn.2]
      rcases List.mem_cons.1 hk with h | h
      · exact absurd h.symm hx
      · exact h

theorem len_sum {K : List (Int × Int)} (hn : K.Nodup) : ∀ {L : List RM}, (∀ m ∈ L, (m.frm, m.to) ∈ K) → (K.map fun k => (ofL k L).length).sum = L.length
  | [], _ => by refine sum_zero fun n hn' => ?_; obtain ⟨y, _, rfl⟩ := List.mem_map.1 hn'; rfl
  | m :: L, h => by
    have ih := len_sum hn (L := L) (fun y hy => h y (List.mem_cons_of_mem _ hy))
    rw [List.length_cons, ← ih, ← sum_oneK hn (h m (List.mem_cons_self ..)), ← sum_map_add]
    congr 1
    apply List.map_congr_left
    intro k _
    by_cases hk : k = (m.frm, m.to)
    · subst hk; rw [if_pos rfl, ofL_cons_yes rfl rfl]; rfl
    · rw [if_neg hk, ofL_cons_no (fun e => hk (Prod.ext e.1.symm e.2.symm))]; rfl

theorem Cpl.mem {nodes bound : Int} {V : View} {L : List RM} (h : Cpl nodes bound V L) {k : Int × Int} (hk : (ofL k L).length ≠ 0) : k ∈ keysV V := by
  by_cases hm : k ∈ keysV V
  · exact hm
  · exfalso
    have := h.len k
    rw [look_none hm] at this
    exact hk this.symm

theorem Cpl.tot {nodes bound : Int} {V : View} {L : List RM} (h : Cpl nodes bound V L) : totV V = L.length := by
  rw [← len_sum h.keys (L := L) (fun m hm => h.mem ?_)]
  · unfold totV keysV
    rw [List.map_map]
    congr 1
    apply List.map_congr_left
    intro x hx
    show _ = (ofL x.1 L).length
    rw [← h.len, look_of_mem h.keys hx]
  · intro e
    have : m ∈ ofL (m.frm, m.to) L := List.mem_filter.2 ⟨hm, by simp⟩
    rw [List.eq_nil_of_length_eq_zero e] at this
    cases this
end Go.Proofs.Ytbanfilgokideaa

/- Generic lemmas, over any program: maps as lists of entries, with keys that can be compared without asking. -/
import Derived.WalkKit
import Derived.WalkSpells
import Derived.WalkLawsBesides
import Derived.Deep.AppendSrc
import Derived.Deep.Draws
import Derived.OrdersHeld
import Derived.Deep.AppendLies
import Derived.Maps.RangeRun
namespace Go.Gl
open Go.RowKit

section maps
variable {P : Program} {κ : Type} [DecidableEq κ]

/-- An entry of a map, as plain data: its key, its value, its stamp. -/
structure Ent (κ : Type) where
  key : κ
  val : Value
  born : Nat

def Ent.raw (enc : κ → Value) (e : Ent κ) : MapEntry := { key := enc e.key, val := e.val, born := e.born }

/-- Where the key is, with its value. -/
def findFrom (k : κ) : List (Ent κ) → Nat → Option (Nat × Value)
  | [], _ => none
  | e :: es, i => if k = e.key then some (i, e.val) else findFrom k es (i + 1)

/-- What the laws on maps ask of a key's type and of how keys are written as values. -/
structure KeyOk (P : Program) (kt : TypeId) (enc : κ → Value) : Prop where
  check : ∀ (b : Bool) (k : κ) (w : World), (Instr.checkKey b 10000 kt (enc k)).run P w = .ok () w
  find : ∀ (k : κ) (l : List (Ent κ)) (w : World), (Instr.findKey kt (enc k) (l.map (Ent.raw enc))).run P w = .ok (findFrom k l 0) w
  same : ∀ k : κ, Instr.sameBits 10000 (enc k) (enc k) = true

/-- A map's block, by its entries. -/
def MapAt (w : World) (r : Nat) (enc : κ → Value) (l : List (Ent κ)) (clock : Nat) : Prop :=
  w.heap[r]? = some (.map (l.map (Ent.raw enc)).toArray clock)

/-- The value at a key, or z. -/
def valAt (k : κ) (z : Value) (l : List (Ent κ)) : Value := ((l.find? (fun e => decide (k = e.key))).map Ent.val).getD z

theorem findFrom_none {k : κ} {l : List (Ent κ)} {i : Nat} : findFrom k l i = none ↔ ∀ e ∈ l, k ≠ e.key := by
  induction l generalizing i with
  | nil => simp [findFrom]
  | cons e es ih =>
    unfold findFrom
    by_cases h : k = e.key
    · simp [h]
    · simp [h, ih]

theorem findFrom_some {k : κ} {l : List (Ent κ)} {i j : Nat} {v : Value} (h : findFrom k l i = some (j, v)) :
    i ≤ j ∧ ∃ e, l[j - i]? = some e ∧ e.key = k ∧ e.val = v := by
  induction l generalizing i with
  | nil => simp [findFrom] at h
  | cons e es ih =>
    unfold findFrom at h
    by_cases hk : k = e.key
    · simp only [hk, if_true, Option.some.injEq, Prod.mk.injEq] at h
      obtain ⟨rfl, rfl⟩ := h
      exact ⟨Nat.le_refl _, e, by simp, hk.symm, rfl⟩
    · simp only [hk, if_false] at h
      obtain ⟨h1, e', h2, h3⟩ := ih h
      refine ⟨by omega, e', ?_, h3⟩
      rw [show j - i = (j - (i + 1)) + 1 by omega]
      simpa using h2

theorem findFrom_val (k : κ) (z : Value) (l : List (Ent κ)) (i : Nat) : ((findFrom k l i).map (·.2)).getD z = valAt k z l := by
  induction l generalizing i with
  | nil => simp [findFrom, valAt]
  | cons e es ih =>
    unfold findFrom
    by_cases h : k = e.key
    · simp [h, valAt]
    · simp [h, ih, valAt]

theorem run_getObj_map {w : World} {r : Nat} {es : Array MapEntry} {c : Nat} (h : w.heap[r]? = some (.map es c)) : (getObj r).run P w = .ok (.map es c) w := by
  simp [getObj, Sem.run, h]

theorem run_setObj_map {w : World} {r : Nat} {es : Array MapEntry} {c : Nat} (o : Obj) (h : w.heap[r]? = some (.map es c)) :
    (setObj r o).run P w = .ok () { w with heap := w.heap.setIfInBounds r o } := by
  simp [setObj, Sem.run, h]

theorem run_lookup {w : World} {t kt et : TypeId} {enc : κ → Value} (K : KeyOk P kt enc) (ht : P.underlying t = some (.map kt et)) {z : Value}
    (hz : (zeroValue et).run P w = .ok z w) {r : Nat} {l : List (Ent κ)} {c : Nat} (hm : MapAt w r enc l c) (k : κ) :
    (Instr.lookup t (.map (some r)) (enc k) false).run P w = .ok (valAt k z l) w := by
  rw [← findFrom_val k z l 0]
  cases hf : findFrom k l 0 with
  | none => simp [Instr.lookup, run_underlying ht, run_getObj_map hm, K.check, K.find, hf, hz, Result.andThen]
  | some p => simp [Instr.lookup, run_underlying ht, run_getObj_map hm, K.check, K.find, hf, Result.andThen]

/-- The same world but for one object. -/
def setO (w : World) (r : Nat) (o : Obj) : World := { w with heap := w.heap.setIfInBounds r o }

theorem setO_same {w : World} {r : Nat} {o : Obj} (h : r < w.heap.size) : (setO w r o).heap[r]? = some o := by
  simp [setO, h]
theorem setO_other {w : World} {r b : Nat} {o : Obj} (h : b ≠ r) : (setO w r o).heap[b]? = w.heap[b]? := by
  simp [setO, Array.getElem?_setIfInBounds_ne (Ne.symm h)]

/-- Set the value at a key that is there. -/
def putV (k : κ) (v : Value) (l : List (Ent κ)) : List (Ent κ) := l.map fun e => if k = e.key then { e with val := v } else e

theorem lt_of_getElem? {α : Type} {a : Array α} {i : Nat} {x : α} (h : a[i]? = some x) : i < a.size := by
  rcases Nat.lt_or_ge i a.size with h' | h'
  · exact h'
  · simp [Array.getElem?_eq_none h'] at h

theorem map_eraseIdx' {α β : Type} (f : α → β) (l : List α) (j : Nat) : (l.map f).eraseIdx j = (l.eraseIdx j).map f := by
  simp [List.eraseIdx_eq_take_drop_succ]

theorem nodup_idx {α : Type} {l : List α} (h : l.Nodup) {i j : Nat} {x : α} (hi : l[i]? = some x) (hj : l[j]? = some x) : i = j := by
  obtain ⟨hi', hi''⟩ := List.getElem?_eq_some_iff.1 hi
  obtain ⟨hj', hj''⟩ := List.getElem?_eq_some_iff.1 hj
  exact (List.getElem_inj h).1 (hi''.trans hj''.symm)

omit [DecidableEq κ] in
theorem key_idx {l : List (Ent κ)} (h : (l.map Ent.key).Nodup) {i j : Nat} {x y : Ent κ} (hi : l[i]? = some x) (hj : l[j]? = some y) (hxy : x.key = y.key) : i = j :=
  nodup_idx h (x := x.key) (by simp [hi]) (by simp [hj, hxy])

omit [DecidableEq κ] in
theorem key_mem {l : List (Ent κ)} (h : (l.map Ent.key).Nodup) {x y : Ent κ} (hi : x ∈ l) (hj : y ∈ l) (hxy : x.key = y.key) : x = y := by
  obtain ⟨i, hi⟩ := List.mem_iff_getElem?.1 hi
  obtain ⟨j, hj⟩ := List.mem_iff_getElem?.1 hj
  have := key_idx h hi hj hxy
  subst this
  exact Option.some.inj (hi.symm.trans hj)

theorem modify_putV {k : κ} {v : Value} {enc : κ → Value} {l : List (Ent κ)} (hn : (l.map Ent.key).Nodup) {j : Nat} {e : Ent κ} (hj : l[j]? = some e) (he : e.key = k)
    (f : MapEntry → MapEntry) (hf : f (e.raw enc) = ({ e with val := v } : Ent κ).raw enc) :
    ((l.map (Ent.raw enc)).toArray.modify j f) = ((putV k v l).map (Ent.raw enc)).toArray := by
  apply Array.ext'
  simp only [Array.toList_modify]
  apply List.ext_getElem?
  intro i
  rw [List.getElem?_modify]
  simp only [List.getElem?_map, putV]
  cases hi : l[i]? with
  | none => simp
  | some x =>
    simp only [Option.map_some]
    by_cases hij : j = i
    · subst hij
      have : x = e := Option.some.inj (hi.symm.trans hj)
      subst this
      simp [he, hf]
    · have hx : k ≠ x.key := by
        intro hk
        apply hij
        exact key_idx hn hj hi (he.trans hk)
      simp [hij, hx]


theorem run_mapUpdate_new {w : World} {t kt et : TypeId} {enc : κ → Value} (K : KeyOk P kt enc) (ht : P.underlying t = some (.map kt et))
    {r : Nat} {l : List (Ent κ)} {c : Nat} (hm : MapAt w r enc l c) (k : κ) (v : Value) (hk : ∀ e ∈ l, k ≠ e.key) :
    (Instr.mapUpdate t (.map (some r)) (enc k) v).run P w = .ok () (setO w r (.map ((l ++ [(⟨k, v, c⟩ : Ent κ)]).map (Ent.raw enc)).toArray (c + 1))) := by
  have hf : findFrom k l 0 = none := findFrom_none.2 hk
  simp [Instr.mapUpdate, run_underlying ht, run_getObj_map hm, K.check, K.find, hf, Result.andThen, run_setObj_map _ hm, setO, Ent.raw]

theorem run_mapUpdate_old {w : World} {t kt et : TypeId} {enc : κ → Value} (K : KeyOk P kt enc) (ht : P.underlying t = some (.map kt et))
    {r : Nat} {l : List (Ent κ)} {c : Nat} (hm : MapAt w r enc l c) (hn : (l.map Ent.key).Nodup) (k : κ) (v : Value) (hk : ∃ e ∈ l, k = e.key) :
    (Instr.mapUpdate t (.map (some r)) (enc k) v).run P w = .ok () (setO w r (.map ((putV k v l).map (Ent.raw enc)).toArray c)) := by
  cases hf : findFrom k l 0 with
  | none => obtain ⟨e, he, hke⟩ := hk; exact absurd hke (findFrom_none.1 hf e he)
  | some p =>
    obtain ⟨j, u⟩ := p
    obtain ⟨_, e, he, hek, _⟩ := findFrom_some hf
    simp only [Nat.sub_zero] at he
    have hj : j < l.length := (List.getElem?_eq_some_iff.1 he).1
    have hlj : l[j] = e := (List.getElem?_eq_some_iff.1 he).2
    have hs : Instr.sameBits 10000 (enc k) (enc k) = true := K.same k
    have hmod := modify_putV (v := v) (enc := enc) hn he hek (fun x => { x with key := enc k, val := v }) (by simp [Ent.raw, hek])
    simp [Instr.mapUpdate, run_underlying ht, run_getObj_map hm, K.check, K.find, hf, Result.andThen, Instr.keyThatStays, hj, hlj, Ent.raw, hek, hs, run_setObj_map _ hm, setO]
    have hmod' := congrArg Array.toList hmod
    simp only [Array.toList_modify] at hmod'
    rw [hmod']

theorem run_mapEntry_new {w : World} {t kt et : TypeId} {enc : κ → Value} (K : KeyOk P kt enc) (ht : P.underlying t = some (.map kt et)) {z : Value}
    (hz : (zeroValue et).run P w = .ok z w)
    {r : Nat} {l : List (Ent κ)} {c : Nat} (hm : MapAt w r enc l c) (k : κ) (hk : ∀ e ∈ l, k ≠ e.key) :
    (Instr.mapEntry t (.map (some r)) (enc k)).run P w = .ok (.tuple #[z, .int .i64 c]) (setO w r (.map ((l ++ [(⟨k, z, c⟩ : Ent κ)]).map (Ent.raw enc)).toArray (c + 1))) := by
  have hf : findFrom k l 0 = none := findFrom_none.2 hk
  simp [Instr.mapEntry, run_underlying ht, run_getObj_map hm, K.check, K.find, hf, hz, Result.andThen, run_setObj_map _ hm, setO, Ent.raw, goInt]

theorem run_mapEntry_old {w : World} {t kt et : TypeId} {enc : κ → Value} (K : KeyOk P kt enc) (ht : P.underlying t = some (.map kt et))
    {r : Nat} {l : List (Ent κ)} {c : Nat} (hm : MapAt w r enc l c) (hn : (l.map Ent.key).Nodup) (k : κ) {e : Ent κ} (hk : e ∈ l) (hek : e.key = k) :
    (Instr.mapEntry t (.map (some r)) (enc k)).run P w = .ok (.tuple #[e.val, .int .i64 e.born]) (setO w r (.map (l.map (Ent.raw enc)).toArray c)) := by
  cases hf : findFrom k l 0 with
  | none => exact absurd hek.symm (findFrom_none.1 hf e hk)
  | some p =>
    obtain ⟨j, u⟩ := p
    obtain ⟨_, e', he, hek', hu⟩ := findFrom_some hf
    simp only [Nat.sub_zero] at he
    have hj : j < l.length := (List.getElem?_eq_some_iff.1 he).1
    have hlj : l[j] = e' := (List.getElem?_eq_some_iff.1 he).2
    obtain rfl : e' = e := key_mem hn (List.mem_of_getElem? he) hk (hek'.trans hek.symm)
    have hs : Instr.sameBits 10000 (enc k) (enc k) = true := K.same k
    have hmod := modify_putV (v := e'.val) (enc := enc) hn he hek' (fun x => { x with key := enc k }) (by simp [Ent.raw, hek'])
    have hput : putV k e'.val l = l := by
      unfold putV
      conv => rhs; rw [← List.map_id l]
      apply List.map_congr_left
      intro x hx
      split
      · rename_i hkx
        have : x = e' := key_mem hn hx hk (hkx.symm.trans hek.symm)
        subst this; rfl
      · rfl
    rw [hput] at hmod
    simp [Instr.mapEntry, run_underlying ht, run_getObj_map hm, K.check, K.find, hf, Result.andThen, Instr.keyThatStays, hj, hlj, Ent.raw, hek', hs, run_setObj_map _ hm, setO, hu, goInt]
    have hmod' := congrArg Array.toList hmod
    simp only [Array.toList_modify] at hmod'
    rw [hmod']

theorem run_entryStore {w : World} {t : TypeId} {enc : κ → Value} 
    {r : Nat} {l : List (Ent κ)} {c : Nat} (hm : MapAt w r enc l c) (hn : (l.map Ent.key).Nodup) (hb : (l.map Ent.born).Nodup) (v : Value) {e : Ent κ} (hk : e ∈ l) :
    (Instr.entryStore t (.map (some r)) (.int .i64 e.born) v).run P w = .ok () (setO w r (.map ((putV e.key v l).map (Ent.raw enc)).toArray c)) := by
  obtain ⟨j, hj, hje⟩ := List.mem_iff_getElem.1 hk
  have hfi : ((l.map (Ent.raw enc)).toArray.findIdx? (fun x => ((x.born : Int)) == (e.born : Int))) = some j := by
    rw [List.findIdx?_toArray, List.findIdx?_eq_some_iff_getElem]
    refine ⟨by simpa using hj, by simp [hje, Ent.raw], ?_⟩
    intro i hi
    simp only [List.getElem_map, Ent.raw, Bool.not_eq_true, beq_eq_false_iff_ne, ne_eq]
    intro he
    have hil : i < l.length := by omega
    have : i = j := by
      refine nodup_idx hb (x := e.born) ?_ ?_
      · simp only [List.getElem?_map, List.getElem?_eq_getElem hil, Option.map_some, Option.some.injEq]; omega
      · simp only [List.getElem?_map, List.getElem?_eq_getElem hj, Option.map_some, hje]
    omega
  have hmod := modify_putV (k := e.key) (v := v) (enc := enc) hn (List.getElem?_eq_some_iff.2 ⟨hj, hje⟩) rfl (fun x => { x with val := v }) (by simp [Ent.raw])
  have hmod' := congrArg Array.toList hmod
  simp only [Array.toList_modify] at hmod'
  simp only [List.findIdx?_toArray] at hfi
  simp [Instr.entryStore, run_getObj_map hm, asInt, asIntOf, hfi, Result.andThen, run_setObj_map _ hm, setO, hmod']

theorem run_delete {w : World} {t kt et ty kt' : TypeId} {enc : κ → Value} (K : KeyOk P kt enc) (ht : P.underlying t = some (.map kt et))
    {r : Nat} {l : List (Ent κ)} {c : Nat} (hm : MapAt w r enc l c) (hn : (l.map Ent.key).Nodup) (k : κ) :
    (Builtin.delete_ #[t, kt'] ty #[.map (some r), enc k]).run P w = .ok (.tuple #[]) (setO w r (.map ((l.filter fun e => decide (k ≠ e.key)).map (Ent.raw enc)).toArray c)) := by
  cases hf : findFrom k l 0 with
  | none =>
    have hfl : (l.filter fun e => decide (k ≠ e.key)) = l := List.filter_eq_self.2 fun e he => by simpa using findFrom_none.1 hf e he
    rw [hfl]
    simp [Builtin.delete_, run_underlying ht, run_getObj_map hm, K.check, K.find, hf, Result.andThen, run_setObj_map _ hm, setO]
  | some p =>
    obtain ⟨j, u⟩ := p
    obtain ⟨_, e, he, hek, _⟩ := findFrom_some hf
    simp only [Nat.sub_zero] at he
    have hj : j < l.length := (List.getElem?_eq_some_iff.1 he).1
    have hlj : l[j] = e := (List.getElem?_eq_some_iff.1 he).2
    have hfl : (l.filter fun e => decide (k ≠ e.key)) = l.eraseIdx j := by
      have hsplit : l = l.take j ++ l[j] :: l.drop (j + 1) := by rw [List.getElem_cons_drop, List.take_append_drop]
      rw [List.eraseIdx_eq_take_drop_succ]
      conv => lhs; rw [hsplit]
      rw [List.filter_append, List.filter_cons]
      simp only [hlj, hek, ne_eq, not_true_eq_false, decide_false, Bool.false_eq_true, if_false]
      congr 1
      · apply List.filter_eq_self.2
        intro x hx
        obtain ⟨i, hi, hix⟩ := List.mem_iff_getElem.1 hx
        simp only [List.length_take] at hi
        simp only [decide_eq_true_eq]
        intro hkx
        have hil : i < l.length := by omega
        have : i = j := key_idx hn (x := l[i]) (y := l[j]) (by simp [hil]) (by simp [hj]) (by rw [hlj, hek, hkx, ← hix, List.getElem_take])
        omega
      · apply List.filter_eq_self.2
        intro x hx
        obtain ⟨i, hi, hix⟩ := List.mem_iff_getElem.1 hx
        simp only [List.length_drop] at hi
        simp only [decide_eq_true_eq]
        intro hkx
        have hil : j + 1 + i < l.length := by omega
        have : j + 1 + i = j := key_idx hn (x := l[j + 1 + i]) (y := l[j]) (by simp [hil]) (by simp [hj]) (by rw [hlj, hek, hkx, ← hix, List.getElem_drop])
        omega
    rw [hfl]
    simp [Builtin.delete_, run_underlying ht, run_getObj_map hm, K.check, K.find, hf, Result.andThen, run_setObj_map _ hm, setO, map_eraseIdx']

end maps

section pairs
variable {P : Program} {w : World}
theorem run_equalIn_int (d : Nat) {t : TypeId} {k : IntKind} (ht : P.underlying t = some (.int k)) (a b : Int) :
    (Op.equalIn (d + 1) t (.int k a) (.int k b)).run P w = .ok (a == b) w := by
  simp [Op.equalIn, run_underlying ht]
theorem run_part_int {t : TypeId} {k : IntKind} (ht : P.underlying t = some (.int k)) (cs : Array Value) (i : Nat) (v : Value) (h : cs[i]? = some v) :
    (part t cs i).run P w = .ok v w := by
  simp [part, isAgg, run_underlying ht, h]
theorem run_equalIn_pair (d : Nat) {t : TypeId} {n m : IntKind} {f g : Field} (ht : P.underlying t = some (.struct #[f, g])) (hs : P.stoodInHeld t = false)
   (hf : f.name ≠ "_") (hg : g.name ≠ "_") (hfo : f.offset = 0) (hgo : g.offset = 1) (hi : P.underlying f.type = some (.int n)) (hj : P.underlying g.type = some (.int m)) (a b a' b' : Int) :
    (Op.equalIn (d + 2) t (.agg #[.int n a, .int m b]) (.agg #[.int n a', .int m b'])).run P w = .ok (a == a' && b == b') w := by
  have e1 := fun w => run_equalIn_int (P := P) (w := w) d hi a a'
  have e2 := fun w => run_equalIn_int (P := P) (w := w) d hj b b'
  have p1 := fun w x y => run_part_int (P := P) (w := w) hi #[.int n x, .int m y] 0 _ rfl
  have p2 := fun w x y => run_part_int (P := P) (w := w) hj #[.int n x, .int m y] 1 _ rfl
  rw [Op.equalIn]
  simp [run_underlying ht, hf, hg, hfo, hgo, e1, e2, p1, p2, program]
  simp only [Sem.run, Result.andThen, hs]
  by_cases h1 : a = a' <;> by_cases h2 : b = b' <;> simp [h1, h2]

/-- A pair of numbers as a struct's value. -/
def pairV (k : Int × Int) : Value := .agg #[.int .i64 k.1, .int .i64 k.2]

theorem keyOk_pair {t : TypeId} {f g : Field} (ht : P.underlying t = some (.struct #[f, g])) (hs : P.stoodInHeld t = false)
   (hf : f.name ≠ "_") (hg : g.name ≠ "_") (hfo : f.offset = 0) (hgo : g.offset = 1) (hi : P.underlying f.type = some (.int .i64)) (hj : P.underlying g.type = some (.int .i64))
   (hc : ∀ (b : Bool) (k : Int × Int) (w : World), (Instr.checkKey b 10000 t (pairV k)).run P w = .ok () w) : KeyOk P t pairV where
  check := hc
  same := fun k => by simp [pairV, Instr.sameBits]
  find := fun k l w => by
    have heq : ∀ k k' : Int × Int, (Op.equal t (pairV k) (pairV k')).run P w = .ok (decide (k = k')) w := by
      intro k k'
      have := run_equalIn_pair (P := P) (w := w) 9998 ht hs hf hg hfo hgo hi hj k.1 k.2 k'.1 k'.2
      rw [Op.equal, Op.maxDepth]
      refine Eq.trans this ?_
      congr 1
      rw [Bool.eq_iff_iff]
      simp [Prod.ext_iff]
    have hask : ∀ (l : List (Ent (Int × Int))) (i : Nat), (Instr.findAsking t (pairV k) (l.map (Ent.raw pairV)) i).run P w = .ok (findFrom k l i) w := by
      intro l
      induction l with
      | nil => intro i; simp [Instr.findAsking, findFrom]
      | cons e es ih =>
        intro i
        by_cases h : k = e.key
        · simp [Instr.findAsking, findFrom, Ent.raw, heq, h, Result.andThen]
        · simp [Instr.findAsking, findFrom, Ent.raw, heq, h, Result.andThen]
          simpa [Ent.raw] using ih (i + 1)
    cases l with
    | nil => simp [Instr.findKey, run_underlying ht, Instr.findNow, findFrom, Result.andThen]
    | cons e es =>
      have h1 : Instr.findNow (.struct #[f, g]) (pairV k) ((e :: es).map (Ent.raw pairV)) 0 = none := by
        simp [Instr.findNow, Instr.sameNow, pairV, Ent.raw]
      simp only [Instr.findKey, Sem.run_bind, run_underlying ht, Result.andThen, h1]
      exact hask (e :: es) 0
end pairs

section steps
variable {P : Program} {ops : Array Oper} {rest : List Oper} {o : Oper} {a : Act} {Q : Exit → Act → World → Prop} {w w' : World}

/-- One operation whose run is known. -/
theorem wpList_run {v : Value} (hg : o.guard = none) (hr : (execOp a.eval o).run P w = .ok (.value v) w')
    (h : wpList P ops Q rest (a.put o.dst v) w') : wpList P ops Q (o :: rest) a w :=
  wpList_plain hg fun K hK => by
    unfold Oper.wp
    rw [hr]
    exact hK _ _ h

theorem wpList_skip (hg : o.guard = none) (hr : (execOp a.eval o).run P w = .ok .skip w')
    (h : wpList P ops Q rest (a.put o.dst undef) w') : wpList P ops Q (o :: rest) a w :=
  wpList_plain hg fun K hK => by
    unfold Oper.wp
    rw [hr]
    exact hK _ _ h

theorem execOp_append {s x : Operand} {t tx : TypeId} (hop : o.op = Op.call { callee := Callee.builtin Builtin.append, args := #[s, x], argTypes := #[t, tx] })
    {sv xv v : Value} (hs : a.eval s = sv) (hx : a.eval x = xv) (hr : (Builtin.append_ #[t, tx] o.type #[sv, xv]).run P w = .ok v w') :
    (execOp a.eval o).run P w = .ok (.value v) w' := by
  unfold execOp
  simp [hop, resolve, invoke, hs, hx, builtin, hr]

theorem cells_one {v : Value} (h : v.oneCell' = true) : v.cells = #[v] := by cases v <;> first | rfl | cases h

theorem run_buildSlice1 {t E : TypeId} {z : Value} {bytes : Nat} (ht : P.underlying t = some (.slice E)) (hi : (P.info? E).map (fun i => (i.zero, i.size, i.bytes)) = some (some z, 1, bytes)) (hz : z.oneCell' = true) {v : Value} (hv : v.oneCell' = true) :
    (Instr.buildSlice t 1 #[(0, v)]).run P w = .ok (.slice (some ⟨w.heap.size, 0, none⟩) 1 1) (w.alloc (.cells #[v] E)) := by
  obtain ⟨i0, hi0, hz0, hz1, _⟩ := info_parts hi
  simp [Instr.buildSlice, run_underlying ht, sizeOf, typeInfo, hi0, hz1, zeroValue, hz0, Instr.fill, cells_one hv, cells_one hz, newRow]
  congr 2
  apply Array.ext
  · simp
  · intro i h1 h2
    simp at h1
    simp [h1]

theorem execOp_buildSlice1 {x : Operand} {t E : TypeId} {z v : Value} {bytes : Nat} (hop : o.op = Op.buildSlice t 1 #[(0, x)]) (ht : P.underlying t = some (.slice E)) (hi : (P.info? E).map (fun i => (i.zero, i.size, i.bytes)) = some (some z, 1, bytes)) (hz : z.oneCell' = true)
    (hx : a.eval x = v) (hv : v.oneCell' = true) : (execOp a.eval o).run P w = .ok (.value (.slice (some ⟨w.heap.size, 0, none⟩) 1 1)) (w.alloc (.cells #[v] E)) := by
  unfold execOp
  simp [hop, hx, run_buildSlice1 ht hi hz hv]

theorem wpList_append {s x : Operand} {t tx : TypeId} (hg : o.guard = none) (hop : o.op = Op.call { callee := Callee.builtin Builtin.append, args := #[s, x], argTypes := #[t, tx] })
    {sv xv v : Value} (hs : a.eval s = sv) (hx : a.eval x = xv) (hr : (Builtin.append_ #[t, tx] o.type #[sv, xv]).run P w = .ok v w')
    (h : wpList P ops Q rest (a.put o.dst v) w') : wpList P ops Q (o :: rest) a w :=
  wpList_run hg (execOp_append hop hs hx hr) h
end steps

section bytes
variable {P : Program} {w w' : World}

def bcells (l : List UInt8) : List Value := l.map fun x => .int .u8 x.toNat

/-- The value reads as the bytes l. -/
def Bytes (w : World) (v : Value) (l : List UInt8) : Prop :=
  (v = .slice none 0 0 ∧ l = []) ∨ ∃ (b o c : Nat), v = .slice (some ⟨b, o, none⟩) l.length c ∧ b < w.heap.size ∧ ∀ (i : Nat) (x : UInt8), l[i]? = some x → w.cell? ⟨b, o + i, none⟩ = some (.int .u8 x.toNat)

/-- The block behind a slice. -/
def blk : Value → Option Nat
  | .slice (some a) _ _ => some a.block
  | _ => none

/-- The value reads as the bytes l, and lies at the head of a row of its own kind. -/
def OBytes (E : TypeId) (w : World) (v : Value) (l : List UInt8) : Prop :=
  (v = .slice none 0 0 ∧ l = []) ∨ ∃ (b c : Nat) (arr : Array Value), v = .slice (some ⟨b, 0, none⟩) l.length c ∧ w.heap[b]? = some (.cells arr E (0, 0)) ∧ arr.size = c ∧ ∀ (i : Nat) (x : UInt8), l[i]? = some x → arr[i]? = some (Value.int .u8 x.toNat)

theorem OBytes.bytes {E : TypeId} {v : Value} {l : List UInt8} (h : OBytes E w v l) : Bytes w v l := by
  rcases h with h | ⟨b, c, arr, h1, h2, h3, h4⟩
  · exact .inl h
  · refine .inr ⟨b, 0, c, h1, lt_of_getElem? h2, fun i x hx => ?_⟩
    simp [World.cell?, h2, h4 i x hx]

theorem Bytes.keep {v : Value} {l : List UInt8} (h : Bytes w v l) (hs : w.heap.size ≤ w'.heap.size) (hk : ∀ b, blk v = some b → w'.heap[b]? = w.heap[b]?) : Bytes w' v l := by
  rcases h with h | ⟨b, o, c, h1, h2, h3⟩
  · exact .inl h
  · refine .inr ⟨b, o, c, h1, by omega, fun i x hx => ?_⟩
    rw [← h3 i x hx]
    simp only [World.cell?, hk b (by rw [h1]; rfl)]

theorem OBytes.keep {E : TypeId} {v : Value} {l : List UInt8} (h : OBytes E w v l) (hk : ∀ b, blk v = some b → w'.heap[b]? = w.heap[b]?) : OBytes E w' v l := by
  rcases h with h | ⟨b, c, arr, h1, h2, h3⟩
  · exact .inl h
  · exact .inr ⟨b, c, arr, h1, by rw [hk b (by rw [h1]; rfl), h2], h3⟩

/-- 'string(b)'. -/
theorem run_string {src dst e : TypeId} (hs : P.underlying src = some (.slice e)) (he : P.underlying e = some (.int .u8)) (hd : P.underlying dst = some .string) {v : Value} {l : List UInt8} (h : Bytes w v l) :
    (convert src dst v).run P w = .ok (.string ⟨l.toArray⟩) w := by
  rcases h with ⟨rfl, rfl⟩ | ⟨b, o, c, rfl, h1, h2⟩
  · rw [run_convert_bytes_string w src dst e none 0 0 hs he hd]
    rfl
  · refine run_convert_bytes_back w src dst e ⟨b, o, none⟩ c l hs he hd fun j hj => ?_
    rw [Addr.add_lit]
    exact h2 j l[j] (by simp [hj])

/-- Nothing that was there has turned; new blocks may have come. -/
abbrev Grow (w w' : World) : Prop := Below w.heap.size w w'

theorem Grow.trans {w1 w2 w3 : World} (h : Grow w1 w2) (k : Grow w2 w3) : Grow w1 w3 := Below.trans h (Below.mono k h.size)

theorem Grow.refl (w : World) : Grow w w := Below.refl _ _
theorem Grow.alloc (w : World) (o : Obj) : Grow w (w.alloc o) := (Below.refl _ _).alloc (Nat.le_refl _) o
theorem Grow.drew (w : World) : Grow w w.drew := (Below.refl _ _).drew
theorem Grow.drewN (w : World) (n : Nat) : Grow w (w.drewN n) := ⟨rfl, rfl, rfl, Nat.le_refl _, fun _ _ => rfl⟩
theorem bDrewN {B : Nat} {a w : World} {n : Nat} (h : Below B a w) : Below B a (w.drewN n) := h.trans ⟨rfl, rfl, rfl, Nat.le_refl _, fun _ _ => rfl⟩
theorem Grow.heap {w w' : World} (h : Grow w w') {b : Nat} {o : Obj} (hb : w.heap[b]? = some o) : w'.heap[b]? = some o := by
  rw [h.block b (lt_of_getElem? hb), hb]
theorem Grow.bytes {w w' : World} {v : Value} {l : List UInt8} (h : Grow w w') (hb : Bytes w v l) : Bytes w' v l := by
  refine hb.keep h.size fun b hb' => ?_
  rcases hb with ⟨rfl, _⟩ | ⟨b', o, c, rfl, h2, _⟩
  · cases hb'
  · cases hb'; exact h.block _ h2

theorem Grow.cells {w : World} : ∀ (W : World) (b o : Nat), Below w.heap.size w W → b < w.heap.size → W.cell? ⟨b, o, none⟩ = w.cell? ⟨b, o, none⟩ :=
  fun _ _ _ h hb => h.cell (p := ⟨_, _, none⟩) hb

/-- What a copy of bytes comes to. -/
def Copied (E : TypeId) (w : World) (l : List UInt8) (e : Ending) (w' : World) : Prop :=
  ∃ v', e = .returned v' ∧ OBytes E w' v' l ∧ (∀ b, blk v' = some b → w.heap.size ≤ b) ∧ Grow w w'

theorem getElem?_append_mid {α : Type} (a b : List α) (i : Nat) (x : α) (h : a[i]? = some x) : (a ++ b)[i]? = some x := by
  rw [List.getElem?_append_left (List.getElem?_eq_some_iff.1 h).1, h]

/-- 'append([]byte{}, s...)' of one byte and more. -/
theorem run_append_copy {t E ty : TypeId} (ht : P.underlying t = some (.slice E)) (hi : (P.info? E).map (fun i => (i.zero, i.size, i.bytes)) = some (some (.int .u8 0), 1, 1))
    {b0 b o c : Nat} {l : List UInt8} (hl : 0 < l.length) (hmax : l.length ≤ 140737488355328) (hc : ∀ (i : Nat) (x : UInt8), l[i]? = some x → w.cell? ⟨b, o + i, none⟩ = some (.int .u8 x.toNat)) :
    ∃ cap, l.length ≤ cap ∧ (Builtin.append_ #[t, t] ty #[.slice (some ⟨b0, 0, none⟩) 0 0, .slice (some ⟨b, o, none⟩) l.length c]).run P w =
      .ok (.slice (some ⟨w.heap.size, 0, none⟩) l.length cap) (w.drew.alloc (.cells ((bcells l).toArray ++ Builtin.zeroCells #[.int .u8 0] (cap - l.length)) E)) := by
  obtain ⟨i0, hi0, hz0, hz1, hz2⟩ := info_parts hi
  have hsrc : Src P i0.size t (.slice (some ⟨b, o, none⟩) l.length c) l.length (bcells l) w := by
    refine Src.ofSlice w ht _ _ _ _ (by simp [bcells, hz1]) (fun j u hu => ?_) (fun u hu => ?_)
    · simp only [bcells, List.getElem?_map, Option.map_eq_some_iff] at hu
      obtain ⟨x, hx, rfl⟩ := hu
      rw [Addr.add_lit]
      exact hc j x hx
    · simp only [bcells, List.mem_map] at hu
      obtain ⟨x, _, rfl⟩ := hu
      rfl
  have hold : (Builtin.firstCells i0.size 0 (.slice (some ⟨b0, 0, none⟩) 0 0)).run P w.drew = .ok ([] : List Value).toArray w.drew := by
    simp [Builtin.firstCells, loadCells, loadCellsFrom]
  have hr := run_append_grow_src w t t ty E i0 (.int .u8 0) ht hi0 hz0 (some ⟨b0, 0, none⟩) 0 0 [] hold _ l.length (bcells l) hsrc (by omega) (by omega)
    (by rw [hz2, Nat.zero_add, nextslicecap_zero hl]; omega)
  have hge := grownCap_ge w (0 + l.length) 0 E
  simp only [Nat.zero_add, List.nil_append] at hr hge
  exact ⟨_, hge, hr⟩

/-- 'append([]byte{}, s...)' of no byte. -/
theorem run_append_copy_zero {t E ty : TypeId} (ht : P.underlying t = some (.slice E)) (hi : (P.info? E).map (fun i => (i.zero, i.size, i.bytes)) = some (some (.int .u8 0), 1, 1))
    {b0 : Nat} {x : Value} (hx : x = .slice none 0 0 ∨ ∃ a c, x = .slice (some a) 0 c) :
    (Builtin.append_ #[t, t] ty #[.slice (some ⟨b0, 0, none⟩) 0 0, x]).run P w = .ok (.slice (some ⟨b0, 0, none⟩) 0 0) w := by
  obtain ⟨i0, hi0, hz0, hz1, hz2⟩ := info_parts hi
  have hsrc : Src P i0.size t x 0 [] w := by
    rcases hx with rfl | ⟨a, c, rfl⟩
    · exact Src.ofNil w ht 0
    · exact Src.ofSlice w ht _ _ _ _ (by simp) (fun j u hu => by simp at hu) (fun u hu => by cases hu)
  have hr := run_append_room_src w t t ty E i0 ht hi0 b0 0 0 0 x 0 [] hsrc (by omega) (fun j hj => by simp at hj) (fun j hj => by simp at hj)
  simpa [World.setCells] using hr

theorem oBytes_new {E : TypeId} {l : List UInt8} {cap n : Nat} (hcap : l.length ≤ cap) (hn : w.heap.size = n) :
    OBytes E (w.alloc (.cells ((bcells l).toArray ++ Builtin.zeroCells #[.int .u8 0] (cap - l.length)) E)) (.slice (some ⟨n, 0, none⟩) l.length cap) l := by
  subst hn
  refine .inr ⟨w.heap.size, cap, _, rfl, heap_alloc_new w _, ?_, fun i x hx => ?_⟩
  · simp [size_zeroCells, bcells]; omega
  · have h2 : (bcells l)[i]? = some (.int .u8 x.toNat) := by simp [bcells, hx]
    rw [← Array.getElem?_toList]
    simp only [Array.toList_append]
    exact getElem?_append_mid _ _ _ _ h2
end bytes

section range
variable {P : Program} {κ : Type} {w : World}

/-- The entries that a loop over a map has not met yet. -/
def unmet (seen : Array Nat) (l : List (Ent κ)) : List (Ent κ) := l.filter fun e => !seen.contains e.born

/-- How many entries a loop has not met yet, off the memory. -/
def iterLeft (r it : Nat) (w : World) : Nat :=
  match w.heap[it]?, w.heap[r]? with
  | some (.mapIter _ _ seen _), some (.map es _) => (leftOf es seen).size
  | _, _ => 0

theorem leftOf_raw (enc : κ → Value) (seen : Array Nat) (l : List (Ent κ)) : (leftOf (l.map (Ent.raw enc)).toArray seen).toList = (unmet seen l).map (Ent.raw enc) := by
  unfold leftOf unmet
  rw [Array.toList_filter, List.filter_map]
  rfl

theorem iterLeft_eq {enc : κ → Value} {r it c since c0 : Nat} {seen : Array Nat} {l : List (Ent κ)} (hi : w.heap[it]? = some (.mapIter (some r) since seen c0)) (hm : MapAt w r enc l c) : iterLeft r it w = (unmet seen l).length := by
  unfold iterLeft
  rw [hi, show w.heap[r]? = _ from hm]
  simp only
  rw [← Array.length_toList, leftOf_raw, List.length_map]

/-- One step of a loop over a map. -/
theorem run_next {enc : κ → Value} {r it c since c0 : Nat} {seen : Array Nat} {l : List (Ent κ)} (ty : TypeId) (hi : w.heap[it]? = some (.mapIter (some r) since seen c0)) (hm : MapAt w r enc l c) (hold : ∀ e ∈ l, e.born < since) (hsc : since ≤ c0) (hir : it ≠ r) (hn : (l.map Ent.born).Nodup) :
    (unmet seen l = [] ∧ (Instr.next (.pointer (some ⟨it, 0, none⟩)) false ty).run P w = .ok (.tuple #[.bool false]) w) ∨
    ∃ e w1, e ∈ unmet seen l ∧ (Instr.next (.pointer (some ⟨it, 0, none⟩)) false ty).run P w = .ok (.tuple #[.bool true, enc e.key, e.val]) w1 ∧
      (Instr.entry (.pointer (some ⟨it, 0, none⟩))).run P w1 = .ok (.tuple #[enc e.key, e.val]) w1 ∧
      w1.heap[it]? = some (.mapIter (some r) since (seen.push e.born) c) ∧ w.grownBy w1 (some it) ∧ w1.heap.size = w.heap.size := by
  rcases run_next_at (P := P) w ty it r since c0 seen _ c hi hm (by simpa [Ent.raw] using hold) hsc with ⟨h1, h2⟩ | ⟨e, he, w1, hw1, hrun⟩
  · left
    refine ⟨?_, h2⟩
    have := congrArg List.length (leftOf_raw enc seen l)
    rw [Array.length_toList, h1, List.length_map] at this
    exact List.eq_nil_of_length_eq_zero this.symm
  · right
    rw [leftOf_raw] at he
    obtain ⟨x, hx, rfl⟩ := List.mem_map.1 he
    have hxl : x ∈ l := (List.mem_filter.1 hx).1
    have hlt : it < w1.heap.size := by rcases hw1 with rfl | rfl <;> exact lt_of_getElem? hi
    have hit : (ChangeMaps.setBlock w1 it (.mapIter (some r) since (seen.push (Ent.raw enc x).born) c)).heap[it]? = some (.mapIter (some r) since (seen.push x.born) c) := by
      simp [ChangeMaps.setBlock, hlt, Ent.raw]
    have hoth : ∀ b, b ≠ it → (ChangeMaps.setBlock w1 it (.mapIter (some r) since (seen.push (Ent.raw enc x).born) c)).heap[b]? = w.heap[b]? := by
      intro b hb
      have : w1.heap[b]? = w.heap[b]? := by rcases hw1 with rfl | rfl <;> rfl
      rw [← this]
      simp [ChangeMaps.setBlock, Array.getElem?_setIfInBounds_ne (Ne.symm hb)]
    have hsz : (ChangeMaps.setBlock w1 it (.mapIter (some r) since (seen.push (Ent.raw enc x).born) c)).heap.size = w.heap.size := by
      rcases hw1 with rfl | rfl <;> simp [ChangeMaps.setBlock]
    refine ⟨x, _, hx, hrun, ?_, hit, ⟨?_, ?_, ?_, Nat.le_of_eq hsz.symm, fun b _ hb => hoth b (fun e => hb (by rw [e]))⟩, hsz⟩
    · refine run_entry_at _ it r since seen _ c (Ent.raw enc x) hit ((hoth r (Ne.symm hir)).trans hm) (by simpa using List.mem_map_of_mem hxl) ?_
      simpa [Ent.raw, Function.comp_def] using hn
    · rcases hw1 with rfl | rfl <;> rfl
    · rcases hw1 with rfl | rfl <;> rfl
    · rcases hw1 with rfl | rfl <;> rfl

/-- What is left when one more has been met. -/
theorem unmet_push (seen : Array Nat) (l : List (Ent κ)) (b : Nat) : unmet (seen.push b) l = (unmet seen l).filter fun e => decide (e.born ≠ b) := by
  unfold unmet
  rw [List.filter_filter]
  apply List.filter_congr
  intro e _
  simp only [Array.contains_push, Bool.not_or]
  rw [Bool.and_comm]
  congr 1
  by_cases h : e.born = b
  · simp [h]
  · simp [h]

theorem unmet_nodup {seen : Array Nat} {l : List (Ent κ)} (hn : (l.map Ent.born).Nodup) : ((unmet seen l).map Ent.born).Nodup := hn.sublist (List.filter_sublist.map _)

/-- A sum over what is left, when one more has been met. -/
theorem sum_filter_ne {g : Ent κ → Nat} : ∀ {l : List (Ent κ)} {x : Ent κ}, (l.map Ent.born).Nodup → x ∈ l → ((l.filter fun e => decide (e.born ≠ x.born)).map g).sum + g x = (l.map g).sum
  | [], _, _, h => by cases h
  | y :: l, x, hn, h => by
    simp only [List.map_cons, List.nodup_cons] at hn
    by_cases hyx : y.born = x.born
    · have hxy : x = y := by
        rcases List.mem_cons.1 h with h | h
        · exact h
        · exact absurd (List.mem_map.2 ⟨x, h, hyx.symm⟩) hn.1
      subst hxy
      have : l.filter (fun e => decide (e.born ≠ x.born)) = l := List.filter_eq_self.2 fun e he => by
        simp only [decide_eq_true_eq]
        intro e1; exact hn.1 (List.mem_map.2 ⟨e, he, e1⟩)
      rw [List.filter_cons_of_neg (by simp), this, List.map_cons, List.sum_cons]; omega
    · have hx : x ∈ l := by
        rcases List.mem_cons.1 h with h | h
        · exact absurd (by rw [h]) hyx
        · exact h
      have ih := sum_filter_ne (g := g) hn.2 hx
      rw [List.filter_cons_of_pos (by simpa using hyx)]
      simp only [List.map_cons, List.sum_cons]
      omega
end range

section keep
variable {soft : Obj → Prop} {B : Nat} {w w' w'' : World}

/-- Below B nothing has turned, and no block has but those of a soft kind. -/
structure Keep (soft : Obj → Prop) (B : Nat) (w w' : World) : Prop where
  below : Below B w w'
  hard : ∀ (b : Nat) (o : Obj), w.heap[b]? = some o → ¬ soft o → w'.heap[b]? = some o

theorem Keep.refl (soft : Obj → Prop) (B : Nat) (w : World) : Keep soft B w w := ⟨Below.refl _ _, fun _ _ h _ => h⟩
theorem Keep.trans (h : Keep soft B w w') (k : Keep soft B w' w'') : Keep soft B w w'' :=
  ⟨h.below.trans k.below, fun b o hb ho => k.hard b o (h.hard b o hb ho) ho⟩
theorem Keep.ofGrow (h : Grow w w') (hB : B ≤ w.heap.size) : Keep soft B w w' := ⟨h.mono hB, fun _ _ hb _ => h.heap hb⟩
theorem Keep.size (h : Keep soft B w w') : w.heap.size ≤ w'.heap.size := h.below.size
theorem Keep.setO {r : Nat} {o0 o : Obj} (hr : w.heap[r]? = some o0) (hs : soft o0) (hB : B ≤ r) : Keep soft B w (setO w r o) :=
  ⟨⟨rfl, rfl, rfl, by simp [Gl.setO], fun k hk => setO_other (by omega)⟩, fun b x hb hx => by
    rw [setO_other (fun e => hx (by rw [e, hr] at hb; cases hb; exact hs)), hb]⟩
theorem Keep.grown {row : Option Nat} (h : w.grownBy w' row) (hB : ∀ k, row = some k → B ≤ k) (hBs : B ≤ w.heap.size) (hs : ∀ (k : Nat) (o : Obj), row = some k → w.heap[k]? = some o → soft o) : Keep soft B w w' :=
  ⟨⟨h.os, h.tape, h.output, h.size, fun k hk => h.block k (by omega) (fun e => by have := hB k e.symm; omega)⟩, fun b o hb ho => by
    rw [h.block b (lt_of_getElem? hb) (fun e => ho (hs b o e.symm hb)), hb]⟩
theorem Keep.cell (h : Keep soft B w w') {b i : Nat} {arr : Array Value} {t : TypeId} {f : Nat × Nat} {v : Value} (hb : w.heap[b]? = some (.cells arr t f)) (hs : ¬ soft (.cells arr t f)) (hv : arr[i]? = some v) :
    w'.cell? ⟨b, i, none⟩ = some v := by
  simp [World.cell?, h.hard b _ hb hs, hv]
theorem Keep.setCell (h : Keep soft B w w') {a : Addr} {v : Value} (ha : w.heap.size ≤ a.block) (hB : B ≤ w.heap.size) : Keep soft B w (w'.setCell a v) :=
  ⟨h.below.setCell (by omega) v, fun b o hb ho => by
    rw [Below.heap_setCell _ _ _ _ (by have := lt_of_getElem? hb; omega)]; exact h.hard b o hb ho⟩
/-- A block that stays. -/
def Firm (soft : Obj → Prop) (B : Nat) (w : World) (b : Nat) : Prop := b < B ∨ ∃ o, w.heap[b]? = some o ∧ ¬ soft o
theorem Firm.keep {b : Nat} (hf : Firm soft B w b) (h : Keep soft B w w') : w'.heap[b]? = w.heap[b]? ∧ Firm soft B w' b := by
  rcases hf with hf | ⟨o, h1, h2⟩
  · exact ⟨h.below.block b hf, .inl hf⟩
  · exact ⟨by rw [h.hard b o h1 h2, h1], .inr ⟨o, h.hard b o h1 h2, h2⟩⟩
end keep

section pi
variable {P : Program} {ops : Array Oper} {Q : Exit → Act → World → Prop} {S : World → Prop}

/-- A region that draws its order, walked once: the operations in some order, and of each whether it acts (it is run in the world at hand) or is quiet (it yields one value in every world that meets S). -/
def wpPi (P : Program) (ops : Array Oper) (Q : Exit → Act → World → Prop) (S : World → Prop) : List (Oper × Bool) → Act → World → Prop
  | [], a, w => Q .normal a w
  | (o, false) :: rest, a, w => ∃ v, YieldsIf P ops S o v a ∧ wpPi P ops Q S rest (a.put o.dst v) w
  | (o, true) :: rest, a, w => if Region.wanted o (yielded ops a.tmps) then o.wp P a w (fun a' w' => S w' ∧ wpPi P ops Q S rest a' w') Q else (S w ∧ wpPi P ops Q S rest (a.put o.dst undef) w)

def nth : List Oper → Nat → Oper
  | [], _ => default
  | o :: _, 0 => o
  | _ :: l, n + 1 => nth l n

def arrange (l : List Oper) : List (Nat × Bool) → List (Oper × Bool)
  | [] => []
  | (i, b) :: r => (nth l i, b) :: arrange l r

def checkPi (ops : Array Oper) : List (Nat × Bool) → Array Bool → Bool
  | [], listed => (Region.ready .any ops listed).isEmpty
  | (i, false) :: rest, listed => (Region.ready .any ops listed).contains i && Region.free .any ops listed i && checkPi ops rest (listed.setIfInBounds i true)
  | (i, true) :: rest, listed => decide (Region.ready .any ops listed = [i]) && checkPi ops rest (listed.setIfInBounds i true)

theorem nth_of_lt : ∀ {l : List Oper} {i : Nat}, i < l.length → l[i]? = some (nth l i)
  | [], _, h => by simp at h
  | _ :: _, 0, _ => rfl
  | _ :: l, i + 1, h => by simpa [nth] using nth_of_lt (l := l) (by simpa using h)

theorem ready_lt {ops : Array Oper} {listed : Array Bool} {i : Nat} (h : i ∈ Region.ready .any ops listed) : i < ops.size := by
  simp only [Region.ready, List.mem_filter, List.mem_range] at h
  exact h.1

theorem wpAnyH_of_pi {l : List Oper} (hs : Region.noSelect l.toArray = true) (hQ : ∀ c a d v w, Q (.panic c) (Act.put a d v) w → Q (.panic c) a w) : ∀ (π : List (Nat × Bool)) (listed : Array Bool) (a : Act) (w : World),
    checkPi l.toArray π listed = true → S w → wpPi P l.toArray Q S (arrange l π) a w → wpAnyH P .any l.toArray Q S π.length listed a w
  | [], listed, a, w, hc, hS, h => wpAnyH_done (by simpa [checkPi] using hc) h _
  | (i, false) :: rest, listed, a, w, hc, hS, h => by
    simp only [checkPi, Bool.and_eq_true] at hc
    obtain ⟨v, hy, hr⟩ := h
    have hi := ready_lt (by simpa using hc.1.1)
    exact wpAnyH_take (by simpa using nth_of_lt (l := l) (by simpa using hi)) hs hc.1.2 hc.1.1 (fun c a w => hQ c a _ _ w) hy hS (wpAnyH_of_pi hs hQ rest _ _ _ hc.2 hS hr)
  | (i, true) :: rest, listed, a, w, hc, hS, h => by
    simp only [checkPi, Bool.and_eq_true, decide_eq_true_eq] at hc
    refine wpAnyH_all hc.1 (by simp) fun j hj => ?_
    have hji : j = i := by simpa using hj
    subst hji
    have hi : l.toArray[j]? = some (nth l j) := by
      have := ready_lt (ops := l.toArray) (listed := listed) (i := j) (by rw [hc.1]; simp)
      simpa using nth_of_lt (l := l) (by simpa using this)
    simp only [arrange, wpPi] at h
    unfold wpOp
    simp only [hi]
    split
    · rename_i hw
      rw [if_pos hw] at h
      exact .inl (Oper.wp_mono (fun a' w' h' => ⟨h'.1, wpAnyH_of_pi hs hQ rest _ _ _ hc.2 h'.1 h'.2⟩) h)
    · rename_i hw
      rw [if_neg hw] at h
      exact ⟨h.1, wpAnyH_of_pi hs hQ rest _ _ _ hc.2 h.1 h.2⟩

theorem wp_region_pi {id : Nat} {a : Act} {w : World} {l : List Oper} (S : World → Prop) (π : List (Nat × Bool)) (hm : P.follows .mixedOrders = true)
    (hB : (Region.noSelect l.toArray && checkPi l.toArray π (Array.replicate l.toArray.size false) && decide (π.length = l.toArray.size)) = true)
    (hQ : ∀ c a d v w, Q (.panic c) (Act.put a d v) w → Q (.panic c) a w) (hS : S w.drew) (h : wpPi P l.toArray Q S (arrange l π) a w.drew) : (Code.region id l.toArray true).wp P Q a w := by
  simp only [Bool.and_eq_true, decide_eq_true_eq] at hB
  refine wp_region_held (S := S) hm ?_
  rw [← hB.2]
  exact wpAnyH_of_pi hB.1.1 hQ π _ _ _ (by rw [hB.2]; exact hB.1.2) hS h

theorem wpPi_nil {a : Act} {w : World} (h : Q .normal a w) : wpPi P ops Q S [] a w := h

theorem wpPi_quiet {rest : List (Oper × Bool)} {a : Act} {w : World} {o : Oper} {v : Value} (hw : Region.wanted o (yielded ops a.tmps) = true)
    (hv : ∀ W, S W → (execOp a.eval o).run P W = .ok (.value v) W) (h : wpPi P ops Q S rest (a.put o.dst v) w) : wpPi P ops Q S ((o, false) :: rest) a w :=
  ⟨v, .inl ⟨hw, hv⟩, h⟩

theorem wpPi_off {rest : List (Oper × Bool)} {a : Act} {w : World} {o : Oper} (hw : Region.wanted o (yielded ops a.tmps) = false)
    (h : wpPi P ops Q S rest (a.put o.dst undef) w) : wpPi P ops Q S ((o, false) :: rest) a w :=
  ⟨undef, .inr ⟨hw, rfl⟩, h⟩

theorem wpPi_act {rest : List (Oper × Bool)} {a : Act} {w : World} {o : Oper} (hw : Region.wanted o (yielded ops a.tmps) = true)
    (h : ∀ K : Act → World → Prop, (∀ a w, S w ∧ wpPi P ops Q S rest a w → K a w) → o.wp P a w K Q) : wpPi P ops Q S ((o, true) :: rest) a w := by
  unfold wpPi
  rw [if_pos hw]
  exact h _ (fun _ _ h => h)

theorem wpPi_act_off {rest : List (Oper × Bool)} {a : Act} {w : World} {o : Oper} (hw : Region.wanted o (yielded ops a.tmps) = false) (hS : S w)
    (h : wpPi P ops Q S rest (a.put o.dst undef) w) : wpPi P ops Q S ((o, true) :: rest) a w := by
  unfold wpPi
  rw [if_neg (by simp [hw])]
  exact ⟨hS, h⟩

/-- An acting operation whose run is known. -/
theorem wpPi_run {rest : List (Oper × Bool)} {a : Act} {w w' : World} {o : Oper} {v : Value} (hw : Region.wanted o (yielded ops a.tmps) = true)
    (hr : (execOp a.eval o).run P w = .ok (.value v) w') (hS : S w') (h : wpPi P ops Q S rest (a.put o.dst v) w') : wpPi P ops Q S ((o, true) :: rest) a w :=
  wpPi_act hw fun K hK => by
    unfold Oper.wp
    rw [hr]
    exact hK _ _ ⟨hS, h⟩

theorem wpPi_skip {rest : List (Oper × Bool)} {a : Act} {w w' : World} {o : Oper} (hw : Region.wanted o (yielded ops a.tmps) = true)
    (hr : (execOp a.eval o).run P w = .ok .skip w') (hS : S w') (h : wpPi P ops Q S rest (a.put o.dst undef) w') : wpPi P ops Q S ((o, true) :: rest) a w :=
  wpPi_act hw fun K hK => by
    unfold Oper.wp
    rw [hr]
    exact hK _ _ ⟨hS, h⟩

/-- A call by its contract. -/
theorem wpPi_call {rest : List (Oper × Bool)} {a : Act} {w : World} {o : Oper} {f : FuncId} {args : Array Value} {R : Ending → World → Prop} (hw : Region.wanted o (yielded ops a.tmps) = true)
    (hr : (execOp a.eval o).run P w = .ok (.enter f args) w) (hc : Calls P f args w R)
    (h : ∀ e w', R e w' → ∃ v, e = .returned v ∧ S w' ∧ wpPi P ops Q S rest (a.put o.dst v) w') : wpPi P ops Q S ((o, true) :: rest) a w :=
  wpPi_act hw fun K hK => by
    unfold Oper.wp
    rw [hr]
    refine hc.mono fun e w' he => ?_
    obtain ⟨v, rfl, hS, h'⟩ := h e w' he
    exact hK _ _ ⟨hS, h'⟩
attribute [irreducible] wpPi
end pi
end Go.Gl

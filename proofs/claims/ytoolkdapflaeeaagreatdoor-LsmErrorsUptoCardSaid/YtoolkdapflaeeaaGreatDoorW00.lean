/- Helpers. -/
import Derived.Lib.Hide
import Derived.WalkKit
import Derived.WalkSpells
import Derived.WalkLawsBesides
import Derived.Deep.AppendSrc
import Derived.Deep.Draws
import Derived.OrdersHeld
import Derived.Deep.AppendLies
import Derived.Maps.RangeRun
import Derived.Test.YtoolkdapflaeeaaGreatDoorRows
import Derived.Deep.QuietTactic
import Derived.BigQuiet
import Derived.Laws.Cover1
import Derived.Laws.BitsAllLaws
import Derived.Laws.ShiftsVarLaws
set_option maxRecDepth 100000
set_option maxHeartbeats 16000000
open Go
variable {B B' b bytes c d g i id j k n r : Nat} {D : List Nat} {arr cur : Array Value} {bv pv u v xv z : Value} {e et kt t tx ty : TypeId} {f : Nat × Nat} {l x : List UInt8} {w w' w0 w1 w2 w3 : World} {xs : List Value}
namespace Go.Gl
open Go.RowKit
abbrev ae:= @Lib.hid
abbrev ag:= @And.intro
abbrev ax:= @heap_alloc_new
abbrev aP:= @Below.heap_setCell
abbrev aS:= @IntWalk.i64_in
abbrev aM:= @Nat.le_trans
abbrev aw:= @Nat.le_refl
abbrev cf:= @Nat.lt_of_lt_of_le
abbrev bk:= @Option.some.inj
abbrev aY:= @Nat.zero_le
abbrev cE:= @Obj.cells.inj
abbrev dB:= @List.mem_of_getElem?
abbrev iI:= @List.eq_nil_of_length_eq_zero
abbrev dG:= @List.getElem?_eq_some_iff
abbrev eQ:= @Array.getD_eq_getD_getElem?
abbrev mX:= @List.mem_append_right
abbrev fk:= @List.mem_cons_of_mem
abbrev dR:= @List.mem_cons_self
abbrev cY:= @List.mem_singleton
abbrev aJ:= @List.length_append
abbrev bF:= @List.length_map
abbrev dZ:= @List.getElem?_eq_getElem
abbrev aZ:= @List.mem_map
abbrev bE:= @List.mem_cons
abbrev cg:= @List.map_cons
abbrev cU:= @List.mem_append
abbrev dH:= @List.length_cons
abbrev dD:= @List.map_append
abbrev gO:= @Array.length_toList
abbrev gG:= @List.cons_append
abbrev iJ:= @List.map_congr_left
abbrev mf:= @List.setIfInBounds_toArray
abbrev gZ:= @List.getElem?_map
abbrev ju:= @List.append_assoc
abbrev jd:= @ByteArray.toList_eq
abbrev mh:= @List.drop_eq_getElem_cons
abbrev eX:= @List.map_map
abbrev ij:= @List.take_length
abbrev iK:= @List.length_nil
abbrev iq:= @List.nil_append
abbrev kz:= @List.set_cons_succ
abbrev jw:= @List.mem_append_left
abbrev iL:= @World.ownsRow_nil
abbrev bS:= @Below.refl
abbrev cy:= @Below.alloc
abbrev cj:= @Below.setCell
abbrev cz:= @Below.drew
abbrev sN:= @List.append_of_mem
abbrev sO:= @List.getElem?_append_left
abbrev ur:= @List.getElem?_append_right
theorem bG {w:World} (h:w.heap[b]?=some (.cells arr t (0,0))) (i:Nat):w.frozen? ⟨b,i,none⟩=false:=by simp [World.frozen?,h]
section maps
variable {P:Program} {κ:Type} [DecidableEq κ]
structure aG (κ:Type) where
 key:κ
 val:Value
 born:Nat
def aG.raw (enc:κ→Value) (e:aG κ):MapEntry:={key:=enc e.key,val:=e.val,born:=e.born}
def mi (k:κ):List (aG κ)→Nat→Option (Nat×Value)
 | [],_=>none
 |e::es,i=>if k=e.key then some (i,e.val) else mi k es (i+1)
structure vT (P:Program) (kt:TypeId) (enc:κ→Value):Prop where
 check:∀ (b:Bool) (k:κ) (w:World),(Instr.checkKey b 10000 kt (enc k)).run P w= .ok () w
 find:∀ (k:κ) (l:List (aG κ)) (w:World),(Instr.findKey kt (enc k) (l.map (aG.raw enc))).run P w= .ok (mi k l 0) w
 same:∀ k:κ,Instr.sameBits 10000 (enc k) (enc k)=true
def MapAt (w:World) (r:Nat) (enc:κ→Value) (l:List (aG κ)) (clock:Nat):Prop:=
 w.heap[r]?=some (.map (l.map (aG.raw enc)).toArray clock)
def Ct (k:κ) (z:Value) (l:List (aG κ)):Value:=((l.find? (fun e=>decide (k=e.key))).map aG.val).getD z
theorem TC {k:κ} {l:List (aG κ)}:mi k l i=none↔∀ e∈l,k≠e.key:=by
 induction l generalizing i with
 |nil=>simp [mi]
 |cons e es ih=>
  unfold mi;by_cases h:k=e.key
  ·simp [h]
  ·simp [h,ih]
theorem abB {k:κ} {l:List (aG κ)} (h:mi k l i=some (j,v)):
  i≤j∧∃ e,l[j-i]?=some e∧e.key=k∧e.val=v:=by
 induction l generalizing i with
 |nil=>simp [mi] at h
 |cons e es ih=>
  unfold mi at h;by_cases hk:k=e.key
  ·simp only [hk,if_true,Option.some.injEq,Prod.mk.injEq] at h
   obtain ⟨rfl,rfl⟩:=h;exact ⟨aw _,e,by simp,hk.symm,rfl⟩
  ·simp only [hk,if_false] at h
   obtain ⟨h1,e',h2,h3⟩:=ih h;refine ⟨by omega,e',?_,h3⟩;rw [show j-i=(j-(i+1))+1 by omega];simpa using h2
theorem aqH (k:κ) (z:Value) (l:List (aG κ)) (i:Nat):((mi k l i).map (·.2)).getD z=Ct k z l:=by
 induction l generalizing i with
 |nil=>simp [mi,Ct]
 |cons e es ih=>
  unfold mi;by_cases h:k=e.key
  ·simp [h,Ct]
  ·simp [h,ih,Ct]
theorem run_getObj_map {w:World} {es:Array MapEntry} (h:w.heap[r]?=some (.map es c)):(getObj r).run P w= .ok (.map es c) w:=by
 simp [getObj,Sem.run,h]
theorem run_setObj_map {w:World} {es:Array MapEntry} (o:Obj) (h:w.heap[r]?=some (.map es c)):
  (setObj r o).run P w= .ok () {w with heap:=w.heap.setIfInBounds r o}:=by
 simp [setObj,Sem.run,h]
theorem abC {w:World} {enc:κ→Value} (K:vT P kt enc) (ht:P.underlying t=some (.map kt et))
  (hz:(zeroValue et).run P w= .ok z w) {l:List (aG κ)} (hm:MapAt w r enc l c) (k:κ):
  (Instr.lookup t (.map (some r)) (enc k) false).run P w= .ok (Ct k z l) w:=by
 rw [←aqH k z l 0];cases hf:mi k l 0 with
 |none=>simp [Instr.lookup,run_underlying ht,run_getObj_map hm,K.check,K.find,hf,hz,Result.andThen]
 |some p=>simp [Instr.lookup,run_underlying ht,run_getObj_map hm,K.check,K.find,hf,Result.andThen]
def cV (w:World) (r:Nat) (o:Obj):World:={w with heap:=w.heap.setIfInBounds r o}
theorem xV {w:World} {o:Obj} (h:r<w.heap.size):(cV w r o).heap[r]?=some o:=by
 simp [cV,h]
theorem xW {w:World} {o:Obj} (h:b≠r):(cV w r o).heap[b]?=w.heap[b]?:=by
 simp [cV,Array.getElem?_setIfInBounds_ne (Ne.symm h)]
def mj (k:κ) (v:Value) (l:List (aG κ)):List (aG κ):=l.map fun e=>if k=e.key then {e with val:=v} else e
theorem af {α:Type} {a:Array α} {x:α} (h:a[i]?=some x):i<a.size:=by
 rcases Nat.lt_or_ge i a.size with h'|h'
 ·exact h'
 ·simp [Array.getElem?_eq_none h'] at h
theorem aqI {α β:Type} (f:α→β) (l:List α) (j:Nat):(l.map f).eraseIdx j=(l.eraseIdx j).map f:=by
 simp [List.eraseIdx_eq_take_drop_succ]
theorem aqJ {α:Type} {l:List α} (h:l.Nodup) {x:α} (hi:l[i]?=some x) (hj:l[j]?=some x):i=j:=by
 obtain ⟨hi',aqK⟩:=dG.1 hi;obtain ⟨hj',aqL⟩:=dG.1 hj;exact (List.getElem_inj h).1 (aqK.trans aqL.symm)
omit [DecidableEq κ] in
theorem TD {l:List (aG κ)} (h:(l.map aG.key).Nodup) {i j:Nat} {x y:aG κ} (hi:l[i]?=some x) (hj:l[j]?=some y) (ir:x.key=y.key):i=j:=
 aqJ h (x:=x.key) (by simp [hi]) (by simp [hj,ir])
theorem aqM {k:κ} {enc:κ→Value} {l:List (aG κ)} (hn:(l.map aG.key).Nodup) {e:aG κ} (hj:l[j]?=some e) (he:e.key=k)
  (f:MapEntry→MapEntry) (hf:f (e.raw enc)=({e with val:=v}:aG κ).raw enc):
  ((l.map (aG.raw enc)).toArray.modify j f)=((mj k v l).map (aG.raw enc)).toArray:=by
 apply Array.ext';simp only [Array.toList_modify];apply List.ext_getElem?;intro i;rw [List.getElem?_modify];simp only [gZ,mj];cases hi:l[i]? with
 |none=>simp
 |some x=>
  simp only [Option.map_some];by_cases pG:j=i
  ·subst pG
   have:x=e:=bk (hi.symm.trans hj);subst this;simp [he,hf]
  ·have hx:k≠x.key:=by
    intro hk;apply pG;exact TD hn hj hi (he.trans hk)
   simp [pG,hx]
theorem NU {w:World} {enc:κ→Value} (K:vT P kt enc) (ht:P.underlying t=some (.map kt et)) {l:List (aG κ)} (hm:MapAt w r enc l c) (k:κ) (v:Value) (hk:∀ e∈l,k≠e.key):
  (Instr.mapUpdate t (.map (some r)) (enc k) v).run P w= .ok () (cV w r (.map ((l++ [(⟨k,v,c⟩:aG κ)]).map (aG.raw enc)).toArray (c+1))):=by
 have hf:mi k l 0=none:=TC.2 hk;simp [Instr.mapUpdate,run_underlying ht,run_getObj_map hm,K.check,K.find,hf,Result.andThen,run_setObj_map _ hm,cV,aG.raw]
theorem abD {w:World} {enc:κ→Value} (K:vT P kt enc) (ht:P.underlying t=some (.map kt et)) {l:List (aG κ)} (hm:MapAt w r enc l c) (hn:(l.map aG.key).Nodup) (k:κ) (v:Value) (hk:∃ e∈l,k=e.key):
  (Instr.mapUpdate t (.map (some r)) (enc k) v).run P w= .ok () (cV w r (.map ((mj k v l).map (aG.raw enc)).toArray c)):=by
 cases hf:mi k l 0 with
 |none=>obtain ⟨e,he,uu⟩:=hk;exact absurd uu (TC.1 hf e he)
 |some p=>
  obtain ⟨j,u⟩:=p;obtain ⟨_,e,he,sP,_⟩:=abB hf;simp only [Nat.sub_zero] at he;have hj:j<l.length:=(dG.1 he).1;have Ji:l[j]=e:=(dG.1 he).2;have hs:Instr.sameBits 10000 (enc k) (enc k)=true:=K.same k;have Fu:=aqM (v:=v) (enc:=enc) hn he sP (fun x=>{x with key:=enc k,val:=v}) (by simp [aG.raw,sP]);simp [Instr.mapUpdate,run_underlying ht,run_getObj_map hm,K.check,K.find,hf,Result.andThen,Instr.keyThatStays,hj,Ji,aG.raw,sP,hs,run_setObj_map _ hm,cV];have abE:=congrArg Array.toList Fu;simp only [Array.toList_modify] at abE;rw [abE]
theorem NV {w:World} {kt':TypeId} {enc:κ→Value} (K:vT P kt enc) (ht:P.underlying t=some (.map kt et)) {l:List (aG κ)} (hm:MapAt w r enc l c) (hn:(l.map aG.key).Nodup) (k:κ):
  (Builtin.delete_ #[t,kt'] ty #[.map (some r),enc k]).run P w= .ok (.tuple #[]) (cV w r (.map ((l.filter fun e=>decide (k≠e.key)).map (aG.raw enc)).toArray c)):=by
 cases hf:mi k l 0 with
 |none=>
  have ed:(l.filter fun e=>decide (k≠e.key))=l:=List.filter_eq_self.2 fun e he=>by simpa using TC.1 hf e he
  rw [ed];simp [Builtin.delete_,run_underlying ht,run_getObj_map hm,K.check,K.find,hf,Result.andThen,run_setObj_map _ hm,cV]
 |some p=>
  obtain ⟨j,u⟩:=p;obtain ⟨_,e,he,sP,_⟩:=abB hf;simp only [Nat.sub_zero] at he;have hj:j<l.length:=(dG.1 he).1;have Ji:l[j]=e:=(dG.1 he).2;have ed:(l.filter fun e=>decide (k≠e.key))=l.eraseIdx j:=by
   have aqN:l=l.take j++l[j]::l.drop (j+1):=by rw [List.getElem_cons_drop,List.take_append_drop]
   rw [List.eraseIdx_eq_take_drop_succ]
   conv=>lhs;rw [aqN]
   rw [List.filter_append,List.filter_cons];simp only [Ji,sP,ne_eq,not_true_eq_false,decide_false,Bool.false_eq_true,if_false];congr 1
   ·apply List.filter_eq_self.2
    intro x hx;obtain ⟨i,hi,pH⟩:=List.mem_iff_getElem.1 hx;simp only [List.length_take] at hi;simp only [decide_eq_true_eq];intro uv;have ml:i<l.length:=by omega
    have:i=j:=TD hn (x:=l[i]) (y:=l[j]) (by simp [ml]) (by simp [hj]) (by rw [Ji,sP,uv,←pH,List.getElem_take]);omega
   ·apply List.filter_eq_self.2
    intro x hx;obtain ⟨i,hi,pH⟩:=List.mem_iff_getElem.1 hx;simp only [List.length_drop] at hi;simp only [decide_eq_true_eq];intro uv;have ml:j+1+i<l.length:=by omega
    have:j+1+i=j:=TD hn (x:=l[j+1+i]) (y:=l[j]) (by simp [ml]) (by simp [hj]) (by rw [Ji,sP,uv,←pH,List.getElem_drop]);omega
  rw [ed];simp [Builtin.delete_,run_underlying ht,run_getObj_map hm,K.check,K.find,hf,Result.andThen,run_setObj_map _ hm,cV,aqI]
end maps
section pairs
variable {P:Program} {w:World}
end pairs
section steps
variable {P:Program} {ops:Array Oper} {rest:List Oper} {o:Oper} {a:Act} {Q:Exit→Act→World→Prop} {w w':World}
theorem aqO (hg:o.guard=none) (hr:(execOp a.eval o).run P w= .ok (.value v) w')
  (h:wpList P ops Q rest (a.put o.dst v) w'):wpList P ops Q (o::rest) a w:=
 wpList_plain hg fun K hK=>by
  unfold Oper.wp;rw [hr];exact hK _ _ h
theorem Cu {s x:Operand} (hop:o.op=Op.call {callee:=Callee.builtin Builtin.append,args:=#[s,x],argTypes:=#[t,tx]})
  {sv:Value} (hs:a.eval s=sv) (hx:a.eval x=xv) (hr:(Builtin.append_ #[t,tx] o.type #[sv,xv]).run P w= .ok v w'):
  (execOp a.eval o).run P w= .ok (.value v) w':=by
 unfold execOp;simp [hop,resolve,invoke,hs,hx,builtin,hr]
theorem cells_one (h:v.oneCell'=true):v.cells=#[v]:=by cases v<;>first|rfl|cases h
theorem aqP {E:TypeId} (ht:P.underlying t=some (.slice E)) (hi:(P.info? E).map (fun i=>(i.zero,i.size,i.bytes))=some (some z,1,bytes)) (hz:z.oneCell'=true) (hv:v.oneCell'=true):
  (Instr.buildSlice t 1 #[(0,v)]).run P w= .ok (.slice (some ⟨w.heap.size,0,none⟩) 1 1) (w.alloc (.cells #[v] E)):=by
 obtain ⟨i0,bO,hz0,hz1,_⟩:=info_parts hi;simp [Instr.buildSlice,run_underlying ht,sizeOf,typeInfo,bO,hz1,zeroValue,hz0,Instr.fill,cells_one hv,cells_one hz,newRow];congr 2;apply Array.ext
 ·simp
 ·intro i h1 h2
  simp at h1;simp [h1]
theorem sQ {x:Operand} {E:TypeId} (hop:o.op=Op.buildSlice t 1 #[(0,x)]) (ht:P.underlying t=some (.slice E)) (hi:(P.info? E).map (fun i=>(i.zero,i.size,i.bytes))=some (some z,1,bytes)) (hz:z.oneCell'=true)
  (hx:a.eval x=v) (hv:v.oneCell'=true):(execOp a.eval o).run P w= .ok (.value (.slice (some ⟨w.heap.size,0,none⟩) 1 1)) (w.alloc (.cells #[v] E)):=by
 unfold execOp;simp [hop,hx,aqP ht hi hz hv]
theorem fI {s x:Operand} (hg:o.guard=none) (hop:o.op=Op.call {callee:=Callee.builtin Builtin.append,args:=#[s,x],argTypes:=#[t,tx]})
  {sv:Value} (hs:a.eval s=sv) (hx:a.eval x=xv) (hr:(Builtin.append_ #[t,tx] o.type #[sv,xv]).run P w= .ok v w')
  (h:wpList P ops Q rest (a.put o.dst v) w'):wpList P ops Q (o::rest) a w:=
 aqO hg (Cu hop hs hx hr) h
end steps
section bytes
variable {P:Program} {w w':World}
def dE (l:List UInt8):List Value:=l.map fun x=> .int .u8 x.toNat
def Bytes (w:World) (v:Value) (l:List UInt8):Prop:=
 (v= .slice none 0 0∧l= [])∨∃ (b o c:Nat),v= .slice (some ⟨b,o,none⟩) l.length c∧b<w.heap.size∧∀ (i:Nat) (x:UInt8),l[i]?=some x→w.cell? ⟨b,o+i,none⟩=some (.int .u8 x.toNat)
def blk:Value→Option Nat
 | .slice (some a) _ _=>some a.block
 |_=>none
theorem aqQ {src dst:TypeId} (hs:P.underlying src=some (.slice e)) (he:P.underlying e=some (.int .u8)) (hd:P.underlying dst=some .string) (h:Bytes w v l):
  (convert src dst v).run P w= .ok (.string ⟨l.toArray⟩) w:=by
 rcases h with ⟨rfl,rfl⟩|⟨b,o,c,rfl,h1,h2⟩
 ·rw [run_convert_bytes_string w src dst e none 0 0 hs he hd]
  rfl
 ·refine run_convert_bytes_back w src dst e ⟨b,o,none⟩ c l hs he hd fun j hj=> ?_
  rw [Addr.add_lit];exact h2 j l[j] (by simp [hj])
abbrev Grow (w w':World):Prop:=Below w.heap.size w w'
theorem Grow.trans (h:Grow w1 w2) (k:Grow w2 w3):Grow w1 w3:=Below.trans h (Below.mono k h.size)
theorem Grow.refl (w:World):Grow w w:=bS _ _
theorem Grow.alloc (w:World) (o:Obj):Grow w (w.alloc o):=(bS _ _).alloc (aw _) o
theorem Grow.drew (w:World):Grow w w.drew:=(bS _ _).drew
abbrev aV:= @Grow.refl
abbrev az:= @Grow.drew
abbrev ar:= @Grow.alloc
theorem cA {B:Nat} {a w:World} (h:Below B a w):Below B a (w.drewN n):=h.trans ⟨rfl,rfl,rfl,aw _,fun _ _=>rfl⟩
theorem Grow.heap {w w':World} (h:Grow w w') {o:Obj} (hb:w.heap[b]?=some o):w'.heap[b]?=some o:=by
 rw [h.block b (af hb),hb]
theorem Grow.cells {w:World}:∀ (W:World) (b o:Nat),Below w.heap.size w W→b<w.heap.size→W.cell? ⟨b,o,none⟩=w.cell? ⟨b,o,none⟩:=
 fun _ _ _ h hb=>h.cell (p:=⟨_,_,none⟩) hb
end bytes
section range
variable {P:Program} {κ:Type} {w:World}
def lD (seen:Array Nat) (l:List (aG κ)):List (aG κ):=l.filter fun e=> !seen.contains e.born
def zT (r it:Nat) (w:World):Nat:=
 match w.heap[it]?,w.heap[r]? with
 |some (.mapIter _ _ seen _),some (.map es _)=>(leftOf es seen).size
 |_,_=>0
theorem TE (enc:κ→Value) (seen:Array Nat) (l:List (aG κ)):(leftOf (l.map (aG.raw enc)).toArray seen).toList=(lD seen l).map (aG.raw enc):=by
 unfold leftOf lD;rw [Array.toList_filter,List.filter_map];rfl
theorem NW {enc:κ→Value} {it since c0:Nat} {seen:Array Nat} {l:List (aG κ)} (hi:w.heap[it]?=some (.mapIter (some r) since seen c0)) (hm:MapAt w r enc l c):zT r it w=(lD seen l).length:=by
 unfold zT;rw [hi,show w.heap[r]?=_ from hm];simp only;rw [←gO,TE,bF]
theorem abF {enc:κ→Value} {it since c0:Nat} {seen:Array Nat} {l:List (aG κ)} (ty:TypeId) (hi:w.heap[it]?=some (.mapIter (some r) since seen c0)) (hm:MapAt w r enc l c) (hold:∀ e∈l,e.born<since) (hsc:since≤c0) (hir:it≠r) (hn:(l.map aG.born).Nodup):
  (lD seen l= []∧(Instr.next (.pointer (some ⟨it,0,none⟩)) false ty).run P w= .ok (.tuple #[.bool false]) w)∨
  ∃ e w1,e∈lD seen l∧(Instr.next (.pointer (some ⟨it,0,none⟩)) false ty).run P w= .ok (.tuple #[.bool true,enc e.key,e.val]) w1∧
   (Instr.entry (.pointer (some ⟨it,0,none⟩))).run P w1= .ok (.tuple #[enc e.key,e.val]) w1∧
   w1.heap[it]?=some (.mapIter (some r) since (seen.push e.born) c)∧w.grownBy w1 (some it)∧w1.heap.size=w.heap.size:=by
 rcases run_next_at (P:=P) w ty it r since c0 seen _ c hi hm (by simpa [aG.raw] using hold) hsc with ⟨h1,h2⟩|⟨e,he,w1,cp,hrun⟩
 ·left
  refine ⟨?_,h2⟩;have:=congrArg List.length (TE enc seen l);rw [gO,h1,bF] at this;exact iI this.symm
 ·right
  rw [TE] at he;obtain ⟨x,hx,rfl⟩:=aZ.1 he;have ia:x∈l:=(List.mem_filter.1 hx).1;have hlt:it<w1.heap.size:=by rcases cp with rfl|rfl<;>exact af hi
  have hit:(ChangeMaps.setBlock w1 it (.mapIter (some r) since (seen.push (aG.raw enc x).born) c)).heap[it]?=some (.mapIter (some r) since (seen.push x.born) c):=by
   simp [ChangeMaps.setBlock,hlt,aG.raw]
  have jx:∀ b,b≠it→(ChangeMaps.setBlock w1 it (.mapIter (some r) since (seen.push (aG.raw enc x).born) c)).heap[b]?=w.heap[b]?:=by
   intro b hb;have:w1.heap[b]?=w.heap[b]?:=by rcases cp with rfl|rfl<;>rfl
   rw [←this];simp [ChangeMaps.setBlock,Array.getElem?_setIfInBounds_ne (Ne.symm hb)]
  have hsz:(ChangeMaps.setBlock w1 it (.mapIter (some r) since (seen.push (aG.raw enc x).born) c)).heap.size=w.heap.size:=by
   rcases cp with rfl|rfl<;>simp [ChangeMaps.setBlock]
  refine ⟨x,_,hx,hrun,?_,hit,⟨?_,?_,?_,Nat.le_of_eq hsz.symm,fun b _ hb=>jx b (fun e=>hb (by rw [e]))⟩,hsz⟩
  ·refine run_entry_at _ it r since seen _ c (aG.raw enc x) hit ((jx r (Ne.symm hir)).trans hm) (by simpa using List.mem_map_of_mem ia) ?_
   simpa [aG.raw,Function.comp_def] using hn
  ·rcases cp with rfl|rfl<;>rfl
  ·rcases cp with rfl|rfl<;>rfl
  ·rcases cp with rfl|rfl<;>rfl
theorem NX (seen:Array Nat) (l:List (aG κ)) (b:Nat):lD (seen.push b) l=(lD seen l).filter fun e=>decide (e.born≠b):=by
 unfold lD;rw [List.filter_filter];apply List.filter_congr;intro e _;simp only [Array.contains_push,Bool.not_or];rw [Bool.and_comm];congr 1;by_cases h:e.born=b
 ·simp [h]
 ·simp [h]
theorem abG {seen:Array Nat} {l:List (aG κ)} (hn:(l.map aG.born).Nodup):((lD seen l).map aG.born).Nodup:=hn.sublist (List.filter_sublist.map _)
end range
section keep
variable {soft:Obj→Prop} {B:Nat} {w w' w'':World}
end keep
section pi
variable {P:Program} {ops:Array Oper} {Q:Exit→Act→World→Prop} {S:World→Prop}
def dF (P:Program) (ops:Array Oper) (Q:Exit→Act→World→Prop) (S:World→Prop):List (Oper×Bool)→Act→World→Prop
 | [],a,w=>Q .normal a w
 |(o,false)::rest,a,w=>∃ v,YieldsIf P ops S o v a∧dF P ops Q S rest (a.put o.dst v) w
 |(o,true)::rest,a,w=>if Region.wanted o (yielded ops a.tmps) then o.wp P a w (fun a' w'=>S w'∧dF P ops Q S rest a' w') Q else (S w∧dF P ops Q S rest (a.put o.dst undef) w)
def nth:List Oper→Nat→Oper
 | [],_=>default
 |o::_,0=>o
 |_::l,n+1=>nth l n
def cm (l:List Oper):List (Nat×Bool)→List (Oper×Bool)
 | []=> []
 |(i,b)::r=>(nth l i,b)::cm l r
def ot (ops:Array Oper):List (Nat×Bool)→Array Bool→Bool
 | [],listed=>(Region.ready .any ops listed).isEmpty
 |(i,false)::rest,listed=>(Region.ready .any ops listed).contains i&&Region.free .any ops listed i&&ot ops rest (listed.setIfInBounds i true)
 |(i,true)::rest,listed=>decide (Region.ready .any ops listed= [i])&&ot ops rest (listed.setIfInBounds i true)
theorem uw:∀ {l:List Oper} {i:Nat},i<l.length→l[i]?=some (nth l i)
 | [],_,h=>by simp at h
 |_::_,0,_=>rfl
 |_::l,i+1,h=>by simpa [nth] using uw (l:=l) (by simpa using h)
theorem ux {ops:Array Oper} {listed:Array Bool} (h:i∈Region.ready .any ops listed):i<ops.size:=by
 simp only [Region.ready,List.mem_filter,List.mem_range] at h;exact h.1
theorem Fv {l:List Oper} (hs:Region.noSelect l.toArray=true) (hQ:∀ c a d v w,Q (.panic c) (Act.put a d v) w→Q (.panic c) a w):∀ (π:List (Nat×Bool)) (listed:Array Bool) (a:Act) (w:World),
  ot l.toArray π listed=true→S w→dF P l.toArray Q S (cm l π) a w→wpAnyH P .any l.toArray Q S π.length listed a w
 | [],listed,a,w,hc,hS,h=>wpAnyH_done (by simpa [ot] using hc) h _
 |(i,false)::rest,listed,a,w,hc,hS,h=>by
  simp only [ot,Bool.and_eq_true] at hc;obtain ⟨v,hy,hr⟩:=h;have hi:=ux (by simpa using hc.1.1);exact wpAnyH_take (by simpa using uw (l:=l) (by simpa using hi)) hs hc.1.2 hc.1.1 (fun c a w=>hQ c a _ _ w) hy hS (Fv hs hQ rest _ _ _ hc.2 hS hr)
 |(i,true)::rest,listed,a,w,hc,hS,h=>by
  simp only [ot,Bool.and_eq_true,decide_eq_true_eq] at hc;refine wpAnyH_all hc.1 (by simp) fun j hj=> ?_
  have iu:j=i:=by simpa using hj
  subst iu;have hi:l.toArray[j]?=some (nth l j):=by
   have:=ux (ops:=l.toArray) (listed:=listed) (i:=j) (by rw [hc.1];simp);simpa using uw (l:=l) (by simpa using this)
  simp only [cm,dF] at h;unfold wpOp;simp only [hi];split
  ·rename_i hw
   rw [if_pos hw] at h;exact .inl (Oper.wp_mono (fun a' w' h'=>⟨h'.1,Fv hs hQ rest _ _ _ hc.2 h'.1 h'.2⟩) h)
  ·rename_i hw
   rw [if_neg hw] at h;exact ⟨h.1,Fv hs hQ rest _ _ _ hc.2 h.1 h.2⟩
theorem bK {Q:Exit→Act→World→Prop} (h:∀ c a k v w,Q (.panic c) (Act.put a (some k) v) w→Q (.panic c) a w):∀ c a d v w,Q (.panic c) (Act.put a d v) w→Q (.panic c) a w:=fun c a d v w h'=>by cases d with|none=>exact h'|some k=>exact h c a k v w h'
theorem ou {a:Act} {w:World} {l:List Oper} (S:World→Prop) (π:List (Nat×Bool)) (hm:P.follows .mixedOrders=true)
  (hB:(Region.noSelect l.toArray&&ot l.toArray π (Array.replicate l.toArray.size false)&&decide (π.length=l.toArray.size))=true)
  (hQ:∀ c a d v w,Q (.panic c) (Act.put a d v) w→Q (.panic c) a w) (hS:S w.drew) (h:dF P l.toArray Q S (cm l π) a w.drew):(Code.region id l.toArray true).wp P Q a w:=by
 simp only [Bool.and_eq_true,decide_eq_true_eq] at hB;refine wp_region_held (S:=S) hm ?_;rw [←hB.2];exact Fv hB.1.1 hQ π _ _ _ (by rw [hB.2];exact hB.1.2) hS h
def cF:List Oper→List Nat→List (Oper×Bool)
 | [],_=> []
 |o::l,[]=>(o,false)::cF l []
 |o::l,0::g=>(o,true)::cF l g
 |o::l,(n+1)::g=>(o,false)::cF l (n::g)
def pI:Nat→Nat→List Nat→List (Nat×Bool)
 |_,0,_=> []
 |i,n+1,[]=>(i,false)::pI (i+1) n []
 |i,n+1,0::g=>(i,true)::pI (i+1) n g
 |i,n+1,(m+1)::g=>(i,false)::pI (i+1) n (m::g)
theorem NY:∀ (n i:Nat) (g:List Nat),(pI i n g).length=n
 |0,_,_=>by simp [pI]
 |n+1,i,[]=>by simp [pI,NY n]
 |n+1,i,0::g=>by simp [pI,NY n]
 |n+1,i,(m+1)::g=>by simp [pI,NY n]
theorem NZ:∀ (pre:List Oper) (o:Oper) (l:List Oper),nth (pre++o::l) pre.length=o
 | [],_,_=>rfl
 |_::pre,o,l=>NZ pre o l
theorem abH:∀ (l pre:List Oper) (g:List Nat),cm (pre++l) (pI pre.length l.length g)=cF l g
 | [],pre,g=>by cases g<;>rfl
 |o::l,pre,g=>by
  have ih:=fun g=>abH l (pre++ [o]) g
  have e:(pre++ [o])++l=pre++o::l:=by simp
  have e2:(pre++ [o]).length=pre.length+1:=by simp
  rw [e,e2] at ih
  match g with
  | []=>simp only [dH,pI,cm,cF,NZ,ih]
  |0::g=>simp only [dH,pI,cm,cF,NZ,ih]
  |(n+1)::g=>simp only [dH,pI,cm,cF,NZ,ih]
theorem dz {a:Act} {w:World} {l:List Oper} (S:World→Prop) (g:List Nat)
  (hB:(P.follows .mixedOrders&&(Region.noSelect l.toArray&&ot l.toArray (pI 0 l.length g) (Array.replicate l.toArray.size false)))=true)
  (hQ:∀ c a d v w,Q (.panic c) (Act.put a d v) w→Q (.panic c) a w) (hS:S w.drew) (h:dF P l.toArray Q S (cF l g) a w.drew):(Code.region id l.toArray true).wp P Q a w:=by
 simp only [Bool.and_eq_true] at hB;refine ou S (pI 0 l.length g) hB.1 (by simp only [Bool.and_eq_true,decide_eq_true_eq];exact ⟨hB.2,by simp [NY]⟩) hQ hS ?_;rw [show cm l (pI 0 l.length g)=cF l g from abH l [] g];exact h
theorem ai {l:List Value} {ds:List Deferred}:Act.put ⟨l.toArray,ds⟩ (some d) v=⟨(l.set d v).toArray,ds⟩:=by simp [Act.put]
theorem aC {a:Act}:a.put none v=a:=rfl
theorem bj {a:Act} {w:World} (h:Q .normal a w):dF P ops Q S [] a w:=h
theorem aA {rest:List (Oper×Bool)} {a:Act} {w:World} {o:Oper} (hw:Region.wanted o (yielded ops a.tmps)=true)
  (hv:∀ W,S W→(execOp a.eval o).run P W= .ok (.value v) W) (h:dF P ops Q S rest (a.put o.dst v) w):dF P ops Q S ((o,false)::rest) a w:=
 ⟨v,.inl ⟨hw,hv⟩,h⟩
theorem aB {rest:List (Oper×Bool)} {a:Act} {w:World} {o:Oper} (hw:Region.wanted o (yielded ops a.tmps)=false)
  (h:dF P ops Q S rest (a.put o.dst undef) w):dF P ops Q S ((o,false)::rest) a w:=
 ⟨undef,.inr ⟨hw,rfl⟩,h⟩
theorem fO {rest:List (Oper×Bool)} {a:Act} {w:World} {o:Oper} (hw:Region.wanted o (yielded ops a.tmps)=true)
  (h:∀ K:Act→World→Prop,(∀ a w,S w∧dF P ops Q S rest a w→K a w)→o.wp P a w K Q):dF P ops Q S ((o,true)::rest) a w:=by
 unfold dF;rw [if_pos hw];exact h _ (fun _ _ h=>h)
theorem Fw {rest:List (Oper×Bool)} {a:Act} {w:World} {o:Oper} (hw:Region.wanted o (yielded ops a.tmps)=false) (hS:S w)
  (h:dF P ops Q S rest (a.put o.dst undef) w):dF P ops Q S ((o,true)::rest) a w:=by
 unfold dF;rw [if_neg (by simp [hw])];exact ⟨hS,h⟩
theorem sR {rest:List (Oper×Bool)} {a:Act} {w w':World} {o:Oper} (hw:Region.wanted o (yielded ops a.tmps)=true)
  (hr:(execOp a.eval o).run P w= .ok (.value v) w') (hS:S w') (h:dF P ops Q S rest (a.put o.dst v) w'):dF P ops Q S ((o,true)::rest) a w:=
 fO hw fun K hK=>by
  unfold Oper.wp;rw [hr];exact hK _ _ ⟨hS,h⟩
theorem aHu {rest:List (Oper×Bool)} {a:Act} {w w':World} {o:Oper} (hw:Region.wanted o (yielded ops a.tmps)=true)
  (hr:(execOp a.eval o).run P w= .ok .skip w') (hS:S w') (h:dF P ops Q S rest (a.put o.dst undef) w'):dF P ops Q S ((o,true)::rest) a w:=
 fO hw fun K hK=>by
  unfold Oper.wp;rw [hr];exact hK _ _ ⟨hS,h⟩
theorem bp {rest:List (Oper×Bool)} {a:Act} {w:World} {o:Oper} {f:FuncId} {args:Array Value} {R:Ending→World→Prop} (hw:Region.wanted o (yielded ops a.tmps)=true)
  (hr:(execOp a.eval o).run P w= .ok (.enter f args) w) (hc:Calls P f args w R)
  (h:∀ e w',R e w'→∃ v,e= .returned v∧S w'∧dF P ops Q S rest (a.put o.dst v) w'):dF P ops Q S ((o,true)::rest) a w:=
 fO hw fun K hK=>by
  unfold Oper.wp;rw [hr];refine hc.mono fun e w' he=> ?_
  obtain ⟨v,rfl,hS,h'⟩:=h e w' he;exact hK _ _ ⟨hS,h'⟩
attribute [irreducible] dF
end pi
end Go.Gl
namespace Go.Gl
open Go Go.RowKit
section last
variable {P:Program} {ops:Array Oper} {Q:Exit→Act→World→Prop} {S:World→Prop}
def Jj (P:Program) (ops:Array Oper) (Q:Exit→Act→World→Prop) (S:World→Prop) (last:Nat):Nat→Array Bool→Act→World→Prop
 |0,listed,a,w=>Region.ready .any ops listed= []∧Q .normal a w
 |fuel+1,listed,a,w=>
  (Region.ready .any ops listed= []→Q .normal a w)∧
  ∀ i∈Region.ready .any ops listed,wpOp P ops Q i (fun a' w'=>(i≠last→S w')∧Jj P ops Q S last fuel (listed.setIfInBounds i true) a' w') a w
theorem abI {last:Nat}:∀ (fuel:Nat) (listed:Array Bool) (a:Act) (w:World),Jj P ops Q S last fuel listed a w→wpAny P .any ops Q fuel listed a w
 |0,_,_,_,h=>h
 |fuel+1,_,_,_,h=>⟨h.1,fun i hi=>wpOp_mono (fun a' w' h'=>abI fuel _ a' w' h'.2) (h.2 i hi)⟩
def Fx (ops:Array Oper):Nat→Nat→Nat→Bool
 |0,_,_=>false
 |n+1,i,k=>
  match ops[i]? with
  |none=>false
  |some o=>o.after.any fun e=>Region.binds .any e&&(decide (e.on=k)||Fx ops n e.on k)
def xX (ops:Array Oper) (listed:Array Bool):Prop:=
 ∀ (k:Nat) (o:Oper),ops[k]?=some o→listed.getD k false=true→∀ e∈o.after,Region.binds .any e=true→listed.getD e.on false=true
theorem xX.list {listed:Array Bool} (h:xX ops listed) (hi:i∈Region.ready .any ops listed):xX ops (listed.setIfInBounds i true):=by
 intro k o hk hl e he hb;have up:∀ j,listed.getD j false=true→(listed.setIfInBounds i true).getD j false=true:=fun j hj=>by
  by_cases pG:i=j
  ·subst pG
   have:i<listed.size:=by
    rcases Nat.lt_or_ge i listed.size with h'|h'
    ·exact h'
    ·simp [Array.getElem?_eq_none h'] at hj
   simp [this]
  ·rw [getD_set_ne false pG];exact hj
 by_cases hik:i=k
 ·subst hik
  obtain ⟨_,o',eA,hall⟩:=mem_ready.1 hi;rw [hk] at eA;cases eA;exact up _ (hall e he hb)
 ·rw [getD_set_ne false hik] at hl
  exact up _ (h k o hk hl e he hb)
theorem TF {listed:Array Bool} (h:xX ops listed):∀ (n i k:Nat),Fx ops n i k=true→(∀ o,ops[i]?=some o→∀ e∈o.after,Region.binds .any e=true→listed.getD e.on false=true)→listed.getD k false=true
 |0,_,_,hw,_=>by simp [Fx] at hw
 |n+1,i,k,hw,hd=>by
  unfold Fx at hw;cases ho:ops[i]? with
  |none=>simp [ho] at hw
  |some o=>
   simp only [ho,Array.any_eq_true',Bool.and_eq_true,Bool.or_eq_true,decide_eq_true_eq] at hw;obtain ⟨e,he,hb,hk⟩:=hw;have h1:=hd o ho e he hb;rcases hk with hk|hk
   ·rw [←hk];exact h1
   ·exact TF h n e.on k hk fun o' eA e' uy hb'=>h e.on o' eA h1 e' uy hb'
def Jk (ops:Array Oper) (last:Nat):Bool:=(List.range ops.size).all fun k=>decide (k=last)||Fx ops 3 last k
theorem aqS {last:Nat} (h:Jk ops last=true) {listed:Array Bool} (aQ:xX ops listed) (hr:last∈Region.ready .any ops listed) (hi:i∈Region.ready .any ops listed):i=last:=by
 obtain ⟨h1,o,ho,hall⟩:=mem_ready.1 hr;obtain ⟨g1,oi,hoi,_⟩:=mem_ready.1 hi;unfold Jk at h;simp only [List.all_eq_true,List.mem_range] at h;have hlt:i<ops.size:=by
  rcases Nat.lt_or_ge i ops.size with h2|h2
  ·exact h2
  ·rw [Array.getElem?_eq_none h2] at hoi;cases hoi
 have h2:=h i hlt;simp only [Bool.or_eq_true,decide_eq_true_eq] at h2;rcases h2 with h2|h2
 ·exact h2
 ·have h3:=TF aQ 3 last i h2 (fun o' eA=>by rw [ho] at eA;cases eA;exact hall)
  rcases Nat.lt_or_ge i listed.size with h'|h'
  ·simp [h'] at g1 h3;rw [g1] at h3;cases h3
  ·simp [Array.getElem?_eq_none h'] at h3
theorem aqT {last:Nat} {oi:Oper} (nM:Jk ops last=true) (ml:i≠last) (hi:ops[i]?=some oi) (abJ:∀ (j:Nat) (o:Oper) cs b,ops[j]?=some o→o.op≠ .select cs b)
  (hQ:∀ c a w,Q (.panic c) (a.put oi.dst v) w→Q (.panic c) a w):
  ∀ (fuel:Nat) (listed:Array Bool) (a:Act) (w:World),xX ops listed→
   (∀ j oj,ops[j]?=some oj→j≠i→listed.getD j true=false→(∀ e∈oj.after,Region.binds .any e=true→e.on≠i)→oi.apart ops oj=true)→
   i∈Region.ready .any ops listed→YieldsIf P ops S oi v a→S w→
   Jj P ops Q S last fuel (listed.setIfInBounds i true) (a.put oi.dst v) w→Jj P ops Q S last (fuel+1) listed a w:=by
 intro fuel
 induction fuel with
 |zero=>
  intro listed a w _ _ hr hy hS H;refine ⟨fun h=>(by rw [h] at hr;cases hr),fun j hj=> ?_⟩;by_cases iu:j=i
  ·subst iu;exact hy.wpOp hi hS ⟨fun _=>hS,H⟩
  ·have:=ready_mono hj iu
   rw [H.1] at this;cases this
 |succ fuel ih=>
  intro listed a w aQ pJ hr hy hS H;refine ⟨fun h=>(by rw [h] at hr;cases hr),fun j hj=> ?_⟩;by_cases iu:j=i
  ·subst iu;exact hy.wpOp hi hS ⟨fun _=>hS,H⟩
  ·have nN:j≠last:=fun e=>ml (by subst e;exact aqS nM aQ hj hr)
   have h1:=H.2 j (ready_mono hj iu);obtain ⟨abK,oj,TG,hall⟩:=mem_ready.1 hj;have TH:∀ e∈oj.after,Region.binds .any e=true→e.on≠i:=fun e he hb heq=>by
    have h1:=hall e he hb;have h0:=(mem_ready.1 hr).1;rw [heq] at h1;rcases Nat.lt_or_ge i listed.size with h'|h'
    ·simp [h'] at h0 h1;rw [h0] at h1;cases h1
    ·simp [Array.getElem?_eq_none h'] at h1
   have h2:=wpOp_putIf TG (pJ j oj TG iu abK TH) (fun cs b=>abJ i oi cs b hi) (fun cs b=>abJ j oj cs b TG) hQ hy h1;have aqU:∀ k ok,ops[k]?=some ok→k≠i→(listed.setIfInBounds j true).getD k true=false→
     (∀ e∈ok.after,Region.binds .any e=true→e.on≠i)→oi.apart ops ok=true:=fun k ok hk xY ak hno=>by
    refine pJ k ok hk xY ?_ hno;by_cases hjk:j=k
    ·subst hjk;exact abK
    ·rw [getD_set_ne true hjk] at ak;exact ak
   refine wpOp_mono (fun a' w' h3=>⟨h3.2.1,ih (listed.setIfInBounds j true) a' w' (aQ.list hj) aqU (ready_mono hr (Ne.symm iu)) h3.1 (h3.2.1 nN) ?_⟩) h2;rw [Array.setIfInBounds_comm _ _ iu];exact h3.2.2
def Cv (P:Program) (ops:Array Oper) (Q:Exit→Act→World→Prop) (o:Oper):Exit→Act→World→Prop
 | .normal,a,w=>if Region.wanted o (yielded ops a.tmps) then o.wp P a w (fun a' w'=>Q .normal a' w') Q else Q .normal (a.put o.dst undef) w
 |e,a,w=>Q e a w
theorem abL {o:Oper} {a:Act}:Cv P ops Q o .normal a w=if Region.wanted o (yielded ops a.tmps) then o.wp P a w (fun a' w'=>Q .normal a' w') Q else Q .normal (a.put o.dst undef) w:=rfl
theorem aqV {o o':Oper} {a:Act} {w:World} {K K':Act→World→Prop} (h:∀ a w,K a w→K' a w) (hh:o.wp P a w K (Cv P ops Q o')):o.wp P a w K' Q:=by
 unfold Oper.wp at*;generalize (execOp a.eval o).run P w=r at*;cases r with
 |ok n w'=>
  cases n<;>simp only [Oper.upon] at hh ⊢
  case value u=>exact h _ _ hh
  case skip=>exact h _ _ hh
  case defer d=>exact h _ _ hh
  case enter f args=>
   refine Calls.mono hh fun e w'' he=> ?_
   cases e with
   |returned u=>exact h _ _ he
   |panicked c=>exact he
   |outgrown=>exact he
  case row row args=>exact Rows.mono hh fun u w'' he=>h _ _ he
 |halt x w'=>
  cases x<;>simp only [Oper.upon] at hh ⊢
  case panic u=>exact hh
def Cw (ops:Array Oper) (last:Nat):List (Nat×Bool)→Array Bool→Bool
 | [],listed=>decide (Region.ready .any ops listed= [last])&&(Region.ready .any ops (listed.setIfInBounds last true)).isEmpty
 |(i,false)::rest,listed=>decide (i≠last)&&(Region.ready .any ops listed).contains i&&Region.free .any ops listed i&&Cw ops last rest (listed.setIfInBounds i true)
 |(i,true)::rest,listed=>decide (i≠last)&&decide (Region.ready .any ops listed= [i])&&Cw ops last rest (listed.setIfInBounds i true)
theorem Oa {l:List Oper} {last:Nat} (nM:Jk l.toArray last=true) (hs:Region.noSelect l.toArray=true) (hQ:∀ c a d v w,Q (.panic c) (Act.put a d v) w→Q (.panic c) a w):∀ (π:List (Nat×Bool)) (listed:Array Bool) (a:Act) (w:World),xX l.toArray listed→
  Cw l.toArray last π listed=true→S w→dF P l.toArray (Cv P l.toArray Q (nth l last)) S (cm l π) a w→Jj P l.toArray Q S last (π.length+1) listed a w
 | [],listed,a,w,aQ,hc,hS,h=>by
  simp only [Cw,Bool.and_eq_true,decide_eq_true_eq] at hc;refine ⟨fun h0=>(by rw [h0] at hc;cases hc.1),fun j hj=> ?_⟩;rw [hc.1] at hj;have iu:j=last:=by simpa using hj
  subst iu;have hi:l.toArray[j]?=some (nth l j):=by
   have:=ux (ops:=l.toArray) (listed:=listed) (i:=j) (by rw [hc.1];simp);simpa using uw (l:=l) (by simpa using this)
  have h':Cv P l.toArray Q (nth l j) .normal a w:=by
   unfold cm dF at h;exact h
  rw [abL] at h';unfold wpOp;simp only [hi];split
  ·rename_i hw
   rw [if_pos hw] at h';exact .inl (Oper.wp_mono (fun a' w' h2=>⟨fun e=>absurd rfl e,by simpa using hc.2,h2⟩) h')
  ·rename_i hw
   rw [if_neg hw] at h';exact ⟨fun e=>absurd rfl e,by simpa using hc.2,h'⟩
 |(i,false)::rest,listed,a,w,aQ,hc,hS,h=>by
  simp only [Cw,Bool.and_eq_true,decide_eq_true_eq] at hc;obtain ⟨v,hy,hr⟩:∃ v,YieldsIf P l.toArray S (nth l i) v a∧dF P l.toArray (Cv P l.toArray Q (nth l last)) S (cm l rest) (a.put (nth l i).dst v) w:=by
   unfold cm dF at h;exact h
  have hi:=ux (by simpa using hc.1.1.2);have hi':l.toArray[i]?=some (nth l i):=by simpa using uw (l:=l) (by simpa using hi)
  exact aqT nM hc.1.1.1 hi' (Region.noSelect_spec hs) (fun c a w=>hQ c a _ _ w) _ listed a w aQ (Region.free_spec hi' hc.1.2) (by simpa using hc.1.1.2) hy hS (Oa nM hs hQ rest _ _ _ (aQ.list (by simpa using hc.1.1.2)) hc.2 hS hr)
 |(i,true)::rest,listed,a,w,aQ,hc,hS,h=>by
  simp only [Cw,Bool.and_eq_true,decide_eq_true_eq] at hc;refine ⟨fun h0=>(by rw [h0] at hc;cases hc.1.2),fun j hj=> ?_⟩;rw [hc.1.2] at hj;have iu:j=i:=by simpa using hj
  subst iu;have hi:l.toArray[j]?=some (nth l j):=by
   have:=ux (ops:=l.toArray) (listed:=listed) (i:=j) (by rw [hc.1.2];simp);simpa using uw (l:=l) (by simpa using this)
  unfold cm dF at h;unfold wpOp;simp only [hi];split
  ·rename_i hw
   rw [if_pos hw] at h;exact .inl (aqV (fun a' w' h'=>⟨fun _=>h'.1,Oa nM hs hQ rest _ _ _ (aQ.list (by rw [hc.1.2];simp)) hc.2 h'.1 h'.2⟩) h)
  ·rename_i hw
   rw [if_neg hw] at h;exact ⟨fun _=>h.1,Oa nM hs hQ rest _ _ _ (aQ.list (by rw [hc.1.2];simp)) hc.2 h.1 h.2⟩
theorem uz {a:Act} {w:World} {l:List Oper} (S:World→Prop) (π:List (Nat×Bool)) (last:Nat) (hm:P.follows .mixedOrders=true)
  (hB:(Jk l.toArray last&&Region.noSelect l.toArray&&Cw l.toArray last π (Array.replicate l.toArray.size false)&&decide (π.length+1=l.toArray.size))=true)
  (hQ:∀ c a d v w,Q (.panic c) (Act.put a d v) w→Q (.panic c) a w) (hS:S w.drew) (h:dF P l.toArray (Cv P l.toArray Q (nth l last)) S (cm l π) a w.drew):(Code.region id l.toArray true).wp P Q a w:=by
 simp only [Bool.and_eq_true,decide_eq_true_eq] at hB;refine wp_region_any hm (abI (S:=S) (last:=last) _ _ _ _ ?_);rw [←hB.2];exact Oa hB.1.1.1 hB.1.1.2 hQ π _ _ _ (fun k o _ hl=>by simp [Array.getD] at hl) (by rw [hB.2];exact hB.1.2) hS h
theorem uA {o:Oper} {a:Act} {w:World} (hw:Region.wanted o (yielded ops a.tmps)=true)
  (h:∀ K:Act→World→Prop,(∀ a w,Q .normal a w→K a w)→o.wp P a w K Q):Cv P ops Q o .normal a w:=by
 rw [abL,if_pos hw];exact h _ (fun _ _ h=>h)
end last
end Go.Gl
namespace Go.Gl
open Go Go.RowKit
section part
variable {P:Program} {ops:Array Oper} {Q:Exit→Act→World→Prop} {S:World→Prop}
theorem xZ {o:Oper} {a:Act} {K:Act→World→Prop} (hi:ops[i]?=some o) (hw:Region.wanted o (yielded ops a.tmps)=true) (hr:(execOp a.eval o).run P w= .ok (.value v) w') (h:K (a.put o.dst v) w'):wpOp P ops Q i K a w:=by
 unfold wpOp;simp only [hi,hw,if_true];refine .inl ?_;unfold Oper.wp;rw [hr];exact h
theorem jE {o:Oper} {a:Act} {f:FuncId} {args:Array Value} {R:Ending→World→Prop} {K:Act→World→Prop} (hi:ops[i]?=some o) (hw:Region.wanted o (yielded ops a.tmps)=true) (hr:(execOp a.eval o).run P w= .ok (.enter f args) w) (hc:Calls P f args w R)
  (h:∀ e w',R e w'→∃ v,e= .returned v∧K (a.put o.dst v) w'):wpOp P ops Q i K a w:=by
 unfold wpOp;simp only [hi,hw,if_true];refine .inl ?_;unfold Oper.wp;rw [hr];refine hc.mono fun e w' he=> ?_
 obtain ⟨v,rfl,h'⟩:=h e w' he;exact h'
end part
end Go.Gl
namespace Go.Gl
open Go Go.RowKit
section aqW
variable {P:Program} {ops:Array Oper} {Q:Exit→Act→World→Prop} {S:World→Prop}
theorem aR {o:Oper} {a:Act} {w:World} {K:Act→World→Prop} (hi:ops[i]?=some o) (hw:Region.wanted o (yielded ops a.tmps)=true) (h:∀ K':Act→World→Prop,(∀ a w,K a w→K' a w)→o.wp P a w K' Q):wpOp P ops Q i K a w:=by
 unfold wpOp;simp only [hi,hw,if_true];exact .inl (h _ (fun _ _ h=>h))
end aqW
end Go.Gl
namespace Go.Gl
open Go Go.RowKit
structure rA (D:List Nat) (a b:Act):Prop where
 size:b.tmps.size=a.tmps.size
 same:∀ i,D.contains i=false→b.tmps[i]?=a.tmps[i]?
 defers:b.defers=a.defers
theorem rA.refl (D:List Nat) (a:Act):rA D a a:=⟨rfl,fun _ _=>rfl,rfl⟩
theorem rA.put {a b:Act} (h:rA D a b) (hk:D.contains k=true) (v:Value):rA D a (b.put (some k) v):=by
 refine ⟨by simpa [Act.put] using h.size,fun i hi=> ?_,by simpa [Act.put] using h.defers⟩;rw [←h.same i hi];simp only [Act.put];rw [Array.getElem?_setIfInBounds,if_neg (fun hc=>by subst hc;rw [hk] at hi;cases hi)]
theorem abM (a:Act):∀ (D:List Nat) (x:Act),x.tmps.size=a.tmps.size→(D.foldl (fun x d=>x.put (some d) (a.tmps.getD d undef)) x).tmps.size=a.tmps.size∧(D.foldl (fun x d=>x.put (some d) (a.tmps.getD d undef)) x).defers=x.defers∧∀ i,(D.foldl (fun x d=>x.put (some d) (a.tmps.getD d undef)) x).tmps[i]?=if D.contains i=true then a.tmps[i]? else x.tmps[i]?
 | [],x,h=>⟨h,rfl,fun i=>by simp⟩
 |d::D,x,h=>by
  obtain ⟨h1,h2,h3⟩:=abM a D (x.put (some d) (a.tmps.getD d undef)) (by simpa [Act.put] using h);refine ⟨h1,h2.trans rfl,fun i=> ?_⟩;rw [List.foldl_cons,h3 i];by_cases hc:D.contains i=true
  ·rw [if_pos hc,if_pos (by simp at hc ⊢;exact .inr hc)]
  ·rw [if_neg hc]
   by_cases hid:d=i
   ·subst hid
    rw [if_pos (by simp)];simp only [Act.put];rw [Array.getElem?_setIfInBounds,if_pos rfl];split
    ·rename_i hl
     rw [h] at hl;simp [Array.getD,hl]
    ·rename_i hl
     rw [h] at hl;rw [Array.getElem?_eq_none (by omega)]
   ·rw [if_neg (by simp at hc ⊢;exact ⟨fun e=>hid e.symm,hc⟩)]
    simp only [Act.put];rw [Array.getElem?_setIfInBounds,if_neg hid]
theorem rA.fill {a0 a:Act} (h:rA D a0 a):a=D.foldl (fun x d=>x.put (some d) (a.tmps.getD d undef)) a0:=by
 obtain ⟨h1,h2,h3⟩:=abM a D a0 h.size.symm;have ht:a.tmps=(D.foldl (fun x d=>x.put (some d) (a.tmps.getD d undef)) a0).tmps:=by
  apply Array.ext_getElem?;intro i;rw [h3 i];split
  ·rfl
  ·rename_i hc
   exact h.same i (by simpa using hc)
 have hd:=h.defers.trans h2.symm;generalize D.foldl (fun x d=>x.put (some d) (a.tmps.getD d undef)) a0=y at*;obtain ⟨at',ad⟩:=a;obtain ⟨yt,yd⟩:=y;simp only at ht hd;rw [ht,hd]
theorem uB {P:Program} {c:Code} {Q:Exit→Act→World→Prop} {a:Act} (h:∀ a0:Act,a0=a→c.wp P Q a0 w):c.wp P Q a w:=h a rfl
theorem gi {a:Act} (h:k≠j) (hs:a.tmps[j]?=some u):(a.put (some k) v).tmps[j]?=some u:=by
 simp only [Act.put];rw [Array.getElem?_setIfInBounds,if_neg h];exact hs
theorem pK {a:Act} (h:k<a.tmps.size):(a.put (some k) v).tmps[k]?=some v:=by
 simp only [Act.put];rw [Array.getElem?_setIfInBounds,if_pos rfl,if_pos h]
theorem aO {a:Act} (h:a.tmps[k]?=some u) (hk:k<a.tmps.size):a.tmps[k]=u:=by
 rw [Array.getElem?_eq_getElem hk] at h;exact bk h
section aqX
variable {P:Program} {ops:Array Oper} {Q:Exit→Act→World→Prop}
def Jl (listed:Array Bool):Nat:=listed.toList.count false
theorem count_set:∀ (l:List Bool) (i:Nat),l[i]?=some false→(l.set i true).count false+1=l.count false
 | [],_,h=>by simp at h
 |x::l,0,h=>by simp at h;subst h;simp
 |x::l,i+1,h=>by
  have:=count_set l i (by simpa using h);simp only [kz,List.count_cons];omega
theorem aqY {listed:Array Bool} (h:listed.getD i true=false):listed.toList[i]?=some false:=by
 rw [eQ] at h;rw [Array.getElem?_toList];cases hx:listed[i]? with
 |none=>rw [hx] at h;cases h
 |some x=>rw [hx] at h;simp at h;rw [h]
theorem abN {listed:Array Bool} (h:listed.getD i true=false):Jl (listed.setIfInBounds i true)+1=Jl listed:=by
 unfold Jl;rw [Array.toList_setIfInBounds];exact count_set _ _ (aqY h)
def Ob (ops:Array Oper):Bool:=(List.range ops.size).all fun k=>match ops[k]? with|none=>true|some o=>o.after.all fun e=> !(Region.binds .any e)||decide (e.on<k)
theorem aqZ (h:Ob ops=true) {o:Oper} (hk:ops[k]?=some o) {e:Edge} (he:e∈o.after) (hb:Region.binds .any e=true):e.on<k:=by
 unfold Ob at h;simp only [List.all_eq_true,List.mem_range] at h;have h1:=h k (af hk);rw [hk] at h1;simp only [Array.all_eq_true',Bool.or_eq_true,Bool.not_eq_true',decide_eq_true_eq] at h1;rcases h1 e he with h2|h2
 ·rw [hb] at h2;cases h2
 ·exact h2
theorem ara (h:Ob ops=true) {listed:Array Bool} (hs:listed.size=ops.size) (hr:Region.ready .any ops listed= []):∀ k,k<ops.size→listed.getD k true=true:=by
 intro k
 induction k using Nat.strongRecOn with
 |_ k ih=>
  intro hk;cases hl:listed.getD k true with
  |true=>rfl
  |false=>
   exfalso;have:k∈Region.ready .any ops listed:=by
    refine mem_ready.2 ⟨hl,ops[k],by simp [hk],fun e he hb=> ?_⟩;have hlt:=aqZ h (k:=k) (o:=ops[k]) (by simp [hk]) he hb;have h1:=ih e.on hlt (by omega);have hsz:e.on<listed.size:=by omega
    simp only [Array.getD,hsz,dif_pos] at h1 ⊢;exact h1
   rw [hr] at this;cases this
theorem abO (I:Array Bool→Act→World→Prop) (hstep:∀ i listed a w,i∈Region.ready .any ops listed→I listed a w→wpOp P ops Q i (fun a' w'=>I (listed.setIfInBounds i true) a' w') a w)
  (hend:∀ listed a w,Region.ready .any ops listed= []→I listed a w→Q .normal a w):∀ (fuel:Nat) (listed:Array Bool) (a:Act) (w:World),Jl listed≤fuel→I listed a w→wpAny P .any ops Q fuel listed a w
 |0,listed,a,w,hu,hI=>by
  have hr:Region.ready .any ops listed= []:=by
   cases hc:Region.ready .any ops listed with
   |nil=>rfl
   |cons x xs=>
    exfalso;have hx:x∈Region.ready .any ops listed:=by rw [hc];simp
    have:=abN (mem_ready.1 hx).1;omega
  exact ⟨hr,hend _ _ _ hr hI⟩
 |fuel+1,listed,a,w,hu,hI=>by
  refine ⟨fun hr=>hend _ _ _ hr hI,fun i hi=>wpOp_mono (fun a' w' h'=>abO I hstep hend fuel _ a' w' ?_ h') (hstep i listed a w hi hI)⟩;have:=abN (mem_ready.1 hi).1;omega
def Jm (ops:Array Oper) (D:List Nat):Bool:=(List.range ops.size).all fun i=>match (ops[i]?).bind (·.dst) with
 |none=>true
 |some d=>D.contains d&&(List.range ops.size).all fun j=>i==j||(match (ops[j]?).bind (·.dst) with|none=>true|some d'=>d != d')
theorem abP (h:Jm ops D=true) {o:Oper} (ho:ops[i]?=some o) (hd:o.dst=some d):D.contains d=true:=by
 unfold Jm at h;simp only [List.all_eq_true,List.mem_range] at h;have h1:=h i (af ho);rw [ho] at h1;simp only [Option.bind_some,hd,Bool.and_eq_true] at h1;exact h1.1
theorem arb (h:Jm ops D=true) {d':Nat} {o o':Oper} (ho:ops[i]?=some o) (hd:o.dst=some d) (hj:ops[j]?=some o') (ow:o'.dst=some d') (pG:i≠j):d≠d':=by
 unfold Jm at h;simp only [List.all_eq_true,List.mem_range] at h;have h1:=h i (af ho);rw [ho] at h1;simp only [Option.bind_some,hd,Bool.and_eq_true,List.all_eq_true,List.mem_range] at h1;have h2:=h1.2 j (af hj);rw [hj] at h2;simp only [Option.bind_some,ow,Bool.or_eq_true,beq_iff_eq,bne_iff_ne] at h2;rcases h2 with h2|h2
 ·exact absurd h2 pG
 ·exact h2
structure uC (ops:Array Oper) (Φ:Nat→Value→World→Prop) (T:Array Bool→Act→World→Prop) (D:List Nat) (a0:Act) (listed:Array Bool) (a:Act) (w:World):Prop where
 size:listed.size=ops.size
 closed:xX ops listed
 alike:rA D a0 a
 slots:∀ (j:Nat) (o:Oper) (d:Nat),ops[j]?=some o→o.dst=some d→listed.getD j false=true→∃ v,a.tmps[d]?=some v∧Φ j v w
 world:T listed a w
def arc (P:Program) (ops:Array Oper) (Q:Exit→Act→World→Prop) (Φ:Nat→Value→World→Prop) (T:Array Bool→Act→World→Prop) (R:World→World→Prop) (D:List Nat) (a0:Act) (i:Nat) (o:Oper):Prop:=
 ∀ listed a w,uC ops Φ T D a0 listed a w→listed.getD i true=false→(o.after.all fun e=> !(Region.binds .any e)||listed.getD e.on false)=true→
  wpOp P ops Q i (fun a' w'=>∃ v,a'=a.put o.dst v∧(∀ d,o.dst=some d→Φ i v w')∧R w w'∧T (listed.setIfInBounds i true) a' w') a w
def TI (F:Nat→Oper→Prop):Nat→List Oper→Prop
 |_,[]=>True
 |n,o::rest=>F n o∧TI F (n+1) rest
theorem abQ {F:Nat→Oper→Prop}:∀ {l:List Oper} {n i:Nat} {o:Oper},TI F n l→l[i]?=some o→F (n+i) o
 | [],_,_,_,_,h=>by simp at h
 |x::l,n,0,o,hF,h=>by simp at h;subst h;exact hF.1
 |x::l,n,i+1,o,hF,h=>by
  have:=abQ hF.2 (by simpa using h);rwa [show n+1+i=n+(i+1) by omega] at this
theorem uD {a0:Act} {w:World} {l:List Oper} (Φ:Nat→Value→World→Prop) (T:Array Bool→Act→World→Prop) (R:World→World→Prop) (D:List Nat) (hm:P.follows .mixedOrders=true)
  (hB:(Ob l.toArray&&Jm l.toArray D)=true) (hsz:(D.all fun d=>decide (d<a0.tmps.size))=true) (hR:∀ j v w w',R w w'→Φ j v w→Φ j v w') (h0:T (Array.replicate l.toArray.size false) a0 w.drew)
  (hstep:TI (arc P l.toArray Q Φ T R D a0) 0 l)
  (hend:∀ a w,uC l.toArray Φ T D a0 (Array.replicate l.toArray.size true) a w→Q .normal a w):(Code.region id l.toArray true).wp P Q a0 w:=by
 simp only [Bool.and_eq_true] at hB;refine wp_region_any hm (abO (uC l.toArray Φ T D a0) ?_ ?_ _ _ _ _ ?_ ?_)
 ·intro i listed a w hr hf
  obtain ⟨ak,o,ho,hall⟩:=mem_ready.1 hr;have hs:=abQ (i:=i) hstep (by simpa using ho);rw [Nat.zero_add] at hs;refine wpOp_mono (fun a' w' h'=> ?_) (hs listed a w hf ak (by
   simp only [Array.all_eq_true',Bool.or_eq_true,Bool.not_eq_true'];intro e he;cases hb:Region.binds .any e with
   |false=>exact .inl rfl
   |true=>exact .inr (hall e he hb)))
  obtain ⟨v,rfl,hv,hR',hT⟩:=h';refine ⟨by rw [Array.size_setIfInBounds];exact hf.size,hf.closed.list hr,?_,?_,hT⟩
  ·cases hd:o.dst with
   |none=>exact hf.alike
   |some d=>exact hf.alike.put (abP hB.2 ho hd) v
  ·intro j o' d' hj ow hl
   by_cases iu:i=j
   ·subst iu
    rw [ho] at hj;cases hj;refine ⟨v,?_,hv d' ow⟩;rw [ow];exact pK (by rw [hf.alike.size];simp only [List.all_eq_true,decide_eq_true_eq] at hsz;exact hsz _ (by simpa using abP hB.2 ho ow))
   ·obtain ⟨v',hv',hΦ⟩:=hf.slots j o' d' hj ow (by rwa [getD_set_ne false iu] at hl)
    refine ⟨v',?_,hR j v' _ _ hR' hΦ⟩;cases hd:o.dst with
    |none=>exact hv'
    |some d=>exact gi (arb hB.2 ho hd hj ow iu) hv'
 ·intro listed a w hr hf
  have hall:=ara hB.1 hf.size hr;have:listed=Array.replicate l.toArray.size true:=by
   apply Array.ext
   ·rw [Array.size_replicate];exact hf.size
   ·intro i h1 h2
    have:=hall i (by rw [←hf.size];exact h1);simp only [Array.getD,h1,dif_pos] at this;rw [Array.getElem_replicate];exact this
  exact hend a w (this ▸ hf)
 ·unfold Jl
  rw [Array.toList_replicate,List.count_replicate]
  split<;>omega
 ·refine ⟨by rw [Array.size_replicate],fun k o _ hl=>by simp [Array.getD] at hl,rA.refl _ _,fun j o d _ _ hl=>by simp [Array.getD] at hl,h0⟩
theorem aH {o:Oper} {listed:Array Bool} (h:(o.after.all fun e=> !(Region.binds .any e)||listed.getD e.on false)=true) (k:Nat) (hk:(o.after.any fun e=>Region.binds .any e&&e.on==k)=true):listed.getD k false=true:=by
 simp only [Array.any_eq_true',Bool.and_eq_true,beq_iff_eq] at hk;obtain ⟨e,he,hb,rfl⟩:=hk;simp only [Array.all_eq_true',Bool.or_eq_true,Bool.not_eq_true'] at h;rcases h e he with h1|h1
 ·rw [hb] at h1;cases h1
 ·exact h1
theorem dI {listed:Array Bool} (aQ:xX ops listed) {e:Nat} (hw:Fx ops n e i=true) (ak:listed.getD i true=false):listed.getD e false=false:=by
 cases h:listed.getD e false with
 |false=>rfl
 |true=>
  exfalso;have h3:=TF aQ n e i hw (fun o ho=>fun d hd hb=>aQ e o ho h d hd hb);rcases Nat.lt_or_ge i listed.size with h'|h'
  ·simp [Array.getD,h'] at ak h3;rw [ak] at h3;cases h3
  ·simp [Array.getD,Nat.not_lt.2 h'] at ak
theorem jQ {listed:Array Bool} (h:k<listed.size):(listed.setIfInBounds k true).getD k false=true:=by
 simp [Array.getD,h]
theorem uC.slot {Φ:Nat→Value→World→Prop} {T:Array Bool→Act→World→Prop} {a0 a:Act} {listed:Array Bool} (h:uC ops Φ T D a0 listed a w) (j d:Nat) (hd:(ops[j]?).bind (·.dst)=some d) (hl:listed.getD j false=true):∃ v,a.tmps[d]?=some v∧Φ j v w:=by
 cases ho:ops[j]? with
 |none=>rw [ho] at hd;cases hd
 |some o=>rw [ho] at hd;exact h.slots j o d ho hd hl
theorem uC.sz {Φ:Nat→Value→World→Prop} {T:Array Bool→Act→World→Prop} {a0 a:Act} {l:Array Bool} (h:uC ops Φ T D a0 l a w) (hs:a0.tmps.size=n):a.tmps.size=n:=h.alike.size.trans hs
theorem uC.got {Φ:Nat→Value→World→Prop} {T:Array Bool→Act→World→Prop} {a0 a:Act} {l:Array Bool} (h:uC ops Φ T D a0 l a w) (hd:D.contains i=false) (hF:a0.tmps[i]?=some u) (hk:i<a.tmps.size):a.tmps[i]=u:=aO ((h.alike.same i hd).trans hF) hk
theorem uC.sv {Φ:Nat→Value→World→Prop} {T:Array Bool→Act→World→Prop} {a0 a:Act} {l:Array Bool} (h:uC ops Φ T D a0 l a w) (j d:Nat) (hd:(ops[j]?).bind (·.dst)=some d) (hl:l.getD j false=true) {x:Value} (hx:∀ v W,Φ j v W→v=x):a.tmps[d]?=some x:=by obtain ⟨v,s,q⟩:=h.slot j d hd hl;rw [s,hx v w q]
end aqX
end Go.Gl
namespace Go.aF
def iw:Nat→Nat→List UInt8
 |0,_=> []
 |k+1,n=>if n<128 then [UInt8.ofNat n] else UInt8.ofNat (n%128+128)::iw k (n / 128)
def aD (n:Nat):List UInt8:=iw 10 n
def mo:Nat→Nat→List UInt8→Nat×Nat×Nat
 |_,_,[]=>(0,0,11)
 |i,v,c::r=>
  if i=9∧1<c.toNat then (0,0,12) else
  if c.toNat<128 then (if c.toNat=0∧0<i then (0,0,12) else (v+c.toNat*128^i,i+1,0)) else
  mo (i+1) (v+(c.toNat-128)*128^i) r
def fu (b:List UInt8):Nat×Nat×Nat:=mo 0 0 b
def aq:List Nat:= [0,274646895,549293790,820201905,1098587580,1361435347,1640403810,1905808397,2197175160,2460548119,2722870694,2987750089,3280807620,3553878443,3811616794,4084100981]
def zU (T:List Nat) (c:Nat):Nat:=(c / 16)^^^(T.getD (c&&& 15) 0)
def Fy (T:List Nat) (c:Nat) (b:UInt8):Nat:=zU T (zU T (c^^^b.toNat))
def uF (T:List Nat) (b:List UInt8):Nat:=b.foldl (Fy T) 4294967295
def eF (T:List Nat) (b:List UInt8):Nat:=4294967295^^^uF T b
def cD:Nat→Nat→List UInt8
 |0,_=> []
 |k+1,v=>UInt8.ofNat (v%256)::cD k (v / 256)
def bB (T:List Nat) (p:List UInt8):List UInt8:=aD p.length++(cD 4 (eF T p)++p)
def ix (T:List Nat) (b:List UInt8):Nat×Nat×Nat:=
 if (fu b).2.2≠0 then (0,0,(fu b).2.2) else
 if 67108864<(fu b).1 then (0,0,3) else
 if b.length<(fu b).2.1+((fu b).1+4) then (0,0,11) else
 if (b.drop (fu b).2.1).take 4≠cD 4 (eF T ((b.drop ((fu b).2.1+4)).take (fu b).1)) then (0,0,13) else
 ((fu b).2.1+4,(fu b).2.1+4+(fu b).1,0)
def qB (T:List Nat):Nat→List UInt8→List (List UInt8)×Nat×Nat
 |0,_=>([],0,0)
 |k+1,b=>if b= [] then ([],0,0) else
  if (ix T b).2.2≠0 then ([],0,(ix T b).2.2) else
  ((b.drop (ix T b).1).take ((ix T b).2.1-(ix T b).1)::(qB T k (b.drop (ix T b).2.1)).1,(ix T b).2.1+(qB T k (b.drop (ix T b).2.1)).2.1,(qB T k (b.drop (ix T b).2.1)).2.2)
def lF (T:List Nat) (b:List UInt8):List (List UInt8)×Nat×Nat:=qB T (b.length+1) b
theorem mq:∀ (k v:Nat),(cD k v).length=k
 |0,_=>rfl
 |k+1,v=>by simp [cD,mq k]
theorem Jn:∀ (k n:Nat),(iw k n).length≤k
 |0,_=>by simp [iw]
 |k+1,n=>by
  unfold iw;split
  ·simp
  ·have:=Jn k (n / 128);simp;omega
theorem arf (k n:Nat):0<(iw (k+1) n).length:=by
 unfold iw
 split<;>simp
theorem abR:∀ (k n i v:Nat) (r:List UInt8),n<128^k→i+k≤9→0<k→(i=0∨0<n)→
  mo i v (iw k n++r)=(v+n*128^i,i+(iw k n).length,0)
 |0,n,i,v,r,hn,hik,hk,_=>by omega
 |k+1,n,i,v,r,hn,hik,hk,h0=>by
  unfold iw;by_cases h:n<128
  ·rw [if_pos h]
   simp only [List.cons_append,List.nil_append,mo];have e:(UInt8.ofNat n).toNat=n:=by rw [UInt8.toNat_ofNat_of_lt' (by simp [UInt8.size];omega)]
   rw [e,if_neg (by omega),if_pos h,if_neg (by omega)];simp
  ·rw [if_neg h]
   have e:(UInt8.ofNat (n%128+128)).toNat=n%128+128:=by rw [UInt8.toNat_ofNat_of_lt' (by simp [UInt8.size];omega)]
   simp only [List.cons_append,mo];rw [e,if_neg (by omega),if_neg (by omega)];have mY:0<k:=by
    rcases Nat.eq_zero_or_pos k with rfl|h1
    ·simp at hn;omega
    ·exact h1
   have hlt:n / 128<128^k:=by rw [Nat.pow_succ] at hn;exact Nat.div_lt_of_lt_mul (by rw [Nat.mul_comm];exact hn)
   rw [abR k (n / 128) (i+1) _ r hlt (by omega) mY (.inr (by omega))];refine Prod.ext ?_ (Prod.ext ?_ rfl)
   ·show v+(n%128+128-128)*128^i+n / 128*128^(i+1)=v+n*128^i
    rw [Nat.add_sub_cancel,Nat.pow_succ,Nat.add_assoc];congr 1;have:n=n%128+128*(n / 128):=(Nat.mod_add_div n 128).symm
    conv=>rhs;rw [this]
    rw [Nat.add_mul];congr 1;rw [Nat.mul_comm (128^i) 128,←Nat.mul_assoc,Nat.mul_comm (n / 128) 128]
   ·simp;omega
theorem abS:∀ (k n i v m:Nat),i+k≤9→m<(iw k n).length→(mo i v ((iw k n).take m))=(0,0,11)
 |0,n,i,v,m,_,hm=>by simp [iw] at hm
 |k+1,n,i,v,m,hik,hm=>by
  cases m with
  |zero=>simp [mo]
  |succ m=>
   unfold iw at hm ⊢;by_cases h:n<128
   ·rw [if_pos h] at hm;simp at hm
   ·rw [if_neg h] at hm ⊢
    have e:(UInt8.ofNat (n%128+128)).toNat=n%128+128:=by rw [UInt8.toNat_ofNat_of_lt' (by simp [UInt8.size];omega)]
    simp only [List.take_succ_cons,mo];rw [e,if_neg (by omega),if_neg (by omega)];simp only [List.length_cons] at hm;exact abS k (n / 128) (i+1) _ m (by omega) (by omega)
theorem abT:∀ (k n:Nat),n<128^k→0<k→iw (k+1) n=iw k n
 |0,_,_,h=>by omega
 |k+1,n,hn,_=>by
  conv=>lhs;rw [iw]
  conv=>rhs;rw [iw]
  by_cases h:n<128
  ·rw [if_pos h,if_pos h]
  ·rw [if_neg h,if_neg h]
   have hlt:n / 128<128^k:=by rw [Nat.pow_succ] at hn;exact Nat.div_lt_of_lt_mul (by rw [Nat.mul_comm];exact hn)
   have mY:0<k:=by
    rcases Nat.eq_zero_or_pos k with rfl|h1
    ·simp at hn;omega
    ·exact h1
   rw [abT k (n / 128) hlt mY]
theorem abU (h:n≤67108864):aD n=iw 9 n:=abT 9 n (by omega) (by decide)
theorem abV (h:n≤67108864) (r:List UInt8):fu (aD n++r)=(n,(aD n).length,0):=by
 rw [abU h];have:=abR 9 n 0 0 r (by omega) (by decide) (by decide) (.inl rfl);unfold fu;rw [this];simp
theorem arh {m:Nat} (h:n≤67108864) (hm:m<(aD n).length):fu ((aD n).take m)=(0,0,11):=by
 rw [abU h] at hm ⊢;exact abS 9 n 0 0 m (by decide) hm
theorem ari (n:Nat):0<(aD n).length:=arf 9 n
theorem my (T:List Nat) (p:List UInt8):(bB T p).length=(aD p.length).length+(4+p.length):=by
 simp [bB,mq]
theorem abW (T:List Nat) {p:List UInt8} (h:p.length≤67108864) (r:List UInt8):ix T (bB T p++r)=((aD p.length).length+4,(bB T p).length,0):=by
 have fV:fu (bB T p++r)=(p.length,(aD p.length).length,0):=by
  unfold bB;rw [List.append_assoc];exact abV h _
 unfold ix;rw [fV];have hl:=my T p;rw [if_neg (by simp),if_neg (by simp;omega),if_neg (by simp;omega)];have e1:((bB T p++r).drop (aD p.length).length)=cD 4 (eF T p)++(p++r):=by
  unfold bB;rw [List.append_assoc,List.drop_left,List.append_assoc]
 have e2:((bB T p++r).drop ((aD p.length).length+4))=p++r:=by
  rw [←List.drop_drop,e1];exact List.drop_left' (mq 4 _)
 rw [if_neg ?_]
 ·refine Prod.ext rfl (Prod.ext ?_ rfl)
  simp only;rw [hl];omega
 ·simp only [e1,e2,ne_eq,Decidable.not_not]
  rw [List.take_left' (mq 4 _),List.take_left]
theorem arj (T:List Nat) {p:List UInt8} (h:p.length≤67108864) {m:Nat} (hm:m<(bB T p).length):ix T ((bB T p).take m)=(0,0,11):=by
 have hl:=my T p;by_cases h1:m<(aD p.length).length
 ·have:(bB T p).take m=(aD p.length).take m:=by
   unfold bB;rw [List.take_append_of_le_length (by omega)]
  rw [this];unfold ix;rw [arh h h1];simp
 ·have:(bB T p).take m=aD p.length++(cD 4 (eF T p)++p).take (m-(aD p.length).length):=by
   unfold bB;rw [List.take_append,List.take_of_length_le (by omega)]
  have fV:fu ((bB T p).take m)=(p.length,(aD p.length).length,0):=by rw [this];exact abV h _
  have hlen:((bB T p).take m).length=m:=by simp;omega
  unfold ix;rw [fV,hlen];rw [if_neg (by simp),if_neg (by simp;omega),if_pos (by simp;omega)]
def bZ (T:List Nat) (ps:List (List UInt8)):List UInt8:=ps.flatMap (bB T)
theorem Jo (T:List Nat) (p:List UInt8):0<(bB T p).length:=by rw [my];omega
theorem abX (T:List Nat):∀ (ps:List (List UInt8)) (k:Nat) (t:List UInt8),(∀ p∈ps,p.length≤67108864)→(bZ T ps++t).length<k→
  qB T k (bZ T ps++t)=(ps++(qB T (k-ps.length) t).1,(bZ T ps).length+(qB T (k-ps.length) t).2.1,(qB T (k-ps.length) t).2.2)
 | [],k,t,_,_=>by simp [bZ]
 |p::ps,0,t,_,hk=>by omega
 |p::ps,k+1,t,hp,hk=>by
  have e:bZ T (p::ps)++t=bB T p++(bZ T ps++t):=by simp [bZ]
  have hl:=Jo T p;rw [e,qB,if_neg (by intro h0;rw [h0] at e;have:=congrArg List.length h0;simp at this;rw [this.1] at hl;simp at hl),abW T (hp p (by simp))];rw [if_neg (by simp)];have ed:=my T p;have hlen:(bZ T ps++t).length<k:=by
   have:=congrArg List.length e;simp only [List.length_append] at this hk ⊢;omega
  have ih:=abX T ps k t (fun q hq=>hp q (by simp [hq])) hlen;simp only [List.drop_left];rw [ih];have e2:(List.drop ((aD p.length).length+4) (bB T p++(bZ T ps++t))).take ((bB T p).length-((aD p.length).length+4))=p:=by
   have e3:(bB T p++(bZ T ps++t)).drop ((aD p.length).length+4)=p++(bZ T ps++t):=by
    unfold bB;rw [List.append_assoc,←List.drop_drop,List.drop_left,List.append_assoc];exact List.drop_left' (mq 4 _)
   rw [e3,ed,show (aD p.length).length+(4+p.length)-((aD p.length).length+4)=p.length by omega,List.take_left]
  rw [e2];have e4:k+1-(p::ps).length=k-ps.length:=by simp
  rw [e4];refine Prod.ext (by simp) (Prod.ext ?_ rfl);simp only [bZ,List.flatMap_cons,List.length_append];omega
theorem ark (T:List Nat) (ps:List (List UInt8)) {p:List UInt8} {m:Nat} (fw:∀ p∈ps,p.length≤67108864) (hp:p.length≤67108864) (hm:m<(bB T p).length):
  lF T (bZ T ps++(bB T p).take m)=(ps,(bZ T ps).length,if m=0 then 0 else 11):=by
 unfold lF;rw [abX T ps _ _ fw (Nat.lt_succ_self _)];have hpl:ps.length≤(bZ T ps).length:=by
  clear fw
  induction ps with
  |nil=>simp
  |cons q qs ih=>have:=Jo T q;simp only [bZ,List.flatMap_cons,List.length_append,List.length_cons] at ih ⊢;omega
 have hk:∃ k,(bZ T ps++(bB T p).take m).length+1-ps.length=k+1:=⟨(bZ T ps++(bB T p).take m).length-ps.length,by simp only [List.length_append] at*;omega⟩
 obtain ⟨k,hk⟩:=hk;rw [hk,qB];by_cases h0:m=0
 ·subst h0;simp
 ·rw [if_neg (by intro h1;have:=congrArg List.length h1;rw [List.length_take,List.length_nil] at this;omega),arj T hp hm]
  simp [h0]
theorem TJ (T:List Nat) (ps:List (List UInt8)) (fw:∀ p∈ps,p.length≤67108864):lF T (bZ T ps)=(ps,(bZ T ps).length,0):=by
 have:=ark T ps (p:= []) (m:=0) fw (by simp) (Jo T []);simpa using this
end Go.aF
namespace Go.Gl
open Go Go.RowKit
def Row1 (e:TypeId) (B:Nat) (w:World) (v:Value) (xs:List Value):Prop:=
 (v= .slice none 0 0∧xs= [])∨∃ (g cap:Nat) (cur:Array Value),v= .slice (some ⟨g,0,none⟩) xs.length cap∧B≤g∧w.heap[g]?=some (.cells cur e (0,0))∧xs.length≤cap∧cap≤cur.size∧cap≤maxLen∧cur.toList.take xs.length=xs
theorem nO (e:TypeId) (B:Nat) (w:World):Row1 e B w (.slice none 0 0) []:= .inl ⟨rfl,rfl⟩
theorem Row1.slice {w:World} (h:Row1 e B w v xs):∃ a c,v= .slice a xs.length c:=by
 rcases h with ⟨rfl,rfl⟩|⟨g,cap,cur,rfl,_⟩
 ·exact ⟨_,_,rfl⟩
 ·exact ⟨_,_,rfl⟩
theorem Row1.keep {w:World} (h:Row1 e B w v xs) (hk:∀ g,v.ownBlock=some g→w'.heap[g]?=w.heap[g]?):Row1 e B w' v xs:=by
 rcases h with h|⟨g,cap,cur,rfl,hB,hg,hr⟩
 ·exact .inl h
 ·exact .inr ⟨g,cap,cur,rfl,hB,by rw [hk g rfl];exact hg,hr⟩
theorem Row1.lt {w:World} (h:Row1 e B w v xs) (hg:v.ownBlock=some g):B≤g∧g<w.heap.size:=by
 rcases h with ⟨rfl,_⟩|⟨g',cap,cur,rfl,hB,hb,_⟩
 ·cases hg
 ·cases hg;exact ⟨hB,af hb⟩
theorem Row1.grow {w:World} (h:Row1 e B w v xs) (hg:Grow w w'):Row1 e B w' v xs:=
 h.keep fun g hgg=>hg.block g (h.lt hgg).2
theorem Row1.mono {w:World} (h:Row1 e B w v xs) (hB:B'≤B):Row1 e B' w v xs:=by
 rcases h with h|⟨g,cap,cur,hv,hb,hr⟩
 ·exact .inl h
 ·exact .inr ⟨g,cap,cur,hv,by omega,hr⟩
theorem Row1.block {w:World} (h:Row1 e B w v xs) (hg:v.ownBlock=some g):∃ cur,w.heap[g]?=some (.cells cur e (0,0)):=by
 rcases h with ⟨rfl,_⟩|⟨g',cap,cur,rfl,hB,hb,_⟩
 ·cases hg
 ·cases hg;exact ⟨cur,hb⟩
theorem Row1.apart {w:World} (h:Row1 e B w v xs) (hb:w.heap[b]?=some (.cells arr t f)) (ht:t≠e):v.ownBlock≠some b:=by
 intro hc;obtain ⟨cur,hg⟩:=h.block hc;rw [hg] at hb;cases hb;exact ht rfl
theorem Row1.cells {w:World} (h:Row1 e B w v xs) (hg:v.ownBlock=some g) (hj:xs[j]?=some u):w.cell? ⟨g,j,none⟩=some u:=by
 rcases h with ⟨rfl,_⟩|⟨g',cap,cur,rfl,hB,hb,_,_,_,ht⟩
 ·cases hg
 ·cases hg
  rw [←ht,List.getElem?_take] at hj
  split at hj
  ·have h2:cur[j]?=some u:=by simpa using hj
   simp [World.cell?,hb,h2]
  ·cases hj
theorem aK {w:World} (h:w.heap[b]?=some (.cells cur t f)) (o:Nat) (v:Value):(w.setCell ⟨b,o,none⟩ v).heap[b]?=some (.cells (cur.setIfInBounds o v) t f):=by
 simp only [World.setCell];rw [Array.getElem?_modify,h];simp
theorem je (w:World) (b o:Nat) (v:Value):w.grownBy (w.setCell ⟨b,o,none⟩ v) (some b):=⟨rfl,rfl,rfl,by simp,fun k _ hk=>aP _ _ _ _ (fun e=>hk (by rw [e]))⟩
theorem vU {r:Option Nat} (h:w1.grownBy w2 r) (k:w2.grownBy w3 r):w1.grownBy w3 r:=
 ⟨k.os.trans h.os,k.tape.trans h.tape,k.output.trans h.output,aM h.size k.size,fun b hb hne=>by rw [k.block b (cf hb h.size) hne,h.block b hb hne]⟩
theorem abY {b:Nat}:∀ (cs:List Value) (o:Nat) (w:World) (cur:Array Value) (t:TypeId) (f:Nat×Nat),w.heap[b]?=some (.cells cur t f)→o+cs.length≤cur.size→
  ∃ cur',(w.setCells b o cs).heap[b]?=some (.cells cur' t f)∧cur'.size=cur.size∧cur'.toList.take (o+cs.length)=cur.toList.take o++cs∧w.grownBy (w.setCells b o cs) (some b)
 | [],o,w,cur,t,f,h,_=>⟨cur,h,rfl,by simp,⟨rfl,rfl,rfl,aw _,fun _ _ _=>rfl⟩⟩
 |v::cs,o,w,cur,t,f,h,hs=>by
  have h1:=aK h o v;simp only [dH] at hs;obtain ⟨cur',e1,e2,e3,e4⟩:=abY cs (o+1) _ _ t f h1 (by rw [Array.size_setIfInBounds];omega);refine ⟨cur',e1,by simpa using e2,?_,vU (je w b o v) e4⟩;rw [dH,show o+(cs.length+1)=o+1+cs.length by omega,e3];have:(cur.setIfInBounds o v).toList.take (o+1)=cur.toList.take o++ [v]:=by
   rw [Array.toList_setIfInBounds,List.take_succ_eq_append_getElem (by simp;omega),List.take_set_of_le (aw _)];simp
  rw [this];simp
section append
variable {P:Program} {w:World}
theorem yb (ht:P.underlying t=some (.slice e)) (hi:(P.info? e).map (fun i=>(i.zero,i.size,i.bytes))=some (some z,1,bytes)) (hz1:z.cells.size=1) (h:Row1 e B w v xs) {x:Value} {news:List Value} (hs:Src P 1 tx x n news w) (hB:B≤w.heap.size) (h63:xs.length+n≤maxLen) (hby:(xs.length+n)*bytes≤140737488355328):
  ∃ v' w',(Builtin.append_ #[t,tx] ty #[v,x]).run P w= .ok v' w'∧Row1 e B w' v' (xs++news)∧w.grownBy w' v.ownBlock∧(v'.ownBlock=v.ownBlock∨v'.ownBlock=some w.heap.size):=by
 obtain ⟨i,bO,hzz,hsz,dX⟩:=info_parts hi;have hn:news.length=n:=by have:=hs.newsLen;omega
 have hs':Src P i.size tx x n news w:=by rw [hsz];exact hs
 have arn:xs.length+n≤9223372036854775807:=by unfold maxLen at h63;omega
 have grown:∀ (old:Nat),old<xs.length+n→
   Row1 e B (w.drew.alloc (.cells ((xs++news).toArray++Builtin.zeroCells z.cells (grownCap w (xs.length+n) old e-(xs.length+n))) e)) (.slice (some ⟨w.heap.size,0,none⟩) (xs.length+n) (grownCap w (xs.length+n) old e)) (xs++news):=by
  intro old _;have iM:=grownCap_ge w (xs.length+n) old e;have hcm:grownCap w (xs.length+n) old e≤maxLen:=grownCap_le_maxLen w (xs.length+n) old e h63;refine .inr ⟨w.heap.size,_,_,by rw [aJ,hn],hB,ax w.drew _,by rw [aJ,hn];exact iM,?_,hcm,?_⟩
  ·simp only [Array.size_append,List.size_toArray,size_zeroCells,hz1,aJ,hn];omega
  ·simp only [Array.toList_append]
   exact List.take_left
 have abZ:∀ (o:Obj) (row:Option Nat),w.grownBy (w.drew.alloc o) row:=fun o row=>⟨rfl,rfl,rfl,by simp,fun k hk _=>heap_alloc_old w.drew _ hk⟩
 rcases h with ⟨rfl,rfl⟩|⟨g,cap,cur,rfl,TK,hg,hlc,hcc,hcm,eG⟩
 ·by_cases iy:n=0
  ·subst iy
   have:news= []:=iI hn;subst this;refine ⟨.slice none 0 0,w,?_,.inl ⟨rfl,rfl⟩,⟨rfl,rfl,rfl,aw _,fun _ _ _=>rfl⟩,.inl rfl⟩;have hc:=hs'.cells;have hl:=hs'.len;rcases hs.kind with ⟨e',hk⟩|hk<;>simp [Builtin.append_,run_underlying ht,run_underlying hk,sizeOf,typeInfo,bO,hl,hc]
  ·have hold:(Builtin.firstCells i.size 0 (.slice none 0 0)).run P w.drew= .ok ([]:List Value).toArray w.drew:=by simp [Builtin.firstCells]
   have hr:=run_append_grow_src w t tx ty e i z ht bO hzz none 0 0 [] hold x n news hs' (by omega) (by simp at arn ⊢;omega) (by rw [dX];exact growslice_fits (by omega) (by simpa using hby));have hg:=grown 0 (by simp;omega);simp only [iK,Nat.zero_add,iq] at hr hg ⊢;exact ⟨_,_,hr,hg,abZ _ _,.inr rfl⟩
 ·by_cases hroom:xs.length+n≤cap
  ·have hr:=run_append_room_src w t tx ty e i ht bO g 0 xs.length cap x n news hs' hroom
    (fun j hj=>by rw [hsz,Nat.zero_add,Nat.mul_one];simp only [World.cell?,hg];simp;omega)
    (fun j hj=>by simp [World.frozen?,hg])
   rw [hsz,Nat.zero_add,Nat.mul_one] at hr;obtain ⟨cur',c1,c2,c3,c4⟩:=abY news xs.length w cur e (0,0) hg (by omega);refine ⟨_,_,hr,.inr ⟨g,cap,cur',by rw [aJ,hn],TK,c1,by rw [aJ,hn];exact hroom,by omega,hcm,?_⟩,c4,.inl rfl⟩;rw [aJ,c3,eG]
  ·have hold:(Builtin.firstCells i.size xs.length (.slice (some ⟨g,0,none⟩) xs.length cap)).run P w.drew= .ok xs.toArray w.drew:=by
    refine run_firstCells_some w.drew i.size xs.length ⟨g,0,none⟩ xs.length cap xs (by rw [hsz,Nat.mul_one]) (fun j u hu=> ?_);have hrow:Row1 e B w (.slice (some ⟨g,0,none⟩) xs.length cap) xs:= .inr ⟨g,cap,cur,rfl,TK,hg,hlc,hcc,hcm,eG⟩;have:=hrow.cells (g:=g) rfl hu;rw [Addr.add_lit,Nat.zero_add];exact this
   have hr:=run_append_grow_src w t tx ty e i z ht bO hzz (some ⟨g,0,none⟩) xs.length cap xs hold x n news hs' (by omega) (by omega) (by rw [dX];exact growslice_fits (by omega) hby);exact ⟨_,_,hr,grown cap (by omega),abZ _ _,.inr rfl⟩
theorem below_grown (hb:Below B w0 w1) (hB:B≤w1.heap.size) (h:Row1 e B w1 v xs) (hg:w1.grownBy w' v.ownBlock):Below B w0 w':=
 hb.grown hg hB (fun _ hk=>(h.lt hk).1)
end append
end Go.Gl
namespace Go.Proofs.YtoolkdapflaeeaaGreatDoor
open Go.RowKit Go.Gl Go.aF
def Bv (w:World) (v:Value) (l:List UInt8):Prop:=
 ∃ a c,v= .slice a l.length c∧l.length≤c∧c≤maxLen∧(a=none→c=0)∧(l= []∨∃ b o,a=some ⟨b,o,none⟩∧b<w.heap.size∧∀ (j:Nat) (k:UInt8),l[j]?=some k→w.cell? ⟨b,o+j,none⟩=some (.int .u8 k.toNat))
theorem Bv.grow (h:Bv w v l) (hg:Grow w w'):Bv w' v l:=by
 obtain ⟨a,c,hv,hl,hm,hn,h⟩:=h;refine ⟨a,c,hv,hl,hm,hn,?_⟩;rcases h with h|⟨b,o,ha,hb,hc⟩
 ·exact .inl h
 ·refine .inr ⟨b,o,ha,cf hb hg.size,fun j k hk=> ?_⟩
  rw [Grow.cells _ _ _ hg hb];exact hc j k hk
theorem Tryz.Oc:(Tryz.prog.info? 5).map (fun i=>(i.zero,i.size,i.bytes))=some (some (.int .u8 0),1,1):=by kernel_rfl
theorem Tryz.ye:(Tryz.prog.info? 49).map (fun i=>(i.zero,i.size,i.bytes))=some (some (.slice none 0 0),1,24):=by kernel_rfl
theorem Tryz.Oe:(Tryz.prog.info? 3).map (fun i=>(i.zero,i.size,i.bytes))=some (some (.int .i64 0),1,8):=by kernel_rfl
theorem Tryz.Og:(Tryz.prog.info? 9).map (fun i=>(i.zero,i.size,i.bytes))=some (some (.string ByteArray.empty),1,16):=by kernel_rfl
abbrev aI (B:Nat) (w:World) (v:Value) (l:List UInt8):Prop:=Row1 5 B w v (dE l)
theorem jF (l:List UInt8):(dE l).length=l.length:=by simp [dE]
theorem aca (a b:List UInt8):dE (a++b)=dE a++dE b:=by simp [dE]
theorem aro (l:List UInt8):∀ u∈dE l,u.oneCell'=true:=fun u hu=>by
 obtain ⟨x,_,rfl⟩:=aZ.1 hu;rfl
theorem cI (h:aI B w v l):Bv w v l:=by
 rcases h with ⟨rfl,h0⟩|⟨g,cap,cur,rfl,hB,hg,hn,hc,hm,ht⟩
 ·have:l= []:=iI (by rw [←jF,h0];rfl)
  subst this;exact ⟨none,0,rfl,aw _,aY _,fun _=>rfl,.inl rfl⟩
 ·have hrow:aI B w (.slice (some ⟨g,0,none⟩) (dE l).length cap) l:= .inr ⟨g,cap,cur,rfl,hB,hg,hn,hc,hm,ht⟩
  rw [jF] at hn;refine ⟨some ⟨g,0,none⟩,cap,by rw [jF],hn,hm,(fun h=>by cases h),.inr ⟨g,0,rfl,af hg,fun j k hk=> ?_⟩⟩;rw [Nat.zero_add];exact hrow.cells rfl (by simp [dE,hk])
theorem Bv.src (h:Bv w v l):Src Tryz.prog 1 49 v l.length (dE l) w:=by
 obtain ⟨a,c,rfl,hl,hm,hn,h⟩:=h;cases a with
 |none=>
  have hc:=hn rfl;have:l= []:=iI (by omega);subst this;exact Src.ofNil w Tryz.underlying49 c
 |some a=>
  refine Src.ofSlice w Tryz.underlying49 a l.length c (dE l) (by simp [dE]) (fun j u hu=> ?_) (aro l);simp only [dE,gZ,Option.map_eq_some_iff] at hu;obtain ⟨x,hx,rfl⟩:=hu;rcases h with rfl|⟨b,o,ha,hb,hc⟩
  ·simp at hx
  ·cases ha
   rw [Addr.add_lit];exact hc j x hx
theorem rB {p:List UInt8} (h:aI B w v l) (hp:Bv w pv p) (hB:B≤w.heap.size) (hlen:l.length+p.length≤140737488355328):
  ∃ v' w',(Builtin.append_ #[49,49] 49 #[v,pv]).run Tryz.prog w= .ok v' w'∧aI B w' v' (l++p)∧w.grownBy w' v.ownBlock∧(v'.ownBlock=v.ownBlock∨v'.ownBlock=some w.heap.size):=by
 obtain ⟨v',w',h1,h2,h3,h4⟩:=yb (ty:=49) Tryz.underlying49 Tryz.Oc rfl h hp.src hB (by rw [jF];unfold maxLen;omega) (by rw [jF];omega);exact ⟨v',w',h1,by rw [aI,aca];exact h2,h3,h4⟩
theorem Jp (h:aI B w v l) (x:UInt8) {n:Int} (hx:n=(x.toNat:Int)) (hB:B≤w.heap.size) (hlen:l.length+1≤140737488355328):
  ∃ v' w',(Builtin.append_ #[49,49] 49 #[v,.slice (some ⟨w.heap.size,0,none⟩) 1 1]).run Tryz.prog (w.alloc (.cells #[.int .u8 n] 5))= .ok v' w'∧aI B w' v' (l++ [x])∧Below B w w':=by
 subst hx;have hb:Bv (w.alloc (.cells #[.int .u8 x.toNat] 5)) (.slice (some ⟨w.heap.size,0,none⟩) 1 1) [x]:=by
  refine ⟨some ⟨w.heap.size,0,none⟩,1,rfl,aw _,by decide,(fun h=>by cases h),.inr ⟨w.heap.size,0,rfl,by simp,fun j k hk=> ?_⟩⟩
  match j,hk with
  |0,hk=>
   cases hk;simp only [World.cell?,ax];rfl
  |j+1,hk=>simp at hk
 have ah:Grow w (w.alloc (.cells #[.int .u8 x.toNat] 5)):=ar _ _;obtain ⟨v',w',h1,h2,h3,_⟩:=rB (h.grow ah) hb (by simp;omega) (by simpa using hlen);exact ⟨v',w',h1,h2,below_grown (ah.mono hB) (by simp;omega) (h.grow ah) h3⟩
def TL:Array Value:=#[.int .u32 0,.int .u32 274646895,.int .u32 549293790,.int .u32 820201905,.int .u32 1098587580,.int .u32 1361435347,.int .u32 1640403810,.int .u32 1905808397,.int .u32 2197175160,.int .u32 2460548119,.int .u32 2722870694,.int .u32 2987750089,.int .u32 3280807620,.int .u32 3553878443,.int .u32 3811616794,.int .u32 4084100981]
theorem arp (w:World):Calls Tryz.prog 198 #[] w fun e w'=>e= .returned (.agg TL)∧Grow w w':=by
 go_enter Tryz.func198,Tryz.ntmps198
 go_wp2_with fail
 refine wp_loop_rounds 17 ?_
 iterate 16 (rw [rounds_succ];go_wp2_with fail;refine wp_loop_rounds 5 ?_;iterate 5 (rw [rounds_succ];go_wp2_with fail))
 rw [rounds_succ];go_wp2;refine bodyPost_ret (v:= .agg TL) ?_ rfl ⟨rfl,by ((repeat (first|exact bS _ _|assumption|refine cz ?_|refine cA ?_|refine cj ?_ ?_ _|refine cy ?_ ?_ _))<;>try (first|omega|(simp<;>omega)))⟩;simp [results,Tryz.results198,go_sem];kernel_rfl
theorem TM (h:c<4294967296):zU aq c<4294967296:=by
 unfold zU;refine Nat.xor_lt_two_pow (n:=32) (by omega) ?_;have Oh:c&&& 15<16:=Nat.lt_of_le_of_lt Nat.and_le_right (by decide);generalize c&&& 15=d at*;have:∀ d,d<16→aq.getD d 0<2^32:=by decide
 exact this d Oh
theorem arq (h:c<4294967296) (b:UInt8):Fy aq c b<4294967296:=by
 unfold Fy;exact TM (TM (Nat.xor_lt_two_pow (n:=32) h (by have:=b.toNat_lt;omega)))
theorem TN (l:List UInt8):uF aq l<4294967296:=by
 unfold uF;have:∀ (l:List UInt8) (c:Nat),c<4294967296→l.foldl (Fy aq) c<4294967296:=by
  intro l
  induction l with
  |nil=>intro c h;exact h
  |cons x l ih=>intro c h;exact ih _ (arq h x)
 exact this l _ (by decide)
def Rv (w:World) (v:Value) (ps:List (List UInt8)):Prop:=
 ∃ a c,v= .slice a ps.length c∧(ps= []∨∃ b o,a=some ⟨b,o,none⟩∧b<w.heap.size∧∀ (j:Nat) (p:List UInt8),ps[j]?=some p→∃ pv,w.cell? ⟨b,o+j,none⟩=some pv∧Bv w pv p)
theorem Rv.grow {ps:List (List UInt8)} (h:Rv w v ps) (hg:Grow w w'):Rv w' v ps:=by
 obtain ⟨a,c,hv,h⟩:=h;refine ⟨a,c,hv,?_⟩;rcases h with h|⟨b,o,ha,hb,hc⟩
 ·exact .inl h
 ·refine .inr ⟨b,o,ha,cf hb hg.size,fun j p hp=> ?_⟩
  obtain ⟨pv,h1,h2⟩:=hc j p hp;exact ⟨pv,by rw [Grow.cells _ _ _ hg hb];exact h1,h2.grow hg⟩
theorem TP (h:w.heap[b]?=some (.cells #[pv] 49 (0,0))) (hx:Bv w pv x):Rv w (.slice (some ⟨b,0,none⟩) 1 1) [x]:=by
 refine ⟨_,_,rfl,.inr ⟨b,0,rfl,af h,fun j p hp=> ?_⟩⟩;cases j with
 |zero=>cases hp;exact ⟨pv,by simp [World.cell?,h],hx⟩
 |succ j=>simp at hp
theorem ars (y:List UInt8) {k:UInt8} (h:l[i]?=some k):uF aq (y++l.take (i+1))=Fy aq (uF aq (y++l.take i)) k:=by
 unfold uF;obtain ⟨hi,rfl⟩:=dG.1 h;rw [List.take_succ_eq_append_getElem hi,←ju,List.foldl_append];rfl
def art (w:World) (y l:List UInt8) (cv iv:Value) (wr:World):Prop:=∃ i:Nat,iv= .int .i64 i∧i≤l.length∧cv= .int .u32 ((uF aq (y++l.take i):Nat):Int)∧wr=w
def aru (w:World) (ps:List (List UInt8)) (cv iv:Value) (wr:World):Prop:=∃ i:Nat,iv= .int .i64 i∧i≤ps.length∧cv= .int .u32 ((uF aq (ps.take i).flatten:Nat):Int)∧wr=w
theorem arv {ps:List (List UInt8)} {p:List UInt8} (h:ps[i]?=some p):(ps.take (i+1)).flatten=(ps.take i).flatten++p:=by
 obtain ⟨hi,rfl⟩:=dG.1 h;rw [List.take_succ_eq_append_getElem hi,List.flatten_append];simp
theorem TQ {ps:List (List UInt8)} (h:Rv w v ps) (hpl:ps.length≤1000000000000):
  Calls Tryz.prog 145 #[v] w fun e w'=>e= .returned (.int .u32 ((eF aq ps.flatten:Nat):Int))∧Grow w w':=by
 obtain ⟨va,vc,ev,_⟩:=id h;subst ev;go_enter Tryz.func145,Tryz.ntmps145
 go_wp2_with fail
 (with_reducible refine (arp _).mono ?_);rintro e w1 ⟨rfl,hg1⟩;have h1:=h.grow hg1;unfold TL
 go_wp2_with fail
 have ah:Grow w1 (w1.alloc (.cells #[.int .u32 0,.int .u32 274646895,.int .u32 549293790,.int .u32 820201905,.int .u32 1098587580,.int .u32 1361435347,.int .u32 1640403810,.int .u32 1905808397,.int .u32 2197175160,.int .u32 2460548119,.int .u32 2722870694,.int .u32 2987750089,.int .u32 3280807620,.int .u32 3553878443,.int .u32 3811616794,.int .u32 4084100981] 304)):=ar _ _;have fP:(w1.alloc (.cells #[.int .u32 0,.int .u32 274646895,.int .u32 549293790,.int .u32 820201905,.int .u32 1098587580,.int .u32 1361435347,.int .u32 1640403810,.int .u32 1905808397,.int .u32 2197175160,.int .u32 2460548119,.int .u32 2722870694,.int .u32 2987750089,.int .u32 3280807620,.int .u32 3553878443,.int .u32 3811616794,.int .u32 4084100981] 304)).heap[w1.heap.size]?=some (.cells #[.int .u32 0,.int .u32 274646895,.int .u32 549293790,.int .u32 820201905,.int .u32 1098587580,.int .u32 1361435347,.int .u32 1640403810,.int .u32 1905808397,.int .u32 2197175160,.int .u32 2460548119,.int .u32 2722870694,.int .u32 2987750089,.int .u32 3280807620,.int .u32 3553878443,.int .u32 3811616794,.int .u32 4084100981] 304 (0,0)):=ax _ _;have hT:∀ d,d<16→(w1.alloc (.cells #[.int .u32 0,.int .u32 274646895,.int .u32 549293790,.int .u32 820201905,.int .u32 1098587580,.int .u32 1361435347,.int .u32 1640403810,.int .u32 1905808397,.int .u32 2197175160,.int .u32 2460548119,.int .u32 2722870694,.int .u32 2987750089,.int .u32 3280807620,.int .u32 3553878443,.int .u32 3811616794,.int .u32 4084100981] 304)).cell? ⟨w1.heap.size,d,none⟩=some (.int .u32 ((aq.getD d 0:Nat):Int)):=fun d hd=>by
  simp only [World.cell?,fP]
  match d,hd with
  |0,_=>rfl
  |1,_=>rfl
  |2,_=>rfl
  |3,_=>rfl
  |4,_=>rfl
  |5,_=>rfl
  |6,_=>rfl
  |7,_=>rfl
  |8,_=>rfl
  |9,_=>rfl
  |10,_=>rfl
  |11,_=>rfl
  |12,_=>rfl
  |13,_=>rfl
  |14,_=>rfl
  |15,_=>rfl
  |d+16,h=>exact absurd h (by omega)
 have h2:=h1.grow ah;have fA:=ae (hg1.trans ah);have Cx:=af fP;generalize w1.alloc (.cells #[.int .u32 0,.int .u32 274646895,.int .u32 549293790,.int .u32 820201905,.int .u32 1098587580,.int .u32 1361435347,.int .u32 1640403810,.int .u32 1905808397,.int .u32 2197175160,.int .u32 2460548119,.int .u32 2722870694,.int .u32 2987750089,.int .u32 3280807620,.int .u32 3553878443,.int .u32 3811616794,.int .u32 4084100981] 304)=w2 at*;generalize w1.heap.size=tb at*;have H2:=ae h2;have HT:=ae hT;clear h h1 fP hT ah hg1 h2;obtain ⟨vV,vW,ev,hrow⟩:=H2.out;cases ev;have ox:=ae hrow;clear hrow
 go_wp2_with fail
 go_loopw [4,12] (fun cv iv wr=>aru w2 ps cv iv wr) (fun _ iv _=>ps.length-(intOf iv).toNat)
 case atStart=>exact ⟨0,rfl,aY _,rfl,rfl⟩
 case round=>
  obtain ⟨n,rfl,hn,rfl,hwr⟩:=hrel;have yf:=hwr.symm;subst yf;clear hwr;by_cases hlt:n<ps.length
  ·obtain ⟨l,hl0⟩:∃ l,ps[n]?=some l:=⟨ps[n],by simp [hlt]⟩
   obtain ⟨b,o,rfl,lb,hc⟩:∃ b o,va=some ⟨b,o,none⟩∧b<w2.heap.size∧∀ (j:Nat) (p:List UInt8),ps[j]?=some p→∃ pv,w2.cell? ⟨b,o+j,none⟩=some pv∧Bv w2 pv p:=by
    rcases ox.out with h1|h1
    ·rw [h1] at hlt;simp at hlt
    ·exact h1
   obtain ⟨pv,c1,bC⟩:=hc n l hl0;obtain ⟨pa,pc,rfl,hl,hm,jy,hp⟩:=bC;have Hp:=ae hp;have qC:=ae (arv hl0);have iO:(n:Int)<(ps.length:Int):=by omega
   have iy:(0:Int)≤(n:Int):=by omega
   have Jq:IntKind.i64.wrap ((n:Int)+1)=(n:Int)+1:=aS _ (by omega);generalize (ps.take n).flatten=y at*;clear hp hc hl0
   go_wp2_with fail
   go_loopw [4,18] (fun cv iv wr=>art w2 y l cv iv wr) (fun _ iv _=>l.length-(intOf iv).toNat)
   case atStart=>exact ⟨0,rfl,aY _,by simp,rfl⟩
   case round=>
    obtain ⟨i,rfl,hi,rfl,hwr⟩:=hrel;have yf:=hwr.symm;subst yf;clear hwr;by_cases hlt:i<l.length
    ·obtain ⟨k,hk⟩:∃ k,l[i]?=some k:=⟨l[i],by simp [hlt]⟩
     obtain ⟨p,o,rfl,lp,hc⟩:∃ b o,pa=some ⟨b,o,none⟩∧b<w2.heap.size∧∀ (j:Nat) (k:UInt8),l[j]?=some k→w2.cell? ⟨b,o+j,none⟩=some (.int .u8 k.toNat):=by
      rcases Hp.out with h1|h1
      ·rw [h1] at hlt;simp at hlt
      ·exact h1
     have ck:=hc i k hk;have hstep:=ars y hk;have acb:=TN (y++l.take i);have aHv:=k.toNat_lt;generalize uF aq (y++l.take i)=c at*;have eB:(i:Int)<(l.length:Int):=by omega
     have bO:(0:Int)≤(i:Int):=by omega
     have fE:IntKind.i64.wrap ((i:Int)+1)=(i:Int)+1:=aS _ (by unfold maxLen at hm;omega);have x1:bits .xor .u32 (c:Int) (k.toNat:Int)=((c^^^k.toNat:Nat):Int):=u32_xor_nat c k.toNat acb (by omega);have hc1:c^^^k.toNat<4294967296:=Nat.xor_lt_two_pow (n:=32) acb (by omega);unfold Fy at hstep;generalize c^^^k.toNat=c1 at*;have x2:bits .and .u32 (c1:Int) 15=((c1&&& 15:Nat):Int):=u32_and_nat c1 15 hc1 (by decide);have jR:c1&&& 15<16:=Nat.lt_of_le_of_lt Nat.and_le_right (by decide);have ct1:=HT.out _ jR;have rC:aq.getD (c1&&& 15) 0<4294967296:=by
      have:∀ d,d<16→aq.getD d 0<2^32:=by decide
      exact this _ jR
     have x3:bits .xor .u32 ((c1:Int) / 16) ((aq.getD (c1&&& 15) 0:Nat):Int)=((zU aq c1:Nat):Int):=by
      have:=u32_xor_nat (c1 / 16) (aq.getD (c1&&& 15) 0) (by omega) rC;rw [show ((c1 / 16:Nat):Int)=(c1:Int) / 16 by simp] at this;exact this
     have hc2:=TM hc1;generalize zU aq c1=c2 at*;generalize arw:c1&&& 15=d1 at*;have x4:bits .and .u32 (c2:Int) 15=((c2&&& 15:Nat):Int):=u32_and_nat c2 15 hc2 (by decide);have cP:c2&&& 15<16:=Nat.lt_of_le_of_lt Nat.and_le_right (by decide);have ct2:=HT.out _ cP;have Cy:aq.getD (c2&&& 15) 0<4294967296:=by
      have:∀ d,d<16→aq.getD d 0<2^32:=by decide
      exact this _ cP
     have x5:bits .xor .u32 ((c2:Int) / 16) ((aq.getD (c2&&& 15) 0:Nat):Int)=((zU aq c2:Nat):Int):=by
      have:=u32_xor_nat (c2 / 16) (aq.getD (c2&&& 15) 0) (by omega) Cy;rw [show ((c2 / 16:Nat):Int)=(c2:Int) / 16 by simp] at this;exact this
     generalize zU aq c2=c3 at*;generalize arx:c2&&& 15=d2 at*;generalize aq.getD d1 0=T1 at*;generalize aq.getD d2 0=T2 at*;have d1a:(d1:Int)<16:=by omega
     have d2a:(d2:Int)<16:=by omega
     have d1b:(0:Int)≤(d1:Int):=by omega
     have d2b:(0:Int)≤(d2:Int):=by omega
     have oy:=ae hstep;clear hstep hc hk arw arx rC Cy;go_wp2;go_roundw
     case rel=>exact ⟨i+1,rfl,hlt,by rw [oy.out],rfl⟩
     case measure=>simp [intOf];omega
    ·obtain rfl:i=l.length:=by omega
     rw [ij];go_wp2;go_roundw
     case rel=>exact ⟨n+1,rfl,by omega,by rw [qC.out],rfl⟩
     case measure=>simp [intOf];omega
  ·obtain rfl:n=ps.length:=by omega
   rw [ij];have TR:=TN ps.flatten;generalize Jr:ps.flatten=y at*;go_wp2;go_ret;have x:bits .xor .u32 4294967295 ((uF aq y:Nat):Int)=((eF aq y:Nat):Int):=u32_xor_nat 4294967295 (uF aq y) (by decide) TR;refine ⟨?_,fA.out⟩;rw [←x];rfl
theorem Oi {l:List UInt8} (hb:w.heap[b]?=some (.cells #[pv] 49 (0,0))) (h:Bv w pv l):
  Calls Tryz.prog 145 #[.slice (some ⟨b,0,none⟩) 1 1] w fun e w'=>e= .returned (.int .u32 ((eF aq l:Nat):Int))∧Grow w w':=by
 have h1:=TQ (TP hb h) (by simp);rwa [List.flatten_singleton] at h1
theorem zV (l:List UInt8):eF aq l<4294967296:=Nat.xor_lt_two_pow (n:=32) (by decide) (TN l)
theorem acd (m:Nat):bits .or .u8 ((m:Int)%256) 128=(((UInt8.ofNat (m%128+128)).toNat:Nat):Int):=by
 have h1:((m:Int)%256)=((m%256:Nat):Int):=by omega
 have h2:bits .or .u8 ((m%256:Nat):Int) 128=((m%256|||128:Nat):Int):=u8_or_nat (m%256) 128 (by omega) (by decide);rw [h1,h2,UInt8.toNat_ofNat_of_lt' (by simp [UInt8.size];omega)];congr 1;have:∀ x:Nat,x<256→x|||128=x%128+128:=by decide+kernel
 rw [this _ (by omega)];omega
theorem ary (w:World):Calls Tryz.prog 126 #[.slice none 0 0] w fun e w'=>e= .returned (.slice none 0 0)∧w'=w:=by
 go_enter Tryz.func126,Tryz.ntmps126;go_wp2;go_ret;exact ⟨rfl,rfl⟩
def ace (w:World) (n:Nat) (bv vv:Value) (wr:World):Prop:=
 ∃ (pre:List UInt8) (m k:Nat),vv= .int .u64 m∧aI w.heap.size wr bv pre∧m<128^(k+1)∧pre.length+(k+1)=10∧aD n=pre++iw (k+1) m∧m<18446744073709551616∧Grow w wr
theorem arz (w:World) (n:Nat) (hn:n<18446744073709551616):
  Calls Tryz.prog 81 #[.slice none 0 0,.int .u64 n] w fun e w'=>∃ v,e= .returned v∧aI w.heap.size w' v (aD n)∧Grow w w':=by
 go_enter Tryz.func81,Tryz.ntmps81
 go_wp2_with fail
 (with_reducible refine (ary _).mono ?_);rintro e w1 ⟨rfl,cp⟩;have hw2:=cp.symm;subst hw2;clear cp
 go_wp2_with fail
 go_loopw [0,1] (fun bv vv wr=>ace w n bv vv wr) (fun _ vv _=>(intOf vv).toNat)
 case atStart=>exact ⟨[],n,9,rfl,nO _ _ _,by omega,rfl,rfl,hn,aV _⟩
 case round=>
  obtain ⟨pre,m,k,rfl,hown,hm,hk,jf,acf,hg⟩:=hrel;obtain ⟨ba,bc,rfl⟩:=hown.slice;by_cases hlt:128≤m
  ·have iM:decide ((128:Int)≤(m:Int))=true:=by simp;omega
   have mY:0<k:=by
    rcases Nat.eq_zero_or_pos k with rfl|h1
    ·simp at hm;omega
    ·exact h1
   obtain ⟨k',rfl⟩:∃ k',k=k'+1:=⟨k-1,by omega⟩
   obtain ⟨v',w',h1,h2,h3⟩:=Jp hown (UInt8.ofNat (m%128+128)) (acd m) hg.size (by omega);have cW:=ae h1;have hrel:ace w n v' (.int .u64 ((m:Int) / 128)) w':=by
    refine ⟨pre++ [UInt8.ofNat (m%128+128)],m / 128,k',by simp,h2,?_,by simp;omega,?_,by omega,Below.trans hg h3⟩
    ·rw [Nat.pow_succ] at hm;exact Nat.div_lt_of_lt_mul (by rw [Nat.mul_comm];exact hm)
    ·rw [jf,iw,if_neg (by omega)];simp
   have aX:=ae hrel;clear h1 h2 h3 hrel hown jf hm hk hg
   go_wp2_with (at_builtin;refine fI rfl rfl rfl rfl cW.out ?_)
   go_roundw
   case rel=>exact aX.out
   case measure=>simp [intOf];omega
  ·have iM:decide ((128:Int)≤(m:Int))=false:=by simp;omega
   have hx:(m:Int)=(((UInt8.ofNat m).toNat:Nat):Int):=by rw [UInt8.toNat_ofNat_of_lt' (by simp [UInt8.size];omega)]
   obtain ⟨v',w',h1,h2,h3⟩:=Jp hown (UInt8.ofNat m) hx hg.size (by omega);have cW:=ae h1;have jS:aI w.heap.size w' v' (aD n):=by
    rw [jf,iw,if_pos (by omega)];exact h2
   have gP:=ae jS;have Hg:=ae (Below.trans hg h3);clear h1 h2 h3 hown jf hm hk hg jS hx
   go_wp2_with (at_builtin;refine fI rfl rfl rfl rfl cW.out ?_)
   go_ret;exact ⟨_,rfl,gP.out,Hg.out⟩
def TS (w:World) (B:Nat) (l:List UInt8) (v0:Nat) (bv vv iv:Value) (wr:World):Prop:=
 ∃ (i v:Nat),iv= .int .i64 i∧i≤4∧vv= .int .u64 v∧v<4294967296∧(∃ pre,aI B wr bv (l++pre)∧pre.length=i∧cD 4 v0=pre++cD (4-i) v)∧Below B w wr∧B≤wr.heap.size
theorem acg (h:aI B w bv l) (hB:B≤w.heap.size) (hl:l.length≤1000000000000) (v0:Nat) (hv:v0<4294967296):
  Calls Tryz.prog 162 #[bv,.int .u64 v0,.int .i64 4] w fun e w'=>∃ v,e= .returned v∧aI B w' v (l++cD 4 v0)∧Below B w w':=by
 have hst:TS w B l v0 bv (.int .u64 v0) (.int .i64 0) w:=⟨0,v0,rfl,by omega,rfl,hv,⟨[],by simpa using h,rfl,rfl⟩,bS _ _,hB⟩
 have bJ:=ae hst;clear hst h;go_enter Tryz.func162,Tryz.ntmps162
 go_wp2_with fail
 go_loopw [0,1,8] (fun bv vv iv wr=>TS w B l v0 bv vv iv wr) (fun _ _ iv _=>4-(intOf iv).toNat)
 case atStart=>exact bJ.out
 case round=>
  obtain ⟨i,v,rfl,hi,rfl,arA,⟨pre,hown,hpl,kO⟩,hg,Js⟩:=hrel;by_cases hlt:i<4
  ·have eB:decide ((i:Int)<4)=true:=by simp;omega
   have fE:IntKind.i64.wrap ((i:Int)+1)=(i:Int)+1:=aS _ (by omega);have hx:((v:Int)%256)=(((UInt8.ofNat (v%256)).toNat:Nat):Int):=by rw [UInt8.toNat_ofNat_of_lt' (by simp [UInt8.size];omega)];omega
   obtain ⟨v',w',h1,h2,h3⟩:=Jp hown (UInt8.ofNat (v%256)) hx Js (by simp;omega);have cW:=ae h1;have hrel:TS w B l v0 v' (.int .u64 ((v:Int) / 256)) (.int .i64 ((i:Int)+1)) w':=by
    refine ⟨i+1,v / 256,by simp,hlt,by simp,by omega,⟨pre++ [UInt8.ofNat (v%256)],by rw [←ju];exact h2,by simp;omega,?_⟩,Below.trans hg h3,aM Js h3.size⟩;rw [kO,show 4-i=(4-(i+1))+1 by omega,cD];simp
   have aX:=ae hrel;obtain ⟨ba,bc,rfl⟩:=hown.slice;clear h1 h2 h3 hrel hown kO hpl hg hx
   go_wp2_with (at_builtin;refine fI rfl rfl rfl rfl cW.out ?_)
   go_roundw
   case rel=>exact aX.out
   case measure=>simp [intOf];omega
  ·obtain rfl:i=4:=by omega
   have iP:cD 4 v0=pre:=by rw [kO];simp [cD]
   have jS:=hown;rw [←iP] at jS;have gP:=ae jS;obtain ⟨ba,bc,rfl⟩:=hown.slice;clear jS hown kO iP;go_wp2;go_ret;exact ⟨_,rfl,gP.out,hg⟩
theorem Bv.slice (h:Bv w v l):∃ a c,v= .slice a l.length c:=by
 obtain ⟨a,c,h,_⟩:=h;exact ⟨a,c,h⟩
theorem Cz {p:List UInt8} (h:Bv w pv p) (hp:p.length≤67108864):
  Calls Tryz.prog 111 #[pv] w fun e w'=>∃ v,e= .returned v∧aI w.heap.size w' v (bB aq p)∧Grow w w':=by
 have jf:=arz w p.length (by omega);obtain ⟨pa,pc,rfl⟩:=h.slice;have H:=ae h;have mZ:=ae jf;clear h jf;go_enter Tryz.func111,Tryz.ntmps111
 go_wp2_with fail
 (with_reducible refine mZ.out.mono ?_);rintro e w1 ⟨nv,rfl,iO,hg1⟩;have ah:Grow w1 (w1.alloc (.cells #[.slice pa p.length pc] 49)):=ar _ _;have CA:=Oi (ax w1 (.cells #[.slice pa p.length pc] 49)) ((H.out.grow hg1).grow ah);have CB:=ae CA;obtain ⟨na,nc,rfl⟩:=iO.slice;clear CA
 go_wp2_with fail
 (with_reducible refine CB.out.mono ?_);rintro e w2 ⟨rfl,hg2⟩;have kO:=acg ((iO.grow ah).grow hg2) (by have:=hg1.size;have:=ah.size;have:=hg2.size;omega) (by have:=Jn 10 p.length;unfold aD;omega) (eF aq p) (zV p);have arB:=ae kO;have hwr:IntKind.u64.wrap ((eF aq p:Nat):Int)=((eF aq p:Nat):Int):=by have:=zV p;simp [IntKind.wrap,IntKind.bits,IntKind.signed];omega
 have Hg:=ae ((hg1.trans ah).trans hg2);clear kO ah hg2 CB iO hg1 mZ
 go_wp2_with fail
 (with_reducible refine arB.out.mono ?_);rintro e w3 ⟨lv,rfl,mz,hb3⟩;have hg3:Grow w w3:=Below.trans Hg.out hb3;obtain ⟨v',w',h1,h2,h3,_⟩:=rB mz (H.out.grow hg3) hg3.size (by have:=Jn 10 p.length;simp [mq];unfold aD;omega);have cW:=ae h1;have jS:aI w.heap.size w' v' (bB aq p):=by unfold bB;rw [←ju];exact h2
 have gP:=ae jS;have fW:=ae (below_grown hg3 hg3.size mz h3);obtain ⟨la,lc,rfl⟩:=mz.slice;clear h1 h2 h3 jS mz hb3 hg3
 go_wp2_with (at_builtin;refine fI rfl rfl rfl rfl cW.out ?_)
 go_ret;exact ⟨_,rfl,gP.out,fW.out⟩
theorem arC {ps:List (List UInt8)} {p:List UInt8} (h:ps[i]?=some p):bZ aq (ps.take (i+1))=bZ aq (ps.take i)++bB aq p:=by
 obtain ⟨hi,rfl⟩:=dG.1 h;unfold bZ;rw [List.take_succ_eq_append_getElem hi,List.flatMap_append,List.flatMap_singleton]
def ach (w:World) (ps:List (List UInt8)) (bv iv:Value) (wr:World):Prop:=
 ∃ i:Nat,iv= .int .i64 i∧i≤ps.length∧aI w.heap.size wr bv (bZ aq (ps.take i))∧Grow w wr
theorem arD {v:Value} {ps:List (List UInt8)} (h:Rv w v ps) (fw:∀ p∈ps,p.length≤67108864) (nd:(bZ aq ps).length≤1000000000000) (hpl:ps.length≤1000000000000):
  Calls Tryz.prog 80 #[v] w fun e w'=>∃ v,e= .returned v∧aI w.heap.size w' v (bZ aq ps)∧Grow w w':=by
 obtain ⟨va,vc,rfl,h⟩:=h;have H:=ae h;clear h;go_enter Tryz.func80,Tryz.ntmps80
 go_wp2_with fail
 go_loopw [3,8] (fun bv iv wr=>ach w ps bv iv wr) (fun _ iv _=>ps.length-(intOf iv).toNat)
 case atStart=>exact ⟨0,rfl,aY _,nO _ _ _,aV _⟩
 case round=>
  obtain ⟨i,rfl,hi,hown,hg⟩:=hrel;by_cases hlt:i<ps.length
  ·obtain ⟨p,hp⟩:∃ p,ps[i]?=some p:=⟨ps[i],by simp [hlt]⟩
   obtain ⟨b,o,rfl,lb,hc⟩:∃ b o,va=some ⟨b,o,none⟩∧b<w.heap.size∧∀ (j:Nat) (p:List UInt8),ps[j]?=some p→∃ pv,w.cell? ⟨b,o+j,none⟩=some pv∧Bv w pv p:=by
    rcases H.out with h1|h1
    ·rw [h1] at hlt;simp at hlt
    ·exact h1
   obtain ⟨pv,c1,bC⟩:=hc i p hp;rw [←Grow.cells _ _ _ hg lb] at c1;have lb':b<wr.heap.size:=cf lb hg.size;have eY:=Cz (bC.grow hg) (fw p (dB hp));have dS:=arC hp;have hle:(bZ aq (ps.take (i+1))).length≤(bZ aq ps).length:=by
    have:bZ aq ps=bZ aq (ps.take (i+1))++bZ aq (ps.drop (i+1)):=by unfold bZ;rw [←List.flatMap_append,List.take_append_drop]
    rw [this,aJ];omega
   have eB:(i:Int)<(ps.length:Int):=by omega
   have bO:(0:Int)≤(i:Int):=by omega
   have fE:IntKind.i64.wrap ((i:Int)+1)=(i:Int)+1:=aS _ (by omega);obtain ⟨pa,pc,rfl⟩:=bC.slice;obtain ⟨ba,bc,rfl⟩:=hown.slice;have oz:=ae eY;have fX:=ae hown;have Hg:=ae hg;clear eY hown hg hc hp bC
   go_wp2_with fail
   (with_reducible refine oz.out.mono ?_);rintro e w2 ⟨fv,rfl,hf2,hg2⟩;have fY:=fX.out.grow hg2;obtain ⟨v',w',h1,h2,h3,_⟩:=rB fY (cI hf2) (aM Hg.out.size hg2.size) (by rw [dS,aJ] at hle;omega);have cW:=ae h1;have hrel:ach w ps v' (.int .i64 ((i:Int)+1)) w':=⟨i+1,by simp,hlt,by rw [dS];exact h2,below_grown (Hg.out.trans hg2) (aM Hg.out.size hg2.size) fY h3⟩
   have aX:=ae hrel;obtain ⟨fa,fc,rfl⟩:=hf2.slice;clear h1 h2 h3 hrel fY hf2 dS hle hg2
   go_wp2_with (at_builtin;refine fI rfl rfl rfl rfl cW.out ?_)
   go_roundw
   case rel=>exact aX.out
   case measure=>simp [intOf];omega
  ·obtain rfl:i=ps.length:=by omega
   have jS:=hown;rw [ij] at jS;have gP:=ae jS;obtain ⟨ba,bc,rfl⟩:=hown.slice;clear jS hown;go_wp2;go_ret;exact ⟨_,rfl,gP.out,hg⟩
def arF (w:World) (l:List UInt8) (vv iv:Value) (wr:World):Prop:=
 ∃ i v:Nat,iv= .int .i64 i∧i≤l.length∧vv= .int .u64 v∧v<128^i∧i≤9∧fu l=mo i v (l.drop i)∧wr=w
theorem arG {v:Nat} {c:UInt8} (h:l[i]?=some c):mo i v (l.drop i)=
  if i=9∧1<c.toNat then (0,0,12) else
  if c.toNat<128 then (if c.toNat=0∧0<i then (0,0,12) else (v+c.toNat*128^i,i+1,0)) else
  mo (i+1) (v+(c.toNat-128)*128^i) (l.drop (i+1)):=by
 obtain ⟨hi,rfl⟩:=dG.1 h;rw [mh hi,mo]
theorem TT (i:Nat):128^i=2^(7*i):=by
 rw [Nat.pow_mul]
theorem arH {v x i:Nat} (hi:i≤9) (hv:v<128^i) (uG:x*128^i<18446744073709551616):bits .or .u64 (v:Int) ((x*128^i:Nat):Int)=((v+x*128^i:Nat):Int):=by
 have hle:128^i≤128^9:=Nat.pow_le_pow_right (by decide) hi;rw [u64_or_nat v (x*128^i) (by omega) uG];congr 1;rw [Nat.or_comm,Nat.add_comm v,TT];rw [TT] at hv;exact nat_join (7*i) (x*2^(7*i)) v (Nat.mul_mod_left _ _) hv
theorem arI {v k i:Nat} (hi:i≤9) (hv:v<128^i) (uG:k%128*128^i<18446744073709551616):bits .or .u64 (v:Int) (IntKind.u64.wrap ((k:Int)%128*2^(7*i)))=((v+k%128*128^i:Nat):Int):=by
 have e:(k:Int)%128*2^(7*i)=((k%128*128^i:Nat):Int):=by rw [TT];simp
 have hw:IntKind.u64.wrap ((k%128*128^i:Nat):Int)=((k%128*128^i:Nat):Int):=by
  generalize k%128*128^i=z at*;simp [IntKind.wrap,IntKind.bits,IntKind.signed];omega
 rw [e,hw];exact arH hi hv uG
theorem Jt {l:List UInt8} (h:Bv w bv l):
  Calls Tryz.prog 101 #[bv] w fun e w'=>e= .returned (.tuple #[.int .u64 ((fu l).1:Nat),.int .i64 ((fu l).2.1:Nat),.int .i64 ((fu l).2.2:Nat)])∧w'=w:=by
 obtain ⟨ba,bc,rfl,hlc,hm,hn,h⟩:=h;have H:=ae h;clear h;go_enter Tryz.func101,Tryz.ntmps101
 go_wp2_with fail
 go_loopw [5,10] (fun vv iv wr=>arF w l vv iv wr) (fun _ iv _=>l.length-(intOf iv).toNat)
 case atStart=>exact ⟨0,0,rfl,aY _,rfl,by decide,by decide,rfl,rfl⟩
 case round=>
  obtain ⟨i,v,rfl,hi,rfl,hv,hi9,fV,hwr⟩:=hrel;have yf:=hwr.symm;subst yf;clear hwr;by_cases hlt:i<l.length
  ·obtain ⟨c,hc⟩:∃ c,l[i]?=some c:=⟨l[i],by simp [hlt]⟩
   obtain ⟨b,o,rfl,lb,hcs⟩:∃ b o,ba=some ⟨b,o,none⟩∧b<w.heap.size∧∀ (j:Nat) (k:UInt8),l[j]?=some k→w.cell? ⟨b,o+j,none⟩=some (.int .u8 k.toNat):=by
    rcases H.out with h1|h1
    ·rw [h1] at hlt;simp at hlt
    ·exact h1
   have ck:=hcs i c hc;rw [arG hc] at fV;have aci:=c.toNat_lt;have eB:(i:Int)<(l.length:Int):=by omega
   have bO:(0:Int)≤(i:Int):=by omega
   have fE:IntKind.i64.wrap ((i:Int)+1)=(i:Int)+1:=aS _ (by omega);have hw7:IntKind.i64.wrap (7*(i:Int))=7*(i:Int):=aS _ (by omega);generalize c.toNat=k at*;have x1:bits .and .u8 (k:Int) 127=((k%128:Nat):Int):=by
    have:=u8_and_nat k 127 (by omega) (by decide);rw [show (k&&& 127)=k%128 from Nat.and_two_pow_sub_one_eq_mod k 7] at this;exact this
   have iz:=ae fV;clear fV hc hcs;by_cases h9:i=9∧1<k
   ·have e9:((i:Int)==9)=true:=by simp;omega
    have e1:decide ((1:Int)<(k:Int))=true:=by simp;omega
    have dC:Hid (fu l=(0,0,12)):=ae (by rw [iz.out,if_pos h9]);clear h9;go_wp2;go_ret3;rw [dC.out];exact ⟨rfl,rfl⟩
   ·have e9:((i:Int)==9)=true→decide ((1:Int)<(k:Int))=false:=by simp;omega
    have hx:k%128*128^i<18446744073709551616:=by
     by_cases hi8:i≤8
     ·have h1:128^i≤128^8:=Nat.pow_le_pow_right (by decide) hi8
      have h2:k%128*128^i≤127*128^8:=Nat.mul_le_mul (by omega) h1;omega
     ·obtain rfl:i=9:=by omega
      have:k%128≤1:=by omega
      have h2:k%128*128^9≤1*128^9:=Nat.mul_le_mul_right _ this;omega
    have x2:=arI hi9 hv hx;have X2:=ae x2;clear x2;rw [if_neg h9] at iz;by_cases TU:k<128
    ·rw [if_pos TU] at iz
     have Fu:k%128=k:=Nat.mod_eq_of_lt TU;rw [Fu] at X2;have arK:decide ((k:Int)<128)=true:=by simp;omega
     by_cases hz:k=0∧0<i
     ·have dC:Hid (fu l=(0,0,12)):=ae (by rw [iz.out,if_pos hz])
      have ez:((k:Int)==0)=true:=by simp;omega
      have ei:decide (0<i)=true:=by simp;omega
      have ei2:0<i:=hz.2;clear hz Fu;cases Fz:((i:Int)==9) with
      |true=>
       have e1:=e9 Fz;go_wp2;go_ret3;rw [dC.out];exact ⟨rfl,rfl⟩
      |false=>
       go_wp2;go_ret3;rw [dC.out];exact ⟨rfl,rfl⟩
     ·have dC:Hid (fu l=(v+k*128^i,i+1,0)):=ae (by rw [iz.out,if_neg hz])
      clear Fu;by_cases kP:k=0
      ·have ei:decide (0<i)=false:=by simp;omega
       have ei2:¬ 0<i:=by omega
       have ez:((k:Int)==0)=true:=by simp;omega
       clear kP;cases Fz:((i:Int)==9) with
       |true=>
        have e1:=e9 Fz;go_wp2;refine bodyPost_ret (v:= .tuple #[.int .u64 ((fu l).1:Nat),.int .i64 ((fu l).2.1:Nat),.int .i64 ((fu l).2.2:Nat)]) ?_ rfl ⟨rfl,rfl⟩;rw [dC.out];simp only [←X2.out];simp [results,Tryz.results101,go_sem]
       |false=>
        go_wp2;refine bodyPost_ret (v:= .tuple #[.int .u64 ((fu l).1:Nat),.int .i64 ((fu l).2.1:Nat),.int .i64 ((fu l).2.2:Nat)]) ?_ rfl ⟨rfl,rfl⟩;rw [dC.out];simp only [←X2.out];simp [results,Tryz.results101,go_sem]
      ·skip
       have ez:((k:Int)==0)=false:=by simp;omega
       cases Fz:((i:Int)==9) with
       |true=>
        have e1:=e9 Fz;go_wp2;refine bodyPost_ret (v:= .tuple #[.int .u64 ((fu l).1:Nat),.int .i64 ((fu l).2.1:Nat),.int .i64 ((fu l).2.2:Nat)]) ?_ rfl ⟨rfl,rfl⟩;rw [dC.out];simp only [←X2.out];simp [results,Tryz.results101,go_sem]
       |false=>
        go_wp2;refine bodyPost_ret (v:= .tuple #[.int .u64 ((fu l).1:Nat),.int .i64 ((fu l).2.1:Nat),.int .i64 ((fu l).2.2:Nat)]) ?_ rfl ⟨rfl,rfl⟩;rw [dC.out];simp only [←X2.out];simp [results,Tryz.results101,go_sem]
    ·have hi8:i≤8:=by omega
     have Fz:((i:Int)==9)=false:=by simp;omega
     have arK:decide ((k:Int)<128)=false:=by simp;omega
     have arM:Hid (k%128=k-128):=ae (by omega);rw [if_neg TU] at iz;go_wp2;go_roundw
     case rel=>
      rw [X2.out];refine ⟨i+1,_,by simp,hlt,rfl,?_,by omega,by rw [iz.out,arM.out],rfl⟩;have h1:k%128*128^i≤127*128^i:=Nat.mul_le_mul_right _ (by omega);rw [Nat.pow_succ];omega
     case measure=>simp [intOf];omega
  ·obtain rfl:i=l.length:=by omega
   have dC:Hid (fu l=(0,0,11)):=ae (by rw [fV,List.drop_length];rfl);clear fV;go_wp2;go_ret3;rw [dC.out];exact ⟨rfl,rfl⟩
def ack (w:World) (l1 l2:List UInt8) (iv:Value) (wr:World):Prop:=∃ i:Nat,iv= .int .i64 i∧i≤l1.length∧l1.take i=l2.take i∧Grow w wr
theorem TV {v1 v2:Value} {l1 l2:List UInt8} (h1:Bv w v1 l1) (h2:Bv w v2 l2):
  Calls Tryz.prog 150 #[v1,v2] w fun e w'=>e= .returned (.bool (decide (l1=l2)))∧Grow w w':=by
 obtain ⟨a1,c1,rfl,yh,gC,iO,h1⟩:=h1;obtain ⟨a2,c2,rfl,hl2,gH,jg,h2⟩:=h2;have H1:=ae h1;have H2:=ae h2;have aQ:=Grow.cells (w:=w);clear h1 h2 iO jg;by_cases hlen:l1.length=l2.length
 ·have hne:((l1.length:Int) != (l2.length:Int))=false:=by simp;omega
  go_enter Tryz.func150,Tryz.ntmps150;go_wp2
  go_loopw [13] (fun iv wr=>ack w l1 l2 iv wr) (fun iv _=>l1.length-(intOf iv).toNat)
  case atStart=>exact ⟨0,rfl,aY _,rfl,aV _⟩
  case round=>
   obtain ⟨i,rfl,hi,heq,hg⟩:=hrel;by_cases hlt:i<l1.length
   ·obtain ⟨x,hx⟩:∃ x,l1[i]?=some x:=⟨l1[i],by simp [hlt]⟩
    obtain ⟨y,hy⟩:∃ y,l2[i]?=some y:=⟨l2[i]'(by omega),by simp [show i<l2.length by omega]⟩
    obtain ⟨b1,o1,rfl,lb1,hc1⟩:∃ b o,a1=some ⟨b,o,none⟩∧b<w.heap.size∧∀ (j:Nat) (k:UInt8),l1[j]?=some k→w.cell? ⟨b,o+j,none⟩=some (.int .u8 k.toNat):=by
     rcases H1.out with h1|h1
     ·rw [h1] at hlt;simp at hlt
     ·exact h1
    obtain ⟨b2,o2,rfl,FA,hc2⟩:∃ b o,a2=some ⟨b,o,none⟩∧b<w.heap.size∧∀ (j:Nat) (k:UInt8),l2[j]?=some k→w.cell? ⟨b,o+j,none⟩=some (.int .u8 k.toNat):=by
     rcases H2.out with h1|h1
     ·rw [hlen,h1] at hlt;simp at hlt
     ·exact h1
    have p1:=hc1 i x hx;have p2:=hc2 i y hy;have eB:(i:Int)<(l1.length:Int):=by omega
    have Oj:(i:Int)<(l2.length:Int):=by omega
    have bO:(0:Int)≤(i:Int):=by omega
    have fE:IntKind.i64.wrap ((i:Int)+1)=(i:Int)+1:=aS _ (by unfold maxLen at gC;omega);have Hg:=ae hg;by_cases ir:x=y
    ·have hrel:ack w l1 l2 (.int .i64 ((i:Int)+1)) wr.drew:=by
      refine ⟨i+1,by simp,hlt,?_,hg.trans (az _)⟩;obtain ⟨q1,q2⟩:=dG.1 hx;obtain ⟨q3,q4⟩:=dG.1 hy;rw [List.take_succ_eq_append_getElem q1,List.take_succ_eq_append_getElem q3,heq,q2,q4,ir]
     have aX:=ae hrel;have e1:((x.toNat:Int) != (y.toNat:Int))=false:=by rw [ir];simp
     clear hrel hc1 hc2 hx hy heq hg ir
     go_wp2_with fail
     refine dz (fun W=>Below w.heap.size w W) [] (by kernel_rfl) (bK fun _ _ _ _ _ h=>h) (Hg.out.trans (az _)) ?_;simp only [cF]
     repeat ((first|(refine aA (v:= ?_) (by rfl) ?_ ?_;rotate_left;rintro W hW;go_simp;with_reducible rfl)|refine aB (by rfl) ?_);simp only [ai,List.set])
     refine bj ?_;go_wp2;go_roundw
     case rel=>exact aX.out
     case measure=>simp [intOf];omega
    ·have e1:((x.toNat:Int) != (y.toNat:Int))=true:=by
      simp only [bne_iff_ne,ne_eq];intro hc;exact ir (UInt8.toNat_inj.1 (by omega))
     have dC:Hid (decide (l1=l2)=false):=ae (by
      simp only [decide_eq_false_iff_not];intro hc;rw [hc,hy] at hx;exact ir (bk hx).symm)
     clear hc1 hc2 hx hy heq hg ir
     go_wp2_with fail
     refine dz (fun W=>Below w.heap.size w W) [] (by kernel_rfl) (bK fun _ _ _ _ _ h=>h) (Hg.out.trans (az _)) ?_;simp only [cF]
     repeat ((first|(refine aA (v:= ?_) (by rfl) ?_ ?_;rotate_left;rintro W hW;go_simp;with_reducible rfl)|refine aB (by rfl) ?_);simp only [ai,List.set])
     refine bj ?_;go_wp2;go_ret;rw [dC.out];exact ⟨rfl,Hg.out.trans (az _)⟩
   ·obtain rfl:i=l1.length:=by omega
    have dC:Hid (decide (l1=l2)=true):=ae (by
     rw [ij] at heq;rw [hlen,ij] at heq;simp [heq])
    clear heq;go_wp2;go_ret;rw [dC.out];exact ⟨rfl,hg⟩
 ·have hne:((l1.length:Int) != (l2.length:Int))=true:=by simp;omega
  have dC:Hid (decide (l1=l2)=false):=ae (by
   simp only [decide_eq_false_iff_not];intro hc;exact hlen (by rw [hc]))
  clear hlen;go_enter Tryz.func150,Tryz.ntmps150;go_wp2;go_ret;rw [dC.out];exact ⟨rfl,aV _⟩
theorem vX (h:Bv w v l) (mC:l.length≤140737488355328):
  Calls Tryz.prog 72 #[v] w fun e w'=>∃ v',e= .returned v'∧aI w.heap.size w' v' l∧Grow w w':=by
 have ah:Grow w (w.alloc (.cells #[] 5)):=ar _ _;have hrow:aI w.heap.size (w.alloc (.cells #[] 5)) (.slice (some ⟨w.heap.size,0,none⟩) 0 0) []:= .inr ⟨w.heap.size,0,#[],rfl,aw _,ax _ _,aw _,aw _,aY _,rfl⟩;obtain ⟨v',w',h1,h2,h3,_⟩:=rB hrow (h.grow ah) (by simp) (by simpa using mC);have hgr:Grow w w':=below_grown ah (by simp) hrow h3;have cW:=ae h1;have gP:=ae h2;have fW:=ae hgr;obtain ⟨a,c,rfl,_,_,hn,_⟩:=h;have h0:= @Lib.run_eql_slice_nil Tryz.prog;cases a with
 |none=>
  have hc:=hn rfl;have:l= []:=by
   rename_i hlc _ _
   exact iI (by omega)
  subst this;subst hc;clear h1 h2 h3 hgr hrow ah;go_enter Tryz.func72,Tryz.ntmps72;go_wp2;go_ret;exact ⟨_,rfl,nO _ _ _,aV _⟩
 |some a=>
  clear h1 h2 h3 hgr hrow ah hn;go_enter Tryz.func72,Tryz.ntmps72
  go_wp2_with (at_builtin;refine fI rfl rfl rfl rfl cW.out ?_)
  go_ret;exact ⟨_,rfl,gP.out,fW.out⟩
end Go.Proofs.YtoolkdapflaeeaaGreatDoor

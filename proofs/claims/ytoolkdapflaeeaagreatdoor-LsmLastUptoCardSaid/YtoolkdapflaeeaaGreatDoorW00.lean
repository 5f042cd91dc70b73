/- Helpers. -/
import Derived.Lib.Hide
import Derived.WalkKit
import Derived.WalkSpells
import Derived.WalkLawsBesides
import Derived.Deep.AppendSrc
import Derived.Deep.Draws
import Derived.OrdersHeld
import Derived.Deep.AppendLies
import Derived.Maps.RangeRun
set_option maxRecDepth 100000
set_option maxHeartbeats 16000000
namespace Go.Gl
open Go.RowKit
abbrev ae:= @Lib.hid
abbrev ah:= @And.intro
abbrev aw:= @heap_alloc_new
abbrev aK:= @Below.heap_setCell
abbrev aR:= @IntWalk.i64_in
abbrev aN:= @Nat.le_trans
abbrev ay:= @Nat.le_refl
abbrev cj:= @Nat.lt_of_lt_of_le
abbrev bB:= @Option.some.inj
abbrev bk:= @Nat.zero_le
abbrev cA:= @Obj.cells.inj
abbrev dY:= @List.mem_of_getElem?
abbrev jb:= @List.eq_nil_of_length_eq_zero
abbrev dQ:= @List.getElem?_eq_some_iff
abbrev fI:= @Array.getD_eq_getD_getElem?
abbrev mg:= @List.mem_append_right
abbrev gz:= @List.mem_cons_of_mem
abbrev eQ:= @List.mem_cons_self
abbrev cY:= @List.mem_singleton
section maps
variable {P:Program} {κ:Type} [DecidableEq κ]
structure aF (κ:Type) where
 key:κ
 val:Value
 born:Nat
def aF.raw (enc:κ→Value) (e:aF κ):MapEntry:={key:=enc e.key,val:=e.val,born:=e.born}
def kL (k:κ):List (aF κ)→Nat→Option (Nat×Value)
 | [],_=>none
 |e::es,i=>if k=e.key then some (i,e.val) else kL k es (i+1)
structure yD (P:Program) (kt:TypeId) (enc:κ→Value):Prop where
 check:∀ (b:Bool) (k:κ) (w:World),(Instr.checkKey b 10000 kt (enc k)).run P w= .ok () w
 find:∀ (k:κ) (l:List (aF κ)) (w:World),(Instr.findKey kt (enc k) (l.map (aF.raw enc))).run P w= .ok (kL k l 0) w
 same:∀ k:κ,Instr.sameBits 10000 (enc k) (enc k)=true
def MapAt (w:World) (r:Nat) (enc:κ→Value) (l:List (aF κ)) (clock:Nat):Prop:=
 w.heap[r]?=some (.map (l.map (aF.raw enc)).toArray clock)
def AZ (k:κ) (z:Value) (l:List (aF κ)):Value:=((l.find? (fun e=>decide (k=e.key))).map aF.val).getD z
theorem Rs {k:κ} {l:List (aF κ)} {i:Nat}:kL k l i=none↔∀ e∈l,k≠e.key:=by
 induction l generalizing i with
 |nil=>simp [kL]
 |cons e es ih=>
  unfold kL;by_cases h:k=e.key
  ·simp [h]
  ·simp [h,ih]
theorem Zn {k:κ} {l:List (aF κ)} {i j:Nat} {v:Value} (h:kL k l i=some (j,v)):
  i≤j∧∃ e,l[j-i]?=some e∧e.key=k∧e.val=v:=by
 induction l generalizing i with
 |nil=>simp [kL] at h
 |cons e es ih=>
  unfold kL at h;by_cases hk:k=e.key
  ·simp only [hk,if_true,Option.some.injEq,Prod.mk.injEq] at h
   obtain ⟨rfl,rfl⟩:=h;exact ⟨ay _,e,by simp,hk.symm,rfl⟩
  ·simp only [hk,if_false] at h
   obtain ⟨h1,e',h2,h3⟩:=ih h;refine ⟨by omega,e',?_,h3⟩;rw [show j-i=(j-(i+1))+1 by omega];simpa using h2
theorem ang (k:κ) (z:Value) (l:List (aF κ)) (i:Nat):((kL k l i).map (·.2)).getD z=AZ k z l:=by
 induction l generalizing i with
 |nil=>simp [kL,AZ]
 |cons e es ih=>
  unfold kL;by_cases h:k=e.key
  ·simp [h,AZ]
  ·simp [h,ih,AZ]
theorem run_getObj_map {w:World} {r:Nat} {es:Array MapEntry} {c:Nat} (h:w.heap[r]?=some (.map es c)):(getObj r).run P w= .ok (.map es c) w:=by
 simp [getObj,Sem.run,h]
theorem run_setObj_map {w:World} {r:Nat} {es:Array MapEntry} {c:Nat} (o:Obj) (h:w.heap[r]?=some (.map es c)):
  (setObj r o).run P w= .ok () {w with heap:=w.heap.setIfInBounds r o}:=by
 simp [setObj,Sem.run,h]
theorem Zo {w:World} {t kt et:TypeId} {enc:κ→Value} (K:yD P kt enc) (ht:P.underlying t=some (.map kt et)) {z:Value}
  (hz:(zeroValue et).run P w= .ok z w) {r:Nat} {l:List (aF κ)} {c:Nat} (hm:MapAt w r enc l c) (k:κ):
  (Instr.lookup t (.map (some r)) (enc k) false).run P w= .ok (AZ k z l) w:=by
 rw [←ang k z l 0];cases hf:kL k l 0 with
 |none=>simp [Instr.lookup,run_underlying ht,run_getObj_map hm,K.check,K.find,hf,hz,Result.andThen]
 |some p=>simp [Instr.lookup,run_underlying ht,run_getObj_map hm,K.check,K.find,hf,Result.andThen]
def cB (w:World) (r:Nat) (o:Obj):World:={w with heap:=w.heap.setIfInBounds r o}
theorem yE {w:World} {r:Nat} {o:Obj} (h:r<w.heap.size):(cB w r o).heap[r]?=some o:=by
 simp [cB,h]
theorem wC {w:World} {r b:Nat} {o:Obj} (h:b≠r):(cB w r o).heap[b]?=w.heap[b]?:=by
 simp [cB,Array.getElem?_setIfInBounds_ne (Ne.symm h)]
def kM (k:κ) (v:Value) (l:List (aF κ)):List (aF κ):=l.map fun e=>if k=e.key then {e with val:=v} else e
theorem af {α:Type} {a:Array α} {i:Nat} {x:α} (h:a[i]?=some x):i<a.size:=by
 rcases Nat.lt_or_ge i a.size with h'|h'
 ·exact h'
 ·simp [Array.getElem?_eq_none h'] at h
theorem anh {α β:Type} (f:α→β) (l:List α) (j:Nat):(l.map f).eraseIdx j=(l.eraseIdx j).map f:=by
 simp [List.eraseIdx_eq_take_drop_succ]
theorem ani {α:Type} {l:List α} (h:l.Nodup) {i j:Nat} {x:α} (hi:l[i]?=some x) (hj:l[j]?=some x):i=j:=by
 obtain ⟨hi',anj⟩:=dQ.1 hi;obtain ⟨hj',ank⟩:=dQ.1 hj;exact (List.getElem_inj h).1 (anj.trans ank.symm)
omit [DecidableEq κ] in
theorem Ru {l:List (aF κ)} (h:(l.map aF.key).Nodup) {i j:Nat} {x y:aF κ} (hi:l[i]?=some x) (hj:l[j]?=some y) (gA:x.key=y.key):i=j:=
 ani h (x:=x.key) (by simp [hi]) (by simp [hj,gA])
theorem anl {k:κ} {v:Value} {enc:κ→Value} {l:List (aF κ)} (hn:(l.map aF.key).Nodup) {j:Nat} {e:aF κ} (hj:l[j]?=some e) (he:e.key=k)
  (f:MapEntry→MapEntry) (hf:f (e.raw enc)=({e with val:=v}:aF κ).raw enc):
  ((l.map (aF.raw enc)).toArray.modify j f)=((kM k v l).map (aF.raw enc)).toArray:=by
 apply Array.ext';simp only [Array.toList_modify];apply List.ext_getElem?;intro i;rw [List.getElem?_modify];simp only [List.getElem?_map,kM];cases hi:l[i]? with
 |none=>simp
 |some x=>
  simp only [Option.map_some];by_cases nW:j=i
  ·subst nW
   have:x=e:=bB (hi.symm.trans hj);subst this;simp [he,hf]
  ·have hx:k≠x.key:=by
    intro hk;apply nW;exact Ru hn hj hi (he.trans hk)
   simp [nW,hx]
theorem Mo {w:World} {t kt et:TypeId} {enc:κ→Value} (K:yD P kt enc) (ht:P.underlying t=some (.map kt et))
  {r:Nat} {l:List (aF κ)} {c:Nat} (hm:MapAt w r enc l c) (k:κ) (v:Value) (hk:∀ e∈l,k≠e.key):
  (Instr.mapUpdate t (.map (some r)) (enc k) v).run P w= .ok () (cB w r (.map ((l++ [(⟨k,v,c⟩:aF κ)]).map (aF.raw enc)).toArray (c+1))):=by
 have hf:kL k l 0=none:=Rs.2 hk;simp [Instr.mapUpdate,run_underlying ht,run_getObj_map hm,K.check,K.find,hf,Result.andThen,run_setObj_map _ hm,cB,aF.raw]
theorem Zp {w:World} {t kt et:TypeId} {enc:κ→Value} (K:yD P kt enc) (ht:P.underlying t=some (.map kt et))
  {r:Nat} {l:List (aF κ)} {c:Nat} (hm:MapAt w r enc l c) (hn:(l.map aF.key).Nodup) (k:κ) (v:Value) (hk:∃ e∈l,k=e.key):
  (Instr.mapUpdate t (.map (some r)) (enc k) v).run P w= .ok () (cB w r (.map ((kM k v l).map (aF.raw enc)).toArray c)):=by
 cases hf:kL k l 0 with
 |none=>obtain ⟨e,he,sS⟩:=hk;exact absurd sS (Rs.1 hf e he)
 |some p=>
  obtain ⟨j,u⟩:=p;obtain ⟨_,e,he,rr,_⟩:=Zn hf;simp only [Nat.sub_zero] at he;have hj:j<l.length:=(dQ.1 he).1;have GG:l[j]=e:=(dQ.1 he).2;have hs:Instr.sameBits 10000 (enc k) (enc k)=true:=K.same k;have DV:=anl (v:=v) (enc:=enc) hn he rr (fun x=>{x with key:=enc k,val:=v}) (by simp [aF.raw,rr]);simp [Instr.mapUpdate,run_underlying ht,run_getObj_map hm,K.check,K.find,hf,Result.andThen,Instr.keyThatStays,hj,GG,aF.raw,rr,hs,run_setObj_map _ hm,cB];have Zq:=congrArg Array.toList DV;simp only [Array.toList_modify] at Zq;rw [Zq]
theorem Rx {w:World} {t kt et ty kt':TypeId} {enc:κ→Value} (K:yD P kt enc) (ht:P.underlying t=some (.map kt et))
  {r:Nat} {l:List (aF κ)} {c:Nat} (hm:MapAt w r enc l c) (hn:(l.map aF.key).Nodup) (k:κ):
  (Builtin.delete_ #[t,kt'] ty #[.map (some r),enc k]).run P w= .ok (.tuple #[]) (cB w r (.map ((l.filter fun e=>decide (k≠e.key)).map (aF.raw enc)).toArray c)):=by
 cases hf:kL k l 0 with
 |none=>
  have dA:(l.filter fun e=>decide (k≠e.key))=l:=List.filter_eq_self.2 fun e he=>by simpa using Rs.1 hf e he
  rw [dA];simp [Builtin.delete_,run_underlying ht,run_getObj_map hm,K.check,K.find,hf,Result.andThen,run_setObj_map _ hm,cB]
 |some p=>
  obtain ⟨j,u⟩:=p;obtain ⟨_,e,he,rr,_⟩:=Zn hf;simp only [Nat.sub_zero] at he;have hj:j<l.length:=(dQ.1 he).1;have GG:l[j]=e:=(dQ.1 he).2;have dA:(l.filter fun e=>decide (k≠e.key))=l.eraseIdx j:=by
   have anm:l=l.take j++l[j]::l.drop (j+1):=by rw [List.getElem_cons_drop,List.take_append_drop]
   rw [List.eraseIdx_eq_take_drop_succ]
   conv=>lhs;rw [anm]
   rw [List.filter_append,List.filter_cons];simp only [GG,rr,ne_eq,not_true_eq_false,decide_false,Bool.false_eq_true,if_false];congr 1
   ·apply List.filter_eq_self.2
    intro x hx;obtain ⟨i,hi,nX⟩:=List.mem_iff_getElem.1 hx;simp only [List.length_take] at hi;simp only [decide_eq_true_eq];intro sT;have kO:i<l.length:=by omega
    have:i=j:=Ru hn (x:=l[i]) (y:=l[j]) (by simp [kO]) (by simp [hj]) (by rw [GG,rr,sT,←nX,List.getElem_take]);omega
   ·apply List.filter_eq_self.2
    intro x hx;obtain ⟨i,hi,nX⟩:=List.mem_iff_getElem.1 hx;simp only [List.length_drop] at hi;simp only [decide_eq_true_eq];intro sT;have kO:j+1+i<l.length:=by omega
    have:j+1+i=j:=Ru hn (x:=l[j+1+i]) (y:=l[j]) (by simp [kO]) (by simp [hj]) (by rw [GG,rr,sT,←nX,List.getElem_drop]);omega
  rw [dA];simp [Builtin.delete_,run_underlying ht,run_getObj_map hm,K.check,K.find,hf,Result.andThen,run_setObj_map _ hm,cB,anh]
end maps
section pairs
variable {P:Program} {w:World}
end pairs
section steps
variable {P:Program} {ops:Array Oper} {rest:List Oper} {o:Oper} {a:Act} {Q:Exit→Act→World→Prop} {w w':World}
theorem ann {v:Value} (hg:o.guard=none) (hr:(execOp a.eval o).run P w= .ok (.value v) w')
  (h:wpList P ops Q rest (a.put o.dst v) w'):wpList P ops Q (o::rest) a w:=
 wpList_plain hg fun K hK=>by
  unfold Oper.wp;rw [hr];exact hK _ _ h
theorem GH {s x:Operand} {t tx:TypeId} (hop:o.op=Op.call {callee:=Callee.builtin Builtin.append,args:=#[s,x],argTypes:=#[t,tx]})
  {sv xv v:Value} (hs:a.eval s=sv) (hx:a.eval x=xv) (hr:(Builtin.append_ #[t,tx] o.type #[sv,xv]).run P w= .ok v w'):
  (execOp a.eval o).run P w= .ok (.value v) w':=by
 unfold execOp;simp [hop,resolve,invoke,hs,hx,builtin,hr]
theorem cells_one {v:Value} (h:v.oneCell'=true):v.cells=#[v]:=by cases v<;>first|rfl|cases h
theorem ano {t E:TypeId} {z:Value} {bytes:Nat} (ht:P.underlying t=some (.slice E)) (hi:(P.info? E).map (fun i=>(i.zero,i.size,i.bytes))=some (some z,1,bytes)) (hz:z.oneCell'=true) {v:Value} (hv:v.oneCell'=true):
  (Instr.buildSlice t 1 #[(0,v)]).run P w= .ok (.slice (some ⟨w.heap.size,0,none⟩) 1 1) (w.alloc (.cells #[v] E)):=by
 obtain ⟨i0,bK,hz0,hz1,_⟩:=info_parts hi;simp [Instr.buildSlice,run_underlying ht,sizeOf,typeInfo,bK,hz1,zeroValue,hz0,Instr.fill,cells_one hv,cells_one hz,newRow];congr 2;apply Array.ext
 ·simp
 ·intro i h1 h2
  simp at h1;simp [h1]
theorem ru {x:Operand} {t E:TypeId} {z v:Value} {bytes:Nat} (hop:o.op=Op.buildSlice t 1 #[(0,x)]) (ht:P.underlying t=some (.slice E)) (hi:(P.info? E).map (fun i=>(i.zero,i.size,i.bytes))=some (some z,1,bytes)) (hz:z.oneCell'=true)
  (hx:a.eval x=v) (hv:v.oneCell'=true):(execOp a.eval o).run P w= .ok (.value (.slice (some ⟨w.heap.size,0,none⟩) 1 1)) (w.alloc (.cells #[v] E)):=by
 unfold execOp;simp [hop,hx,ano ht hi hz hv]
theorem fC {s x:Operand} {t tx:TypeId} (hg:o.guard=none) (hop:o.op=Op.call {callee:=Callee.builtin Builtin.append,args:=#[s,x],argTypes:=#[t,tx]})
  {sv xv v:Value} (hs:a.eval s=sv) (hx:a.eval x=xv) (hr:(Builtin.append_ #[t,tx] o.type #[sv,xv]).run P w= .ok v w')
  (h:wpList P ops Q rest (a.put o.dst v) w'):wpList P ops Q (o::rest) a w:=
 ann hg (GH hop hs hx hr) h
end steps
section bytes
variable {P:Program} {w w':World}
def cR (l:List UInt8):List Value:=l.map fun x=> .int .u8 x.toNat
def Bytes (w:World) (v:Value) (l:List UInt8):Prop:=
 (v= .slice none 0 0∧l= [])∨∃ (b o c:Nat),v= .slice (some ⟨b,o,none⟩) l.length c∧b<w.heap.size∧∀ (i:Nat) (x:UInt8),l[i]?=some x→w.cell? ⟨b,o+i,none⟩=some (.int .u8 x.toNat)
def blk:Value→Option Nat
 | .slice (some a) _ _=>some a.block
 |_=>none
theorem anp {src dst e:TypeId} (hs:P.underlying src=some (.slice e)) (he:P.underlying e=some (.int .u8)) (hd:P.underlying dst=some .string) {v:Value} {l:List UInt8} (h:Bytes w v l):
  (convert src dst v).run P w= .ok (.string ⟨l.toArray⟩) w:=by
 rcases h with ⟨rfl,rfl⟩|⟨b,o,c,rfl,h1,h2⟩
 ·rw [run_convert_bytes_string w src dst e none 0 0 hs he hd]
  rfl
 ·refine run_convert_bytes_back w src dst e ⟨b,o,none⟩ c l hs he hd fun j hj=> ?_
  rw [Addr.add_lit];exact h2 j l[j] (by simp [hj])
abbrev Grow (w w':World):Prop:=Below w.heap.size w w'
theorem Grow.trans {w1 w2 w3:World} (h:Grow w1 w2) (k:Grow w2 w3):Grow w1 w3:=Below.trans h (Below.mono k h.size)
theorem Grow.refl (w:World):Grow w w:=Below.refl _ _
theorem Grow.alloc (w:World) (o:Obj):Grow w (w.alloc o):=(Below.refl _ _).alloc (ay _) o
theorem Grow.drew (w:World):Grow w w.drew:=(Below.refl _ _).drew
theorem cp {B:Nat} {a w:World} {n:Nat} (h:Below B a w):Below B a (w.drewN n):=h.trans ⟨rfl,rfl,rfl,ay _,fun _ _=>rfl⟩
theorem Grow.heap {w w':World} (h:Grow w w') {b:Nat} {o:Obj} (hb:w.heap[b]?=some o):w'.heap[b]?=some o:=by
 rw [h.block b (af hb),hb]
theorem Grow.cells {w:World}:∀ (W:World) (b o:Nat),Below w.heap.size w W→b<w.heap.size→W.cell? ⟨b,o,none⟩=w.cell? ⟨b,o,none⟩:=
 fun _ _ _ h hb=>h.cell (p:=⟨_,_,none⟩) hb
end bytes
section range
variable {P:Program} {κ:Type} {w:World}
def kh (seen:Array Nat) (l:List (aF κ)):List (aF κ):=l.filter fun e=> !seen.contains e.born
def yF (r it:Nat) (w:World):Nat:=
 match w.heap[it]?,w.heap[r]? with
 |some (.mapIter _ _ seen _),some (.map es _)=>(leftOf es seen).size
 |_,_=>0
theorem Ry (enc:κ→Value) (seen:Array Nat) (l:List (aF κ)):(leftOf (l.map (aF.raw enc)).toArray seen).toList=(kh seen l).map (aF.raw enc):=by
 unfold leftOf kh;rw [Array.toList_filter,List.filter_map];rfl
theorem Mp {enc:κ→Value} {r it c since c0:Nat} {seen:Array Nat} {l:List (aF κ)} (hi:w.heap[it]?=some (.mapIter (some r) since seen c0)) (hm:MapAt w r enc l c):yF r it w=(kh seen l).length:=by
 unfold yF;rw [hi,show w.heap[r]?=_ from hm];simp only;rw [←Array.length_toList,Ry,List.length_map]
theorem Zr {enc:κ→Value} {r it c since c0:Nat} {seen:Array Nat} {l:List (aF κ)} (ty:TypeId) (hi:w.heap[it]?=some (.mapIter (some r) since seen c0)) (hm:MapAt w r enc l c) (hold:∀ e∈l,e.born<since) (hsc:since≤c0) (hir:it≠r) (hn:(l.map aF.born).Nodup):
  (kh seen l= []∧(Instr.next (.pointer (some ⟨it,0,none⟩)) false ty).run P w= .ok (.tuple #[.bool false]) w)∨
  ∃ e w1,e∈kh seen l∧(Instr.next (.pointer (some ⟨it,0,none⟩)) false ty).run P w= .ok (.tuple #[.bool true,enc e.key,e.val]) w1∧
   (Instr.entry (.pointer (some ⟨it,0,none⟩))).run P w1= .ok (.tuple #[enc e.key,e.val]) w1∧
   w1.heap[it]?=some (.mapIter (some r) since (seen.push e.born) c)∧w.grownBy w1 (some it)∧w1.heap.size=w.heap.size:=by
 rcases run_next_at (P:=P) w ty it r since c0 seen _ c hi hm (by simpa [aF.raw] using hold) hsc with ⟨h1,h2⟩|⟨e,he,w1,bS,hrun⟩
 ·left
  refine ⟨?_,h2⟩;have:=congrArg List.length (Ry enc seen l);rw [Array.length_toList,h1,List.length_map] at this;exact jb this.symm
 ·right
  rw [Ry] at he;obtain ⟨x,hx,rfl⟩:=List.mem_map.1 he;have ic:x∈l:=(List.mem_filter.1 hx).1;have hlt:it<w1.heap.size:=by rcases bS with rfl|rfl<;>exact af hi
  have hit:(ChangeMaps.setBlock w1 it (.mapIter (some r) since (seen.push (aF.raw enc x).born) c)).heap[it]?=some (.mapIter (some r) since (seen.push x.born) c):=by
   simp [ChangeMaps.setBlock,hlt,aF.raw]
  have iw:∀ b,b≠it→(ChangeMaps.setBlock w1 it (.mapIter (some r) since (seen.push (aF.raw enc x).born) c)).heap[b]?=w.heap[b]?:=by
   intro b hb;have:w1.heap[b]?=w.heap[b]?:=by rcases bS with rfl|rfl<;>rfl
   rw [←this];simp [ChangeMaps.setBlock,Array.getElem?_setIfInBounds_ne (Ne.symm hb)]
  have hsz:(ChangeMaps.setBlock w1 it (.mapIter (some r) since (seen.push (aF.raw enc x).born) c)).heap.size=w.heap.size:=by
   rcases bS with rfl|rfl<;>simp [ChangeMaps.setBlock]
  refine ⟨x,_,hx,hrun,?_,hit,⟨?_,?_,?_,Nat.le_of_eq hsz.symm,fun b _ hb=>iw b (fun e=>hb (by rw [e]))⟩,hsz⟩
  ·refine run_entry_at _ it r since seen _ c (aF.raw enc x) hit ((iw r (Ne.symm hir)).trans hm) (by simpa using List.mem_map_of_mem ic) ?_
   simpa [aF.raw,Function.comp_def] using hn
  ·rcases bS with rfl|rfl<;>rfl
  ·rcases bS with rfl|rfl<;>rfl
  ·rcases bS with rfl|rfl<;>rfl
theorem Mq (seen:Array Nat) (l:List (aF κ)) (b:Nat):kh (seen.push b) l=(kh seen l).filter fun e=>decide (e.born≠b):=by
 unfold kh;rw [List.filter_filter];apply List.filter_congr;intro e _;simp only [Array.contains_push,Bool.not_or];rw [Bool.and_comm];congr 1;by_cases h:e.born=b
 ·simp [h]
 ·simp [h]
theorem Zs {seen:Array Nat} {l:List (aF κ)} (hn:(l.map aF.born).Nodup):((kh seen l).map aF.born).Nodup:=hn.sublist (List.filter_sublist.map _)
end range
section keep
variable {soft:Obj→Prop} {B:Nat} {w w' w'':World}
end keep
section pi
variable {P:Program} {ops:Array Oper} {Q:Exit→Act→World→Prop} {S:World→Prop}
def cU (P:Program) (ops:Array Oper) (Q:Exit→Act→World→Prop) (S:World→Prop):List (Oper×Bool)→Act→World→Prop
 | [],a,w=>Q .normal a w
 |(o,false)::rest,a,w=>∃ v,YieldsIf P ops S o v a∧cU P ops Q S rest (a.put o.dst v) w
 |(o,true)::rest,a,w=>if Region.wanted o (yielded ops a.tmps) then o.wp P a w (fun a' w'=>S w'∧cU P ops Q S rest a' w') Q else (S w∧cU P ops Q S rest (a.put o.dst undef) w)
def nth:List Oper→Nat→Oper
 | [],_=>default
 |o::_,0=>o
 |_::l,n+1=>nth l n
def aP (l:List Oper):List (Nat×Bool)→List (Oper×Bool)
 | []=> []
 |(i,b)::r=>(nth l i,b)::aP l r
def nY (ops:Array Oper):List (Nat×Bool)→Array Bool→Bool
 | [],listed=>(Region.ready .any ops listed).isEmpty
 |(i,false)::rest,listed=>(Region.ready .any ops listed).contains i&&Region.free .any ops listed i&&nY ops rest (listed.setIfInBounds i true)
 |(i,true)::rest,listed=>decide (Region.ready .any ops listed= [i])&&nY ops rest (listed.setIfInBounds i true)
theorem sU:∀ {l:List Oper} {i:Nat},i<l.length→l[i]?=some (nth l i)
 | [],_,h=>by simp at h
 |_::_,0,_=>rfl
 |_::l,i+1,h=>by simpa [nth] using sU (l:=l) (by simpa using h)
theorem sV {ops:Array Oper} {listed:Array Bool} {i:Nat} (h:i∈Region.ready .any ops listed):i<ops.size:=by
 simp only [Region.ready,List.mem_filter,List.mem_range] at h;exact h.1
theorem DW {l:List Oper} (hs:Region.noSelect l.toArray=true) (hQ:∀ c a d v w,Q (.panic c) (Act.put a d v) w→Q (.panic c) a w):∀ (π:List (Nat×Bool)) (listed:Array Bool) (a:Act) (w:World),
  nY l.toArray π listed=true→S w→cU P l.toArray Q S (aP l π) a w→wpAnyH P .any l.toArray Q S π.length listed a w
 | [],listed,a,w,hc,hS,h=>wpAnyH_done (by simpa [nY] using hc) h _
 |(i,false)::rest,listed,a,w,hc,hS,h=>by
  simp only [nY,Bool.and_eq_true] at hc;obtain ⟨v,hy,hr⟩:=h;have hi:=sV (by simpa using hc.1.1);exact wpAnyH_take (by simpa using sU (l:=l) (by simpa using hi)) hs hc.1.2 hc.1.1 (fun c a w=>hQ c a _ _ w) hy hS (DW hs hQ rest _ _ _ hc.2 hS hr)
 |(i,true)::rest,listed,a,w,hc,hS,h=>by
  simp only [nY,Bool.and_eq_true,decide_eq_true_eq] at hc;refine wpAnyH_all hc.1 (by simp) fun j hj=> ?_
  have ki:j=i:=by simpa using hj
  subst ki;have hi:l.toArray[j]?=some (nth l j):=by
   have:=sV (ops:=l.toArray) (listed:=listed) (i:=j) (by rw [hc.1];simp);simpa using sU (l:=l) (by simpa using this)
  simp only [aP,cU] at h;unfold wpOp;simp only [hi];split
  ·rename_i hw
   rw [if_pos hw] at h;exact .inl (Oper.wp_mono (fun a' w' h'=>⟨h'.1,DW hs hQ rest _ _ _ hc.2 h'.1 h'.2⟩) h)
  ·rename_i hw
   rw [if_neg hw] at h;exact ⟨h.1,DW hs hQ rest _ _ _ hc.2 h.1 h.2⟩
theorem bX {id:Nat} {a:Act} {w:World} {l:List Oper} (S:World→Prop) (π:List (Nat×Bool)) (hm:P.follows .mixedOrders=true)
  (hB:(Region.noSelect l.toArray&&nY l.toArray π (Array.replicate l.toArray.size false)&&decide (π.length=l.toArray.size))=true)
  (hQ:∀ c a d v w,Q (.panic c) (Act.put a d v) w→Q (.panic c) a w) (hS:S w.drew) (h:cU P l.toArray Q S (aP l π) a w.drew):(Code.region id l.toArray true).wp P Q a w:=by
 simp only [Bool.and_eq_true,decide_eq_true_eq] at hB;refine wp_region_held (S:=S) hm ?_;rw [←hB.2];exact DW hB.1.1 hQ π _ _ _ (by rw [hB.2];exact hB.1.2) hS h
theorem ag {l:List Value} {d:Nat} {v:Value} {ds:List Deferred}:Act.put ⟨l.toArray,ds⟩ (some d) v=⟨(l.set d v).toArray,ds⟩:=by simp [Act.put]
theorem aD {a:Act} {v:Value}:a.put none v=a:=rfl
theorem bm {a:Act} {w:World} (h:Q .normal a w):cU P ops Q S [] a w:=h
theorem aB {rest:List (Oper×Bool)} {a:Act} {w:World} {o:Oper} {v:Value} (hw:Region.wanted o (yielded ops a.tmps)=true)
  (hv:∀ W,S W→(execOp a.eval o).run P W= .ok (.value v) W) (h:cU P ops Q S rest (a.put o.dst v) w):cU P ops Q S ((o,false)::rest) a w:=
 ⟨v,.inl ⟨hw,hv⟩,h⟩
theorem aC {rest:List (Oper×Bool)} {a:Act} {w:World} {o:Oper} (hw:Region.wanted o (yielded ops a.tmps)=false)
  (h:cU P ops Q S rest (a.put o.dst undef) w):cU P ops Q S ((o,false)::rest) a w:=
 ⟨undef,.inr ⟨hw,rfl⟩,h⟩
theorem fQ {rest:List (Oper×Bool)} {a:Act} {w:World} {o:Oper} (hw:Region.wanted o (yielded ops a.tmps)=true)
  (h:∀ K:Act→World→Prop,(∀ a w,S w∧cU P ops Q S rest a w→K a w)→o.wp P a w K Q):cU P ops Q S ((o,true)::rest) a w:=by
 unfold cU;rw [if_pos hw];exact h _ (fun _ _ h=>h)
theorem Rz {rest:List (Oper×Bool)} {a:Act} {w:World} {o:Oper} (hw:Region.wanted o (yielded ops a.tmps)=false) (hS:S w)
  (h:cU P ops Q S rest (a.put o.dst undef) w):cU P ops Q S ((o,true)::rest) a w:=by
 unfold cU;rw [if_neg (by simp [hw])];exact ⟨hS,h⟩
theorem ry {rest:List (Oper×Bool)} {a:Act} {w w':World} {o:Oper} {v:Value} (hw:Region.wanted o (yielded ops a.tmps)=true)
  (hr:(execOp a.eval o).run P w= .ok (.value v) w') (hS:S w') (h:cU P ops Q S rest (a.put o.dst v) w'):cU P ops Q S ((o,true)::rest) a w:=
 fQ hw fun K hK=>by
  unfold Oper.wp;rw [hr];exact hK _ _ ⟨hS,h⟩
theorem aDr {rest:List (Oper×Bool)} {a:Act} {w w':World} {o:Oper} (hw:Region.wanted o (yielded ops a.tmps)=true)
  (hr:(execOp a.eval o).run P w= .ok .skip w') (hS:S w') (h:cU P ops Q S rest (a.put o.dst undef) w'):cU P ops Q S ((o,true)::rest) a w:=
 fQ hw fun K hK=>by
  unfold Oper.wp;rw [hr];exact hK _ _ ⟨hS,h⟩
theorem bj {rest:List (Oper×Bool)} {a:Act} {w:World} {o:Oper} {f:FuncId} {args:Array Value} {R:Ending→World→Prop} (hw:Region.wanted o (yielded ops a.tmps)=true)
  (hr:(execOp a.eval o).run P w= .ok (.enter f args) w) (hc:Calls P f args w R)
  (h:∀ e w',R e w'→∃ v,e= .returned v∧S w'∧cU P ops Q S rest (a.put o.dst v) w'):cU P ops Q S ((o,true)::rest) a w:=
 fQ hw fun K hK=>by
  unfold Oper.wp;rw [hr];refine hc.mono fun e w' he=> ?_
  obtain ⟨v,rfl,hS,h'⟩:=h e w' he;exact hK _ _ ⟨hS,h'⟩
attribute [irreducible] cU
end pi
end Go.Gl
namespace Go.Gl
open Go Go.RowKit
section last
variable {P:Program} {ops:Array Oper} {Q:Exit→Act→World→Prop} {S:World→Prop}
def GI (P:Program) (ops:Array Oper) (Q:Exit→Act→World→Prop) (S:World→Prop) (last:Nat):Nat→Array Bool→Act→World→Prop
 |0,listed,a,w=>Region.ready .any ops listed= []∧Q .normal a w
 |fuel+1,listed,a,w=>
  (Region.ready .any ops listed= []→Q .normal a w)∧
  ∀ i∈Region.ready .any ops listed,wpOp P ops Q i (fun a' w'=>(i≠last→S w')∧GI P ops Q S last fuel (listed.setIfInBounds i true) a' w') a w
theorem Zt {last:Nat}:∀ (fuel:Nat) (listed:Array Bool) (a:Act) (w:World),GI P ops Q S last fuel listed a w→wpAny P .any ops Q fuel listed a w
 |0,_,_,_,h=>h
 |fuel+1,_,_,_,h=>⟨h.1,fun i hi=>wpOp_mono (fun a' w' h'=>Zt fuel _ a' w' h'.2) (h.2 i hi)⟩
def DX (ops:Array Oper):Nat→Nat→Nat→Bool
 |0,_,_=>false
 |n+1,i,k=>
  match ops[i]? with
  |none=>false
  |some o=>o.after.any fun e=>Region.binds .any e&&(decide (e.on=k)||DX ops n e.on k)
def wD (ops:Array Oper) (listed:Array Bool):Prop:=
 ∀ (k:Nat) (o:Oper),ops[k]?=some o→listed.getD k false=true→∀ e∈o.after,Region.binds .any e=true→listed.getD e.on false=true
theorem wD.list {listed:Array Bool} (h:wD ops listed) {i:Nat} (hi:i∈Region.ready .any ops listed):wD ops (listed.setIfInBounds i true):=by
 intro k o hk hl e he hb;have up:∀ j,listed.getD j false=true→(listed.setIfInBounds i true).getD j false=true:=fun j hj=>by
  by_cases nW:i=j
  ·subst nW
   have:i<listed.size:=by
    rcases Nat.lt_or_ge i listed.size with h'|h'
    ·exact h'
    ·simp [Array.getElem?_eq_none h'] at hj
   simp [this]
  ·rw [getD_set_ne false nW];exact hj
 by_cases hik:i=k
 ·subst hik
  obtain ⟨_,o',fJ,hall⟩:=mem_ready.1 hi;rw [hk] at fJ;cases fJ;exact up _ (hall e he hb)
 ·rw [getD_set_ne false hik] at hl
  exact up _ (h k o hk hl e he hb)
theorem RA {listed:Array Bool} (h:wD ops listed):∀ (n i k:Nat),DX ops n i k=true→(∀ o,ops[i]?=some o→∀ e∈o.after,Region.binds .any e=true→listed.getD e.on false=true)→listed.getD k false=true
 |0,_,_,hw,_=>by simp [DX] at hw
 |n+1,i,k,hw,hd=>by
  unfold DX at hw;cases ho:ops[i]? with
  |none=>simp [ho] at hw
  |some o=>
   simp only [ho,Array.any_eq_true',Bool.and_eq_true,Bool.or_eq_true,decide_eq_true_eq] at hw;obtain ⟨e,he,hb,hk⟩:=hw;have h1:=hd o ho e he hb;rcases hk with hk|hk
   ·rw [←hk];exact h1
   ·exact RA h n e.on k hk fun o' fJ e' sW hb'=>h e.on o' fJ h1 e' sW hb'
def GJ (ops:Array Oper) (last:Nat):Bool:=(List.range ops.size).all fun k=>decide (k=last)||DX ops 3 last k
theorem anr {last:Nat} (h:GJ ops last=true) {listed:Array Bool} (aQ:wD ops listed) (hr:last∈Region.ready .any ops listed) {i:Nat} (hi:i∈Region.ready .any ops listed):i=last:=by
 obtain ⟨h1,o,ho,hall⟩:=mem_ready.1 hr;obtain ⟨g1,oi,hoi,_⟩:=mem_ready.1 hi;unfold GJ at h;simp only [List.all_eq_true,List.mem_range] at h;have hlt:i<ops.size:=by
  rcases Nat.lt_or_ge i ops.size with h2|h2
  ·exact h2
  ·rw [Array.getElem?_eq_none h2] at hoi;cases hoi
 have h2:=h i hlt;simp only [Bool.or_eq_true,decide_eq_true_eq] at h2;rcases h2 with h2|h2
 ·exact h2
 ·have h3:=RA aQ 3 last i h2 (fun o' fJ=>by rw [ho] at fJ;cases fJ;exact hall)
  rcases Nat.lt_or_ge i listed.size with h'|h'
  ·simp [h'] at g1 h3;rw [g1] at h3;cases h3
  ·simp [Array.getElem?_eq_none h'] at h3
theorem ans {last i:Nat} {oi:Oper} {v:Value} (mh:GJ ops last=true) (kO:i≠last) (hi:ops[i]?=some oi) (Zu:∀ (j:Nat) (o:Oper) cs b,ops[j]?=some o→o.op≠ .select cs b)
  (hQ:∀ c a w,Q (.panic c) (a.put oi.dst v) w→Q (.panic c) a w):
  ∀ (fuel:Nat) (listed:Array Bool) (a:Act) (w:World),wD ops listed→
   (∀ j oj,ops[j]?=some oj→j≠i→listed.getD j true=false→(∀ e∈oj.after,Region.binds .any e=true→e.on≠i)→oi.apart ops oj=true)→
   i∈Region.ready .any ops listed→YieldsIf P ops S oi v a→S w→
   GI P ops Q S last fuel (listed.setIfInBounds i true) (a.put oi.dst v) w→GI P ops Q S last (fuel+1) listed a w:=by
 intro fuel
 induction fuel with
 |zero=>
  intro listed a w _ _ hr hy hS H;refine ⟨fun h=>(by rw [h] at hr;cases hr),fun j hj=> ?_⟩;by_cases ki:j=i
  ·subst ki;exact hy.wpOp hi hS ⟨fun _=>hS,H⟩
  ·have:=ready_mono hj ki
   rw [H.1] at this;cases this
 |succ fuel ih=>
  intro listed a w aQ nZ hr hy hS H;refine ⟨fun h=>(by rw [h] at hr;cases hr),fun j hj=> ?_⟩;by_cases ki:j=i
  ·subst ki;exact hy.wpOp hi hS ⟨fun _=>hS,H⟩
  ·have DY:j≠last:=fun e=>kO (by subst e;exact anr mh aQ hj hr)
   have h1:=H.2 j (ready_mono hj ki);obtain ⟨Zv,oj,RB,hall⟩:=mem_ready.1 hj;have RD:∀ e∈oj.after,Region.binds .any e=true→e.on≠i:=fun e he hb heq=>by
    have h1:=hall e he hb;have h0:=(mem_ready.1 hr).1;rw [heq] at h1;rcases Nat.lt_or_ge i listed.size with h'|h'
    ·simp [h'] at h0 h1;rw [h0] at h1;cases h1
    ·simp [Array.getElem?_eq_none h'] at h1
   have h2:=wpOp_putIf RB (nZ j oj RB ki Zv RD) (fun cs b=>Zu i oi cs b hi) (fun cs b=>Zu j oj cs b RB) hQ hy h1;have ant:∀ k ok,ops[k]?=some ok→k≠i→(listed.setIfInBounds j true).getD k true=false→
     (∀ e∈ok.after,Region.binds .any e=true→e.on≠i)→oi.apart ops ok=true:=fun k ok hk GK ar hno=>by
    refine nZ k ok hk GK ?_ hno;by_cases hjk:j=k
    ·subst hjk;exact Zv
    ·rw [getD_set_ne true hjk] at ar;exact ar
   refine wpOp_mono (fun a' w' h3=>⟨h3.2.1,ih (listed.setIfInBounds j true) a' w' (aQ.list hj) ant (ready_mono hr (Ne.symm ki)) h3.1 (h3.2.1 DY) ?_⟩) h2;rw [Array.setIfInBounds_comm _ _ ki];exact h3.2.2
def Ba (P:Program) (ops:Array Oper) (Q:Exit→Act→World→Prop) (o:Oper):Exit→Act→World→Prop
 | .normal,a,w=>if Region.wanted o (yielded ops a.tmps) then o.wp P a w (fun a' w'=>Q .normal a' w') Q else Q .normal (a.put o.dst undef) w
 |e,a,w=>Q e a w
theorem Zw {o:Oper} {a:Act} {w:World}:Ba P ops Q o .normal a w=if Region.wanted o (yielded ops a.tmps) then o.wp P a w (fun a' w'=>Q .normal a' w') Q else Q .normal (a.put o.dst undef) w:=rfl
theorem anu {o o':Oper} {a:Act} {w:World} {K K':Act→World→Prop} (h:∀ a w,K a w→K' a w) (hh:o.wp P a w K (Ba P ops Q o')):o.wp P a w K' Q:=by
 unfold Oper.wp at*;generalize (execOp a.eval o).run P w=r at*;cases r with
 |ok n w'=>
  cases n<;>simp only [Oper.upon] at hh ⊢
  case value u=>exact h _ _ hh
  case skip=>exact h _ _ hh
  case defer d=>exact h _ _ hh
  case enter f args=>
   refine Calls.mono hh fun e w'' he=> ?_
   cases e with
   |returned u=>exact h _ _ he
   |panicked c=>exact he
   |outgrown=>exact he
  case row row args=>exact Rows.mono hh fun u w'' he=>h _ _ he
 |halt x w'=>
  cases x<;>simp only [Oper.upon] at hh ⊢
  case panic u=>exact hh
def Bb (ops:Array Oper) (last:Nat):List (Nat×Bool)→Array Bool→Bool
 | [],listed=>decide (Region.ready .any ops listed= [last])&&(Region.ready .any ops (listed.setIfInBounds last true)).isEmpty
 |(i,false)::rest,listed=>decide (i≠last)&&(Region.ready .any ops listed).contains i&&Region.free .any ops listed i&&Bb ops last rest (listed.setIfInBounds i true)
 |(i,true)::rest,listed=>decide (i≠last)&&decide (Region.ready .any ops listed= [i])&&Bb ops last rest (listed.setIfInBounds i true)
theorem Mr {l:List Oper} {last:Nat} (mh:GJ l.toArray last=true) (hs:Region.noSelect l.toArray=true) (hQ:∀ c a d v w,Q (.panic c) (Act.put a d v) w→Q (.panic c) a w):∀ (π:List (Nat×Bool)) (listed:Array Bool) (a:Act) (w:World),wD l.toArray listed→
  Bb l.toArray last π listed=true→S w→cU P l.toArray (Ba P l.toArray Q (nth l last)) S (aP l π) a w→GI P l.toArray Q S last (π.length+1) listed a w
 | [],listed,a,w,aQ,hc,hS,h=>by
  simp only [Bb,Bool.and_eq_true,decide_eq_true_eq] at hc;refine ⟨fun h0=>(by rw [h0] at hc;cases hc.1),fun j hj=> ?_⟩;rw [hc.1] at hj;have ki:j=last:=by simpa using hj
  subst ki;have hi:l.toArray[j]?=some (nth l j):=by
   have:=sV (ops:=l.toArray) (listed:=listed) (i:=j) (by rw [hc.1];simp);simpa using sU (l:=l) (by simpa using this)
  have h':Ba P l.toArray Q (nth l j) .normal a w:=by
   unfold aP cU at h;exact h
  rw [Zw] at h';unfold wpOp;simp only [hi];split
  ·rename_i hw
   rw [if_pos hw] at h';exact .inl (Oper.wp_mono (fun a' w' h2=>⟨fun e=>absurd rfl e,by simpa using hc.2,h2⟩) h')
  ·rename_i hw
   rw [if_neg hw] at h';exact ⟨fun e=>absurd rfl e,by simpa using hc.2,h'⟩
 |(i,false)::rest,listed,a,w,aQ,hc,hS,h=>by
  simp only [Bb,Bool.and_eq_true,decide_eq_true_eq] at hc;obtain ⟨v,hy,hr⟩:∃ v,YieldsIf P l.toArray S (nth l i) v a∧cU P l.toArray (Ba P l.toArray Q (nth l last)) S (aP l rest) (a.put (nth l i).dst v) w:=by
   unfold aP cU at h;exact h
  have hi:=sV (by simpa using hc.1.1.2);have hi':l.toArray[i]?=some (nth l i):=by simpa using sU (l:=l) (by simpa using hi)
  exact ans mh hc.1.1.1 hi' (Region.noSelect_spec hs) (fun c a w=>hQ c a _ _ w) _ listed a w aQ (Region.free_spec hi' hc.1.2) (by simpa using hc.1.1.2) hy hS (Mr mh hs hQ rest _ _ _ (aQ.list (by simpa using hc.1.1.2)) hc.2 hS hr)
 |(i,true)::rest,listed,a,w,aQ,hc,hS,h=>by
  simp only [Bb,Bool.and_eq_true,decide_eq_true_eq] at hc;refine ⟨fun h0=>(by rw [h0] at hc;cases hc.1.2),fun j hj=> ?_⟩;rw [hc.1.2] at hj;have ki:j=i:=by simpa using hj
  subst ki;have hi:l.toArray[j]?=some (nth l j):=by
   have:=sV (ops:=l.toArray) (listed:=listed) (i:=j) (by rw [hc.1.2];simp);simpa using sU (l:=l) (by simpa using this)
  unfold aP cU at h;unfold wpOp;simp only [hi];split
  ·rename_i hw
   rw [if_pos hw] at h;exact .inl (anu (fun a' w' h'=>⟨fun _=>h'.1,Mr mh hs hQ rest _ _ _ (aQ.list (by rw [hc.1.2];simp)) hc.2 h'.1 h'.2⟩) h)
  ·rename_i hw
   rw [if_neg hw] at h;exact ⟨fun _=>h.1,Mr mh hs hQ rest _ _ _ (aQ.list (by rw [hc.1.2];simp)) hc.2 h.1 h.2⟩
theorem sX {id:Nat} {a:Act} {w:World} {l:List Oper} (S:World→Prop) (π:List (Nat×Bool)) (last:Nat) (hm:P.follows .mixedOrders=true)
  (hB:(GJ l.toArray last&&Region.noSelect l.toArray&&Bb l.toArray last π (Array.replicate l.toArray.size false)&&decide (π.length+1=l.toArray.size))=true)
  (hQ:∀ c a d v w,Q (.panic c) (Act.put a d v) w→Q (.panic c) a w) (hS:S w.drew) (h:cU P l.toArray (Ba P l.toArray Q (nth l last)) S (aP l π) a w.drew):(Code.region id l.toArray true).wp P Q a w:=by
 simp only [Bool.and_eq_true,decide_eq_true_eq] at hB;refine wp_region_any hm (Zt (S:=S) (last:=last) _ _ _ _ ?_);rw [←hB.2];exact Mr hB.1.1.1 hB.1.1.2 hQ π _ _ _ (fun k o _ hl=>by simp [Array.getD] at hl) (by rw [hB.2];exact hB.1.2) hS h
theorem sY {o:Oper} {a:Act} {w:World} (hw:Region.wanted o (yielded ops a.tmps)=true)
  (h:∀ K:Act→World→Prop,(∀ a w,Q .normal a w→K a w)→o.wp P a w K Q):Ba P ops Q o .normal a w:=by
 rw [Zw,if_pos hw];exact h _ (fun _ _ h=>h)
end last
end Go.Gl
namespace Go.Gl
open Go Go.RowKit
section part
variable {P:Program} {ops:Array Oper} {Q:Exit→Act→World→Prop} {S:World→Prop}
theorem Bc {i:Nat} {o:Oper} {a:Act} {w w':World} {v:Value} {K:Act→World→Prop} (hi:ops[i]?=some o) (hw:Region.wanted o (yielded ops a.tmps)=true) (hr:(execOp a.eval o).run P w= .ok (.value v) w') (h:K (a.put o.dst v) w'):wpOp P ops Q i K a w:=by
 unfold wpOp;simp only [hi,hw,if_true];refine .inl ?_;unfold Oper.wp;rw [hr];exact h
theorem jc {i:Nat} {o:Oper} {a:Act} {w:World} {f:FuncId} {args:Array Value} {R:Ending→World→Prop} {K:Act→World→Prop} (hi:ops[i]?=some o) (hw:Region.wanted o (yielded ops a.tmps)=true) (hr:(execOp a.eval o).run P w= .ok (.enter f args) w) (hc:Calls P f args w R)
  (h:∀ e w',R e w'→∃ v,e= .returned v∧K (a.put o.dst v) w'):wpOp P ops Q i K a w:=by
 unfold wpOp;simp only [hi,hw,if_true];refine .inl ?_;unfold Oper.wp;rw [hr];refine hc.mono fun e w' he=> ?_
 obtain ⟨v,rfl,h'⟩:=h e w' he;exact h'
end part
end Go.Gl
namespace Go.Gl
open Go Go.RowKit
section anv
variable {P:Program} {ops:Array Oper} {Q:Exit→Act→World→Prop} {S:World→Prop}
theorem aX {i:Nat} {o:Oper} {a:Act} {w:World} {K:Act→World→Prop} (hi:ops[i]?=some o) (hw:Region.wanted o (yielded ops a.tmps)=true) (h:∀ K':Act→World→Prop,(∀ a w,K a w→K' a w)→o.wp P a w K' Q):wpOp P ops Q i K a w:=by
 unfold wpOp;simp only [hi,hw,if_true];exact .inl (h _ (fun _ _ h=>h))
end anv
end Go.Gl
namespace Go.Gl
open Go Go.RowKit
structure qg (D:List Nat) (a b:Act):Prop where
 size:b.tmps.size=a.tmps.size
 same:∀ i,D.contains i=false→b.tmps[i]?=a.tmps[i]?
 defers:b.defers=a.defers
theorem qg.refl (D:List Nat) (a:Act):qg D a a:=⟨rfl,fun _ _=>rfl,rfl⟩
theorem qg.put {D:List Nat} {a b:Act} (h:qg D a b) {k:Nat} (hk:D.contains k=true) (v:Value):qg D a (b.put (some k) v):=by
 refine ⟨by simpa [Act.put] using h.size,fun i hi=> ?_,by simpa [Act.put] using h.defers⟩;rw [←h.same i hi];simp only [Act.put];rw [Array.getElem?_setIfInBounds,if_neg (fun hc=>by subst hc;rw [hk] at hi;cases hi)]
theorem Zx (a:Act):∀ (D:List Nat) (x:Act),x.tmps.size=a.tmps.size→(D.foldl (fun x d=>x.put (some d) (a.tmps.getD d undef)) x).tmps.size=a.tmps.size∧(D.foldl (fun x d=>x.put (some d) (a.tmps.getD d undef)) x).defers=x.defers∧∀ i,(D.foldl (fun x d=>x.put (some d) (a.tmps.getD d undef)) x).tmps[i]?=if D.contains i=true then a.tmps[i]? else x.tmps[i]?
 | [],x,h=>⟨h,rfl,fun i=>by simp⟩
 |d::D,x,h=>by
  obtain ⟨h1,h2,h3⟩:=Zx a D (x.put (some d) (a.tmps.getD d undef)) (by simpa [Act.put] using h);refine ⟨h1,h2.trans rfl,fun i=> ?_⟩;rw [List.foldl_cons,h3 i];by_cases hc:D.contains i=true
  ·rw [if_pos hc,if_pos (by simp at hc ⊢;exact .inr hc)]
  ·rw [if_neg hc]
   by_cases hid:d=i
   ·subst hid
    rw [if_pos (by simp)];simp only [Act.put];rw [Array.getElem?_setIfInBounds,if_pos rfl];split
    ·rename_i hl
     rw [h] at hl;simp [Array.getD,hl]
    ·rename_i hl
     rw [h] at hl;rw [Array.getElem?_eq_none (by omega)]
   ·rw [if_neg (by simp at hc ⊢;exact ⟨fun e=>hid e.symm,hc⟩)]
    simp only [Act.put];rw [Array.getElem?_setIfInBounds,if_neg hid]
theorem qg.fill {D:List Nat} {a0 a:Act} (h:qg D a0 a):a=D.foldl (fun x d=>x.put (some d) (a.tmps.getD d undef)) a0:=by
 obtain ⟨h1,h2,h3⟩:=Zx a D a0 h.size.symm;have ht:a.tmps=(D.foldl (fun x d=>x.put (some d) (a.tmps.getD d undef)) a0).tmps:=by
  apply Array.ext_getElem?;intro i;rw [h3 i];split
  ·rfl
  ·rename_i hc
   exact h.same i (by simpa using hc)
 have hd:=h.defers.trans h2.symm;generalize D.foldl (fun x d=>x.put (some d) (a.tmps.getD d undef)) a0=y at*;obtain ⟨at',ad⟩:=a;obtain ⟨yt,yd⟩:=y;simp only at ht hd;rw [ht,hd]
theorem uD {P:Program} {c:Code} {Q:Exit→Act→World→Prop} {a:Act} {w:World} (h:∀ a0:Act,a0=a→c.wp P Q a0 w):c.wp P Q a w:=h a rfl
theorem ix {a:Act} {k j:Nat} {v u:Value} (h:k≠j) (hs:a.tmps[j]?=some u):(a.put (some k) v).tmps[j]?=some u:=by
 simp only [Act.put];rw [Array.getElem?_setIfInBounds,if_neg h];exact hs
theorem uF {a:Act} {k:Nat} {v:Value} (h:k<a.tmps.size):(a.put (some k) v).tmps[k]?=some v:=by
 simp only [Act.put];rw [Array.getElem?_setIfInBounds,if_pos rfl,if_pos h]
theorem ax {a:Act} {k:Nat} {u:Value} (h:a.tmps[k]?=some u) (hk:k<a.tmps.size):a.tmps[k]=u:=by
 rw [Array.getElem?_eq_getElem hk] at h;exact bB h
section anw
variable {P:Program} {ops:Array Oper} {Q:Exit→Act→World→Prop}
def GL (listed:Array Bool):Nat:=listed.toList.count false
theorem count_set:∀ (l:List Bool) (i:Nat),l[i]?=some false→(l.set i true).count false+1=l.count false
 | [],_,h=>by simp at h
 |x::l,0,h=>by simp at h;subst h;simp
 |x::l,i+1,h=>by
  have:=count_set l i (by simpa using h);simp only [List.set_cons_succ,List.count_cons];omega
theorem anx {listed:Array Bool} {i:Nat} (h:listed.getD i true=false):listed.toList[i]?=some false:=by
 rw [fI] at h;rw [Array.getElem?_toList];cases hx:listed[i]? with
 |none=>rw [hx] at h;cases h
 |some x=>rw [hx] at h;simp at h;rw [h]
theorem Zy {listed:Array Bool} {i:Nat} (h:listed.getD i true=false):GL (listed.setIfInBounds i true)+1=GL listed:=by
 unfold GL;rw [Array.toList_setIfInBounds];exact count_set _ _ (anx h)
def Ms (ops:Array Oper):Bool:=(List.range ops.size).all fun k=>match ops[k]? with|none=>true|some o=>o.after.all fun e=> !(Region.binds .any e)||decide (e.on<k)
theorem anz (h:Ms ops=true) {k:Nat} {o:Oper} (hk:ops[k]?=some o) {e:Edge} (he:e∈o.after) (hb:Region.binds .any e=true):e.on<k:=by
 unfold Ms at h;simp only [List.all_eq_true,List.mem_range] at h;have h1:=h k (af hk);rw [hk] at h1;simp only [Array.all_eq_true',Bool.or_eq_true,Bool.not_eq_true',decide_eq_true_eq] at h1;rcases h1 e he with h2|h2
 ·rw [hb] at h2;cases h2
 ·exact h2
theorem anB (h:Ms ops=true) {listed:Array Bool} (hs:listed.size=ops.size) (hr:Region.ready .any ops listed= []):∀ k,k<ops.size→listed.getD k true=true:=by
 intro k
 induction k using Nat.strongRecOn with
 |_ k ih=>
  intro hk;cases hl:listed.getD k true with
  |true=>rfl
  |false=>
   exfalso;have:k∈Region.ready .any ops listed:=by
    refine mem_ready.2 ⟨hl,ops[k],by simp [hk],fun e he hb=> ?_⟩;have hlt:=anz h (k:=k) (o:=ops[k]) (by simp [hk]) he hb;have h1:=ih e.on hlt (by omega);have hsz:e.on<listed.size:=by omega
    simp only [Array.getD,hsz,dif_pos] at h1 ⊢;exact h1
   rw [hr] at this;cases this
theorem Zz (I:Array Bool→Act→World→Prop) (hstep:∀ i listed a w,i∈Region.ready .any ops listed→I listed a w→wpOp P ops Q i (fun a' w'=>I (listed.setIfInBounds i true) a' w') a w)
  (hend:∀ listed a w,Region.ready .any ops listed= []→I listed a w→Q .normal a w):∀ (fuel:Nat) (listed:Array Bool) (a:Act) (w:World),GL listed≤fuel→I listed a w→wpAny P .any ops Q fuel listed a w
 |0,listed,a,w,hu,hI=>by
  have hr:Region.ready .any ops listed= []:=by
   cases hc:Region.ready .any ops listed with
   |nil=>rfl
   |cons x xs=>
    exfalso;have hx:x∈Region.ready .any ops listed:=by rw [hc];simp
    have:=Zy (mem_ready.1 hx).1;omega
  exact ⟨hr,hend _ _ _ hr hI⟩
 |fuel+1,listed,a,w,hu,hI=>by
  refine ⟨fun hr=>hend _ _ _ hr hI,fun i hi=>wpOp_mono (fun a' w' h'=>Zz I hstep hend fuel _ a' w' ?_ h') (hstep i listed a w hi hI)⟩;have:=Zy (mem_ready.1 hi).1;omega
def GM (ops:Array Oper) (D:List Nat):Bool:=(List.range ops.size).all fun i=>match (ops[i]?).bind (·.dst) with
 |none=>true
 |some d=>D.contains d&&(List.range ops.size).all fun j=>i==j||(match (ops[j]?).bind (·.dst) with|none=>true|some d'=>d != d')
theorem ZA {D:List Nat} (h:GM ops D=true) {i d:Nat} {o:Oper} (ho:ops[i]?=some o) (hd:o.dst=some d):D.contains d=true:=by
 unfold GM at h;simp only [List.all_eq_true,List.mem_range] at h;have h1:=h i (af ho);rw [ho] at h1;simp only [Option.bind_some,hd,Bool.and_eq_true] at h1;exact h1.1
theorem anC {D:List Nat} (h:GM ops D=true) {i j d d':Nat} {o o':Oper} (ho:ops[i]?=some o) (hd:o.dst=some d) (hj:ops[j]?=some o') (mN:o'.dst=some d') (nW:i≠j):d≠d':=by
 unfold GM at h;simp only [List.all_eq_true,List.mem_range] at h;have h1:=h i (af ho);rw [ho] at h1;simp only [Option.bind_some,hd,Bool.and_eq_true,List.all_eq_true,List.mem_range] at h1;have h2:=h1.2 j (af hj);rw [hj] at h2;simp only [Option.bind_some,mN,Bool.or_eq_true,beq_iff_eq,bne_iff_ne] at h2;rcases h2 with h2|h2
 ·exact absurd h2 nW
 ·exact h2
structure GN (ops:Array Oper) (Φ:Nat→Value→World→Prop) (T:Array Bool→Act→World→Prop) (D:List Nat) (a0:Act) (listed:Array Bool) (a:Act) (w:World):Prop where
 size:listed.size=ops.size
 closed:wD ops listed
 alike:qg D a0 a
 slots:∀ (j:Nat) (o:Oper) (d:Nat),ops[j]?=some o→o.dst=some d→listed.getD j false=true→∃ v,a.tmps[d]?=some v∧Φ j v w
 world:T listed a w
def anD (P:Program) (ops:Array Oper) (Q:Exit→Act→World→Prop) (Φ:Nat→Value→World→Prop) (T:Array Bool→Act→World→Prop) (R:World→World→Prop) (D:List Nat) (a0:Act) (i:Nat) (o:Oper):Prop:=
 ∀ listed a w,GN ops Φ T D a0 listed a w→listed.getD i true=false→(o.after.all fun e=> !(Region.binds .any e)||listed.getD e.on false)=true→
  wpOp P ops Q i (fun a' w'=>∃ v,a'=a.put o.dst v∧(∀ d,o.dst=some d→Φ i v w')∧R w w'∧T (listed.setIfInBounds i true) a' w') a w
def RG (F:Nat→Oper→Prop):Nat→List Oper→Prop
 |_,[]=>True
 |n,o::rest=>F n o∧RG F (n+1) rest
theorem ZB {F:Nat→Oper→Prop}:∀ {l:List Oper} {n i:Nat} {o:Oper},RG F n l→l[i]?=some o→F (n+i) o
 | [],_,_,_,_,h=>by simp at h
 |x::l,n,0,o,hF,h=>by simp at h;subst h;exact hF.1
 |x::l,n,i+1,o,hF,h=>by
  have:=ZB hF.2 (by simpa using h);rwa [show n+1+i=n+(i+1) by omega] at this
theorem uG {id:Nat} {a0:Act} {w:World} {l:List Oper} (Φ:Nat→Value→World→Prop) (T:Array Bool→Act→World→Prop) (R:World→World→Prop) (D:List Nat) (hm:P.follows .mixedOrders=true)
  (hB:(Ms l.toArray&&GM l.toArray D)=true) (hsz:(D.all fun d=>decide (d<a0.tmps.size))=true) (hR:∀ j v w w',R w w'→Φ j v w→Φ j v w') (h0:T (Array.replicate l.toArray.size false) a0 w.drew)
  (hstep:RG (anD P l.toArray Q Φ T R D a0) 0 l)
  (hend:∀ a w,GN l.toArray Φ T D a0 (Array.replicate l.toArray.size true) a w→Q .normal a w):(Code.region id l.toArray true).wp P Q a0 w:=by
 simp only [Bool.and_eq_true] at hB;refine wp_region_any hm (Zz (GN l.toArray Φ T D a0) ?_ ?_ _ _ _ _ ?_ ?_)
 ·intro i listed a w hr hf
  obtain ⟨ar,o,ho,hall⟩:=mem_ready.1 hr;have hs:=ZB (i:=i) hstep (by simpa using ho);rw [Nat.zero_add] at hs;refine wpOp_mono (fun a' w' h'=> ?_) (hs listed a w hf ar (by
   simp only [Array.all_eq_true',Bool.or_eq_true,Bool.not_eq_true'];intro e he;cases hb:Region.binds .any e with
   |false=>exact .inl rfl
   |true=>exact .inr (hall e he hb)))
  obtain ⟨v,rfl,hv,hR',hT⟩:=h';refine ⟨by rw [Array.size_setIfInBounds];exact hf.size,hf.closed.list hr,?_,?_,hT⟩
  ·cases hd:o.dst with
   |none=>exact hf.alike
   |some d=>exact hf.alike.put (ZA hB.2 ho hd) v
  ·intro j o' d' hj mN hl
   by_cases ki:i=j
   ·subst ki
    rw [ho] at hj;cases hj;refine ⟨v,?_,hv d' mN⟩;rw [mN];exact uF (by rw [hf.alike.size];simp only [List.all_eq_true,decide_eq_true_eq] at hsz;exact hsz _ (by simpa using ZA hB.2 ho mN))
   ·obtain ⟨v',hv',hΦ⟩:=hf.slots j o' d' hj mN (by rwa [getD_set_ne false ki] at hl)
    refine ⟨v',?_,hR j v' _ _ hR' hΦ⟩;cases hd:o.dst with
    |none=>exact hv'
    |some d=>exact ix (anC hB.2 ho hd hj mN ki) hv'
 ·intro listed a w hr hf
  have hall:=anB hB.1 hf.size hr;have:listed=Array.replicate l.toArray.size true:=by
   apply Array.ext
   ·rw [Array.size_replicate];exact hf.size
   ·intro i h1 h2
    have:=hall i (by rw [←hf.size];exact h1);simp only [Array.getD,h1,dif_pos] at this;rw [Array.getElem_replicate];exact this
  exact hend a w (this ▸ hf)
 ·unfold GL
  rw [Array.toList_replicate,List.count_replicate]
  split<;>omega
 ·refine ⟨by rw [Array.size_replicate],fun k o _ hl=>by simp [Array.getD] at hl,qg.refl _ _,fun j o d _ _ hl=>by simp [Array.getD] at hl,h0⟩
theorem aJ {o:Oper} {listed:Array Bool} (h:(o.after.all fun e=> !(Region.binds .any e)||listed.getD e.on false)=true) (k:Nat) (hk:(o.after.any fun e=>Region.binds .any e&&e.on==k)=true):listed.getD k false=true:=by
 simp only [Array.any_eq_true',Bool.and_eq_true,beq_iff_eq] at hk;obtain ⟨e,he,hb,rfl⟩:=hk;simp only [Array.all_eq_true',Bool.or_eq_true,Bool.not_eq_true'] at h;rcases h e he with h1|h1
 ·rw [hb] at h1;cases h1
 ·exact h1
theorem dZ {listed:Array Bool} (aQ:wD ops listed) {n e i:Nat} (hw:DX ops n e i=true) (ar:listed.getD i true=false):listed.getD e false=false:=by
 cases h:listed.getD e false with
 |false=>rfl
 |true=>
  exfalso;have h3:=RA aQ n e i hw (fun o ho=>fun d hd hb=>aQ e o ho h d hd hb);rcases Nat.lt_or_ge i listed.size with h'|h'
  ·simp [Array.getD,h'] at ar h3;rw [ar] at h3;cases h3
  ·simp [Array.getD,Nat.not_lt.2 h'] at ar
theorem mO {listed:Array Bool} {k:Nat} (h:k<listed.size):(listed.setIfInBounds k true).getD k false=true:=by
 simp [Array.getD,h]
theorem GN.slot {Φ:Nat→Value→World→Prop} {T:Array Bool→Act→World→Prop} {D:List Nat} {a0 a:Act} {listed:Array Bool} {w:World} (h:GN ops Φ T D a0 listed a w) (j d:Nat) (hd:(ops[j]?).bind (·.dst)=some d) (hl:listed.getD j false=true):∃ v,a.tmps[d]?=some v∧Φ j v w:=by
 cases ho:ops[j]? with
 |none=>rw [ho] at hd;cases hd
 |some o=>rw [ho] at hd;exact h.slots j o d ho hd hl
end anw
end Go.Gl
namespace Go.aH
def gB:Nat→Nat→List UInt8
 |0,_=> []
 |k+1,n=>if n<128 then [UInt8.ofNat n] else UInt8.ofNat (n%128+128)::gB k (n / 128)
def aA (n:Nat):List UInt8:=gB 10 n
def kP:Nat→Nat→List UInt8→Nat×Nat×Nat
 |_,_,[]=>(0,0,11)
 |i,v,c::r=>
  if i=9∧1<c.toNat then (0,0,12) else
  if c.toNat<128 then (if c.toNat=0∧0<i then (0,0,12) else (v+c.toNat*128^i,i+1,0)) else
  kP (i+1) (v+(c.toNat-128)*128^i) r
def ed (b:List UInt8):Nat×Nat×Nat:=kP 0 0 b
def aq:List Nat:= [0,274646895,549293790,820201905,1098587580,1361435347,1640403810,1905808397,2197175160,2460548119,2722870694,2987750089,3280807620,3553878443,3811616794,4084100981]
def rz (T:List Nat) (c:Nat):Nat:=(c / 16)^^^(T.getD (c&&& 15) 0)
def yG (T:List Nat) (c:Nat) (b:UInt8):Nat:=rz T (rz T (c^^^b.toNat))
def lI (T:List Nat) (b:List UInt8):Nat:=b.foldl (yG T) 4294967295
def dB (T:List Nat) (b:List UInt8):Nat:=4294967295^^^lI T b
def cm:Nat→Nat→List UInt8
 |0,_=> []
 |k+1,v=>UInt8.ofNat (v%256)::cm k (v / 256)
def bw (T:List Nat) (p:List UInt8):List UInt8:=aA p.length++(cm 4 (dB T p)++p)
def gC (T:List Nat) (b:List UInt8):Nat×Nat×Nat:=
 if (ed b).2.2≠0 then (0,0,(ed b).2.2) else
 if 67108864<(ed b).1 then (0,0,3) else
 if b.length<(ed b).2.1+((ed b).1+4) then (0,0,11) else
 if (b.drop (ed b).2.1).take 4≠cm 4 (dB T ((b.drop ((ed b).2.1+4)).take (ed b).1)) then (0,0,13) else
 ((ed b).2.1+4,(ed b).2.1+4+(ed b).1,0)
def oW (T:List Nat):Nat→List UInt8→List (List UInt8)×Nat×Nat
 |0,_=>([],0,0)
 |k+1,b=>if b= [] then ([],0,0) else
  if (gC T b).2.2≠0 then ([],0,(gC T b).2.2) else
  ((b.drop (gC T b).1).take ((gC T b).2.1-(gC T b).1)::(oW T k (b.drop (gC T b).2.1)).1,(gC T b).2.1+(oW T k (b.drop (gC T b).2.1)).2.1,(oW T k (b.drop (gC T b).2.1)).2.2)
def kj (T:List Nat) (b:List UInt8):List (List UInt8)×Nat×Nat:=oW T (b.length+1) b
theorem kQ:∀ (k v:Nat),(cm k v).length=k
 |0,_=>rfl
 |k+1,v=>by simp [cm,kQ k]
theorem GP:∀ (k n:Nat),(gB k n).length≤k
 |0,_=>by simp [gB]
 |k+1,n=>by
  unfold gB;split
  ·simp
  ·have:=GP k (n / 128);simp;omega
theorem anF (k n:Nat):0<(gB (k+1) n).length:=by
 unfold gB
 split<;>simp
theorem ZC:∀ (k n i v:Nat) (r:List UInt8),n<128^k→i+k≤9→0<k→(i=0∨0<n)→
  kP i v (gB k n++r)=(v+n*128^i,i+(gB k n).length,0)
 |0,n,i,v,r,hn,hik,hk,_=>by omega
 |k+1,n,i,v,r,hn,hik,hk,h0=>by
  unfold gB;by_cases h:n<128
  ·rw [if_pos h]
   simp only [List.cons_append,List.nil_append,kP];have e:(UInt8.ofNat n).toNat=n:=by rw [UInt8.toNat_ofNat_of_lt' (by simp [UInt8.size];omega)]
   rw [e,if_neg (by omega),if_pos h,if_neg (by omega)];simp
  ·rw [if_neg h]
   have e:(UInt8.ofNat (n%128+128)).toNat=n%128+128:=by rw [UInt8.toNat_ofNat_of_lt' (by simp [UInt8.size];omega)]
   simp only [List.cons_append,kP];rw [e,if_neg (by omega),if_neg (by omega)];have kR:0<k:=by
    rcases Nat.eq_zero_or_pos k with rfl|h1
    ·simp at hn;omega
    ·exact h1
   have hlt:n / 128<128^k:=by rw [Nat.pow_succ] at hn;exact Nat.div_lt_of_lt_mul (by rw [Nat.mul_comm];exact hn)
   rw [ZC k (n / 128) (i+1) _ r hlt (by omega) kR (.inr (by omega))];refine Prod.ext ?_ (Prod.ext ?_ rfl)
   ·show v+(n%128+128-128)*128^i+n / 128*128^(i+1)=v+n*128^i
    rw [Nat.add_sub_cancel,Nat.pow_succ,Nat.add_assoc];congr 1;have:n=n%128+128*(n / 128):=(Nat.mod_add_div n 128).symm
    conv=>rhs;rw [this]
    rw [Nat.add_mul];congr 1;rw [Nat.mul_comm (128^i) 128,←Nat.mul_assoc,Nat.mul_comm (n / 128) 128]
   ·simp;omega
theorem ZE:∀ (k n i v m:Nat),i+k≤9→m<(gB k n).length→(kP i v ((gB k n).take m))=(0,0,11)
 |0,n,i,v,m,_,hm=>by simp [gB] at hm
 |k+1,n,i,v,m,hik,hm=>by
  cases m with
  |zero=>simp [kP]
  |succ m=>
   unfold gB at hm ⊢;by_cases h:n<128
   ·rw [if_pos h] at hm;simp at hm
   ·rw [if_neg h] at hm ⊢
    have e:(UInt8.ofNat (n%128+128)).toNat=n%128+128:=by rw [UInt8.toNat_ofNat_of_lt' (by simp [UInt8.size];omega)]
    simp only [List.take_succ_cons,kP];rw [e,if_neg (by omega),if_neg (by omega)];simp only [List.length_cons] at hm;exact ZE k (n / 128) (i+1) _ m (by omega) (by omega)
theorem ZF:∀ (k n:Nat),n<128^k→0<k→gB (k+1) n=gB k n
 |0,_,_,h=>by omega
 |k+1,n,hn,_=>by
  conv=>lhs;rw [gB]
  conv=>rhs;rw [gB]
  by_cases h:n<128
  ·rw [if_pos h,if_pos h]
  ·rw [if_neg h,if_neg h]
   have hlt:n / 128<128^k:=by rw [Nat.pow_succ] at hn;exact Nat.div_lt_of_lt_mul (by rw [Nat.mul_comm];exact hn)
   have kR:0<k:=by
    rcases Nat.eq_zero_or_pos k with rfl|h1
    ·simp at hn;omega
    ·exact h1
   rw [ZF k (n / 128) hlt kR]
theorem ZG {n:Nat} (h:n≤67108864):aA n=gB 9 n:=ZF 9 n (by omega) (by decide)
theorem ZH {n:Nat} (h:n≤67108864) (r:List UInt8):ed (aA n++r)=(n,(aA n).length,0):=by
 rw [ZG h];have:=ZC 9 n 0 0 r (by omega) (by decide) (by decide) (.inl rfl);unfold ed;rw [this];simp
theorem anG {n m:Nat} (h:n≤67108864) (hm:m<(aA n).length):ed ((aA n).take m)=(0,0,11):=by
 rw [ZG h] at hm ⊢;exact ZE 9 n 0 0 m (by decide) hm
theorem anH (n:Nat):0<(aA n).length:=anF 9 n
theorem kT (T:List Nat) (p:List UInt8):(bw T p).length=(aA p.length).length+(4+p.length):=by
 simp [bw,kQ]
theorem ZI (T:List Nat) {p:List UInt8} (h:p.length≤67108864) (r:List UInt8):gC T (bw T p++r)=((aA p.length).length+4,(bw T p).length,0):=by
 have eR:ed (bw T p++r)=(p.length,(aA p.length).length,0):=by
  unfold bw;rw [List.append_assoc];exact ZH h _
 unfold gC;rw [eR];have hl:=kT T p;rw [if_neg (by simp),if_neg (by simp;omega),if_neg (by simp;omega)];have e1:((bw T p++r).drop (aA p.length).length)=cm 4 (dB T p)++(p++r):=by
  unfold bw;rw [List.append_assoc,List.drop_left,List.append_assoc]
 have e2:((bw T p++r).drop ((aA p.length).length+4))=p++r:=by
  rw [←List.drop_drop,e1];exact List.drop_left' (kQ 4 _)
 rw [if_neg ?_]
 ·refine Prod.ext rfl (Prod.ext ?_ rfl)
  simp only;rw [hl];omega
 ·simp only [e1,e2,ne_eq,Decidable.not_not]
  rw [List.take_left' (kQ 4 _),List.take_left]
theorem anI (T:List Nat) {p:List UInt8} (h:p.length≤67108864) {m:Nat} (hm:m<(bw T p).length):gC T ((bw T p).take m)=(0,0,11):=by
 have hl:=kT T p;by_cases h1:m<(aA p.length).length
 ·have:(bw T p).take m=(aA p.length).take m:=by
   unfold bw;rw [List.take_append_of_le_length (by omega)]
  rw [this];unfold gC;rw [anG h h1];simp
 ·have:(bw T p).take m=aA p.length++(cm 4 (dB T p)++p).take (m-(aA p.length).length):=by
   unfold bw;rw [List.take_append,List.take_of_length_le (by omega)]
  have eR:ed ((bw T p).take m)=(p.length,(aA p.length).length,0):=by rw [this];exact ZH h _
  have hlen:((bw T p).take m).length=m:=by simp;omega
  unfold gC;rw [eR,hlen];rw [if_neg (by simp),if_neg (by simp;omega),if_pos (by simp;omega)]
def bP (T:List Nat) (ps:List (List UInt8)):List UInt8:=ps.flatMap (bw T)
theorem GQ (T:List Nat) (p:List UInt8):0<(bw T p).length:=by rw [kT];omega
theorem ZJ (T:List Nat):∀ (ps:List (List UInt8)) (k:Nat) (t:List UInt8),(∀ p∈ps,p.length≤67108864)→(bP T ps++t).length<k→
  oW T k (bP T ps++t)=(ps++(oW T (k-ps.length) t).1,(bP T ps).length+(oW T (k-ps.length) t).2.1,(oW T (k-ps.length) t).2.2)
 | [],k,t,_,_=>by simp [bP]
 |p::ps,0,t,_,hk=>by omega
 |p::ps,k+1,t,hp,hk=>by
  have e:bP T (p::ps)++t=bw T p++(bP T ps++t):=by simp [bP]
  have hl:=GQ T p;rw [e,oW,if_neg (by intro h0;rw [h0] at e;have:=congrArg List.length h0;simp at this;rw [this.1] at hl;simp at hl),ZI T (hp p (by simp))];rw [if_neg (by simp)];have dA:=kT T p;have hlen:(bP T ps++t).length<k:=by
   have:=congrArg List.length e;simp only [List.length_append] at this hk ⊢;omega
  have ih:=ZJ T ps k t (fun q hq=>hp q (by simp [hq])) hlen;simp only [List.drop_left];rw [ih];have e2:(List.drop ((aA p.length).length+4) (bw T p++(bP T ps++t))).take ((bw T p).length-((aA p.length).length+4))=p:=by
   have e3:(bw T p++(bP T ps++t)).drop ((aA p.length).length+4)=p++(bP T ps++t):=by
    unfold bw;rw [List.append_assoc,←List.drop_drop,List.drop_left,List.append_assoc];exact List.drop_left' (kQ 4 _)
   rw [e3,dA,show (aA p.length).length+(4+p.length)-((aA p.length).length+4)=p.length by omega,List.take_left]
  rw [e2];have e4:k+1-(p::ps).length=k-ps.length:=by simp
  rw [e4];refine Prod.ext (by simp) (Prod.ext ?_ rfl);simp only [bP,List.flatMap_cons,List.length_append];omega
theorem anJ (T:List Nat) (ps:List (List UInt8)) {p:List UInt8} {m:Nat} (eh:∀ p∈ps,p.length≤67108864) (hp:p.length≤67108864) (hm:m<(bw T p).length):
  kj T (bP T ps++(bw T p).take m)=(ps,(bP T ps).length,if m=0 then 0 else 11):=by
 unfold kj;rw [ZJ T ps _ _ eh (Nat.lt_succ_self _)];have hpl:ps.length≤(bP T ps).length:=by
  clear eh
  induction ps with
  |nil=>simp
  |cons q qs ih=>have:=GQ T q;simp only [bP,List.flatMap_cons,List.length_append,List.length_cons] at ih ⊢;omega
 have hk:∃ k,(bP T ps++(bw T p).take m).length+1-ps.length=k+1:=⟨(bP T ps++(bw T p).take m).length-ps.length,by simp only [List.length_append] at*;omega⟩
 obtain ⟨k,hk⟩:=hk;rw [hk,oW];by_cases h0:m=0
 ·subst h0;simp
 ·rw [if_neg (by intro h1;have:=congrArg List.length h1;rw [List.length_take,List.length_nil] at this;omega),anI T hp hm]
  simp [h0]
theorem RH (T:List Nat) (ps:List (List UInt8)) (eh:∀ p∈ps,p.length≤67108864):kj T (bP T ps)=(ps,(bP T ps).length,0):=by
 have:=anJ T ps (p:= []) (m:=0) eh (by simp) (GQ T []);simpa using this
end Go.aH

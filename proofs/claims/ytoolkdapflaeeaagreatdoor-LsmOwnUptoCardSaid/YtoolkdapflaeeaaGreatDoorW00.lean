/- Helpers. -/
import Derived.Lib.Hide
import Derived.WalkKit
import Derived.WalkSpells
import Derived.WalkLawsBesides
import Derived.Deep.AppendSrc
import Derived.Deep.Draws
import Derived.OrdersHeld
import Derived.Deep.AppendLies
import Derived.Maps.RangeRun
import Derived.Test.YtoolkdapflaeeaaGreatDoorRows
import Derived.Deep.QuietTactic
import Derived.BigQuiet
import Derived.Laws.Cover1
import Derived.Laws.BitsAllLaws
import Derived.Laws.ShiftsVarLaws
set_option maxRecDepth 100000
set_option maxHeartbeats 16000000
set_option linter.unusedSimpArgs false
open Go
variable{B B' b bytes c d g i id j k m n r:Nat}{D:List Nat}{E e et kt t tx ty:TypeId}{arr cur:Array Value}{bv pv u v xv z:Value}{f:Nat × Nat}{l x:List UInt8}{w w' w0 w1 w2 w3:World}{xs:List Value}
namespace Go.Gl
open Go.RowKit
abbrev ae:=@Lib.hid
abbrev ag:=@And.intro
abbrev ax:=@heap_alloc_new
abbrev aN:=@Below.heap_setCell
abbrev aQ:=@IntWalk.i64_in
abbrev aJ:=@Nat.le_trans
abbrev aw:=@Nat.le_refl
abbrev bF:=@Nat.lt_of_lt_of_le
abbrev bh:=@Option.some.inj
abbrev aY:=@Nat.zero_le
abbrev cp:=@Obj.cells.inj
abbrev dm:=@List.mem_of_getElem?
abbrev je:=@List.eq_nil_of_length_eq_zero
abbrev dW:=@List.getElem?_eq_some_iff
abbrev gZ:=@Array.getD_eq_getD_getElem?
abbrev nz:=@List.mem_append_right
abbrev fE:=@List.mem_cons_of_mem
abbrev ej:=@List.mem_cons_self
abbrev cZ:=@List.mem_singleton
abbrev aM:=@List.length_append
abbrev bA:=@List.length_map
abbrev ek:=@List.getElem?_eq_getElem
abbrev aV:=@List.mem_map
abbrev bI:=@List.mem_cons
abbrev cr:=@List.map_cons
abbrev dn:=@List.mem_append
abbrev dD:=@List.length_cons
abbrev dS:=@List.map_append
abbrev ia:=@Array.length_toList
abbrev gP:=@List.cons_append
abbrev jf:=@List.map_congr_left
abbrev nZ:=@List.setIfInBounds_toArray
abbrev gQ:=@List.getElem?_map
abbrev jL:=@List.append_assoc
abbrev jz:=@ByteArray.toList_eq
abbrev nA:=@List.drop_eq_getElem_cons
abbrev fh:=@List.map_map
abbrev iA:=@List.take_length
abbrev iJ:=@List.length_nil
abbrev iK:=@List.nil_append
abbrev lU:=@List.set_cons_succ
abbrev jg:=@List.mem_append_left
abbrev jh:=@World.ownsRow_nil
abbrev bW:=@Below.refl
abbrev cB:=@Below.alloc
abbrev cw:=@Below.setCell
abbrev cC:=@Below.drew
abbrev ry:=@List.append_of_mem
abbrev vB:=@List.getElem?_append_left
abbrev xx:=@List.getElem?_append_right
theorem bG{w:World}(a:w.heap[b]?=some (.cells arr t (0,0)))(i:Nat):w.frozen? ⟨b,i,none⟩=false:=by simp[World.frozen?,a]
section maps
variable{P:Program}{κ:Type} [DecidableEq κ]
structure aD(κ:Type) where
 key:κ
 val:Value
 born:Nat
def aD.raw(enc:κ->Value)(e:aD κ):MapEntry:={key:=enc e.key,val:=e.val,born:=e.born}
def ly(k:κ):List (aD κ)->Nat->Option (Nat×Value)
 | [],_=>none
 |e::es,i=>if k=e.key then some (i,e.val)else ly k es (i+1)
structure xy(P:Program)(kt:TypeId)(enc:κ->Value):Prop where
 check:∀(b:Bool)(k:κ)(w:World),(Instr.checkKey b 10000 kt (enc k)).run P w=.ok () w
 find:∀(k:κ)(l:List (aD κ)) (w:World),(Instr.findKey kt (enc k) (l.map (aD.raw enc))).run P w=.ok (ly k l 0) w
 same:∀k:κ,Instr.sameBits 10000 (enc k) (enc k)=true
def MapAt(w:World)(r:Nat)(enc:κ->Value)(l:List (aD κ))(a:Nat):Prop:=
 w.heap[r]?=some (.map (l.map (aD.raw enc)).toArray a)
def DD(k:κ)(z:Value)(l:List (aD κ)):Value:=((l.find? (λe=>decide (k=e.key))).map aD.val).getD z
theorem VO{k:κ}{l:List (aD κ)}:ly k l i=none↔∀e∈l,k≠e.key:=by
 induction l generalizing i with
 |nil=>simp[ly]
 |cons e a b=>
  unfold ly;by_cases a:k=e.key
  .simp[a]
  .simp[a,b]
theorem aea{k:κ}{l:List (aD κ)}(a:ly k l i=some (j,v)):
  i<=j/\∃e,l[j-i]?=some e/\e.key=k/\e.val=v:=by
 induction l generalizing i with
 |nil=>simp[ly]at a
 |cons e b c=>
  unfold ly at a;by_cases b:k=e.key
  .simp only[b,if_true,Option.some.injEq,Prod.mk.injEq]at a;obtain⟨rfl,rfl⟩:=a;exact⟨aw _,e,by simp,b.symm,rfl⟩
  .simp only[b,if_false]at a;obtain⟨b,b,d,e⟩:=c a;refine⟨by omega,b,?_,e⟩;rw[show j-i=(j-(i+1))+1 by omega];simpa using d
theorem atF(k:κ)(z:Value)(l:List (aD κ))(i:Nat):((ly k l i).map (·.2)).getD z=DD k z l:=by
 induction l generalizing i with
 |nil=>simp[ly,DD]
 |cons e a b=>
  unfold ly;by_cases a:k=e.key
  .simp[a,DD]
  .simp[a,b,DD]
theorem run_getObj_map{w:World}{a:Array MapEntry}(b:w.heap[r]?=some (.map a c)):(getObj r).run P w=.ok (.map a c) w:=by simp[getObj,Sem.run,b]
theorem run_setObj_map{w:World}{a:Array MapEntry}(o:Obj)(b:w.heap[r]?=some (.map a c)):
  (setObj r o).run P w=.ok () {w with heap:=w.heap.setIfInBounds r o}:=by
 simp[setObj,Sem.run,b]
theorem aeb{w:World}{enc:κ->Value}(a:xy P kt enc)(b:P.underlying t=some (.map kt et))(e:(zeroValue et).run P w=.ok z w){l:List (aD κ)}(d:MapAt w r enc l c)(k:κ):
  (Instr.lookup t (.map (some r)) (enc k) false).run P w=.ok (DD k z l) w:=by
 rw[<-atF k z l 0];cases c:ly k l 0 with
 |none=>simp[Instr.lookup,run_underlying b,run_getObj_map d,a.check,a.find,c,e,Result.andThen]
 |some e=>simp[Instr.lookup,run_underlying b,run_getObj_map d,a.check,a.find,c,Result.andThen]
def dp(w:World)(r:Nat)(o:Obj):World:={w with heap:=w.heap.setIfInBounds r o}
theorem zt{w:World}{o:Obj}(a:r<w.heap.size):(dp w r o).heap[r]?=some o:=by simp[dp,a]
theorem zu{w:World}{o:Obj}(a:b≠r):(dp w r o).heap[b]?=w.heap[b]?:=by simp[dp,Array.getElem?_setIfInBounds_ne (Ne.symm a)]
def nB(k:κ)(v:Value)(l:List (aD κ)):List (aD κ):=l.map λe=>if k=e.key then{e with val:=v}else e
theorem af{b:Type}{a:Array b}{x:b}(b:a[i]?=some x):i<a.size:=by
 rcases Nat.lt_or_ge i a.size with a|a
 .exact a
 .simp[Array.getElem?_eq_none a]at b
theorem atG{a b:Type}(f:a->b)(l:List a)(j:Nat):(l.map f).eraseIdx j=(l.eraseIdx j).map f:=by simp[List.eraseIdx_eq_take_drop_succ]
theorem atH{a:Type}{l:List a}(b:l.Nodup){x:a}(hi:l[i]?=some x)(a:l[j]?=some x):i=j:=by obtain⟨c,c⟩:=dW.1 hi;obtain⟨d,d⟩:=dW.1 a;exact(List.getElem_inj b).1 (c.trans d.symm)
omit [DecidableEq κ] in
theorem VP {l:List (aD κ)} (a:(l.map aD.key).Nodup) {i j:Nat} {x y:aD κ} (hi:l[i]?=some x) (b:l[j]?=some y) (c:x.key=y.key):i=j:=
 atH a (x:=x.key) (by simp[hi]) (by simp[b,c])
theorem atK{k:κ}{enc:κ->Value}{l:List (aD κ)}(g:(l.map aD.key).Nodup){e:aD κ}(b:l[j]?=some e)(c:e.key=k)(f:MapEntry->MapEntry)(h:f (e.raw enc)=({e with val:=v}:aD κ).raw enc):
  ((l.map (aD.raw enc)).toArray.modify j f)=((nB k v l).map (aD.raw enc)).toArray:=by
 apply Array.ext';simp only[Array.toList_modify];apply List.ext_getElem?;intro i;rw[List.getElem?_modify];simp only[gQ,nB];cases d:l[i]? with
 |none=>simp
 |some x=>
  simp only[Option.map_some];by_cases a:j=i
  .subst a;have:x=e:=bh (d.symm.trans b);subst this;simp[c,h]
  .have e:k≠x.key:=by intro f;apply a;exact VP g b d (c.trans f)
   simp[a,e]
theorem Qw{w:World}{enc:κ->Value}(a:xy P kt enc)(d:P.underlying t=some (.map kt et)){l:List (aD κ)}(b:MapAt w r enc l c)(k:κ)(v:Value)(f:∀e∈l,k≠e.key):
  (Instr.mapUpdate t (.map (some r)) (enc k) v).run P w=.ok () (dp w r (.map ((l++[(⟨k,v,c⟩:aD κ)]).map (aD.raw enc)).toArray (c+1))):=by
 have c:ly k l 0=none:=VO.2 f;simp[Instr.mapUpdate,run_underlying d,run_getObj_map b,a.check,a.find,c,Result.andThen,run_setObj_map _ b,dp,aD.raw]
theorem aec{w:World}{enc:κ->Value}(b:xy P kt enc)(g:P.underlying t=some (.map kt et)){l:List (aD κ)}(f:MapAt w r enc l c)(h:(l.map aD.key).Nodup)(k:κ)(v:Value)(d:∃e∈l,k=e.key):
  (Instr.mapUpdate t (.map (some r)) (enc k) v).run P w=.ok () (dp w r (.map ((nB k v l).map (aD.raw enc)).toArray c)):=by
 cases c:ly k l 0 with
 |none=>obtain⟨e,a,i⟩:=d;exact absurd i (VO.1 c e a)
 |some d=>obtain⟨j,u⟩:=d;obtain⟨_,e,a,d,_⟩:=aea c;simp only[Nat.sub_zero]at a;have i:j<l.length:=(dW.1 a).1;have m:l[j]=e:=(dW.1 a).2;have e:Instr.sameBits 10000 (enc k) (enc k)=true:=b.same k;have j:=atK (v:=v) (enc:=enc) h a d (λx=>{x with key:=enc k,val:=v}) (by simp[aD.raw,d]);simp[Instr.mapUpdate,run_underlying g,run_getObj_map f,b.check,b.find,c,Result.andThen,Instr.keyThatStays,i,m,aD.raw,d,e,run_setObj_map _ f,dp];have a:=congrArg Array.toList j;simp only[Array.toList_modify]at a;rw[a]
theorem Qx{w:World}{kt':TypeId}{enc:κ->Value}(b:xy P kt enc)(o:P.underlying t=some (.map kt et)){l:List (aD κ)}(d:MapAt w r enc l c)(p:(l.map aD.key).Nodup)(k:κ):
  (Builtin.delete_ #[t,kt'] ty #[.map (some r),enc k]).run P w=.ok (.tuple #[]) (dp w r (.map ((l.filter λe=>decide (k≠e.key)).map (aD.raw enc)).toArray c)):=by
 cases c:ly k l 0 with
 |none=>
  have f:(l.filter λe=>decide (k≠e.key))=l:=List.filter_eq_self.2 λe a=>by simpa using VO.1 c e a
  rw[f];simp[Builtin.delete_,run_underlying o,run_getObj_map d,b.check,b.find,c,Result.andThen,run_setObj_map _ d,dp]
 |some g=>
  obtain⟨j,u⟩:=g;obtain⟨_,e,a,g,_⟩:=aea c;simp only[Nat.sub_zero]at a;have q:j<l.length:=(dW.1 a).1;have h:l[j]=e:=(dW.1 a).2;have f:(l.filter λe=>decide (k≠e.key))=l.eraseIdx j:=by
   have a:l=l.take j++l[j]::l.drop (j+1):=by rw[List.getElem_cons_drop,List.take_append_drop]
   rw[List.eraseIdx_eq_take_drop_succ]
   conv=>lhs;rw[a]
   rw[List.filter_append,List.filter_cons];simp only[h,g,ne_eq,not_true_eq_false,decide_false,Bool.false_eq_true,if_false];congr 1
   .apply List.filter_eq_self.2
    intro x a;obtain⟨i,e,k⟩:=List.mem_iff_getElem.1 a;simp only[List.length_take]at e;simp only[decide_eq_true_eq];intro m;have n:i<l.length:=by omega
    have:i=j:=VP p (x:=l[i]) (y:=l[j]) (by simp[n]) (by simp[q]) (by rw[h,g,m,<-k,List.getElem_take]);omega
   .apply List.filter_eq_self.2
    intro x a;obtain⟨i,e,k⟩:=List.mem_iff_getElem.1 a;simp only[List.length_drop]at e;simp only[decide_eq_true_eq];intro m;have n:j+1+i<l.length:=by omega
    have:j+1+i=j:=VP p (x:=l[j+1+i]) (y:=l[j]) (by simp[n]) (by simp[q]) (by rw[h,g,m,<-k,List.getElem_drop]);omega
  rw[f];simp[Builtin.delete_,run_underlying o,run_getObj_map d,b.check,b.find,c,Result.andThen,run_setObj_map _ d,dp,atG]
end maps
section pairs
variable{P:Program}{w:World}
end pairs
section steps
variable{P:Program}{ops:Array Oper}{rest:List Oper}{o:Oper}{a:Act}{Q:Exit→Act→World→Prop}{w w':World}
theorem atM(b:o.guard=none)(c:(execOp a.eval o).run P w=.ok (.value v) w')(d:wpList P ops Q rest (a.put o.dst v) w'):wpList P ops Q (o::rest) a w:=
 wpList_plain b λa a=>by unfold Oper.wp;rw[c];exact a _ _ d
theorem KU{s x:Operand}(c:o.op=Op.call {callee:=Callee.builtin Builtin.append,args:=#[s,x],argTypes:=#[t,tx]}){b:Value}(d:a.eval s=b)(e:a.eval x=xv)(f:(Builtin.append_ #[t,tx] o.type #[b,xv]).run P w=.ok v w'):
  (execOp a.eval o).run P w=.ok (.value v) w':=by
 unfold execOp;simp[c,resolve,invoke,d,e,builtin,f]
theorem cells_one(a:v.oneCell'=true):v.cells=#[v]:=by cases v<;>first|rfl|cases a
theorem atN(a:P.underlying t=some (.slice E))(hi:(P.info? E).map (λi=>(i.zero,i.size,i.bytes))=some (some z,1,bytes))(b:z.oneCell'=true)(c:v.oneCell'=true):
  (Instr.buildSlice t 1 #[(0,v)]).run P w=.ok (.slice (some ⟨w.heap.size,0,none⟩) 1 1) (w.alloc (.cells #[v] E)):=by
 obtain⟨d,d,e,f,_⟩:=info_parts hi;simp[Instr.buildSlice,run_underlying a,sizeOf,typeInfo,d,f,zeroValue,e,Instr.fill,cells_one c,cells_one b,newRow];congr 2;apply Array.ext
 .simp
 .intro i a b;simp at a;simp[a]
theorem tZ{x:Operand}(b:o.op=Op.buildSlice t 1 #[(0,x)])(c:P.underlying t=some (.slice E))(hi:(P.info? E).map (λi=>(i.zero,i.size,i.bytes))=some (some z,1,bytes))(d:z.oneCell'=true)(e:a.eval x=v)(f:v.oneCell'=true):(execOp a.eval o).run P w=.ok (.value (.slice (some ⟨w.heap.size,0,none⟩) 1 1)) (w.alloc (.cells #[v] E)):=by unfold execOp;simp[b,e,atN c hi d f]
theorem fP{s x:Operand}(c:o.guard=none)(d:o.op=Op.call {callee:=Callee.builtin Builtin.append,args:=#[s,x],argTypes:=#[t,tx]}){b:Value}(e:a.eval s=b)(f:a.eval x=xv)(g:(Builtin.append_ #[t,tx] o.type #[b,xv]).run P w=.ok v w')(b:wpList P ops Q rest (a.put o.dst v) w'):wpList P ops Q (o::rest) a w:=
 atM c (KU d e f g) b
end steps
section bytes
variable{P:Program}{w w':World}
def dT(l:List UInt8):List Value:=l.map λx=>.int .u8 x.toNat
def Bytes(w:World)(v:Value)(l:List UInt8):Prop:=
 (v=.slice none 0 0/\l=[])\/∃(b o c:Nat),v=.slice (some ⟨b,o,none⟩) l.length c/\b<w.heap.size/\∀(i:Nat)(x:UInt8),l[i]?=some x->w.cell? ⟨b,o+i,none⟩=some (.int .u8 x.toNat)
def blk:Value->Option Nat
 | .slice (some a) _ _=>some a.block
 |_=>none
theorem atO{a d:TypeId}(f:P.underlying a=some (.slice e))(g:P.underlying e=some (.int .u8))(h:P.underlying d=some .string)(i:Bytes w v l):
  (convert a d v).run P w=.ok (.string ⟨l.toArray⟩) w:=by
 rcases i with⟨rfl,rfl⟩|⟨b,o,c,rfl,i,i⟩
 .rw[run_convert_bytes_string w a d e none 0 0 f g h];rfl
 .refine run_convert_bytes_back w a d e ⟨b,o,none⟩ c l f g h λj a=>?_
  rw[Addr.add_lit];exact i j l[j] (by simp[a])
abbrev Grow(w w':World):Prop:=Below w.heap.size w w'
theorem Grow.trans(a:Grow w1 w2)(k:Grow w2 w3):Grow w1 w3:=Below.trans a (Below.mono k a.size)
theorem Grow.refl(w:World):Grow w w:=bW _ _
theorem Grow.alloc(w:World)(o:Obj):Grow w (w.alloc o):=(bW _ _).alloc (aw _) o
theorem Grow.drew(w:World):Grow w w.drew:=(bW _ _).drew
abbrev aW:=@Grow.refl
abbrev ay:=@Grow.drew
abbrev ar:=@Grow.alloc
theorem cD{B:Nat}{a w:World}(b:Below B a w):Below B a (w.drewN n):=b.trans ⟨rfl,rfl,rfl,aw _,λ_ _=>rfl⟩
theorem Grow.heap{w w':World}(c:Grow w w'){o:Obj}(a:w.heap[b]?=some o):w'.heap[b]?=some o:=by rw[c.block b (af a),a]
theorem Grow.cells{w:World}:∀(W:World)(b o:Nat),Below w.heap.size w W->b<w.heap.size->W.cell? ⟨b,o,none⟩=w.cell? ⟨b,o,none⟩:=
 λ_ _ _ a b=>a.cell (p:=⟨_,_,none⟩) b
end bytes
section range
variable{P:Program}{κ:Type}{w:World}
def mK(a:Array Nat)(l:List (aD κ)):List (aD κ):=l.filter λe=> !a.contains e.born
def vF(r a:Nat)(w:World):Nat:=
 match w.heap[a]?,w.heap[r]? with
 |some (.mapIter _ _ seen _),some (.map es _)=>(leftOf es seen).size
 |_,_=>0
theorem VQ(enc:κ->Value)(a:Array Nat)(l:List (aD κ)):(leftOf (l.map (aD.raw enc)).toArray a).toList=(mK a l).map (aD.raw enc):=by unfold leftOf mK;rw[Array.toList_filter,List.filter_map];rfl
theorem Ie{enc:κ->Value}{a d e:Nat}{b:Array Nat}{l:List (aD κ)}(hi:w.heap[a]?=some (.mapIter (some r) d b e))(d:MapAt w r enc l c):vF r a w=(mK b l).length:=by unfold vF;rw[hi,show w.heap[r]?=_ from d];simp only;rw[<-ia,VQ,bA]
theorem VR{enc:κ->Value}{a f g:Nat}{d:Array Nat}{l:List (aD κ)}(ty:TypeId)(hi:w.heap[a]?=some (.mapIter (some r) f d g))(i:MapAt w r enc l c)(h:∀e∈l,e.born<f)(j:f<=g)(n:a≠r)(o:(l.map aD.born).Nodup):
  (mK d l=[]/\(Instr.next (.pointer (some ⟨a,0,none⟩)) false ty).run P w=.ok (.tuple #[.bool false]) w)\/
  ∃e w1,e∈mK d l/\(Instr.next (.pointer (some ⟨a,0,none⟩)) false ty).run P w=.ok (.tuple #[.bool true,enc e.key,e.val]) w1/\
   (Instr.entry (.pointer (some ⟨a,0,none⟩))).run P w1=.ok (.tuple #[enc e.key,e.val]) w1/\
   w1.heap[a]?=some (.mapIter (some r) f (d.push e.born) c)/\w.grownBy w1 (some a)/\w1.heap.size=w.heap.size:=by
 rcases run_next_at (P:=P) w ty a r f g d _ c hi i (by simpa[aD.raw]using h) j with⟨j,k⟩|⟨e,h,w1,g,p⟩
 .left;refine⟨?_,k⟩;have:=congrArg List.length (VQ enc d l);rw[ia,j,bA]at this;exact je this.symm
 .right
  rw[VQ]at h;obtain⟨x,j,rfl⟩:=aV.1 h;have q:x∈l:=(List.mem_filter.1 j).1;have h:a<w1.heap.size:=by rcases g with rfl|rfl<;>exact af hi
  have k:(ChangeMaps.setBlock w1 a (.mapIter (some r) f (d.push (aD.raw enc x).born) c)).heap[a]?=some (.mapIter (some r) f (d.push x.born) c):=by simp[ChangeMaps.setBlock,h,aD.raw]
  have l:∀b,b≠a->(ChangeMaps.setBlock w1 a (.mapIter (some r) f (d.push (aD.raw enc x).born) c)).heap[b]?=w.heap[b]?:=by
   intro b h;have:w1.heap[b]?=w.heap[b]?:=by rcases g with rfl|rfl<;>rfl
   rw[<-this];simp[ChangeMaps.setBlock,Array.getElem?_setIfInBounds_ne (Ne.symm h)]
  have m:(ChangeMaps.setBlock w1 a (.mapIter (some r) f (d.push (aD.raw enc x).born) c)).heap.size=w.heap.size:=by rcases g with rfl|rfl<;>simp[ChangeMaps.setBlock]
  refine⟨x,_,j,p,?_,k,⟨?_,?_,?_,Nat.le_of_eq m.symm,λb _ h=>l b (λe=>h (by rw[e]))⟩,m⟩
  .refine run_entry_at _ a r f d _ c (aD.raw enc x) k ((l r (Ne.symm n)).trans i) (by simpa using List.mem_map_of_mem q) ?_;simpa[aD.raw,Function.comp_def]using o
  .rcases g with rfl|rfl<;>rfl
  .rcases g with rfl|rfl<;>rfl
  .rcases g with rfl|rfl<;>rfl
theorem KV(a:Array Nat)(l:List (aD κ))(b:Nat):mK (a.push b) l=(mK a l).filter λe=>decide (e.born≠b):=by
 unfold mK;rw[List.filter_filter];apply List.filter_congr;intro e _;simp only[Array.contains_push,Bool.not_or];rw[Bool.and_comm];congr 1;by_cases a:e.born=b
 .simp[a]
 .simp[a]
theorem aee{a:Array Nat}{l:List (aD κ)}(b:(l.map aD.born).Nodup):((mK a l).map aD.born).Nodup:=b.sublist (List.filter_sublist.map _)
end range
section keep
variable{soft:Obj→Prop}{B:Nat}{w w' w'':World}
end keep
section pi
variable{P:Program}{ops:Array Oper}{Q:Exit→Act→World→Prop}{S:World→Prop}
def dU(P:Program)(ops:Array Oper)(Q:Exit->Act->World->Prop)(S:World->Prop):List (Oper×Bool)->Act->World->Prop
 | [],a,w=>Q .normal a w
 |(o,false)::rest,a,w=>∃v,YieldsIf P ops S o v a/\dU P ops Q S rest (a.put o.dst v) w
 |(o,true)::rest,a,w=>if Region.wanted o (yielded ops a.tmps)then o.wp P a w (λb w'=>S w'/\dU P ops Q S rest b w') Q else(S w/\dU P ops Q S rest (a.put o.dst undef) w)
def nth:List Oper->Nat->Oper
 | [],_=>default
 |o::_,0=>o
 |_::l,n+1=>nth l n
def cm(l:List Oper):List (Nat×Bool)->List (Oper×Bool)
 | []=>[]
 |(i,b)::r=>(nth l i,b)::cm l r
def pH(ops:Array Oper):List (Nat×Bool)->Array Bool->Bool
 | [],listed=>(Region.ready .any ops listed).isEmpty
 |(i,false)::rest,listed=>(Region.ready .any ops listed).contains i&&Region.free .any ops listed i&&pH ops rest (listed.setIfInBounds i true)
 |(i,true)::rest,listed=>decide (Region.ready .any ops listed=[i])&&pH ops rest (listed.setIfInBounds i true)
theorem vG:∀{l:List Oper}{i:Nat},i<l.length->l[i]?=some (nth l i)
 | [],_,h=>by simp at h
 |_::_,0,_=>rfl
 |_::l,i+1,h=>by simpa[nth]using vG (l:=l) (by simpa using h)
theorem vH{ops:Array Oper}{listed:Array Bool}(a:i∈Region.ready .any ops listed):i<ops.size:=by simp only[Region.ready,List.mem_filter,List.mem_range]at a;exact a.1
theorem Ig{l:List Oper}(b:Region.noSelect l.toArray=true)(e:∀c a d v w,Q (.panic c) (Act.put a d v) w->Q (.panic c) a w):∀(d:List (Nat×Bool)) (listed:Array Bool) (a:Act) (w:World),
  pH l.toArray d listed=true->S w->dU P l.toArray Q S (cm l d) a w->wpAnyH P .any l.toArray Q S d.length listed a w
 | [],listed,a,w,hc,hS,h=>wpAnyH_done (by simpa[pH]using hc) h _
 |(i,false)::rest,listed,a,w,hc,hS,h=>by simp only[pH,Bool.and_eq_true]at hc;obtain⟨v,f,g⟩:=h;have d:=vH (by simpa using hc.1.1);exact wpAnyH_take (by simpa using vG (l:=l) (by simpa using d)) b hc.1.2 hc.1.1 (λc a w=>e c a _ _ w) f hS (Ig b e rest _ _ _ hc.2 hS g)
 |(i,true)::rest,listed,a,w,hc,hS,h=>by
  simp only[pH,Bool.and_eq_true,decide_eq_true_eq]at hc;refine wpAnyH_all hc.1 (by simp) λj a=>?_
  have c:j=i:=by simpa using a
  subst c;have d:l.toArray[j]?=some (nth l j):=by have:=vH (ops:=l.toArray) (listed:=listed) (i:=j) (by rw[hc.1];simp);simpa using vG (l:=l) (by simpa using this)
  simp only[cm,dU]at h;unfold wpOp;simp only[d];split
  .rename_i a
   rw[if_pos a]at h;exact .inl (Oper.wp_mono (λc w' c=>⟨c.1,Ig b e rest _ _ _ hc.2 c.1 c.2⟩) h)
  .rename_i a
   rw[if_neg a]at h;exact⟨h.1,Ig b e rest _ _ _ hc.2 h.1 h.2⟩
theorem bB{Q:Exit->Act->World->Prop}(e:∀c a k v w,Q (.panic c) (Act.put a (some k) v) w->Q (.panic c) a w):∀c a d v w,Q (.panic c) (Act.put a d v) w->Q (.panic c) a w:=λc a d v w b=>by cases d with|none=>exact b|some k=>exact e c a k v w b
theorem oK{a:Act}{w:World}{l:List Oper}(S:World->Prop)(e:List (Nat×Bool))(f:P.follows .mixedOrders=true)(b:(Region.noSelect l.toArray&&pH l.toArray e (Array.replicate l.toArray.size false)&&decide (e.length=l.toArray.size))=true)(g:∀c a d v w,Q (.panic c) (Act.put a d v) w->Q (.panic c) a w)(c:S w.drew)(d:dU P l.toArray Q S (cm l e) a w.drew):(Code.region id l.toArray true).wp P Q a w:=by simp only[Bool.and_eq_true,decide_eq_true_eq]at b;refine wp_region_held (S:=S) f ?_;rw[<-b.2];exact Ig b.1.1 g e _ _ _ (by rw[b.2];exact b.1.2) c d
def ct:List Oper->List Nat->List (Oper×Bool)
 | [],_=>[]
 |o::l,[]=>(o,false)::ct l []
 |o::l,0::g=>(o,true)::ct l g
 |o::l,(n+1)::g=>(o,false)::ct l (n::g)
def qB:Nat->Nat->List Nat->List (Nat×Bool)
 |_,0,_=>[]
 |i,n+1,[]=>(i,false)::qB (i+1) n []
 |i,n+1,0::g=>(i,true)::qB (i+1) n g
 |i,n+1,(m+1)::g=>(i,false)::qB (i+1) n (m::g)
theorem Qy:∀(n i:Nat)(g:List Nat),(qB i n g).length=n
 |0,_,_=>by simp[qB]
 |n+1,i,[]=>by simp[qB,Qy n]
 |n+1,i,0::g=>by simp[qB,Qy n]
 |n+1,i,(m+1)::g=>by simp[qB,Qy n]
theorem Qz:∀(pre:List Oper)(o:Oper)(l:List Oper),nth (pre++o::l) pre.length=o
 | [],_,_=>rfl
 |_::pre,o,l=>Qz pre o l
theorem aef:∀(l pre:List Oper)(g:List Nat),cm (pre++l) (qB pre.length l.length g)=ct l g
 | [],pre,g=>by cases g<;>rfl
 |o::l,pre,g=>by
  have a:=λg=>aef l (pre++[o]) g
  have e:(pre++[o])++l=pre++o::l:=by simp
  have b:(pre++[o]).length=pre.length+1:=by simp
  rw[e,b]at a
  match g with
  | []=>simp only[dD,qB,cm,ct,Qz,a]
  |0::g=>simp only[dD,qB,cm,ct,Qz,a]
  |(n+1)::g=>simp only[dD,qB,cm,ct,Qz,a]
theorem cN{a:Act}{w:World}{l:List Oper}(S:World->Prop)(g:List Nat)(b:(P.follows .mixedOrders&&(Region.noSelect l.toArray&&pH l.toArray (qB 0 l.length g) (Array.replicate l.toArray.size false)))=true)(e:∀c a d v w,Q (.panic c) (Act.put a d v) w->Q (.panic c) a w)(c:S w.drew)(d:dU P l.toArray Q S (ct l g) a w.drew):(Code.region id l.toArray true).wp P Q a w:=by simp only[Bool.and_eq_true]at b;refine oK S (qB 0 l.length g) b.1 (by simp only[Bool.and_eq_true,decide_eq_true_eq];exact⟨b.2,by simp[Qy]⟩) e c ?_;rw[show cm l (qB 0 l.length g)=ct l g from aef l [] g];exact d
theorem ah{l:List Value}{ds:List Deferred}:Act.put ⟨l.toArray,ds⟩ (some d) v=⟨(l.set d v).toArray,ds⟩:=by simp[Act.put]
theorem aC{a:Act}:a.put none v=a:=rfl
theorem bg{a:Act}{w:World}(b:Q .normal a w):dU P ops Q S [] a w:=b
theorem az{rest:List (Oper×Bool)}{a:Act}{w:World}{o:Oper}(b:Region.wanted o (yielded ops a.tmps)=true)(c:∀W,S W->(execOp a.eval o).run P W=.ok (.value v) W)(d:dU P ops Q S rest (a.put o.dst v) w):dU P ops Q S ((o,false)::rest) a w:=
 ⟨v,.inl ⟨b,c⟩,d⟩
theorem aA{rest:List (Oper×Bool)}{a:Act}{w:World}{o:Oper}(b:Region.wanted o (yielded ops a.tmps)=false)(c:dU P ops Q S rest (a.put o.dst undef) w):dU P ops Q S ((o,false)::rest) a w:=
 ⟨undef,.inr ⟨b,rfl⟩,c⟩
theorem fK{rest:List (Oper×Bool)}{a:Act}{w:World}{o:Oper}(d:Region.wanted o (yielded ops a.tmps)=true)(b:∀c:Act->World->Prop,(∀a w,S w/\dU P ops Q S rest a w->c a w)->o.wp P a w c Q):dU P ops Q S ((o,true)::rest) a w:=by unfold dU;rw[if_pos d];exact b _ (λ_ _ b=>b)
theorem Ih{rest:List (Oper×Bool)}{a:Act}{w:World}{o:Oper}(b:Region.wanted o (yielded ops a.tmps)=false)(c:S w)(d:dU P ops Q S rest (a.put o.dst undef) w):dU P ops Q S ((o,true)::rest) a w:=by unfold dU;rw[if_neg (by simp[b])];exact⟨c,d⟩
theorem ud{rest:List (Oper×Bool)}{a:Act}{w w':World}{o:Oper}(b:Region.wanted o (yielded ops a.tmps)=true)(c:(execOp a.eval o).run P w=.ok (.value v) w')(d:S w')(e:dU P ops Q S rest (a.put o.dst v) w'):dU P ops Q S ((o,true)::rest) a w:=
 fK b λa a=>by unfold Oper.wp;rw[c];exact a _ _ ⟨d,e⟩
theorem aKE{rest:List (Oper×Bool)}{a:Act}{w w':World}{o:Oper}(b:Region.wanted o (yielded ops a.tmps)=true)(c:(execOp a.eval o).run P w=.ok .skip w')(d:S w')(e:dU P ops Q S rest (a.put o.dst undef) w'):dU P ops Q S ((o,true)::rest) a w:=
 fK b λa a=>by unfold Oper.wp;rw[c];exact a _ _ ⟨d,e⟩
theorem bw{rest:List (Oper×Bool)}{a:Act}{w:World}{o:Oper}{f:FuncId}{args:Array Value}{R:Ending->World->Prop}(b:Region.wanted o (yielded ops a.tmps)=true)(c:(execOp a.eval o).run P w=.ok (.enter f args) w)(d:Calls P f args w R)(f:∀e w',R e w'->∃v,e=.returned v/\S w'/\dU P ops Q S rest (a.put o.dst v) w'):dU P ops Q S ((o,true)::rest) a w:=
 fK b λa a=>by
  unfold Oper.wp;rw[c];refine d.mono λe w' b=>?_
  obtain⟨v,rfl,c,d⟩:=f e w' b;exact a _ _ ⟨c,d⟩
attribute [irreducible] dU
end pi
end Go.Gl
namespace Go.Gl
open Go Go.RowKit
section last
variable{P:Program}{ops:Array Oper}{Q:Exit→Act→World→Prop}{S:World→Prop}
def KW(P:Program)(ops:Array Oper)(Q:Exit->Act->World->Prop)(S:World->Prop)(last:Nat):Nat->Array Bool->Act->World->Prop
 |0,listed,a,w=>Region.ready .any ops listed=[]/\Q .normal a w
 |fuel+1,listed,a,w=>
  (Region.ready .any ops listed=[]->Q .normal a w)/\
  ∀i∈Region.ready .any ops listed,wpOp P ops Q i (λb w'=>(i≠last->S w')/\KW P ops Q S last fuel (listed.setIfInBounds i true) b w') a w
theorem aeg{last:Nat}:∀(b:Nat)(listed:Array Bool)(a:Act)(w:World),KW P ops Q S last b listed a w->wpAny P .any ops Q b listed a w
 |0,_,_,_,h=>h
 |b+1,_,_,_,h=>⟨h.1,λi a=>wpOp_mono (λc w' d=>aeg b _ c w' d.2) (h.2 i a)⟩
def Ii(ops:Array Oper):Nat->Nat->Nat->Bool
 |0,_,_=>false
 |n+1,i,k=>
  match ops[i]? with
  |none=>false
  |some o=>o.after.any λe=>Region.binds .any e&&(decide (e.on=k)||Ii ops n e.on k)
def zv(ops:Array Oper)(listed:Array Bool):Prop:=
 ∀(k:Nat)(o:Oper),ops[k]?=some o->listed.getD k false=true->∀e∈o.after,Region.binds .any e=true->listed.getD e.on false=true
theorem zv.list{listed:Array Bool}(m:zv ops listed)(hi:i∈Region.ready .any ops listed):zv ops (listed.setIfInBounds i true):=by
 intro k o b c e d f;have g:∀j,listed.getD j false=true->(listed.setIfInBounds i true).getD j false=true:=λj h=>by
  by_cases l:i=j
  .subst l
   have:i<listed.size:=by
    rcases Nat.lt_or_ge i listed.size with a|a
    .exact a
    .simp[Array.getElem?_eq_none a]at h
   simp[this]
  .rw[getD_set_ne false l];exact h
 by_cases a:i=k
 .subst a;obtain⟨_,h,h,i⟩:=mem_ready.1 hi;rw[b]at h;cases h;exact g _ (i e d f)
 .rw[getD_set_ne false a]at c;exact g _ (m k o b c e d f)
theorem VS{listed:Array Bool}(c:zv ops listed):∀(n i k:Nat),Ii ops n i k=true->(∀o,ops[i]?=some o->∀e∈o.after,Region.binds .any e=true->listed.getD e.on false=true)->listed.getD k false=true
 |0,_,_,hw,_=>by simp[Ii]at hw
 |n+1,i,k,hw,hd=>by
  unfold Ii at hw;cases b:ops[i]? with
  |none=>simp[b]at hw
  |some o=>
   simp only[b,Array.any_eq_true',Bool.and_eq_true,Bool.or_eq_true,decide_eq_true_eq]at hw;obtain⟨e,f,g,a⟩:=hw;have d:=hd o b e f g;rcases a with a|a
   .rw[<-a];exact d
   .exact VS c n e.on k a λa b f g h=>c e.on a b d f g h
def KX(ops:Array Oper)(last:Nat):Bool:=(List.range ops.size).all λk=>decide (k=last)||Ii ops 3 last k
theorem atQ{last:Nat}(b:KX ops last=true){listed:Array Bool}(e:zv ops listed)(a:last∈Region.ready .any ops listed)(hi:i∈Region.ready .any ops listed):i=last:=by
 obtain⟨c,o,f,g⟩:=mem_ready.1 a;obtain⟨c,a,d,_⟩:=mem_ready.1 hi;unfold KX at b;simp only[List.all_eq_true,List.mem_range]at b;have h:i<ops.size:=by
  rcases Nat.lt_or_ge i ops.size with a|a
  .exact a
  .rw[Array.getElem?_eq_none a]at d;cases d
 have a:=b i h;simp only[Bool.or_eq_true,decide_eq_true_eq]at a;rcases a with a|a
 .exact a
 .have b:=VS e 3 last i a (λa a=>by rw[f]at a;cases a;exact g)
  rcases Nat.lt_or_ge i listed.size with a|a
  .simp[a]at c b;rw[c]at b;cases b
  .simp[Array.getElem?_eq_none a]at b
theorem atS{last:Nat}{f:Oper}(u:KX ops last=true)(x:i≠last)(hi:ops[i]?=some f)(r:∀(j:Nat)(o:Oper) l b,ops[j]?=some o->o.op≠.select l b)(y:∀c a w,Q (.panic c) (a.put f.dst v) w->Q (.panic c) a w):
  ∀(m:Nat)(listed:Array Bool)(a:Act)(w:World),zv ops listed->
   (∀j g,ops[j]?=some g->j≠i->listed.getD j true=false->(∀e∈g.after,Region.binds .any e=true->e.on≠i)->f.apart ops g=true)->
   i∈Region.ready .any ops listed->YieldsIf P ops S f v a->S w->
   KW P ops Q S last m (listed.setIfInBounds i true) (a.put f.dst v) w->KW P ops Q S last (m+1) listed a w:=by
 intro m
 induction m with
 |zero=>
  intro listed a w _ _ c p n o;refine⟨λq=>(by rw[q]at c;cases c),λj h=>?_⟩;by_cases d:j=i
  .subst d;exact p.wpOp hi n ⟨λ_=>n,o⟩
  .have:=ready_mono h d;rw[o.1]at this;cases this
 |succ m v=>
  intro listed a w s t c p n o;refine⟨λq=>(by rw[q]at c;cases c),λj h=>?_⟩;by_cases d:j=i
  .subst d;exact p.wpOp hi n ⟨λ_=>n,o⟩
  .have w:j≠last:=λe=>x (by subst e;exact atQ u s h c)
   have a:=o.2 j (ready_mono h d);obtain⟨o,g,m,n⟩:=mem_ready.1 h;have u:∀e∈g.after,Region.binds .any e=true->e.on≠i:=λe q x z=>by
    have a:=n e q x;have q:=(mem_ready.1 c).1;rw[z]at a;rcases Nat.lt_or_ge i listed.size with n|n
    .simp[n]at q a;rw[q]at a;cases a
    .simp[Array.getElem?_eq_none n]at a
   have n:=wpOp_putIf m (t j g m d o u) (λl b=>r i f l b hi) (λl b=>r j g l b m) y p a;have g:∀k a,ops[k]?=some a->k≠i->(listed.setIfInBounds j true).getD k true=false->
     (∀e∈a.after,Region.binds .any e=true->e.on≠i)->f.apart ops a=true:=λk a e f b i=>by
    refine t k a e f ?_ i;by_cases a:j=k
    .subst a;exact o
    .rw[getD_set_ne true a]at b;exact b
   refine wpOp_mono (λb w' a=>⟨a.2.1,v (listed.setIfInBounds j true) b w' (s.list h) g (ready_mono c (Ne.symm d)) a.1 (a.2.1 w) ?_⟩) n;rw[Array.setIfInBounds_comm _ _ d];exact a.2.2
def DF(P:Program)(ops:Array Oper)(Q:Exit->Act->World->Prop)(o:Oper):Exit->Act->World->Prop
 | .normal,a,w=>if Region.wanted o (yielded ops a.tmps)then o.wp P a w (λb w'=>Q .normal b w') Q else Q .normal (a.put o.dst undef) w
 |e,a,w=>Q e a w
theorem aej{o:Oper}{a:Act}:DF P ops Q o .normal a w=if Region.wanted o (yielded ops a.tmps)then o.wp P a w (λb w'=>Q .normal b w') Q else Q .normal (a.put o.dst undef) w:=rfl
theorem atU{o j:Oper}{a:Act}{w:World}{h i:Act->World->Prop}(g:∀a w,h a w->i a w)(b:o.wp P a w h (DF P ops Q j)):o.wp P a w i Q:=by
 unfold Oper.wp at*;generalize (execOp a.eval o).run P w=r at*;cases r with
 |ok n w'=>
  cases n<;>simp only[Oper.upon]at b ⊢
  case value u=>exact g _ _ b
  case skip=>exact g _ _ b
  case defer d=>exact g _ _ b
  case enter f d=>
   refine Calls.mono b λe w'' a=>?_
   cases e with
   |returned u=>exact g _ _ a
   |panicked c=>exact a
   |outgrown=>exact a
  case row row d=>exact Rows.mono b λu w'' a=>g _ _ a
 |halt x w'=>
  cases x<;>simp only[Oper.upon]at b ⊢
  case panic u=>exact b
def DG(ops:Array Oper)(last:Nat):List (Nat×Bool)->Array Bool->Bool
 | [],listed=>decide (Region.ready .any ops listed=[last])&&(Region.ready .any ops (listed.setIfInBounds last true)).isEmpty
 |(i,false)::rest,listed=>decide (i≠last)&&(Region.ready .any ops listed).contains i&&Region.free .any ops listed i&&DG ops last rest (listed.setIfInBounds i true)
 |(i,true)::rest,listed=>decide (i≠last)&&decide (Region.ready .any ops listed=[i])&&DG ops last rest (listed.setIfInBounds i true)
theorem QA{l:List Oper}{last:Nat}(oL:KX l.toArray last=true)(hs:Region.noSelect l.toArray=true)(hQ:∀c a d v w,Q (.panic c) (Act.put a d v) w->Q (.panic c) a w):∀(π:List (Nat×Bool)) (listed:Array Bool) (a:Act) (w:World),zv l.toArray listed->
  DG l.toArray last π listed=true->S w->dU P l.toArray (DF P l.toArray Q (nth l last)) S (cm l π) a w->KW P l.toArray Q S last (π.length+1) listed a w
 | [],listed,a,w,aU,hc,hS,h=>by
  simp only[DG,Bool.and_eq_true,decide_eq_true_eq]at hc;refine⟨λh0=>(by rw[h0]at hc;cases hc.1),λj hj=>?_⟩;rw[hc.1]at hj;have iM:j=last:=by simpa using hj
  subst iM;have hi:l.toArray[j]?=some (nth l j):=by have:=vH (ops:=l.toArray) (listed:=listed) (i:=j) (by rw[hc.1];simp);simpa using vG (l:=l) (by simpa using this)
  have h':DF P l.toArray Q (nth l j) .normal a w:=by unfold cm dU at h;exact h
  rw[aej]at h';unfold wpOp;simp only[hi];split
  .rename_i hw
   rw[if_pos hw]at h';exact .inl (Oper.wp_mono (λa' w' h2=>⟨λe=>absurd rfl e,by simpa using hc.2,h2⟩) h')
  .rename_i hw
   rw[if_neg hw]at h';exact⟨λe=>absurd rfl e,by simpa using hc.2,h'⟩
 |(i,false)::rest,listed,a,w,aU,hc,hS,h=>by
  simp only[DG,Bool.and_eq_true,decide_eq_true_eq]at hc;obtain⟨v,hy,hr⟩:∃v,YieldsIf P l.toArray S (nth l i) v a/\dU P l.toArray (DF P l.toArray Q (nth l last)) S (cm l rest) (a.put (nth l i).dst v) w:=by unfold cm dU at h;exact h
  have hi:=vH (by simpa using hc.1.1.2);have hi':l.toArray[i]?=some (nth l i):=by simpa using vG (l:=l) (by simpa using hi)
  exact atS oL hc.1.1.1 hi' (Region.noSelect_spec hs) (λc a w=>hQ c a _ _ w) _ listed a w aU (Region.free_spec hi' hc.1.2) (by simpa using hc.1.1.2) hy hS (QA oL hs hQ rest _ _ _ (aU.list (by simpa using hc.1.1.2)) hc.2 hS hr)
 |(i,true)::rest,listed,a,w,aU,hc,hS,h=>by
  simp only[DG,Bool.and_eq_true,decide_eq_true_eq]at hc;refine⟨λh0=>(by rw[h0]at hc;cases hc.1.2),λj hj=>?_⟩;rw[hc.1.2]at hj;have iM:j=i:=by simpa using hj
  subst iM;have hi:l.toArray[j]?=some (nth l j):=by have:=vH (ops:=l.toArray) (listed:=listed) (i:=j) (by rw[hc.1.2];simp);simpa using vG (l:=l) (by simpa using this)
  unfold cm dU at h;unfold wpOp;simp only[hi];split
  .rename_i hw
   rw[if_pos hw]at h;exact .inl (atU (λa' w' h'=>⟨λ_=>h'.1,QA oL hs hQ rest _ _ _ (aU.list (by rw[hc.1.2];simp)) hc.2 h'.1 h'.2⟩) h)
  .rename_i hw
   rw[if_neg hw]at h;exact⟨λ_=>h.1,QA oL hs hQ rest _ _ _ (aU.list (by rw[hc.1.2];simp)) hc.2 h.1 h.2⟩
theorem ue{a:Act}{w:World}{l:List Oper}(S:World->Prop)(e:List (Nat×Bool))(last:Nat)(f:P.follows .mixedOrders=true)(b:(KX l.toArray last&&Region.noSelect l.toArray&&DG l.toArray last e (Array.replicate l.toArray.size false)&&decide (e.length+1=l.toArray.size))=true)(g:∀c a d v w,Q (.panic c) (Act.put a d v) w->Q (.panic c) a w)(c:S w.drew)(d:dU P l.toArray (DF P l.toArray Q (nth l last)) S (cm l e) a w.drew):(Code.region id l.toArray true).wp P Q a w:=by simp only[Bool.and_eq_true,decide_eq_true_eq]at b;refine wp_region_any f (aeg (S:=S) (last:=last) _ _ _ _ ?_);rw[<-b.2];exact QA b.1.1.1 b.1.1.2 g e _ _ _ (λk o _ a=>by simp[Array.getD]at a) (by rw[b.2];exact b.1.2) c d
theorem uf{o:Oper}{a:Act}{w:World}(d:Region.wanted o (yielded ops a.tmps)=true)(b:∀c:Act->World->Prop,(∀a w,Q .normal a w->c a w)->o.wp P a w c Q):DF P ops Q o .normal a w:=by rw[aej,if_pos d];exact b _ (λ_ _ b=>b)
end last
end Go.Gl
namespace Go.Gl
open Go Go.RowKit
section part
variable{P:Program}{ops:Array Oper}{Q:Exit→Act→World→Prop}{S:World→Prop}
theorem DI{o:Oper}{a:Act}{b:Act->World->Prop}(hi:ops[i]?=some o)(c:Region.wanted o (yielded ops a.tmps)=true)(d:(execOp a.eval o).run P w=.ok (.value v) w')(e:b (a.put o.dst v) w'):wpOp P ops Q i b a w:=by unfold wpOp;simp only[hi,c,if_true];refine .inl ?_;unfold Oper.wp;rw[d];exact e
theorem ky{o:Oper}{a:Act}{f:FuncId}{args:Array Value}{R:Ending->World->Prop}{b:Act->World->Prop}(hi:ops[i]?=some o)(c:Region.wanted o (yielded ops a.tmps)=true)(d:(execOp a.eval o).run P w=.ok (.enter f args) w)(g:Calls P f args w R)(f:∀e w',R e w'->∃v,e=.returned v/\b (a.put o.dst v) w'):wpOp P ops Q i b a w:=by
 unfold wpOp;simp only[hi,c,if_true];refine .inl ?_;unfold Oper.wp;rw[d];refine g.mono λe w' a=>?_
 obtain⟨v,rfl,b⟩:=f e w' a;exact b
end part
end Go.Gl
namespace Go.Gl
open Go Go.RowKit
section atV
variable{P:Program}{ops:Array Oper}{Q:Exit→Act→World→Prop}{S:World→Prop}
theorem br{o:Oper}{a:Act}{w:World}{c:Act->World->Prop}(hi:ops[i]?=some o)(e:Region.wanted o (yielded ops a.tmps)=true)(b:∀d:Act->World->Prop,(∀a w,c a w->d a w)->o.wp P a w d Q):wpOp P ops Q i c a w:=by unfold wpOp;simp only[hi,e,if_true];exact .inl (b _ (λ_ _ b=>b))
end atV
end Go.Gl
namespace Go.Gl
open Go Go.RowKit
structure sF(D:List Nat)(a b:Act):Prop where
 size:b.tmps.size=a.tmps.size
 same:∀i,D.contains i=false->b.tmps[i]?=a.tmps[i]?
 defers:b.defers=a.defers
theorem sF.refl(D:List Nat)(a:Act):sF D a a:=⟨rfl,λ_ _=>rfl,rfl⟩
theorem sF.put{a b:Act}(c:sF D a b)(d:D.contains k=true)(v:Value):sF D a (b.put (some k) v):=by refine⟨by simpa[Act.put]using c.size,λi a=>?_,by simpa[Act.put]using c.defers⟩;rw[<-c.same i a];simp only[Act.put];rw[Array.getElem?_setIfInBounds,if_neg (λb=>by subst b;rw[d]at a;cases a)]
theorem aek(a:Act):∀(D:List Nat)(x:Act),x.tmps.size=a.tmps.size->(D.foldl (λx d=>x.put (some d) (a.tmps.getD d undef)) x).tmps.size=a.tmps.size/\(D.foldl (λx d=>x.put (some d) (a.tmps.getD d undef)) x).defers=x.defers/\∀i,(D.foldl (λx d=>x.put (some d) (a.tmps.getD d undef)) x).tmps[i]?=if D.contains i=true then a.tmps[i]? else x.tmps[i]?
 | [],x,h=>⟨h,rfl,λi=>by simp⟩
 |d::D,x,h=>by
  obtain⟨b,c,f⟩:=aek a D (x.put (some d) (a.tmps.getD d undef)) (by simpa[Act.put]using h);refine⟨b,c.trans rfl,λi=>?_⟩;rw[List.foldl_cons,f i];by_cases a:D.contains i=true
  .rw[if_pos a,if_pos (by simp at a ⊢;exact .inr a)]
  .rw[if_neg a]
   by_cases c:d=i
   .subst c
    rw[if_pos (by simp)];simp only[Act.put];rw[Array.getElem?_setIfInBounds,if_pos rfl];split
    .rename_i b
     rw[h]at b;simp[Array.getD,b]
    .rename_i b
     rw[h]at b;rw[Array.getElem?_eq_none (by omega)]
   .rw[if_neg (by simp at a ⊢;exact⟨λe=>c e.symm,a⟩)];simp only[Act.put];rw[Array.getElem?_setIfInBounds,if_neg c]
theorem sF.fill{b a:Act}(c:sF D b a):a=D.foldl (λx d=>x.put (some d) (a.tmps.getD d undef)) b:=by
 obtain⟨e,g,f⟩:=aek a D b c.size.symm;have e:a.tmps=(D.foldl (λx d=>x.put (some d) (a.tmps.getD d undef)) b).tmps:=by
  apply Array.ext_getElem?;intro i;rw[f i];split
  .rfl
  .rename_i f
   exact c.same i (by simpa using f)
 have f:=c.defers.trans g.symm;generalize D.foldl (λx d=>x.put (some d) (a.tmps.getD d undef)) b=b at*;obtain⟨c,c⟩:=a;obtain⟨a,a⟩:=b;simp only at e f;rw[e,f]
theorem xA{P:Program}{c:Code}{Q:Exit->Act->World->Prop}{a:Act}(d:∀b:Act,b=a->c.wp P Q b w):c.wp P Q a w:=d a rfl
theorem jN{a:Act}(b:k≠j)(c:a.tmps[j]?=some u):(a.put (some k) v).tmps[j]?=some u:=by simp only[Act.put];rw[Array.getElem?_setIfInBounds,if_neg b];exact c
theorem xB{a:Act}(b:k<a.tmps.size):(a.put (some k) v).tmps[k]?=some v:=by simp only[Act.put];rw[Array.getElem?_setIfInBounds,if_pos rfl,if_pos b]
theorem aP{a:Act}(b:a.tmps[k]?=some u)(c:k<a.tmps.size):a.tmps[k]=u:=by rw[Array.getElem?_eq_getElem c]at b;exact bh b
section atW
variable{P:Program}{ops:Array Oper}{Q:Exit→Act→World→Prop}
def KY(listed:Array Bool):Nat:=listed.toList.count false
theorem count_set:∀(l:List Bool)(i:Nat),l[i]?=some false->(l.set i true).count false+1=l.count false
 | [],_,h=>by simp at h
 |x::l,0,h=>by simp at h;subst h;simp
 |x::l,i+1,h=>by have:=count_set l i (by simpa using h);simp only[lU,List.count_cons];omega
theorem atX{listed:Array Bool}(a:listed.getD i true=false):listed.toList[i]?=some false:=by
 rw[gZ]at a;rw[Array.getElem?_toList];cases b:listed[i]? with
 |none=>rw[b]at a;cases a
 |some x=>rw[b]at a;simp at a;rw[a]
theorem ael{listed:Array Bool}(a:listed.getD i true=false):KY (listed.setIfInBounds i true)+1=KY listed:=by unfold KY;rw[Array.toList_setIfInBounds];exact count_set _ _ (atX a)
def QB(ops:Array Oper):Bool:=(List.range ops.size).all λk=>match ops[k]? with|none=>true|some o=>o.after.all λe=> !(Region.binds .any e)||decide (e.on<k)
theorem atY(a:QB ops=true){o:Oper}(c:ops[k]?=some o){e:Edge}(d:e∈o.after)(f:Region.binds .any e=true):e.on<k:=by
 unfold QB at a;simp only[List.all_eq_true,List.mem_range]at a;have b:=a k (af c);rw[c]at b;simp only[Array.all_eq_true',Bool.or_eq_true,Bool.not_eq_true',decide_eq_true_eq]at b;rcases b e d with a|a
 .rw[f]at a;cases a
 .exact a
theorem atZ(b:QB ops=true){listed:Array Bool}(a:listed.size=ops.size)(c:Region.ready .any ops listed=[]):∀k,k<ops.size->listed.getD k true=true:=by
 intro k
 induction k using Nat.strongRecOn with
 |_ k d=>
  intro a;cases f:listed.getD k true with
  |true=>rfl
  |false=>
   exfalso;have:k∈Region.ready .any ops listed:=by
    refine mem_ready.2 ⟨f,ops[k],by simp[a],λe f g=>?_⟩;have h:=atY b (k:=k) (o:=ops[k]) (by simp[a]) f g;have a:=d e.on h (by omega);have b:e.on<listed.size:=by omega
    simp only[Array.getD,b,dif_pos]at a ⊢;exact a
   rw[c]at this;cases this
theorem aem(b:Array Bool->Act->World->Prop)(g:∀i listed a w,i∈Region.ready .any ops listed->b listed a w->wpOp P ops Q i (λe w'=>b (listed.setIfInBounds i true) e w') a w)(f:∀listed a w,Region.ready .any ops listed=[]->b listed a w->Q .normal a w):∀(c:Nat)(listed:Array Bool)(a:Act)(w:World),KY listed<=c->b listed a w->wpAny P .any ops Q c listed a w
 |0,listed,a,w,hu,hI=>by
  have d:Region.ready .any ops listed=[]:=by
   cases h:Region.ready .any ops listed with
   |nil=>rfl
   |cons x xs=>
    exfalso;have j:x∈Region.ready .any ops listed:=by rw[h];simp
    have:=ael (mem_ready.1 j).1;omega
  exact⟨d,f _ _ _ d hI⟩
 |c+1,listed,a,w,hu,hI=>by refine⟨λd=>f _ _ _ d hI,λi d=>wpOp_mono (λe w' h=>aem b g f c _ e w' ?_ h) (g i listed a w d hI)⟩;have:=ael (mem_ready.1 d).1;omega
def KZ(ops:Array Oper)(D:List Nat):Bool:=(List.range ops.size).all λi=>match (ops[i]?).bind (·.dst)with
 |none=>true
 |some d=>D.contains d&&(List.range ops.size).all λj=>i==j||(match (ops[j]?).bind (·.dst)with|none=>true|some a=>d != a)
theorem aen(a:KZ ops D=true){o:Oper}(c:ops[i]?=some o)(e:o.dst=some d):D.contains d=true:=by unfold KZ at a;simp only[List.all_eq_true,List.mem_range]at a;have b:=a i (af c);rw[c]at b;simp only[Option.bind_some,e,Bool.and_eq_true]at b;exact b.1
theorem aua(a:KZ ops D=true){b:Nat}{o c:Oper}(e:ops[i]?=some o)(g:o.dst=some d)(f:ops[j]?=some c)(h:c.dst=some b)(c:i≠j):d≠b:=by
 unfold KZ at a;simp only[List.all_eq_true,List.mem_range]at a;have b:=a i (af e);rw[e]at b;simp only[Option.bind_some,g,Bool.and_eq_true,List.all_eq_true,List.mem_range]at b;have a:=b.2 j (af f);rw[f]at a;simp only[Option.bind_some,h,Bool.or_eq_true,beq_iff_eq,bne_iff_ne]at a;rcases a with a|a
 .exact absurd a c
 .exact a
structure vJ(ops:Array Oper)(Φ:Nat->Value->World->Prop)(T:Array Bool->Act->World->Prop)(D:List Nat)(a0:Act)(listed:Array Bool)(a:Act)(w:World):Prop where
 size:listed.size=ops.size
 closed:zv ops listed
 alike:sF D a0 a
 slots:∀(j:Nat)(o:Oper)(d:Nat),ops[j]?=some o->o.dst=some d->listed.getD j false=true->∃v,a.tmps[d]?=some v/\Φ j v w
 world:T listed a w
def aub(P:Program)(ops:Array Oper)(Q:Exit->Act->World->Prop)(c:Nat->Value->World->Prop)(T:Array Bool->Act->World->Prop)(R:World->World->Prop)(D:List Nat)(f:Act)(i:Nat)(o:Oper):Prop:=
 ∀b a w,vJ ops c T D f b a w->b.getD i true=false->(o.after.all λe=> !(Region.binds .any e)||b.getD e.on false)=true->
  wpOp P ops Q i (λe w'=>∃v,e=a.put o.dst v/\(∀d,o.dst=some d->c i v w')/\R w w'/\T (b.setIfInBounds i true) e w') a w
def VV(F:Nat->Oper->Prop):Nat->List Oper->Prop
 |_,[]=>True
 |n,o::rest=>F n o/\VV F (n+1) rest
theorem aeo{F:Nat->Oper->Prop}:∀{l:List Oper}{n i:Nat}{o:Oper},VV F n l->l[i]?=some o->F (n+i) o
 | [],_,_,_,_,h=>by simp at h
 |x::l,n,0,o,hF,h=>by simp at h;subst h;exact hF.1
 |x::l,n,i+1,o,hF,h=>by have:=aeo hF.2 (by simpa using h);rwa[show n+1+i=n+(i+1)by omega]at this
theorem xC{b:Act}{w:World}{l:List Oper}(c:Nat->Value->World->Prop)(T:Array Bool->Act->World->Prop)(R:World->World->Prop)(D:List Nat)(g:P.follows .mixedOrders=true)(f:(QB l.toArray&&KZ l.toArray D)=true)(s:(D.all λd=>decide (d<b.tmps.size))=true)(x:∀j v w w',R w w'->c j v w->c j v w')(y:T (Array.replicate l.toArray.size false) b w.drew)(m:VV (aub P l.toArray Q c T R D b) 0 l)(z:∀a w,vJ l.toArray c T D b (Array.replicate l.toArray.size true) a w->Q .normal a w):(Code.region id l.toArray true).wp P Q b w:=by
 simp only[Bool.and_eq_true]at f;refine wp_region_any g (aem (vJ l.toArray c T D b) ?_ ?_ _ _ _ _ ?_ ?_)
 .intro i n a w h b
  obtain⟨q,o,c,p⟩:=mem_ready.1 h;have g:=aeo (i:=i) m (by simpa using c);rw[Nat.zero_add]at g;refine wpOp_mono (λm w' m=>?_) (g n a w b q (by
   simp only[Array.all_eq_true',Bool.or_eq_true,Bool.not_eq_true'];intro e g;cases q:Region.binds .any e with
   |false=>exact .inl rfl
   |true=>exact .inr (p e g q)))
  obtain⟨v,rfl,u,A,e⟩:=m;refine⟨by rw[Array.size_setIfInBounds];exact b.size,b.closed.list h,?_,?_,e⟩
  .cases q:o.dst with
   |none=>exact b.alike
   |some d=>exact b.alike.put (aen f.2 c q) v
  .intro j B t m e g
   by_cases r:i=j
   .subst r;rw[c]at m;cases m;refine⟨v,?_,u t e⟩;rw[e];exact xB (by rw[b.alike.size];simp only[List.all_eq_true,decide_eq_true_eq]at s;exact s _ (by simpa using aen f.2 c e))
   .obtain⟨s,u,v⟩:=b.slots j B t m e (by rwa[getD_set_ne false r]at g)
    refine⟨s,?_,x j s _ _ A v⟩;cases q:o.dst with
    |none=>exact u
    |some d=>exact jN (aua f.2 c q m e r) u
 .intro n a w h b
  have p:=atZ f.1 b.size h;have:n=Array.replicate l.toArray.size true:=by
   apply Array.ext
   .rw[Array.size_replicate];exact b.size
   .intro i c e;have:=p i (by rw[<-b.size];exact c);simp only[Array.getD,c,dif_pos]at this;rw[Array.getElem_replicate];exact this
  exact z a w (this ▸ b)
 .unfold KY
  rw[Array.toList_replicate,List.count_replicate]
  split<;>omega
 .refine⟨by rw[Array.size_replicate],λk o _ g=>by simp[Array.getD]at g,sF.refl _ _,λj o d _ _ g=>by simp[Array.getD]at g,y⟩
theorem aO{o:Oper}{listed:Array Bool}(a:(o.after.all λe=> !(Region.binds .any e)||listed.getD e.on false)=true)(k:Nat)(b:(o.after.any λe=>Region.binds .any e&&e.on==k)=true):listed.getD k false=true:=by
 simp only[Array.any_eq_true',Bool.and_eq_true,beq_iff_eq]at b;obtain⟨e,c,d,rfl⟩:=b;simp only[Array.all_eq_true',Bool.or_eq_true,Bool.not_eq_true']at a;rcases a e c with a|a
 .rw[d]at a;cases a
 .exact a
theorem fF{listed:Array Bool}(c:zv ops listed){e:Nat}(f:Ii ops n e i=true)(a:listed.getD i true=false):listed.getD e false=false:=by
 cases g:listed.getD e false with
 |false=>rfl
 |true=>
  exfalso;have b:=VS c n e i f (λo f=>λd h j=>c e o f g d h j);rcases Nat.lt_or_ge i listed.size with c|c
  .simp[Array.getD,c]at a b;rw[a]at b;cases b
  .simp[Array.getD,Nat.not_lt.2 c]at a
theorem pJ{listed:Array Bool}(a:k<listed.size):(listed.setIfInBounds k true).getD k false=true:=by simp[Array.getD,a]
theorem vJ.slot{c:Nat->Value->World->Prop}{T:Array Bool->Act->World->Prop}{b a:Act}{listed:Array Bool}(e:vJ ops c T D b listed a w)(j d:Nat)(b:(ops[j]?).bind (·.dst)=some d)(f:listed.getD j false=true):∃v,a.tmps[d]?=some v/\c j v w:=by
 cases a:ops[j]? with
 |none=>rw[a]at b;cases b
 |some o=>rw[a]at b;exact e.slots j o d a b f
theorem vJ.sz{c:Nat->Value->World->Prop}{T:Array Bool->Act->World->Prop}{b a:Act}{l:Array Bool}(d:vJ ops c T D b l a w)(c:b.tmps.size=n):a.tmps.size=n:=d.alike.size.trans c
theorem vJ.got{c:Nat->Value->World->Prop}{T:Array Bool->Act->World->Prop}{b a:Act}{l:Array Bool}(d:vJ ops c T D b l a w)(c:D.contains i=false)(e:b.tmps[i]?=some u)(b:i<a.tmps.size):a.tmps[i]=u:=aP ((d.alike.same i c).trans e) b
theorem vJ.sv{b:Nat->Value->World->Prop}{T:Array Bool->Act->World->Prop}{c a:Act}{l:Array Bool}(e:vJ ops b T D c l a w)(j d:Nat)(c:(ops[j]?).bind (·.dst)=some d)(f:l.getD j false=true){x:Value}(g:∀v W,b j v W->v=x):a.tmps[d]?=some x:=by obtain⟨v,a,b⟩:=e.slot j d c f;rw[a,g v w b]
end atW
end Go.Gl
namespace Go.aF
def iO:Nat->Nat->List UInt8
 |0,_=>[]
 |k+1,n=>if n<128 then[UInt8.ofNat n]else UInt8.ofNat (n%128+128)::iO k (n/128)
def aG(n:Nat):List UInt8:=iO 10 n
def nC:Nat->Nat->List UInt8->Nat×Nat×Nat
 |_,_,[]=>(0,0,11)
 |i,v,c::r=>
  if i=9/\1<c.toNat then(0,0,12)else
  if c.toNat<128 then(if c.toNat=0/\0<i then(0,0,12)else(v+c.toNat*128^i,i+1,0))else
  nC (i+1) (v+(c.toNat-128)*128^i) r
def fG(b:List UInt8):Nat×Nat×Nat:=nC 0 0 b
def aq:List Nat:=[0,274646895,549293790,820201905,1098587580,1361435347,1640403810,1905808397,2197175160,2460548119,2722870694,2987750089,3280807620,3553878443,3811616794,4084100981]
def Bp(T:List Nat)(c:Nat):Nat:=(c/16)^^^(T.getD (c&&& 15) 0)
def Ij(T:List Nat)(c:Nat)(b:UInt8):Nat:=Bp T (Bp T (c^^^b.toNat))
def vK(T:List Nat)(b:List UInt8):Nat:=b.foldl (Ij T) 4294967295
def eQ(T:List Nat)(b:List UInt8):Nat:=4294967295^^^vK T b
def cK:Nat->Nat->List UInt8
 |0,_=>[]
 |k+1,v=>UInt8.ofNat (v%256)::cK k (v/256)
def bC(T:List Nat)(p:List UInt8):List UInt8:=aG p.length++(cK 4 (eQ T p)++p)
def iP(T:List Nat)(b:List UInt8):Nat×Nat×Nat:=
 if(fG b).2.2≠0 then(0,0,(fG b).2.2)else
 if 67108864<(fG b).1 then(0,0,3)else
 if b.length<(fG b).2.1+((fG b).1+4)then(0,0,11)else
 if(b.drop (fG b).2.1).take 4≠cK 4 (eQ T ((b.drop ((fG b).2.1+4)).take (fG b).1))then(0,0,13)else
 ((fG b).2.1+4,(fG b).2.1+4+(fG b).1,0)
def rA(T:List Nat):Nat->List UInt8->List (List UInt8)×Nat×Nat
 |0,_=>([],0,0)
 |k+1,b=>if b=[]then([],0,0)else
  if(iP T b).2.2≠0 then([],0,(iP T b).2.2)else
  ((b.drop (iP T b).1).take ((iP T b).2.1-(iP T b).1)::(rA T k (b.drop (iP T b).2.1)).1,(iP T b).2.1+(rA T k (b.drop (iP T b).2.1)).2.1,(rA T k (b.drop (iP T b).2.1)).2.2)
def mL(T:List Nat)(b:List UInt8):List (List UInt8)×Nat×Nat:=rA T (b.length+1) b
theorem nD:∀(k v:Nat),(cK k v).length=k
 |0,_=>rfl
 |k+1,v=>by simp[cK,nD k]
theorem La:∀(k n:Nat),(iO k n).length<=k
 |0,_=>by simp[iO]
 |k+1,n=>by
  unfold iO;split
  .simp
  .have:=La k (n/128);simp;omega
theorem aud(k n:Nat):0<(iO (k+1) n).length:=by
 unfold iO
 split<;>simp
theorem aep:∀(k n i v:Nat)(r:List UInt8),n<128^k->i+k<=9->0<k->(i=0\/0<n)->
  nC i v (iO k n++r)=(v+n*128^i,i+(iO k n).length,0)
 |0,n,i,v,r,hn,hik,hk,_=>by omega
 |k+1,n,i,v,r,hn,hik,hk,h0=>by
  unfold iO;by_cases a:n<128
  .rw[if_pos a]
   simp only[List.cons_append,List.nil_append,nC];have e:(UInt8.ofNat n).toNat=n:=by rw[UInt8.toNat_ofNat_of_lt' (by simp[UInt8.size];omega)]
   rw[e,if_neg (by omega),if_pos a,if_neg (by omega)];simp
  .rw[if_neg a]
   have e:(UInt8.ofNat (n%128+128)).toNat=n%128+128:=by rw[UInt8.toNat_ofNat_of_lt' (by simp[UInt8.size];omega)]
   simp only[List.cons_append,nC];rw[e,if_neg (by omega),if_neg (by omega)];have a:0<k:=by
    rcases Nat.eq_zero_or_pos k with rfl|b
    .simp at hn;omega
    .exact b
   have b:n/128<128^k:=by rw[Nat.pow_succ]at hn;exact Nat.div_lt_of_lt_mul (by rw[Nat.mul_comm];exact hn)
   rw[aep k (n/128) (i+1) _ r b (by omega) a (.inr (by omega))];refine Prod.ext ?_ (Prod.ext ?_ rfl)
   .show v+(n%128+128-128)*128^i+n/128*128^(i+1)=v+n*128^i
    rw[Nat.add_sub_cancel,Nat.pow_succ,Nat.add_assoc];congr 1;have:n=n%128+128*(n/128):=(Nat.mod_add_div n 128).symm
    conv=>rhs;rw[this]
    rw[Nat.add_mul];congr 1;rw[Nat.mul_comm (128^i) 128,<-Nat.mul_assoc,Nat.mul_comm (n/128) 128]
   .simp;omega
theorem aeq:∀(k n i v m:Nat),i+k<=9->m<(iO k n).length->(nC i v ((iO k n).take m))=(0,0,11)
 |0,n,i,v,m,_,hm=>by simp[iO]at hm
 |k+1,n,i,v,m,hik,hm=>by
  cases m with
  |zero=>simp[nC]
  |succ m=>
   unfold iO at hm ⊢;by_cases a:n<128
   .rw[if_pos a]at hm;simp at hm
   .rw[if_neg a]at hm ⊢
    have e:(UInt8.ofNat (n%128+128)).toNat=n%128+128:=by rw[UInt8.toNat_ofNat_of_lt' (by simp[UInt8.size];omega)]
    simp only[List.take_succ_cons,nC];rw[e,if_neg (by omega),if_neg (by omega)];simp only[List.length_cons]at hm;exact aeq k (n/128) (i+1) _ m (by omega) (by omega)
theorem aer:∀(k n:Nat),n<128^k->0<k->iO (k+1) n=iO k n
 |0,_,_,h=>by omega
 |k+1,n,hn,_=>by
  conv=>lhs;rw[iO]
  conv=>rhs;rw[iO]
  by_cases h:n<128
  .rw[if_pos h,if_pos h]
  .rw[if_neg h,if_neg h]
   have a:n/128<128^k:=by rw[Nat.pow_succ]at hn;exact Nat.div_lt_of_lt_mul (by rw[Nat.mul_comm];exact hn)
   have b:0<k:=by
    rcases Nat.eq_zero_or_pos k with rfl|c
    .simp at hn;omega
    .exact c
   rw[aer k (n/128) a b]
theorem aes(a:n<=67108864):aG n=iO 9 n:=aer 9 n (by omega) (by decide)
theorem aet(a:n<=67108864)(r:List UInt8):fG (aG n++r)=(n,(aG n).length,0):=by rw[aes a];have:=aep 9 n 0 0 r (by omega) (by decide) (by decide) (.inl rfl);unfold fG;rw[this];simp
theorem aue(b:n<=67108864)(a:m<(aG n).length):fG ((aG n).take m)=(0,0,11):=by rw[aes b]at a ⊢;exact aeq 9 n 0 0 m (by decide) a
theorem auf(n:Nat):0<(aG n).length:=aud 9 n
theorem nG(T:List Nat)(p:List UInt8):(bC T p).length=(aG p.length).length+(4+p.length):=by simp[bC,nD]
theorem aeu(T:List Nat){p:List UInt8}(a:p.length<=67108864)(r:List UInt8):iP T (bC T p++r)=((aG p.length).length+4,(bC T p).length,0):=by
 have b:fG (bC T p++r)=(p.length,(aG p.length).length,0):=by unfold bC;rw[List.append_assoc];exact aet a _
 unfold iP;rw[b];have b:=nG T p;rw[if_neg (by simp),if_neg (by simp;omega),if_neg (by simp;omega)];have a:((bC T p++r).drop (aG p.length).length)=cK 4 (eQ T p)++(p++r):=by unfold bC;rw[List.append_assoc,List.drop_left,List.append_assoc]
 have c:((bC T p++r).drop ((aG p.length).length+4))=p++r:=by rw[<-List.drop_drop,a];exact List.drop_left' (nD 4 _)
 rw[if_neg ?_]
 .refine Prod.ext rfl (Prod.ext ?_ rfl);simp only;rw[b];omega
 .simp only[a,c,ne_eq,Decidable.not_not];rw[List.take_left' (nD 4 _),List.take_left]
theorem aug(T:List Nat){p:List UInt8}(a:p.length<=67108864)(b:m<(bC T p).length):iP T ((bC T p).take m)=(0,0,11):=by
 have b:=nG T p;by_cases b:m<(aG p.length).length
 .have:(bC T p).take m=(aG p.length).take m:=by unfold bC;rw[List.take_append_of_le_length (by omega)]
  rw[this];unfold iP;rw[aue a b];simp
 .have:(bC T p).take m=aG p.length++(cK 4 (eQ T p)++p).take (m-(aG p.length).length):=by unfold bC;rw[List.take_append,List.take_of_length_le (by omega)]
  have b:fG ((bC T p).take m)=(p.length,(aG p.length).length,0):=by rw[this];exact aet a _
  have a:((bC T p).take m).length=m:=by simp;omega
  unfold iP;rw[b,a];rw[if_neg (by simp),if_neg (by simp;omega),if_pos (by simp;omega)]
def cg(T:List Nat)(a:List (List UInt8)):List UInt8:=a.flatMap (bC T)
theorem Lb(T:List Nat)(p:List UInt8):0<(bC T p).length:=by rw[nG];omega
theorem aev(T:List Nat):∀(a:List (List UInt8)) (k:Nat) (t:List UInt8),(∀p∈a,p.length<=67108864)->(cg T a++t).length<k->
  rA T k (cg T a++t)=(a++(rA T (k-a.length) t).1,(cg T a).length+(rA T (k-a.length) t).2.1,(rA T (k-a.length) t).2.2)
 | [],k,t,_,_=>by simp[cg]
 |p::a,0,t,_,hk=>by omega
 |p::a,k+1,t,hp,hk=>by
  have e:cg T (p::a)++t=bC T p++(cg T a++t):=by simp[cg]
  have b:=Lb T p;rw[e,rA,if_neg (by intro c;rw[c]at e;have:=congrArg List.length c;simp at this;rw[this.1]at b;simp at b),aeu T (hp p (by simp))];rw[if_neg (by simp)];have b:=nG T p;have c:(cg T a++t).length<k:=by have:=congrArg List.length e;simp only[List.length_append]at this hk ⊢;omega
  have d:=aev T a k t (λe f=>hp e (by simp[f])) c;simp only[List.drop_left];rw[d];have c:(List.drop ((aG p.length).length+4) (bC T p++(cg T a++t))).take ((bC T p).length-((aG p.length).length+4))=p:=by
   have d:(bC T p++(cg T a++t)).drop ((aG p.length).length+4)=p++(cg T a++t):=by unfold bC;rw[List.append_assoc,<-List.drop_drop,List.drop_left,List.append_assoc];exact List.drop_left' (nD 4 _)
   rw[d,b,show(aG p.length).length+(4+p.length)-((aG p.length).length+4)=p.length by omega,List.take_left]
  rw[c];have b:k+1-(p::a).length=k-a.length:=by simp
  rw[b];refine Prod.ext (by simp) (Prod.ext ?_ rfl);simp only[cg,List.flatMap_cons,List.length_append];omega
theorem auh(T:List Nat)(a:List (List UInt8)){p:List UInt8}(b:∀p∈a,p.length<=67108864)(c:p.length<=67108864)(d:m<(bC T p).length):
  mL T (cg T a++(bC T p).take m)=(a,(cg T a).length,if m=0 then 0 else 11):=by
 unfold mL;rw[aev T a _ _ b (Nat.lt_succ_self _)];have e:a.length<=(cg T a).length:=by
  clear b
  induction a with
  |nil=>simp
  |cons b e e=>have:=Lb T b;simp only[cg,List.flatMap_cons,List.length_append,List.length_cons]at e ⊢;omega
 have b:∃k,(cg T a++(bC T p).take m).length+1-a.length=k+1:=⟨(cg T a++(bC T p).take m).length-a.length,by simp only[List.length_append]at*;omega⟩
 obtain⟨k,b⟩:=b;rw[b,rA];by_cases a:m=0
 .subst a;simp
 .rw[if_neg (by intro b;have:=congrArg List.length b;rw[List.length_take,List.length_nil]at this;omega),aug T c d];simp[a]
theorem VW(T:List Nat)(a:List (List UInt8))(b:∀p∈a,p.length<=67108864):mL T (cg T a)=(a,(cg T a).length,0):=by have:=auh T a (p:=[]) (m:=0) b (by simp) (Lb T []);simpa using this
end Go.aF
namespace Go.Gl
open Go Go.RowKit
def Row1(e:TypeId)(B:Nat)(w:World)(v:Value)(xs:List Value):Prop:=
 (v=.slice none 0 0/\xs=[])\/∃(g a:Nat)(cur:Array Value),v=.slice (some ⟨g,0,none⟩) xs.length a/\B<=g/\w.heap[g]?=some (.cells cur e (0,0))/\xs.length<=a/\a<=cur.size/\a<=maxLen/\cur.toList.take xs.length=xs
theorem oM(e:TypeId)(B:Nat)(w:World):Row1 e B w (.slice none 0 0) []:=.inl ⟨rfl,rfl⟩
theorem Row1.slice{w:World}(b:Row1 e B w v xs):∃a c,v=.slice a xs.length c:=by
 rcases b with⟨rfl,rfl⟩|⟨g,a,cur,rfl,_⟩
 .exact⟨_,_,rfl⟩
 .exact⟨_,_,rfl⟩
theorem Row1.keep{w:World}(a:Row1 e B w v xs)(b:∀g,v.ownBlock=some g->w'.heap[g]?=w.heap[g]?):Row1 e B w' v xs:=by
 rcases a with a|⟨g,cap,cur,rfl,hB,hg,hr⟩
 .exact .inl a
 .exact .inr ⟨g,cap,cur,rfl,hB,by rw[b g rfl];exact hg,hr⟩
theorem Row1.lt{w:World}(b:Row1 e B w v xs)(a:v.ownBlock=some g):B<=g/\g<w.heap.size:=by
 rcases b with⟨rfl,_⟩|⟨b,b,cur,rfl,b,c,_⟩
 .cases a
 .cases a;exact⟨b,af c⟩
theorem Row1.grow{w:World}(a:Row1 e B w v xs)(b:Grow w w'):Row1 e B w' v xs:=
 a.keep λg c=>b.block g (a.lt c).2
theorem Row1.mono{w:World}(a:Row1 e B w v xs)(b:B'<=B):Row1 e B' w v xs:=by
 rcases a with a|⟨g,cap,cur,hv,hb,hr⟩
 .exact .inl a
 .exact .inr ⟨g,cap,cur,hv,by omega,hr⟩
theorem Row1.block{w:World}(b:Row1 e B w v xs)(a:v.ownBlock=some g):∃cur,w.heap[g]?=some (.cells cur e (0,0)):=by
 rcases b with⟨rfl,_⟩|⟨b,b,cur,rfl,b,b,_⟩
 .cases a
 .cases a;exact⟨cur,b⟩
theorem Row1.apart{w:World}(c:Row1 e B w v xs)(a:w.heap[b]?=some (.cells arr t f))(d:t≠e):v.ownBlock≠some b:=by intro b;obtain⟨cur,e⟩:=c.block b;rw[e]at a;cases a;exact d rfl
theorem Row1.cells{w:World}(c:Row1 e B w v xs)(b:v.ownBlock=some g)(a:xs[j]?=some u):w.cell? ⟨g,j,none⟩=some u:=by
 rcases c with⟨rfl,_⟩|⟨c,c,cur,rfl,c,c,_,_,_,d⟩
 .cases b
 .cases b
  rw[<-d,List.getElem?_take]at a
  split at a
  .have b:cur[j]?=some u:=by simpa using a
   simp[World.cell?,c,b]
  .cases a
theorem aK{w:World}(a:w.heap[b]?=some (.cells cur t f))(o:Nat)(v:Value):(w.setCell ⟨b,o,none⟩ v).heap[b]?=some (.cells (cur.setIfInBounds o v) t f):=by simp only[World.setCell];rw[Array.getElem?_modify,a];simp
theorem jB(w:World)(b o:Nat)(v:Value):w.grownBy (w.setCell ⟨b,o,none⟩ v) (some b):=⟨rfl,rfl,rfl,by simp,λk _ a=>aN _ _ _ _ (λe=>a (by rw[e]))⟩
theorem xD{r:Option Nat}(a:w1.grownBy w2 r)(k:w2.grownBy w3 r):w1.grownBy w3 r:=
 ⟨k.os.trans a.os,k.tape.trans a.tape,k.output.trans a.output,aJ a.size k.size,λb c d=>by rw[k.block b (bF c a.size) d,a.block b c d]⟩
theorem aew{b:Nat}:∀(a:List Value)(o:Nat)(w:World)(cur:Array Value)(t:TypeId) (f:Nat×Nat),w.heap[b]?=some (.cells cur t f)->o+a.length<=cur.size->
  ∃c,(w.setCells b o a).heap[b]?=some (.cells c t f)/\c.size=cur.size/\c.toList.take (o+a.length)=cur.toList.take o++a/\w.grownBy (w.setCells b o a) (some b)
 | [],o,w,cur,t,f,h,_=>⟨cur,h,rfl,by simp,⟨rfl,rfl,rfl,aw _,λ_ _ _=>rfl⟩⟩
 |v::a,o,w,cur,t,f,h,hs=>by
  have d:=aK h o v;simp only[dD]at hs;obtain⟨c,e,g,h,i⟩:=aew a (o+1) _ _ t f d (by rw[Array.size_setIfInBounds];omega);refine⟨c,e,by simpa using g,?_,xD (jB w b o v) i⟩;rw[dD,show o+(a.length+1)=o+1+a.length by omega,h];have:(cur.setIfInBounds o v).toList.take (o+1)=cur.toList.take o++[v]:=by rw[Array.toList_setIfInBounds,List.take_succ_eq_append_getElem (by simp;omega),List.take_set_of_le (aw _)];simp
  rw[this];simp
section append
variable{P:Program}{w:World}
theorem zx(l:P.underlying t=some (.slice e))(hi:(P.info? e).map (λi=>(i.zero,i.size,i.bytes))=some (some z,1,bytes))(d:z.cells.size=1)(D:Row1 e B w v xs){x:Value}{a:List Value}(r:Src P 1 tx x n a w)(C:B<=w.heap.size)(c:xs.length+n<=maxLen)(s:(xs.length+n)*bytes<=140737488355328):
  ∃v' w',(Builtin.append_ #[t,tx] ty #[v,x]).run P w=.ok v' w'/\Row1 e B w' v' (xs++a)/\w.grownBy w' v.ownBlock/\(v'.ownBlock=v.ownBlock\/v'.ownBlock=some w.heap.size):=by
 obtain⟨i,m,v,p,y⟩:=info_parts hi;have f:a.length=n:=by have:=r.newsLen;omega
 have h:Src P i.size tx x n a w:=by rw[p];exact r
 have E:xs.length+n<=9223372036854775807:=by unfold maxLen at c;omega
 have A:∀(b:Nat),b<xs.length+n->
   Row1 e B (w.drew.alloc (.cells ((xs++a).toArray++Builtin.zeroCells z.cells (grownCap w (xs.length+n) b e-(xs.length+n))) e)) (.slice (some ⟨w.heap.size,0,none⟩) (xs.length+n) (grownCap w (xs.length+n) b e)) (xs++a):=by
  intro b _;have F:=grownCap_ge w (xs.length+n) b e;have q:grownCap w (xs.length+n) b e<=maxLen:=grownCap_le_maxLen w (xs.length+n) b e c;refine .inr ⟨w.heap.size,_,_,by rw[aM,f],C,ax w.drew _,by rw[aM,f];exact F,?_,q,?_⟩
  .simp only[Array.size_append,List.size_toArray,size_zeroCells,d,aM,f];omega
  .simp only[Array.toList_append];exact List.take_left
 have C:∀(o:Obj)(b:Option Nat),w.grownBy (w.drew.alloc o) b:=λo b=>⟨rfl,rfl,rfl,by simp,λk d _=>heap_alloc_old w.drew _ d⟩
 rcases D with⟨rfl,rfl⟩|⟨g,b,cur,rfl,o,c,F,G,q,D⟩
 .by_cases k:n=0
  .subst k;have:a=[]:=je f;subst this;refine⟨.slice none 0 0,w,?_,.inl ⟨rfl,rfl⟩,⟨rfl,rfl,rfl,aw _,λ_ _ _=>rfl⟩,.inl rfl⟩;have k:=h.cells;have H:=h.len;rcases r.kind with⟨r,d⟩|d<;>simp[Builtin.append_,run_underlying l,run_underlying d,sizeOf,typeInfo,m,H,k]
  .have k:(Builtin.firstCells i.size 0 (.slice none 0 0)).run P w.drew=.ok ([]:List Value).toArray w.drew:=by simp[Builtin.firstCells]
   have d:=run_append_grow_src w t tx ty e i z l m v none 0 0 [] k x n a h (by omega) (by simp at E ⊢;omega) (by rw[y];exact growslice_fits (by omega) (by simpa using s));have c:=A 0 (by simp;omega);simp only[iJ,Nat.zero_add,iK]at d c ⊢;exact⟨_,_,d,c,C _ _,.inr rfl⟩
 .by_cases r:xs.length+n<=b
  .have d:=run_append_room_src w t tx ty e i l m g 0 xs.length b x n a h r
    (λj E=>by rw[p,Nat.zero_add,Nat.mul_one];simp only[World.cell?,c];simp;omega)
    (λj E=>by simp[World.frozen?,c])
   rw[p,Nat.zero_add,Nat.mul_one]at d;obtain⟨E,H,I,I,J⟩:=aew a xs.length w cur e (0,0) c (by omega);refine⟨_,_,d,.inr ⟨g,b,E,by rw[aM,f],o,H,by rw[aM,f];exact r,by omega,q,?_⟩,J,.inl rfl⟩;rw[aM,I,D]
  .have k:(Builtin.firstCells i.size xs.length (.slice (some ⟨g,0,none⟩) xs.length b)).run P w.drew=.ok xs.toArray w.drew:=by refine run_firstCells_some w.drew i.size xs.length ⟨g,0,none⟩ xs.length b xs (by rw[p,Nat.mul_one]) (λj u f=>?_);have j:Row1 e B w (.slice (some ⟨g,0,none⟩) xs.length b) xs:=.inr ⟨g,b,cur,rfl,o,c,F,G,q,D⟩;have:=j.cells (g:=g) rfl f;rw[Addr.add_lit,Nat.zero_add];exact this
   have d:=run_append_grow_src w t tx ty e i z l m v (some ⟨g,0,none⟩) xs.length b xs k x n a h (by omega) (by omega) (by rw[y];exact growslice_fits (by omega) s);exact⟨_,_,d,A b (by omega),C _ _,.inr rfl⟩
theorem below_grown(a:Below B w0 w1)(b:B<=w1.heap.size)(c:Row1 e B w1 v xs)(d:w1.grownBy w' v.ownBlock):Below B w0 w':=
 a.grown d b (λ_ a=>(c.lt a).1)
end append
end Go.Gl
namespace Go.Proofs.YtoolkdapflaeeaaGreatDoor
open Go.RowKit Go.Gl Go.aF
def Bv(w:World)(v:Value)(l:List UInt8):Prop:=
 ∃a c,v=.slice a l.length c/\l.length<=c/\c<=maxLen/\(a=none->c=0)/\(l=[]\/∃b o,a=some ⟨b,o,none⟩/\b<w.heap.size/\∀(j:Nat)(k:UInt8),l[j]?=some k->w.cell? ⟨b,o+j,none⟩=some (.int .u8 k.toNat))
theorem Bv.grow(d:Bv w v l)(e:Grow w w'):Bv w' v l:=by
 obtain⟨a,c,f,g,h,i,d⟩:=d;refine⟨a,c,f,g,h,i,?_⟩;rcases d with d|⟨b,o,ha,hb,hc⟩
 .exact .inl d
 .refine .inr ⟨b,o,ha,bF hb e.size,λj k a=>?_⟩;rw[Grow.cells _ _ _ e hb];exact hc j k a
theorem Tryz.QC:(Tryz.prog.info? 5).map (λi=>(i.zero,i.size,i.bytes))=some (some (.int .u8 0),1,1):=by kernel_rfl
theorem Tryz.zy:(Tryz.prog.info? 49).map (λi=>(i.zero,i.size,i.bytes))=some (some (.slice none 0 0),1,24):=by kernel_rfl
theorem Tryz.QD:(Tryz.prog.info? 3).map (λi=>(i.zero,i.size,i.bytes))=some (some (.int .i64 0),1,8):=by kernel_rfl
theorem Tryz.QE:(Tryz.prog.info? 9).map (λi=>(i.zero,i.size,i.bytes))=some (some (.string ByteArray.empty),1,16):=by kernel_rfl
abbrev aI(B:Nat)(w:World)(v:Value)(l:List UInt8):Prop:=Row1 5 B w v (dT l)
theorem jX(l:List UInt8):(dT l).length=l.length:=by simp[dT]
theorem aey(a b:List UInt8):dT (a++b)=dT a++dT b:=by simp[dT]
theorem auk(l:List UInt8):∀u∈dT l,u.oneCell'=true:=λu a=>by obtain⟨x,_,rfl⟩:=aV.1 a;rfl
theorem cE(a:aI B w v l):Bv w v l:=by
 rcases a with⟨rfl,f⟩|⟨g,b,cur,rfl,h,d,c,i,e,m⟩
 .have:l=[]:=je (by rw[<-jX,f];rfl);subst this;exact⟨none,0,rfl,aw _,aY _,λ_=>rfl,.inl rfl⟩
 .have f:aI B w (.slice (some ⟨g,0,none⟩) (dT l).length b) l:=.inr ⟨g,b,cur,rfl,h,d,c,i,e,m⟩;rw[jX]at c;refine⟨some ⟨g,0,none⟩,b,by rw[jX],c,e,(λa=>by cases a),.inr ⟨g,0,rfl,af d,λj k a=>?_⟩⟩;rw[Nat.zero_add];exact f.cells rfl (by simp[dT,a])
theorem Bv.src(d:Bv w v l):Src Tryz.prog 1 49 v l.length (dT l) w:=by
 obtain⟨a,c,rfl,e,e,f,d⟩:=d;cases a with
 |none=>have e:=f rfl;have:l=[]:=je (by omega);subst this;exact Src.ofNil w Tryz.underlying49 c
 |some a=>
  refine Src.ofSlice w Tryz.underlying49 a l.length c (dT l) (by simp[dT]) (λj u a=>?_) (auk l);simp only[dT,gQ,Option.map_eq_some_iff]at a;obtain⟨x,c,rfl⟩:=a;rcases d with rfl|⟨b,o,ha,hb,e⟩
  .simp at c
  .cases ha;rw[Addr.add_lit];exact e j x c
theorem rB{p:List UInt8}(a:aI B w v l)(b:Bv w pv p)(c:B<=w.heap.size)(d:l.length+p.length<=140737488355328):
  ∃v' w',(Builtin.append_ #[49,49] 49 #[v,pv]).run Tryz.prog w=.ok v' w'/\aI B w' v' (l++p)/\w.grownBy w' v.ownBlock/\(v'.ownBlock=v.ownBlock\/v'.ownBlock=some w.heap.size):=by
 obtain⟨v',w',d,e,f,g⟩:=zx (ty:=49) Tryz.underlying49 Tryz.QC rfl a b.src c (by rw[jX];unfold maxLen;omega) (by rw[jX];omega);exact⟨v',w',d,by rw[aI,aey];exact e,f,g⟩
theorem Lc(b:aI B w v l)(x:UInt8){n:Int}(a:n=(x.toNat:Int))(c:B<=w.heap.size)(d:l.length+1<=140737488355328):
  ∃v' w',(Builtin.append_ #[49,49] 49 #[v,.slice (some ⟨w.heap.size,0,none⟩) 1 1]).run Tryz.prog (w.alloc (.cells #[.int .u8 n] 5))=.ok v' w'/\aI B w' v' (l++[x])/\Below B w w':=by
 subst a;have e:Bv (w.alloc (.cells #[.int .u8 x.toNat] 5)) (.slice (some ⟨w.heap.size,0,none⟩) 1 1) [x]:=by
  refine⟨some ⟨w.heap.size,0,none⟩,1,rfl,aw _,by decide,(λb=>by cases b),.inr ⟨w.heap.size,0,rfl,by simp,λj k a=>?_⟩⟩
  match j,a with
  |0,a=>cases a;simp only[World.cell?,ax];rfl
  |j+1,a=>simp at a
 have a:Grow w (w.alloc (.cells #[.int .u8 x.toNat] 5)):=ar _ _;obtain⟨v',w',f,g,h,_⟩:=rB (b.grow a) e (by simp;omega) (by simpa using d);exact⟨v',w',f,g,below_grown (a.mono c) (by simp;omega) (b.grow a) h⟩
def VY:Array Value:=#[.int .u32 0,.int .u32 274646895,.int .u32 549293790,.int .u32 820201905,.int .u32 1098587580,.int .u32 1361435347,.int .u32 1640403810,.int .u32 1905808397,.int .u32 2197175160,.int .u32 2460548119,.int .u32 2722870694,.int .u32 2987750089,.int .u32 3280807620,.int .u32 3553878443,.int .u32 3811616794,.int .u32 4084100981]
theorem aul(w:World):Calls Tryz.prog 198 #[] w λe w'=>e=.returned (.agg VY)/\Grow w w':=by
 go_enter Tryz.func198,Tryz.ntmps198
 go_wp2_with fail
 refine wp_loop_rounds 17 ?_
 iterate 16 (rw[rounds_succ];go_wp2_with fail;refine wp_loop_rounds 5 ?_;iterate 5 (rw[rounds_succ];go_wp2_with fail))
 rw[rounds_succ];go_wp2;refine bodyPost_ret (v:=.agg VY) ?_ rfl ⟨rfl,by((repeat (first|exact bW _ _|assumption|refine cC ?_|refine cD ?_|refine cw ?_ ?_ _|refine cB ?_ ?_ _))<;>try (first|omega|(simp<;>omega)))⟩;simp[results,Tryz.results198,go_sem];kernel_rfl
theorem VZ(a:c<4294967296):Bp aq c<4294967296:=by
 unfold Bp;refine Nat.xor_lt_two_pow (n:=32) (by omega) ?_;have a:c&&& 15<16:=Nat.lt_of_le_of_lt Nat.and_le_right (by decide);generalize c&&& 15=d at*;have:∀d,d<16->aq.getD d 0<2^32:=by decide
 exact this d a
theorem aum(a:c<4294967296)(b:UInt8):Ij aq c b<4294967296:=by unfold Ij;exact VZ (VZ (Nat.xor_lt_two_pow (n:=32) a (by have:=b.toNat_lt;omega)))
theorem Wb(l:List UInt8):vK aq l<4294967296:=by
 unfold vK;have:∀(l:List UInt8)(c:Nat),c<4294967296->l.foldl (Ij aq) c<4294967296:=by
  intro l
  induction l with
  |nil=>intro c a;exact a
  |cons x l b=>intro c a;exact b _ (aum a x)
 exact this l _ (by decide)
def Rv(w:World)(v:Value)(d:List (List UInt8)):Prop:=
 ∃a c,v=.slice a d.length c/\(d=[]\/∃b o,a=some ⟨b,o,none⟩/\b<w.heap.size/\∀(j:Nat)(a:List UInt8),d[j]?=some a->∃pv,w.cell? ⟨b,o+j,none⟩=some pv/\Bv w pv a)
theorem Rv.grow{f:List (List UInt8)}(d:Rv w v f)(e:Grow w w'):Rv w' v f:=by
 obtain⟨a,c,f,d⟩:=d;refine⟨a,c,f,?_⟩;rcases d with d|⟨b,o,ha,hb,hc⟩
 .exact .inl d
 .refine .inr ⟨b,o,ha,bF hb e.size,λj a b=>?_⟩;obtain⟨pv,c,d⟩:=hc j a b;exact⟨pv,by rw[Grow.cells _ _ _ e hb];exact c,d.grow e⟩
theorem Wc(a:w.heap[b]?=some (.cells #[pv] 49 (0,0)))(c:Bv w pv x):Rv w (.slice (some ⟨b,0,none⟩) 1 1) [x]:=by
 refine⟨_,_,rfl,.inr ⟨b,0,rfl,af a,λj b b=>?_⟩⟩;cases j with
 |zero=>cases b;exact⟨pv,by simp[World.cell?,a],c⟩
 |succ j=>simp at b
theorem aun(y:List UInt8){k:UInt8}(a:l[i]?=some k):vK aq (y++l.take (i+1))=Ij aq (vK aq (y++l.take i)) k:=by unfold vK;obtain⟨b,rfl⟩:=dW.1 a;rw[List.take_succ_eq_append_getElem b,<-jL,List.foldl_append];rfl
def auo(w:World)(y l:List UInt8)(a b:Value)(c:World):Prop:=∃i:Nat,b=.int .i64 i/\i<=l.length/\a=.int .u32 ((vK aq (y++l.take i):Nat):Int)/\c=w
def aup(w:World)(a:List (List UInt8))(b c:Value)(d:World):Prop:=∃i:Nat,c=.int .i64 i/\i<=a.length/\b=.int .u32 ((vK aq (a.take i).flatten:Nat):Int)/\d=w
theorem auq{a:List (List UInt8)}{p:List UInt8}(b:a[i]?=some p):(a.take (i+1)).flatten=(a.take i).flatten++p:=by obtain⟨a,rfl⟩:=dW.1 b;rw[List.take_succ_eq_append_getElem a,List.flatten_append];simp
theorem Wd{ps:List (List UInt8)}(h:Rv w v ps)(hpl:ps.length<=1000000000000):
  Calls Tryz.prog 145 #[v] w λe w'=>e=.returned (.int .u32 ((eQ aq ps.flatten:Nat):Int))/\Grow w w':=by
 obtain⟨va,vc,ev,_⟩:=id h;subst ev;go_enter Tryz.func145,Tryz.ntmps145
 go_wp2_with fail
 (with_reducible refine(aul _).mono ?_);rintro e w1 ⟨rfl,hg1⟩;have h1:=h.grow hg1;unfold VY
 go_wp2_with fail
 have ai:Grow w1 (w1.alloc (.cells #[.int .u32 0,.int .u32 274646895,.int .u32 549293790,.int .u32 820201905,.int .u32 1098587580,.int .u32 1361435347,.int .u32 1640403810,.int .u32 1905808397,.int .u32 2197175160,.int .u32 2460548119,.int .u32 2722870694,.int .u32 2987750089,.int .u32 3280807620,.int .u32 3553878443,.int .u32 3811616794,.int .u32 4084100981] 304)):=ar _ _;have fQ:(w1.alloc (.cells #[.int .u32 0,.int .u32 274646895,.int .u32 549293790,.int .u32 820201905,.int .u32 1098587580,.int .u32 1361435347,.int .u32 1640403810,.int .u32 1905808397,.int .u32 2197175160,.int .u32 2460548119,.int .u32 2722870694,.int .u32 2987750089,.int .u32 3280807620,.int .u32 3553878443,.int .u32 3811616794,.int .u32 4084100981] 304)).heap[w1.heap.size]?=some (.cells #[.int .u32 0,.int .u32 274646895,.int .u32 549293790,.int .u32 820201905,.int .u32 1098587580,.int .u32 1361435347,.int .u32 1640403810,.int .u32 1905808397,.int .u32 2197175160,.int .u32 2460548119,.int .u32 2722870694,.int .u32 2987750089,.int .u32 3280807620,.int .u32 3553878443,.int .u32 3811616794,.int .u32 4084100981] 304 (0,0)):=ax _ _;have hT:∀d,d<16->(w1.alloc (.cells #[.int .u32 0,.int .u32 274646895,.int .u32 549293790,.int .u32 820201905,.int .u32 1098587580,.int .u32 1361435347,.int .u32 1640403810,.int .u32 1905808397,.int .u32 2197175160,.int .u32 2460548119,.int .u32 2722870694,.int .u32 2987750089,.int .u32 3280807620,.int .u32 3553878443,.int .u32 3811616794,.int .u32 4084100981] 304)).cell? ⟨w1.heap.size,d,none⟩=some (.int .u32 ((aq.getD d 0:Nat):Int)):=λd hd=>by
  simp only[World.cell?,fQ]
  match d,hd with
  |0,_=>rfl
  |1,_=>rfl
  |2,_=>rfl
  |3,_=>rfl
  |4,_=>rfl
  |5,_=>rfl
  |6,_=>rfl
  |7,_=>rfl
  |8,_=>rfl
  |9,_=>rfl
  |10,_=>rfl
  |11,_=>rfl
  |12,_=>rfl
  |13,_=>rfl
  |14,_=>rfl
  |15,_=>rfl
  |d+16,h=>exact absurd h (by omega)
 have h2:=h1.grow ai;have eG:=ae (hg1.trans ai);have Ld:=af fQ;generalize w1.alloc (.cells #[.int .u32 0,.int .u32 274646895,.int .u32 549293790,.int .u32 820201905,.int .u32 1098587580,.int .u32 1361435347,.int .u32 1640403810,.int .u32 1905808397,.int .u32 2197175160,.int .u32 2460548119,.int .u32 2722870694,.int .u32 2987750089,.int .u32 3280807620,.int .u32 3553878443,.int .u32 3811616794,.int .u32 4084100981] 304)=w2 at*;generalize w1.heap.size=tb at*;have H2:=ae h2;have HT:=ae hT;clear h h1 fQ hT ai hg1 h2;obtain⟨xE,xF,ev,hrow⟩:=H2.out;cases ev;have pK:=ae hrow;clear hrow
 go_wp2_with fail
 go_loopw [4,12] (λcv iv wr=>aup w2 ps cv iv wr) (λ_ iv _=>ps.length-(intOf iv).toNat)
 case atStart=>exact⟨0,rfl,aY _,rfl,rfl⟩
 case round=>
  obtain⟨n,rfl,hn,rfl,hwr⟩:=hrel;have zA:=hwr.symm;subst zA;clear hwr;by_cases hlt:n<ps.length
  .obtain⟨l,hl0⟩:∃l,ps[n]?=some l:=⟨ps[n],by simp[hlt]⟩
   obtain⟨b,o,rfl,lb,hc⟩:∃b o,va=some ⟨b,o,none⟩/\b<w2.heap.size/\∀(j:Nat)(p:List UInt8),ps[j]?=some p->∃pv,w2.cell? ⟨b,o+j,none⟩=some pv/\Bv w2 pv p:=by
    rcases pK.out with h1|h1
    .rw[h1]at hlt;simp at hlt
    .exact h1
   obtain⟨pv,c1,bD⟩:=hc n l hl0;obtain⟨pa,pc,rfl,hl,hm,jY,hp⟩:=bD;have Hp:=ae hp;have rC:=ae (auq hl0);have jk:(n:Int)<(ps.length:Int):=by omega
   have iQ:(0:Int)<=(n:Int):=by omega
   have Le:IntKind.i64.wrap ((n:Int)+1)=(n:Int)+1:=aQ _ (by omega);generalize (ps.take n).flatten=y at*;clear hp hc hl0
   go_wp2_with fail
   go_loopw [4,18] (λcv iv wr=>auo w2 y l cv iv wr) (λ_ iv _=>l.length-(intOf iv).toNat)
   case atStart=>exact⟨0,rfl,aY _,by simp,rfl⟩
   case round=>
    obtain⟨i,rfl,hi,rfl,hwr⟩:=hrel;have zA:=hwr.symm;subst zA;clear hwr;by_cases hlt:i<l.length
    .obtain⟨k,hk⟩:∃k,l[i]?=some k:=⟨l[i],by simp[hlt]⟩
     obtain⟨p,o,rfl,lp,hc⟩:∃b o,pa=some ⟨b,o,none⟩/\b<w2.heap.size/\∀(j:Nat)(k:UInt8),l[j]?=some k->w2.cell? ⟨b,o+j,none⟩=some (.int .u8 k.toNat):=by
      rcases Hp.out with h1|h1
      .rw[h1]at hlt;simp at hlt
      .exact h1
     have ck:=hc i k hk;have hstep:=aun y hk;have aez:=Wb (y++l.take i);have aKF:=k.toNat_lt;generalize vK aq (y++l.take i)=c at*;have eN:(i:Int)<(l.length:Int):=by omega
     have bU:(0:Int)<=(i:Int):=by omega
     have fT:IntKind.i64.wrap ((i:Int)+1)=(i:Int)+1:=aQ _ (by unfold maxLen at hm;omega);have x1:bits .xor .u32 (c:Int) (k.toNat:Int)=((c^^^k.toNat:Nat):Int):=u32_xor_nat c k.toNat aez (by omega);have hc1:c^^^k.toNat<4294967296:=Nat.xor_lt_two_pow (n:=32) aez (by omega);unfold Ij at hstep;generalize c^^^k.toNat=c1 at*;have x2:bits .and .u32 (c1:Int) 15=((c1&&& 15:Nat):Int):=u32_and_nat c1 15 hc1 (by decide);have jm:c1&&& 15<16:=Nat.lt_of_le_of_lt Nat.and_le_right (by decide);have ct1:=HT.out _ jm;have sG:aq.getD (c1&&& 15) 0<4294967296:=by
      have:∀d,d<16->aq.getD d 0<2^32:=by decide
      exact this _ jm
     have x3:bits .xor .u32 ((c1:Int)/16) ((aq.getD (c1&&& 15) 0:Nat):Int)=((Bp aq c1:Nat):Int):=by have:=u32_xor_nat (c1/16) (aq.getD (c1&&& 15) 0) (by omega) sG;rw[show((c1/16:Nat):Int)=(c1:Int)/16 by simp]at this;exact this
     have hc2:=VZ hc1;generalize Bp aq c1=c2 at*;generalize aur:c1&&& 15=d1 at*;have x4:bits .and .u32 (c2:Int) 15=((c2&&& 15:Nat):Int):=u32_and_nat c2 15 hc2 (by decide);have cS:c2&&& 15<16:=Nat.lt_of_le_of_lt Nat.and_le_right (by decide);have ct2:=HT.out _ cS;have DJ:aq.getD (c2&&& 15) 0<4294967296:=by
      have:∀d,d<16->aq.getD d 0<2^32:=by decide
      exact this _ cS
     have x5:bits .xor .u32 ((c2:Int)/16) ((aq.getD (c2&&& 15) 0:Nat):Int)=((Bp aq c2:Nat):Int):=by have:=u32_xor_nat (c2/16) (aq.getD (c2&&& 15) 0) (by omega) DJ;rw[show((c2/16:Nat):Int)=(c2:Int)/16 by simp]at this;exact this
     generalize Bp aq c2=c3 at*;generalize aus:c2&&& 15=d2 at*;generalize aq.getD d1 0=T1 at*;generalize aq.getD d2 0=T2 at*;have d1a:(d1:Int)<16:=by omega
     have d2a:(d2:Int)<16:=by omega
     have d1b:(0:Int)<=(d1:Int):=by omega
     have d2b:(0:Int)<=(d2:Int):=by omega
     have pL:=ae hstep;clear hstep hc hk aur aus sG DJ;go_wp2;go_roundw
     case rel=>exact⟨i+1,rfl,hlt,by rw[pL.out],rfl⟩
     case measure=>simp[intOf];omega
    .obtain rfl:i=l.length:=by omega
     rw[iA];go_wp2;go_roundw
     case rel=>exact⟨n+1,rfl,by omega,by rw[rC.out],rfl⟩
     case measure=>simp[intOf];omega
  .obtain rfl:n=ps.length:=by omega
   rw[iA];have We:=Wb ps.flatten;generalize Lf:ps.flatten=y at*;go_wp2;go_ret;have x:bits .xor .u32 4294967295 ((vK aq y:Nat):Int)=((eQ aq y:Nat):Int):=u32_xor_nat 4294967295 (vK aq y) (by decide) We;refine⟨?_,eG.out⟩;rw[<-x];rfl
theorem QF{l:List UInt8}(a:w.heap[b]?=some (.cells #[pv] 49 (0,0)))(h:Bv w pv l):
  Calls Tryz.prog 145 #[.slice (some ⟨b,0,none⟩) 1 1] w λe w'=>e=.returned (.int .u32 ((eQ aq l:Nat):Int))/\Grow w w':=by
 have b:=Wd (Wc a h) (by simp);rwa[List.flatten_singleton]at b
theorem Bq(l:List UInt8):eQ aq l<4294967296:=Nat.xor_lt_two_pow (n:=32) (by decide) (Wb l)
theorem aeA(m:Nat):bits .or .u8 ((m:Int)%256) 128=(((UInt8.ofNat (m%128+128)).toNat:Nat):Int):=by
 have a:((m:Int)%256)=((m%256:Nat):Int):=by omega
 have b:bits .or .u8 ((m%256:Nat):Int) 128=((m%256|||128:Nat):Int):=u8_or_nat (m%256) 128 (by omega) (by decide);rw[a,b,UInt8.toNat_ofNat_of_lt' (by simp[UInt8.size];omega)];congr 1;have:∀x:Nat,x<256->x|||128=x%128+128:=by decide+kernel
 rw[this _ (by omega)];omega
theorem aut(w:World):Calls Tryz.prog 126 #[.slice none 0 0] w λe w'=>e=.returned (.slice none 0 0)/\w'=w:=by go_enter Tryz.func126,Tryz.ntmps126;go_wp2;go_ret;exact⟨rfl,rfl⟩
def aeB(w:World)(n:Nat)(bv c:Value)(b:World):Prop:=
 ∃(a:List UInt8)(m k:Nat),c=.int .u64 m/\aI w.heap.size b bv a/\m<128^(k+1)/\a.length+(k+1)=10/\aG n=a++iO (k+1) m/\m<18446744073709551616/\Grow w b
theorem auu(w:World)(n:Nat)(hn:n<18446744073709551616):
  Calls Tryz.prog 81 #[.slice none 0 0,.int .u64 n] w λe w'=>∃v,e=.returned v/\aI w.heap.size w' v (aG n)/\Grow w w':=by
 go_enter Tryz.func81,Tryz.ntmps81
 go_wp2_with fail
 (with_reducible refine(aut _).mono ?_);rintro e w1 ⟨rfl,bT⟩;have hw2:=bT.symm;subst hw2;clear bT
 go_wp2_with fail
 go_loopw [0,1] (λbv vv wr=>aeB w n bv vv wr) (λ_ vv _=>(intOf vv).toNat)
 case atStart=>exact⟨[],n,9,rfl,oM _ _ _,by omega,rfl,rfl,hn,aW _⟩
 case round=>
  obtain⟨pre,m,k,rfl,hown,hm,hk,jC,aeC,hg⟩:=hrel;obtain⟨ba,bc,rfl⟩:=hown.slice;by_cases hlt:128<=m
  .have ji:decide ((128:Int)<=(m:Int))=true:=by simp;omega
   have lV:0<k:=by
    rcases Nat.eq_zero_or_pos k with rfl|h1
    .simp at hm;omega
    .exact h1
   obtain⟨k',rfl⟩:∃k',k=k'+1:=⟨k-1,by omega⟩
   obtain⟨v',w',h1,h2,h3⟩:=Lc hown (UInt8.ofNat (m%128+128)) (aeA m) hg.size (by omega);have cU:=ae h1;have hrel:aeB w n v' (.int .u64 ((m:Int)/128)) w':=by
    refine⟨pre++[UInt8.ofNat (m%128+128)],m/128,k',by simp,h2,?_,by simp;omega,?_,by omega,Below.trans hg h3⟩
    .rw[Nat.pow_succ]at hm;exact Nat.div_lt_of_lt_mul (by rw[Nat.mul_comm];exact hm)
    .rw[jC,iO,if_neg (by omega)];simp
   have aR:=ae hrel;clear h1 h2 h3 hrel hown jC hm hk hg
   go_wp2_with (at_builtin;refine fP rfl rfl rfl rfl cU.out ?_)
   go_roundw
   case rel=>exact aR.out
   case measure=>simp[intOf];omega
  .have ji:decide ((128:Int)<=(m:Int))=false:=by simp;omega
   have hx:(m:Int)=(((UInt8.ofNat m).toNat:Nat):Int):=by rw[UInt8.toNat_ofNat_of_lt' (by simp[UInt8.size];omega)]
   obtain⟨v',w',h1,h2,h3⟩:=Lc hown (UInt8.ofNat m) hx hg.size (by omega);have cU:=ae h1;have kz:aI w.heap.size w' v' (aG n):=by rw[jC,iO,if_pos (by omega)];exact h2
   have ib:=ae kz;have Hg:=ae (Below.trans hg h3);clear h1 h2 h3 hown jC hm hk hg kz hx
   go_wp2_with (at_builtin;refine fP rfl rfl rfl rfl cU.out ?_)
   go_ret;exact⟨_,rfl,ib.out,Hg.out⟩
def Wf(w:World)(B:Nat)(l:List UInt8)(v0:Nat)(bv b c:Value)(a:World):Prop:=
 ∃(i v:Nat),c=.int .i64 i/\i<=4/\b=.int .u64 v/\v<4294967296/\(∃b,aI B a bv (l++b)/\b.length=i/\cK 4 v0=b++cK (4-i) v)/\Below B w a/\B<=a.heap.size
theorem aeD(h:aI B w bv l)(hB:B<=w.heap.size)(hl:l.length<=1000000000000)(v0:Nat)(hv:v0<4294967296):
  Calls Tryz.prog 162 #[bv,.int .u64 v0,.int .i64 4] w λe w'=>∃v,e=.returned v/\aI B w' v (l++cK 4 v0)/\Below B w w':=by
 have hst:Wf w B l v0 bv (.int .u64 v0) (.int .i64 0) w:=⟨0,v0,rfl,by omega,rfl,hv,⟨[],by simpa using h,rfl,rfl⟩,bW _ _,hB⟩
 have bz:=ae hst;clear hst h;go_enter Tryz.func162,Tryz.ntmps162
 go_wp2_with fail
 go_loopw [0,1,8] (λbv vv iv wr=>Wf w B l v0 bv vv iv wr) (λ_ _ iv _=>4-(intOf iv).toNat)
 case atStart=>exact bz.out
 case round=>
  obtain⟨i,v,rfl,hi,rfl,auv,⟨pre,hown,hpl,lW⟩,hg,DK⟩:=hrel;by_cases hlt:i<4
  .have eN:decide ((i:Int)<4)=true:=by simp;omega
   have fT:IntKind.i64.wrap ((i:Int)+1)=(i:Int)+1:=aQ _ (by omega);have hx:((v:Int)%256)=(((UInt8.ofNat (v%256)).toNat:Nat):Int):=by rw[UInt8.toNat_ofNat_of_lt' (by simp[UInt8.size];omega)];omega
   obtain⟨v',w',h1,h2,h3⟩:=Lc hown (UInt8.ofNat (v%256)) hx DK (by simp;omega);have cU:=ae h1;have hrel:Wf w B l v0 v' (.int .u64 ((v:Int)/256)) (.int .i64 ((i:Int)+1)) w':=by refine⟨i+1,v/256,by simp,hlt,by simp,by omega,⟨pre++[UInt8.ofNat (v%256)],by rw[<-jL];exact h2,by simp;omega,?_⟩,Below.trans hg h3,aJ DK h3.size⟩;rw[lW,show 4-i=(4-(i+1))+1 by omega,cK];simp
   have aR:=ae hrel;obtain⟨ba,bc,rfl⟩:=hown.slice;clear h1 h2 h3 hrel hown lW hpl hg hx
   go_wp2_with (at_builtin;refine fP rfl rfl rfl rfl cU.out ?_)
   go_roundw
   case rel=>exact aR.out
   case measure=>simp[intOf];omega
  .obtain rfl:i=4:=by omega
   have jn:cK 4 v0=pre:=by rw[lW];simp[cK]
   have kz:=hown;rw[<-jn]at kz;have ib:=ae kz;obtain⟨ba,bc,rfl⟩:=hown.slice;clear kz hown lW jn;go_wp2;go_ret;exact⟨_,rfl,ib.out,hg⟩
theorem Bv.slice(b:Bv w v l):∃a c,v=.slice a l.length c:=by obtain⟨a,c,b,_⟩:=b;exact⟨a,c,b⟩
theorem DL{p:List UInt8}(a:Bv w pv p)(b:p.length<=67108864):
  Calls Tryz.prog 111 #[pv] w λe w'=>∃v,e=.returned v/\aI w.heap.size w' v (bC aq p)/\Grow w w':=by
 have b:=auu w p.length (by omega);obtain⟨c,f,rfl⟩:=a.slice;have g:=ae a;have h:=ae b;clear a b;go_enter Tryz.func111,Tryz.ntmps111
 go_wp2_with fail
 (with_reducible refine h.out.mono ?_);rintro e w1 ⟨a,rfl,d,b⟩;have a:Grow w1 (w1.alloc (.cells #[.slice c p.length f] 49)):=ar _ _;have i:=QF (ax w1 (.cells #[.slice c p.length f] 49)) ((g.out.grow b).grow a);have f:=ae i;obtain⟨c,c,rfl⟩:=d.slice;clear i
 go_wp2_with fail
 (with_reducible refine f.out.mono ?_);rintro e w2 ⟨rfl,c⟩;have i:=aeD ((d.grow a).grow c) (by have:=b.size;have:=a.size;have:=c.size;omega) (by have:=La 10 p.length;unfold aG;omega) (eQ aq p) (Bq p);have j:=ae i;have k:IntKind.u64.wrap ((eQ aq p:Nat):Int)=((eQ aq p:Nat):Int):=by have:=Bq p;simp[IntKind.wrap,IntKind.bits,IntKind.signed];omega
 have k:=ae ((b.trans a).trans c);clear i a c f d b h
 go_wp2_with fail
 (with_reducible refine j.out.mono ?_);rintro e w3 ⟨a,rfl,b,c⟩;have a:Grow w w3:=Below.trans k.out c;obtain⟨h,w',d,e,f,_⟩:=rB b (g.out.grow a) a.size (by have:=La 10 p.length;simp[nD];unfold aG;omega);have i:=ae d;have g:aI w.heap.size w' h (bC aq p):=by unfold bC;rw[<-jL];exact e
 have h:=ae g;have j:=ae (below_grown a a.size b f);obtain⟨k,k,rfl⟩:=b.slice;clear d e f g b c a
 go_wp2_with (at_builtin;refine fP rfl rfl rfl rfl i.out ?_)
 go_ret;exact⟨_,rfl,h.out,j.out⟩
theorem auy{a:List (List UInt8)}{p:List UInt8}(b:a[i]?=some p):cg aq (a.take (i+1))=cg aq (a.take i)++bC aq p:=by obtain⟨a,rfl⟩:=dW.1 b;unfold cg;rw[List.take_succ_eq_append_getElem a,List.flatMap_append,List.flatMap_singleton]
def aeE(w:World)(a:List (List UInt8))(bv c:Value)(b:World):Prop:=
 ∃i:Nat,c=.int .i64 i/\i<=a.length/\aI w.heap.size b bv (cg aq (a.take i))/\Grow w b
theorem auz{v:Value}{ps:List (List UInt8)}(h:Rv w v ps)(fH:∀p∈ps,p.length<=67108864)(og:(cg aq ps).length<=1000000000000)(hpl:ps.length<=1000000000000):
  Calls Tryz.prog 80 #[v] w λe w'=>∃v,e=.returned v/\aI w.heap.size w' v (cg aq ps)/\Grow w w':=by
 obtain⟨va,vc,rfl,h⟩:=h;have H:=ae h;clear h;go_enter Tryz.func80,Tryz.ntmps80
 go_wp2_with fail
 go_loopw [3,8] (λbv iv wr=>aeE w ps bv iv wr) (λ_ iv _=>ps.length-(intOf iv).toNat)
 case atStart=>exact⟨0,rfl,aY _,oM _ _ _,aW _⟩
 case round=>
  obtain⟨i,rfl,hi,hown,hg⟩:=hrel;by_cases hlt:i<ps.length
  .obtain⟨p,hp⟩:∃p,ps[i]?=some p:=⟨ps[i],by simp[hlt]⟩
   obtain⟨b,o,rfl,lb,hc⟩:∃b o,va=some ⟨b,o,none⟩/\b<w.heap.size/\∀(j:Nat)(p:List UInt8),ps[j]?=some p->∃pv,w.cell? ⟨b,o+j,none⟩=some pv/\Bv w pv p:=by
    rcases H.out with h1|h1
    .rw[h1]at hlt;simp at hlt
    .exact h1
   obtain⟨pv,c1,bD⟩:=hc i p hp;rw[<-Grow.cells _ _ _ hg lb]at c1;have lb':b<wr.heap.size:=bF lb hg.size;have dV:=DL (bD.grow hg) (fH p (dm hp));have ep:=auy hp;have hle:(cg aq (ps.take (i+1))).length<=(cg aq ps).length:=by
    have:cg aq ps=cg aq (ps.take (i+1))++cg aq (ps.drop (i+1)):=by unfold cg;rw[<-List.flatMap_append,List.take_append_drop]
    rw[this,aM];omega
   have eN:(i:Int)<(ps.length:Int):=by omega
   have bU:(0:Int)<=(i:Int):=by omega
   have fT:IntKind.i64.wrap ((i:Int)+1)=(i:Int)+1:=aQ _ (by omega);obtain⟨pa,pc,rfl⟩:=bD.slice;obtain⟨ba,bc,rfl⟩:=hown.slice;have pM:=ae dV;have gw:=ae hown;have Hg:=ae hg;clear dV hown hg hc hp bD
   go_wp2_with fail
   (with_reducible refine pM.out.mono ?_);rintro e w2 ⟨fv,rfl,hf2,hg2⟩;have gy:=gw.out.grow hg2;obtain⟨v',w',h1,h2,h3,_⟩:=rB gy (cE hf2) (aJ Hg.out.size hg2.size) (by rw[ep,aM]at hle;omega);have cU:=ae h1;have hrel:aeE w ps v' (.int .i64 ((i:Int)+1)) w':=⟨i+1,by simp,hlt,by rw[ep];exact h2,below_grown (Hg.out.trans hg2) (aJ Hg.out.size hg2.size) gy h3⟩
   have aR:=ae hrel;obtain⟨fa,fc,rfl⟩:=hf2.slice;clear h1 h2 h3 hrel gy hf2 ep hle hg2
   go_wp2_with (at_builtin;refine fP rfl rfl rfl rfl cU.out ?_)
   go_roundw
   case rel=>exact aR.out
   case measure=>simp[intOf];omega
  .obtain rfl:i=ps.length:=by omega
   have kz:=hown;rw[iA]at kz;have ib:=ae kz;obtain⟨ba,bc,rfl⟩:=hown.slice;clear kz hown;go_wp2;go_ret;exact⟨_,rfl,ib.out,hg⟩
def auB(w:World)(l:List UInt8)(a b:Value)(c:World):Prop:=
 ∃i v:Nat,b=.int .i64 i/\i<=l.length/\a=.int .u64 v/\v<128^i/\i<=9/\fG l=nC i v (l.drop i)/\c=w
theorem auC{v:Nat}{c:UInt8}(a:l[i]?=some c):nC i v (l.drop i)=
  if i=9/\1<c.toNat then(0,0,12)else
  if c.toNat<128 then(if c.toNat=0/\0<i then(0,0,12)else(v+c.toNat*128^i,i+1,0))else
  nC (i+1) (v+(c.toNat-128)*128^i) (l.drop (i+1)):=by
 obtain⟨b,rfl⟩:=dW.1 a;rw[nA b,nC]
theorem Wh(i:Nat):128^i=2^(7*i):=by rw[Nat.pow_mul]
theorem auD{v x i:Nat}(hi:i<=9)(a:v<128^i)(b:x*128^i<18446744073709551616):bits .or .u64 (v:Int) ((x*128^i:Nat):Int)=((v+x*128^i:Nat):Int):=by have c:128^i<=128^9:=Nat.pow_le_pow_right (by decide) hi;rw[u64_or_nat v (x*128^i) (by omega) b];congr 1;rw[Nat.or_comm,Nat.add_comm v,Wh];rw[Wh]at a;exact nat_join (7*i) (x*2^(7*i)) v (Nat.mul_mod_left _ _) a
theorem auE{v k i:Nat}(hi:i<=9)(a:v<128^i)(b:k%128*128^i<18446744073709551616):bits .or .u64 (v:Int) (IntKind.u64.wrap ((k:Int)%128*2^(7*i)))=((v+k%128*128^i:Nat):Int):=by
 have e:(k:Int)%128*2^(7*i)=((k%128*128^i:Nat):Int):=by rw[Wh];simp
 have c:IntKind.u64.wrap ((k%128*128^i:Nat):Int)=((k%128*128^i:Nat):Int):=by generalize k%128*128^i=z at*;simp[IntKind.wrap,IntKind.bits,IntKind.signed];omega
 rw[e,c];exact auD hi a b
theorem Lg{l:List UInt8}(a:Bv w bv l):
  Calls Tryz.prog 101 #[bv] w λe w'=>e=.returned (.tuple #[.int .u64 ((fG l).1:Nat),.int .i64 ((fG l).2.1:Nat),.int .i64 ((fG l).2.2:Nat)])/\w'=w:=by
 obtain⟨d,e,rfl,e,e,e,a⟩:=a;have h:=ae a;clear a;go_enter Tryz.func101,Tryz.ntmps101
 go_wp2_with fail
 go_loopw [5,10] (λe a f=>auB w l e a f) (λ_ a _=>l.length-(intOf a).toNat)
 case atStart=>exact⟨0,0,rfl,aY _,rfl,by decide,by decide,rfl,rfl⟩
 case round=>
  obtain⟨i,v,rfl,a,rfl,n,q,f,a⟩:=hrel;have e:=a.symm;subst e;clear a;by_cases g:i<l.length
  .obtain⟨c,a⟩:∃c,l[i]?=some c:=⟨l[i],by simp[g]⟩
   obtain⟨b,o,rfl,e,e⟩:∃b o,d=some ⟨b,o,none⟩/\b<w.heap.size/\∀(j:Nat)(k:UInt8),l[j]?=some k->w.cell? ⟨b,o+j,none⟩=some (.int .u8 k.toNat):=by
    rcases h.out with d|d
    .rw[d]at g;simp at g
    .exact d
   have b:=e i c a;rw[auC a]at f;have b:=c.toNat_lt;have b:(i:Int)<(l.length:Int):=by omega
   have b:(0:Int)<=(i:Int):=by omega
   have b:IntKind.i64.wrap ((i:Int)+1)=(i:Int)+1:=aQ _ (by omega);have b:IntKind.i64.wrap (7*(i:Int))=7*(i:Int):=aQ _ (by omega);generalize c.toNat=k at*;have b:bits .and .u8 (k:Int) 127=((k%128:Nat):Int):=by have:=u8_and_nat k 127 (by omega) (by decide);rw[show(k&&& 127)=k%128 from Nat.and_two_pow_sub_one_eq_mod k 7]at this;exact this
   have b:=ae f;clear f a e;by_cases e:i=9/\1<k
   .have h:((i:Int)==9)=true:=by simp;omega
    have m:decide ((1:Int)<(k:Int))=true:=by simp;omega
    have a:Hid (fG l=(0,0,12)):=ae (by rw[b.out,if_pos e]);clear e;go_wp2;go_ret3;rw[a.out];exact⟨rfl,rfl⟩
   .have h:((i:Int)==9)=true->decide ((1:Int)<(k:Int))=false:=by simp;omega
    have c:k%128*128^i<18446744073709551616:=by
     by_cases p:i<=8
     .have d:128^i<=128^8:=Nat.pow_le_pow_right (by decide) p;have j:k%128*128^i<=127*128^8:=Nat.mul_le_mul (by omega) d;omega
     .obtain rfl:i=9:=by omega
      have:k%128<=1:=by omega
      have j:k%128*128^9<=1*128^9:=Nat.mul_le_mul_right _ this;omega
    have j:=auE q n c;have c:=ae j;clear j;rw[if_neg e]at b;by_cases n:k<128
    .rw[if_pos n]at b
     have o:k%128=k:=Nat.mod_eq_of_lt n;rw[o]at c;have r:decide ((k:Int)<128)=true:=by simp;omega
     by_cases j:k=0/\0<i
     .have a:Hid (fG l=(0,0,12)):=ae (by rw[b.out,if_pos j])
      have q:((k:Int)==0)=true:=by simp;omega
      have s:decide (0<i)=true:=by simp;omega
      have t:0<i:=j.2;clear j o;cases e:((i:Int)==9)with
      |true=>have m:=h e;go_wp2;go_ret3;rw[a.out];exact⟨rfl,rfl⟩
      |false=>go_wp2;go_ret3;rw[a.out];exact⟨rfl,rfl⟩
     .have a:Hid (fG l=(v+k*128^i,i+1,0)):=ae (by rw[b.out,if_neg j])
      clear o;by_cases j:k=0
      .have s:decide (0<i)=false:=by simp;omega
       have t:¬0<i:=by omega
       have q:((k:Int)==0)=true:=by simp;omega
       clear j;cases e:((i:Int)==9)with
       |true=>have m:=h e;go_wp2;refine bodyPost_ret (v:=.tuple #[.int .u64 ((fG l).1:Nat),.int .i64 ((fG l).2.1:Nat),.int .i64 ((fG l).2.2:Nat)]) ?_ rfl ⟨rfl,rfl⟩;rw[a.out];simp only[<-c.out];simp[results,Tryz.results101,go_sem]
       |false=>go_wp2;refine bodyPost_ret (v:=.tuple #[.int .u64 ((fG l).1:Nat),.int .i64 ((fG l).2.1:Nat),.int .i64 ((fG l).2.2:Nat)]) ?_ rfl ⟨rfl,rfl⟩;rw[a.out];simp only[<-c.out];simp[results,Tryz.results101,go_sem]
      .skip
       have q:((k:Int)==0)=false:=by simp;omega
       cases e:((i:Int)==9)with
       |true=>have m:=h e;go_wp2;refine bodyPost_ret (v:=.tuple #[.int .u64 ((fG l).1:Nat),.int .i64 ((fG l).2.1:Nat),.int .i64 ((fG l).2.2:Nat)]) ?_ rfl ⟨rfl,rfl⟩;rw[a.out];simp only[<-c.out];simp[results,Tryz.results101,go_sem]
       |false=>go_wp2;refine bodyPost_ret (v:=.tuple #[.int .u64 ((fG l).1:Nat),.int .i64 ((fG l).2.1:Nat),.int .i64 ((fG l).2.2:Nat)]) ?_ rfl ⟨rfl,rfl⟩;rw[a.out];simp only[<-c.out];simp[results,Tryz.results101,go_sem]
    .have p:i<=8:=by omega
     have e:((i:Int)==9)=false:=by simp;omega
     have r:decide ((k:Int)<128)=false:=by simp;omega
     have e:Hid (k%128=k-128):=ae (by omega);rw[if_neg n]at b;go_wp2;go_roundw
     case rel=>rw[c.out];refine⟨i+1,_,by simp,g,rfl,?_,by omega,by rw[b.out,e.out],rfl⟩;have d:k%128*128^i<=127*128^i:=Nat.mul_le_mul_right _ (by omega);rw[Nat.pow_succ];omega
     case measure=>simp[intOf];omega
  .obtain rfl:i=l.length:=by omega
   have a:Hid (fG l=(0,0,11)):=ae (by rw[f,List.drop_length];rfl);clear f;go_wp2;go_ret3;rw[a.out];exact⟨rfl,rfl⟩
def aeI(w:World)(a b:List UInt8)(c:Value)(d:World):Prop:=∃i:Nat,c=.int .i64 i/\i<=a.length/\a.take i=b.take i/\Grow w d
theorem Wj{v1 v2:Value}{l1 l2:List UInt8}(h1:Bv w v1 l1)(h2:Bv w v2 l2):
  Calls Tryz.prog 150 #[v1,v2] w λe w'=>e=.returned (.bool (decide (l1=l2)))/\Grow w w':=by
 obtain⟨a1,c1,rfl,dE,gz,jk,h1⟩:=h1;obtain⟨a2,c2,rfl,hl2,fR,jD,h2⟩:=h2;have H1:=ae h1;have H2:=ae h2;have aU:=Grow.cells (w:=w);clear h1 h2 jk jD;by_cases hlen:l1.length=l2.length
 .have hne:((l1.length:Int) != (l2.length:Int))=false:=by simp;omega
  go_enter Tryz.func150,Tryz.ntmps150;go_wp2
  go_loopw [13] (λiv wr=>aeI w l1 l2 iv wr) (λiv _=>l1.length-(intOf iv).toNat)
  case atStart=>exact⟨0,rfl,aY _,rfl,aW _⟩
  case round=>
   obtain⟨i,rfl,hi,heq,hg⟩:=hrel;by_cases hlt:i<l1.length
   .obtain⟨x,hx⟩:∃x,l1[i]?=some x:=⟨l1[i],by simp[hlt]⟩
    obtain⟨y,hy⟩:∃y,l2[i]?=some y:=⟨l2[i]'(by omega),by simp[show i<l2.length by omega]⟩
    obtain⟨b1,o1,rfl,lb1,hc1⟩:∃b o,a1=some ⟨b,o,none⟩/\b<w.heap.size/\∀(j:Nat)(k:UInt8),l1[j]?=some k->w.cell? ⟨b,o+j,none⟩=some (.int .u8 k.toNat):=by
     rcases H1.out with h1|h1
     .rw[h1]at hlt;simp at hlt
     .exact h1
    obtain⟨b2,o2,rfl,Il,hc2⟩:∃b o,a2=some ⟨b,o,none⟩/\b<w.heap.size/\∀(j:Nat)(k:UInt8),l2[j]?=some k->w.cell? ⟨b,o+j,none⟩=some (.int .u8 k.toNat):=by
     rcases H2.out with h1|h1
     .rw[hlen,h1]at hlt;simp at hlt
     .exact h1
    have p1:=hc1 i x hx;have p2:=hc2 i y hy;have eN:(i:Int)<(l1.length:Int):=by omega
    have Lh:(i:Int)<(l2.length:Int):=by omega
    have bU:(0:Int)<=(i:Int):=by omega
    have fT:IntKind.i64.wrap ((i:Int)+1)=(i:Int)+1:=aQ _ (by unfold maxLen at gz;omega);have Hg:=ae hg;by_cases iL:x=y
    .have hrel:aeI w l1 l2 (.int .i64 ((i:Int)+1)) wr.drew:=by refine⟨i+1,by simp,hlt,?_,hg.trans (ay _)⟩;obtain⟨q1,q2⟩:=dW.1 hx;obtain⟨q3,q4⟩:=dW.1 hy;rw[List.take_succ_eq_append_getElem q1,List.take_succ_eq_append_getElem q3,heq,q2,q4,iL]
     have aR:=ae hrel;have e1:((x.toNat:Int) != (y.toNat:Int))=false:=by rw[iL];simp
     clear hrel hc1 hc2 hx hy heq hg iL
     go_wp2_with fail
     refine cN (λW=>Below w.heap.size w W) [] (by kernel_rfl) (bB λ_ _ _ _ _ h=>h) (Hg.out.trans (ay _)) ?_;simp only[ct]
     repeat ((first|(apply az;rfl;rintro W hW;go_simp;with_reducible rfl)|(apply aA;rfl));simp only[ah,List.set])
     refine bg ?_;go_wp2;go_roundw
     case rel=>exact aR.out
     case measure=>simp[intOf];omega
    .have e1:((x.toNat:Int) != (y.toNat:Int))=true:=by simp only[bne_iff_ne,ne_eq];intro hc;exact iL (UInt8.toNat_inj.1 (by omega))
     have dQ:Hid (decide (l1=l2)=false):=ae (by simp only[decide_eq_false_iff_not];intro hc;rw[hc,hy]at hx;exact iL (bh hx).symm)
     clear hc1 hc2 hx hy heq hg iL
     go_wp2_with fail
     refine cN (λW=>Below w.heap.size w W) [] (by kernel_rfl) (bB λ_ _ _ _ _ h=>h) (Hg.out.trans (ay _)) ?_;simp only[ct]
     repeat ((first|(apply az;rfl;rintro W hW;go_simp;with_reducible rfl)|(apply aA;rfl));simp only[ah,List.set])
     refine bg ?_;go_wp2;go_ret;rw[dQ.out];exact⟨rfl,Hg.out.trans (ay _)⟩
   .obtain rfl:i=l1.length:=by omega
    have dQ:Hid (decide (l1=l2)=true):=ae (by rw[iA]at heq;rw[hlen,iA]at heq;simp[heq])
    clear heq;go_wp2;go_ret;rw[dQ.out];exact⟨rfl,hg⟩
 .have hne:((l1.length:Int) != (l2.length:Int))=true:=by simp;omega
  have dQ:Hid (decide (l1=l2)=false):=ae (by simp only[decide_eq_false_iff_not];intro hc;exact hlen (by rw[hc]))
  clear hlen;go_enter Tryz.func150,Tryz.ntmps150;go_wp2;go_ret;rw[dQ.out];exact⟨rfl,aW _⟩
theorem xG(i:Bv w v l)(h:l.length<=140737488355328):
  Calls Tryz.prog 72 #[v] w λe w'=>∃v',e=.returned v'/\aI w.heap.size w' v' l/\Grow w w':=by
 have b:Grow w (w.alloc (.cells #[] 5)):=ar _ _;have d:aI w.heap.size (w.alloc (.cells #[] 5)) (.slice (some ⟨w.heap.size,0,none⟩) 0 0) []:=.inr ⟨w.heap.size,0,#[],rfl,aw _,ax _ _,aw _,aw _,aY _,rfl⟩;obtain⟨v',w',e,f,g,_⟩:=rB d (i.grow b) (by simp) (by simpa using h);have h:Grow w w':=below_grown b (by simp) d g;have j:=ae e;have k:=ae f;have m:=ae h;obtain⟨a,c,rfl,_,_,c,_⟩:=i;have i:=@Lib.run_eql_slice_nil Tryz.prog;cases a with
 |none=>
  have i:=c rfl;have:l=[]:=by
   rename_i l _ _
   exact je (by omega)
  subst this;subst i;clear e f g h d b;go_enter Tryz.func72,Tryz.ntmps72;go_wp2;go_ret;exact⟨_,rfl,oM _ _ _,aW _⟩
 |some a=>
  clear e f g h d b c;go_enter Tryz.func72,Tryz.ntmps72
  go_wp2_with (at_builtin;refine fP rfl rfl rfl rfl j.out ?_)
  go_ret;exact⟨_,rfl,k.out,m.out⟩
end Go.Proofs.YtoolkdapflaeeaaGreatDoor

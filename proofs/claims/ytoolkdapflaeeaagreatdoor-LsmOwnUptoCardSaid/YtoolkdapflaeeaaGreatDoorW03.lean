/- Helpers. -/
import Derived.Test.YtoolkdapflaeeaaGreatDoorRows
import Derived.Deep.QuietTactic
import Derived.BigQuiet
import Derived.Lib.Hide
import Derived.Laws.Cover1
import Derived.Sort.Grow
import Derived.Test.YtoolkdapflaeeaaGreatDoorW00
import Derived.Sort.Walk0
import Derived.Shelf.SlSortCmp.InsertionK
import Derived.Shelf.SlSortCmp.NoneTotal
import Derived.Shelf.SlicesQ.IndexFunc
import Derived.Shelf.SlicesG.Turned
import Derived.Shelf.SlicesE.Clone
import Derived.Test.YtoolkdapflaeeaaGreatDoorW01
import Derived.Lib.SliceRun
import Derived.Test.YtoolkdapflaeeaaGreatDoorW02
set_option maxRecDepth 100000
set_option maxHeartbeats 16000000
set_option linter.unusedSimpArgs false
open Go
variable{B B' b c cap g i j k m n o p' rb sb:Nat}{F':Nat→Prop}{W W' w w' w0 w1 w2 w3 wr wr':World}{arr cs cur:Array Value}{av bv cv dv tv v x0 x1 x2 x3 x4:Value}{en ew wl:Int}{f:Nat × Nat}{ks:List Int}{l x:List UInt8}{t:TypeId}{xs:List Value}
namespace Go.Proofs.YtoolkdapflaeeaaGreatDoor.Mn
open Go.RowKit Go.Gl
structure Tb where
 file:Int
 level:Int
 first:ByteArray
 last:ByteArray
 size:Int
instance:Inhabited Tb:=⟨⟨0,0,ByteArray.empty,ByteArray.empty,0⟩⟩
def jF(t:Tb):List Value:=[.int .i64 t.file,.int .i64 t.level,.string t.first,.string t.last,.int .i64 t.size]
def mP(l:List Tb):List Value:=l.flatMap jF
def jG(x y:Int):Int:=if x<y then -1 else if y<x then 1 else 0
def kJ(x y:ByteArray):Int:=if Op.bytesLess x.toList y.toList=true then -1 else if(x.toList==y.toList)=true then 0 else 1
theorem awW(x:Int)(w:World):Calls Tryz.prog 244 #[.int .i64 x] w λe w'=>e=.returned (.bool false)/\w'=w:=by
 have a:(x != x)=false:=by simp
 go_enter Tryz.func244,Tryz.ntmps244;go_wp2;go_ret;exact⟨rfl,rfl⟩
theorem WZ(x:ByteArray)(w:World):Calls Tryz.prog 196 #[.string x] w λe w'=>e=.returned (.bool false)/\w'=w:=by go_enter Tryz.func196,Tryz.ntmps196;go_wp2;go_ret;exact⟨by simp,rfl⟩
theorem afZ(x y:Int)(w:World):Calls Tryz.prog 228 #[.int .i64 x,.int .i64 y] w λe w'=>e=.returned (.int .i64 (jG x y))/\w'=w:=by
 go_enter Tryz.func228,Tryz.ntmps228
 go_wp2_with (go_at_call 244;(with_reducible refine(awW _ _).mono ?_);rintro e w' ⟨rfl,rfl⟩)
 .rename_i a
  go_ret;exact⟨by rw[jG,if_pos a];rfl,rfl⟩
 .rename_i b a
  go_ret;exact⟨by rw[jG,if_neg (by omega),if_pos a];rfl,rfl⟩
 .rename_i b a
  go_ret;exact⟨by rw[jG,if_neg (by omega),if_neg (by omega)];rfl,rfl⟩
theorem aga(x y:ByteArray)(w:World):Calls Tryz.prog 143 #[.string x,.string y] w λe w'=>e=.returned (.int .i64 (kJ x y))/\w'=w:=by
 unfold kJ;cases a:Op.bytesLess x.toList y.toList with
 |true=>
  go_enter Tryz.func143,Tryz.ntmps143
  go_wp2_with (go_at_call 196;(with_reducible refine(WZ _ _).mono ?_);rintro e w' ⟨rfl,rfl⟩)
  go_ret;exact⟨rfl,rfl⟩
 |false=>
  cases a:(x.toList==y.toList)with
  |true=>
   go_enter Tryz.func143,Tryz.ntmps143
   go_wp2_with (go_at_call 196;(with_reducible refine(WZ _ _).mono ?_);rintro e w' ⟨rfl,rfl⟩)
   go_ret;exact⟨rfl,rfl⟩
  |false=>
   go_enter Tryz.func143,Tryz.ntmps143
   go_wp2_with (go_at_call 196;(with_reducible refine(WZ _ _).mono ?_);rintro e w' ⟨rfl,rfl⟩)
   go_ret;exact⟨rfl,rfl⟩
def LX(x y z:Int):Int:=if x=0 then(if y=0 then z else y)else x
def dA(x y:Int):Int:=if x=0 then y else x
theorem awX(x y z:Int)(b:Nat)(w:World)(a:w.cell? ⟨b,0,none⟩=some (.int .i64 x))(a:w.cell? ⟨b,1,none⟩=some (.int .i64 y))(a:w.cell? ⟨b,2,none⟩=some (.int .i64 z)):
  Calls Tryz.prog 142 #[.slice (some ⟨b,0,none⟩) 3 3] w λe w'=>e=.returned (.int .i64 (LX x y z))/\w'=w:=by
 unfold LX;by_cases a:x=0
 .subst a
  by_cases b:y=0
  .subst b
   by_cases c:z=0
   .subst c;go_enter Tryz.func142,Tryz.ntmps142;go_wp2;refine wp_loop_rounds 4 ?_;rw[rounds_succ];go_wp2;rw[rounds_succ];go_wp2;rw[rounds_succ];go_wp2;rw[rounds_succ];go_wp2;go_ret;exact⟨by simp,rfl⟩
   .have d:(z != 0)=true:=by simp[c]
    go_enter Tryz.func142,Tryz.ntmps142;go_wp2;refine wp_loop_rounds 3 ?_;rw[rounds_succ];go_wp2;rw[rounds_succ];go_wp2;rw[rounds_succ];go_wp2;go_ret;exact⟨by simp,rfl⟩
  .have d:(y != 0)=true:=by simp[b]
   go_enter Tryz.func142,Tryz.ntmps142;go_wp2;refine wp_loop_rounds 2 ?_;rw[rounds_succ];go_wp2;rw[rounds_succ];go_wp2;go_ret;exact⟨by simp,rfl⟩
 .have d:(x != 0)=true:=by simp[a]
  go_enter Tryz.func142,Tryz.ntmps142;go_wp2;refine wp_loop_rounds 1 ?_;rw[rounds_succ];go_wp2;go_ret;exact⟨by simp,rfl⟩
theorem Xa(x y:Int)(b:Nat)(w:World)(a:w.cell? ⟨b,0,none⟩=some (.int .i64 x))(a:w.cell? ⟨b,1,none⟩=some (.int .i64 y)):
  Calls Tryz.prog 142 #[.slice (some ⟨b,0,none⟩) 2 2] w λe w'=>e=.returned (.int .i64 (dA x y))/\w'=w:=by
 unfold dA;by_cases a:x=0
 .subst a
  by_cases b:y=0
  .subst b;go_enter Tryz.func142,Tryz.ntmps142;go_wp2;refine wp_loop_rounds 3 ?_;rw[rounds_succ];go_wp2;rw[rounds_succ];go_wp2;rw[rounds_succ];go_wp2;go_ret;exact⟨by simp,rfl⟩
  .have c:(y != 0)=true:=by simp[b]
   go_enter Tryz.func142,Tryz.ntmps142;go_wp2;refine wp_loop_rounds 2 ?_;rw[rounds_succ];go_wp2;rw[rounds_succ];go_wp2;go_ret;exact⟨by simp,rfl⟩
 .have c:(x != 0)=true:=by simp[a]
  go_enter Tryz.func142,Tryz.ntmps142;go_wp2;refine wp_loop_rounds 1 ?_;rw[rounds_succ];go_wp2;go_ret;exact⟨by simp,rfl⟩
theorem awY(x y:Int)(b:Nat)(w:World)(a:w.cell? ⟨b,0,none⟩=some (.int .u64 x))(a:w.cell? ⟨b,1,none⟩=some (.int .u64 y)):
  Calls Tryz.prog 209 #[.slice (some ⟨b,0,none⟩) 2 2] w λe w'=>e=.returned (.int .u64 (dA x y))/\w'=w:=by
 unfold dA;by_cases a:x=0
 .subst a
  by_cases b:y=0
  .subst b;go_enter Tryz.func209,Tryz.ntmps209;go_wp2;refine wp_loop_rounds 3 ?_;rw[rounds_succ];go_wp2;rw[rounds_succ];go_wp2;rw[rounds_succ];go_wp2;go_ret;exact⟨by simp,rfl⟩
  .have c:(y != 0)=true:=by simp[b]
   go_enter Tryz.func209,Tryz.ntmps209;go_wp2;refine wp_loop_rounds 2 ?_;rw[rounds_succ];go_wp2;rw[rounds_succ];go_wp2;go_ret;exact⟨by simp,rfl⟩
 .have c:(x != 0)=true:=by simp[a]
  go_enter Tryz.func209,Tryz.ntmps209;go_wp2;refine wp_loop_rounds 1 ?_;rw[rounds_succ];go_wp2;go_ret;exact⟨by simp,rfl⟩
theorem awZ(w:World)(x y z:Int):(Instr.buildSlice 24 3 #[(0,.int .i64 x),(1,.int .i64 y),(2,.int .i64 z)]).run Tryz.prog w=.ok (.slice (some ⟨w.heap.size,0,none⟩) 3 3) (w.alloc (.cells #[.int .i64 x,.int .i64 y,.int .i64 z] 3)):=by
 simp[Instr.buildSlice,run_underlying Tryz.underlying24,Tryz.sizeOf3,Tryz.zeroValue3,Instr.fill,newRow,Value.cells];congr 2;apply Array.ext
 .simp
 .intro i a b
  simp at a
  match i,a with
  |0,_=>simp
  |1,_=>simp
  |2,_=>simp
def pT(a b:Tb):Int:=LX (jG a.level b.level) (kJ a.first b.first) (jG a.file b.file)
theorem dI(a:w.heap[b]?=some (.cells #[x0,x1,x2,x3,x4] t (0,0))):
  w.cell? ⟨b,0,none⟩=some x0/\w.cell? ⟨b,1,none⟩=some x1/\w.cell? ⟨b,2,none⟩=some x2/\w.cell? ⟨b,3,none⟩=some x3/\w.cell? ⟨b,4,none⟩=some x4:=by
 simp[World.cell?,a]
end Go.Proofs.YtoolkdapflaeeaaGreatDoor.Mn
namespace Go.Proofs.YtoolkdapflaeeaaGreatDoor.Mn
open Go.RowKit Go.Gl Go.Sort Go.Shelf
theorem axa(x y:Tb)(W:World):Calls Tryz.prog 207 #[.agg (jF x).toArray,.agg (jF y).toArray] W λe w'=>e=.returned (.int .i64 (pT x y))/\∃q a,w'=grow (W.drewN q) a:=by
 obtain⟨x0,x1,x2,x3,x4⟩:=x;obtain⟨a,b,c,d,f⟩:=y;simp only[pT,jF];have m:=afZ x1 b;have n:=aga x2 c;have o:=afZ x0 a;generalize jG x1 b=g at*;generalize kJ x2 c=h at*;generalize jG x0 a=i at*;have p:=awX g h i;generalize LX g h i=j at*;have j:((W.alloc (.cells #[.int .i64 x0,.int .i64 x1,.string x2,.string x3,.int .i64 x4] 101)).alloc (.cells #[.int .i64 a,.int .i64 b,.string c,.string d,.int .i64 f] 101)).heap[W.heap.size]?=some (.cells #[.int .i64 x0,.int .i64 x1,.string x2,.string x3,.int .i64 x4] 101 (0,0)):=(heap_alloc_old _ _ (by simp)).trans (ax _ _);have k:((W.alloc (.cells #[.int .i64 x0,.int .i64 x1,.string x2,.string x3,.int .i64 x4] 101)).alloc (.cells #[.int .i64 a,.int .i64 b,.string c,.string d,.int .i64 f] 101)).heap[W.heap.size+1]?=some (.cells #[.int .i64 a,.int .i64 b,.string c,.string d,.int .i64 f] 101 (0,0)):=by have:=ax (W.alloc (.cells #[.int .i64 x0,.int .i64 x1,.string x2,.string x3,.int .i64 x4] 101)) (.cells #[.int .i64 a,.int .i64 b,.string c,.string d,.int .i64 f] 101);simpa using this
 obtain⟨l,l,l,_,_⟩:=dI j;obtain⟨l,l,l,_,_⟩:=dI k;have l:=af j;have l:=af k;have q:∃l,(W.alloc (.cells #[.int .i64 x0,.int .i64 x1,.string x2,.string x3,.int .i64 x4] 101)).alloc (.cells #[.int .i64 a,.int .i64 b,.string c,.string d,.int .i64 f] 101)=grow W l:=⟨_,by rw[alloc_eq_grow,alloc_eq_grow,grow_grow]⟩
 have r:=ae m;have s:=ae n;have t:=ae o;have u:=ae p;have x:=ae q;clear j k m n o p q;go_enter Tryz.func207,Tryz.ntmps207
 go_wp2_with fail
 generalize (W.alloc (.cells #[.int .i64 x0,.int .i64 x1,.string x2,.string x3,.int .i64 x4] 101)).alloc (.cells #[.int .i64 a,.int .i64 b,.string c,.string d,.int .i64 f] 101)=w0 at*;have a:=Grow.cells (w:=w0);refine oK (λa=>Below w0.heap.size w0 a)
  [(0,false),(1,false),(2,false),(3,false),(5,false),(6,false),(7,false),(8,false),(10,false),(11,false),(12,false),(13,false),(4,true),(9,true),(14,true),(15,true),(16,true),(17,false)] (by kernel_rfl) (by kernel_rfl) (bB λ_ _ _ _ _ a=>a) (by((repeat (first|exact bW _ _|assumption|refine cC ?_|refine cD ?_|refine cw ?_ ?_ _|refine cB ?_ ?_ _))<;>try (first|omega|(simp<;>omega)))) ?_
 simp only[cm,nth]
 repeat ((first|(apply az;rfl;rintro W a;go_simp;with_reducible rfl)|(apply aA;rfl));simp only[ah,List.set])
 refine bw (by rfl) (by go_simp) (r.out _) ?_;rintro e w2 ⟨rfl,rfl⟩;refine⟨_,rfl,by((repeat (first|exact bW _ _|assumption|refine cC ?_|refine cD ?_|refine cw ?_ ?_ _|refine cB ?_ ?_ _))<;>try (first|omega|(simp<;>omega))),?_⟩
 try simp only[ah,List.set,aC]
 refine bw (by rfl) (by go_simp) (s.out _) ?_;rintro e w2 ⟨rfl,rfl⟩;refine⟨_,rfl,by((repeat (first|exact bW _ _|assumption|refine cC ?_|refine cD ?_|refine cw ?_ ?_ _|refine cB ?_ ?_ _))<;>try (first|omega|(simp<;>omega))),?_⟩
 try simp only[ah,List.set,aC]
 refine bw (by rfl) (by go_simp) (t.out _) ?_;rintro e w2 ⟨rfl,rfl⟩;refine⟨_,rfl,by((repeat (first|exact bW _ _|assumption|refine cC ?_|refine cD ?_|refine cw ?_ ?_ _|refine cB ?_ ?_ _))<;>try (first|omega|(simp<;>omega))),?_⟩
 try simp only[ah,List.set,aC]
 refine ud (by rfl) (v:=.slice (some ⟨w0.drew.heap.size,0,none⟩) 3 3) (w':=World.alloc w0.drew (.cells #[.int .i64 g,.int .i64 h,.int .i64 i] 3)) ?_ (by((repeat (first|exact bW _ _|assumption|refine cC ?_|refine cD ?_|refine cw ?_ ?_ _|refine cB ?_ ?_ _))<;>try (first|omega|(simp<;>omega)))) ?_
 .unfold execOp;simp only[Act.eval];simp[awZ]
 try simp only[ah,List.set,aC]
 refine bw (by rfl) (by go_simp) (u.out w0.drew.heap.size (World.alloc w0.drew (.cells #[.int .i64 g,.int .i64 h,.int .i64 i] 3)) (by unfold World.cell?;rw[ax];rfl) (by unfold World.cell?;rw[ax];rfl) (by unfold World.cell?;rw[ax];rfl)) ?_;rintro e w2 ⟨rfl,rfl⟩;refine⟨_,rfl,by((repeat (first|exact bW _ _|assumption|refine cC ?_|refine cD ?_|refine cw ?_ ?_ _|refine cB ?_ ?_ _))<;>try (first|omega|(simp<;>omega))),?_⟩
 try simp only[ah,List.set,aC]
 repeat ((first|(apply az;rfl;rintro W a;go_simp;with_reducible rfl)|(apply aA;rfl));simp only[ah,List.set])
 refine bg ?_
 go_wp2_with fail
 go_ret;obtain⟨l,a⟩:=x.out;refine⟨rfl,1,l++#[.cells #[.int .i64 g,.int .i64 h,.int .i64 i] 3],?_⟩;rw[alloc_eq_grow,a,drew_grow,grow_grow];rfl
def rJ(a b:Tb):Prop:=a.level<b.level\/(a.level=b.level/\(a.first.toList<b.first.toList\/(a.first.toList=b.first.toList/\a.file<b.file)))
theorem QS(x y:ByteArray):kJ x y<0↔x.toList<y.toList:=by
 unfold kJ;rw[bytesLess_eq];by_cases a:x.toList<y.toList
 .simp[a]
 .simp only[a,decide_false,Bool.false_eq_true,if_false,iff_false,Int.not_lt]
  split<;>decide
theorem ID(x y:ByteArray):kJ x y=0↔x.toList=y.toList:=by
 unfold kJ;rw[bytesLess_eq];by_cases a:x.toList<y.toList
 .simp only[a,decide_true,if_true]
  constructor
  .intro b;cases b
  .intro b;rw[b]at a;exact absurd a (List.lt_irrefl _)
 .simp only[a,decide_false,Bool.false_eq_true,if_false]
  by_cases a:x.toList=y.toList
  .simp[a]
  .simp[a]
theorem Xd(x y:Int):jG x y<0↔x<y:=by
 unfold jG;split
 .simp;assumption
 .split<;>simp<;>omega
theorem Xe(x y:Int):jG x y=0↔x=y:=by
 unfold jG;split
 .simp;omega
 .split<;>simp<;>omega
theorem axb(a b:Tb):pT a b<0↔rJ a b:=by
 unfold pT LX rJ;by_cases c:jG a.level b.level=0
 .rw[if_pos c]
  have e:=(Xe _ _).1 c;by_cases d:kJ a.first b.first=0
  .rw[if_pos d]
   have b:=(ID _ _).1 d;rw[Xd];constructor
   .intro a;exact .inr ⟨e,.inr ⟨b,a⟩⟩
   .rintro(a|⟨_,a|⟨_,a⟩⟩)
    .omega
    .rw[b]at a;exact absurd a (List.lt_irrefl _)
    .exact a
  .rw[if_neg d,QS]
   constructor
   .intro a;exact .inr ⟨e,.inl a⟩
   .rintro(a|⟨_,a|⟨b,_⟩⟩)
    .omega
    .exact a
    .exact absurd ((ID _ _).2 b) d
 .rw[if_neg c,Xd]
  constructor
  .intro a;exact .inl a
  .rintro(a|⟨b,_⟩)
   .exact a
   .exact absurd ((Xe _ _).2 b) c
theorem ltB{a b:Tb}:ltOf pT a b=true↔rJ a b:=by unfold ltOf;rw[decide_eq_true_eq,axb]
theorem Xf{a b:Tb}:ltOf pT a b=false↔¬rJ a b:=by rw[<-ltB];simp
theorem agc{x y z:Tb}(b:rJ x y)(a:rJ y z):rJ x z:=by
 rcases b with b|⟨e1,b⟩
 .rcases a with a|⟨e2,a⟩
  .exact .inl (by omega)
  .exact .inl (by omega)
 .rcases a with a|⟨e2,a⟩
  .exact .inl (by omega)
  .refine .inr ⟨by omega,?_⟩
   rcases b with b|⟨e3,b⟩
   .rcases a with a|⟨e4,a⟩
    .exact .inl (List.lt_trans b a)
    .exact .inl (by rw[<-e4];exact b)
   .rcases a with a|⟨e4,a⟩
    .exact .inl (by rw[e3];exact a)
    .exact .inr ⟨e3.trans e4,by omega⟩
theorem agd(x y:Tb)(c:¬rJ x y)(d:¬rJ y x):x.level=y.level/\x.first.toList=y.first.toList/\x.file=y.file:=by
 have b:x.level=y.level:=by
  have f:¬x.level<y.level:=λa=>c (.inl a)
  have g:¬y.level<x.level:=λa=>d (.inl a)
  omega
 have h:¬x.first.toList<y.first.toList:=λa=>c (.inr ⟨b,.inl a⟩)
 have i:¬y.first.toList<x.first.toList:=λa=>d (.inr ⟨b.symm,.inl a⟩)
 have e:x.first.toList=y.first.toList:=List.le_antisymm (List.not_lt.1 i) (List.not_lt.1 h);refine⟨b,e,?_⟩;have f:¬x.file<y.file:=λa=>c (.inr ⟨b,.inr ⟨e,a⟩⟩)
 have g:¬y.file<x.file:=λa=>d (.inr ⟨b.symm,.inr ⟨e.symm,a⟩⟩)
 omega
theorem QT:SWO (ltOf pT) where
 irrefl x:=by
  rw[Xf];rintro(a|⟨_,a|⟨_,a⟩⟩)
  .omega
  .exact List.lt_irrefl _ a
  .omega
 trans x y z h1 h2:=by rw[ltB]at*;exact agc h1 h2
 ntrans x y z h1 h2:=by
  rw[Xf]at*;intro a;by_cases b:rJ y x
  .exact h2 (agc b a)
  .obtain⟨c,d,e⟩:=agd x y h1 b;apply h2;unfold rJ at a ⊢;rw[<-c,<-d,<-e];exact a
theorem axc(a b size:Nat)(w:World):CmpLays Tryz.prog 207 #[] jF 5 pT a b size w:=
 λ_ _ _ _ x a=>axa x a _
end Go.Proofs.YtoolkdapflaeeaaGreatDoor.Mn
namespace Go.Gl
open Go Go.RowKit Go.Sort Go.Shelf Go.Proofs
section rows
variable{α:Type}{enc:α→List Value}{k:Nat}
theorem IE(a:∀x,(enc x).length=k)(l:List α):(l.flatMap enc).length=l.length*k:=by
 induction l with
 |nil=>simp
 |cons x l b=>rw[List.flatMap_cons,aM,a,b,dD,Nat.add_mul];omega
theorem Ef(b:∀x,(enc x).length=k):∀{l:List α}{i:Nat}{x:α},l[i]?=some x->∀c,c<k->(l.flatMap enc)[i*k+c]?=(enc x)[c]?
 | [],i,x,h,_,_=>by simp at h
 |a::l,0,x,h,c,hc=>by simp at h;subst h;rw[List.flatMap_cons,Nat.zero_mul,Nat.zero_add,vB (by rw[b];exact hc)]
 |a::l,i+1,x,h,c,hc=>by have a:=Ef b (l:=l) (i:=i) (x:=x) (by simpa using h) c hc;rw[List.flatMap_cons,xx (by rw[b,Nat.add_mul];omega),<-a,b];congr 1;rw[Nat.add_mul];omega
theorem axd(a:∀x,(enc x).length=k)(l:List α)(n:Nat)(b:n<=l.length):(l.flatMap enc).take (n*k)=(l.take n).flatMap enc:=by
 have c:l.flatMap enc=(l.take n).flatMap enc++(l.drop n).flatMap enc:=by rw[<-List.flatMap_append,List.take_append_drop]
 have d:((l.take n).flatMap enc).length=n*k:=by rw[IE a];simp[Nat.min_eq_left b]
 rw[c,List.take_append_of_le_length (by omega),<-d,iA]
def Rd(w:World)(b o:Nat)(enc:α->List Value)(k:Nat)(l:List α):Prop:=∀(i:Nat)(x:α),l[i]?=some x->∀(c:Nat)(a:Value),(enc x)[c]?=some a->w.cell? ⟨b,o+i*k+c,none⟩=some a
theorem xS{e:Nat}(a:∀x,(enc x).length=k){l:List α}(f:w.ownsRow B e k (.slice (some ⟨g,0,none⟩) l.length cap) l.length (l.flatMap enc)):Rd w g 0 enc k l:=by
 intro i x b c d d;have e:c<k:=by have:=(dW.1 d).1;rwa[a]at this
 have g:i<l.length:=(dW.1 b).1;have h:i*k+c<l.length*k:=by have:=Nat.mul_le_mul_right k (show i+1<=l.length from g);rw[Nat.add_mul,Nat.one_mul]at this;omega
 rw[Nat.zero_add,f.cellAt _ h,Ef a b c e,d]
theorem Rd.grow{l:List α}(a:Rd w b o enc k l)(d:b<w.heap.size)(e:Grow w w'):Rd w' b o enc k l:=λi x b c f g=>by rw[Grow.cells _ _ _ e d];exact a i x b c f g
theorem fB{e:Nat}(a:w.ownsRow B e k v n xs)(b:Grow w w'):w'.ownsRow B e k v n xs:=by
 refine⟨a.1,?_⟩;rcases a.2 with a|⟨g,cap,cur,a,h2,h3,h4⟩
 .exact .inl a
 .exact .inr ⟨g,cap,cur,a,h2,b.heap h3,h4⟩
theorem rK{e:Nat}(a:w.ownsRow B e k v n xs)(b:B'<=B):w.ownsRow B' e k v n xs:=by
 refine⟨a.1,?_⟩;rcases a.2 with a|⟨g,cap,cur,a,h2,h3⟩
 .exact .inl a
 .exact .inr ⟨g,cap,cur,a,aJ b h2,h3⟩
variable [Inhabited α]
theorem axe{e:Nat}(b:∀x,(enc x).length=k)(c:0<k){l:List α}(d:w.ownsRow B e k (.slice (some ⟨g,0,none⟩) l.length cap) l.length (l.flatMap enc)):HoldsK enc k w g 0 l.toArray:=by
 intro j a;rw[size_flatK]at a;simp only[List.size_toArray]at a;have e:j/k<l.length:=Nat.div_lt_of_lt_mul (by rw[Nat.mul_comm];exact a);rw[Nat.zero_add];refine⟨?_,d.frozenAt j⟩;rw[d.cellAt j a,get_flatK _ _ _ _ (by simpa using a)];have d:l[j/k]?=some l[j/k]:=ek e;have a:=Ef b d (j%k) (Nat.mod_lt _ c);rw[show j/k*k+j%k=j by rw[Nat.mul_comm];exact Nat.div_add_mod j k]at a;rw[a];have a:l.toArray[j/k]! =l[j/k]:=by simp[e]
 rw[a];have a:j%k<(enc l[j/k]).length:=by rw[b];exact Nat.mod_lt _ c
 rw[ek a,getElem!_pos (enc l[j/k]) (j%k) a];rfl
theorem axf(w:World)(g n:Nat)(d:Array α)(a:Array Obj):w.grownBy (sortWorldK enc k w g 0 n d a) (some g):=by refine⟨rfl,rfl,rfl,size_sortWorldK_c ..,λb a b=>?_⟩;unfold sortWorldK;rw[heap_grow_old _ _ (by rw[size_putRowK];exact a)];unfold putRowK putRow mapBlock;simp only[Array.getElem?_modify];rw[if_neg (λa=>b (by rw[a]))];rfl
theorem axg(a:∀x,(enc x).length=k)(c:0<k)(d:Array α):(flatK enc k d).toList=d.toList.flatMap enc:=by
 apply List.ext_getElem?;intro j;by_cases b:j<d.size*k
 .have e:j/k<d.size:=Nat.div_lt_of_lt_mul (by rw[Nat.mul_comm];exact b)
  have g:d.toList[j/k]?=some d[j/k]:=by simp[e]
  have f:=Ef a g (j%k) (Nat.mod_lt _ c);rw[show j/k*k+j%k=j by rw[Nat.mul_comm];exact Nat.div_add_mod j k]at f;rw[f];have f:j<(flatK enc k d).size:=by rw[size_flatK];exact b
  have g:=get_flatK enc k d j b;rw[getElem!_pos _ j f]at g;rw[Array.getElem?_toList,Array.getElem?_eq_getElem f,g,getElem!_pos d (j/k) e];have b:j%k<(enc d[j/k]).length:=by rw[a];exact Nat.mod_lt _ c
  rw[ek b,getElem!_pos (enc d[j/k]) (j%k) b]
 .rw[List.getElem?_eq_none (by rw[ia,size_flatK];omega),List.getElem?_eq_none (by rw[IE a,ia];omega)]
theorem axh{e:Nat}(c:∀x,(enc x).length=k)(i:0<k){l:List α}(b:w.ownsRow B e k (.slice (some ⟨g,0,none⟩) l.length cap) l.length (l.flatMap enc))(n:Nat)(d:Array α)(f:Array Obj)(a:d.size=l.length):
  (sortWorldK enc k w g 0 n d f).ownsRow B e k (.slice (some ⟨g,0,none⟩) l.length cap) l.length (d.toList.flatMap enc):=by
 rcases b.2 with⟨b,_⟩|⟨e,e,cur,b,m,e,f,o,h,p⟩
 .cases b
 .cases b
  refine⟨by rw[IE c,ia,a],.inr ⟨g,cap,putCells id 0 (flatK enc k d) cur,rfl,m,?_,f,o,by simp[putCells,h],?_⟩⟩
  .unfold sortWorldK;have b:g<w.heap.size:=af e;rw[heap_grow_old _ _ (by rw[size_putRowK];exact b)];unfold putRowK putRow mapBlock;simp only[Array.getElem?_modify,if_true];rw[show(Sort.ahead w n).heap[g]?=w.heap[g]? from rfl,e];rfl
  .rw[<-axg c i]
   apply List.ext_getElem?;intro j;rw[List.getElem?_take];by_cases b:j<l.length*k
   .have e:j<cur.size:=by rw[h];have:=Nat.mul_le_mul_right k f;omega
    have c:j<(flatK enc k d).size:=by rw[size_flatK,a];exact b
    rw[if_pos b];simp only[putCells,Array.toList_mapIdx,List.getElem?_mapIdx,Array.getElem?_toList,Array.getElem?_eq_getElem e,Option.map_some,aY,true_and,Nat.zero_add,c,if_true,Nat.sub_zero,id,Array.getElem?_eq_getElem c];rw[getElem!_pos _ j c]
   .rw[if_neg b,List.getElem?_eq_none (by rw[ia,size_flatK,a];omega)]
end rows
end Go.Gl
namespace Go.Proofs.YtoolkdapflaeeaaGreatDoor.Mn
open Go.RowKit Go.Gl
theorem rL(x:Tb):(jF x).length=5:=rfl
theorem QU(x:Tb):∀v∈jF x,v.oneCell'=true:=λv a=>by simp only[jF,bI,List.not_mem_nil,or_false]at a;rcases a with rfl|rfl|rfl|rfl|rfl<;>rfl
theorem axj(l:List Tb):∀v∈mP l,v.oneCell'=true:=λv a=>by obtain⟨x,_,b⟩:=List.mem_flatMap.1 a;exact QU x v b
abbrev Own(B:Nat)(w:World)(v:Value)(l:List Tb):Prop:=w.ownsRow B 101 5 v l.length (mP l)
def kK(l:List Tb):List Tb:=(Sort.pdq (ltOf pT) l.toArray 0 l.toArray.size (Lib.bitLen l.toArray.size) true true).toList
theorem BH(l:List Tb):(kK l).Perm l:=by
 have a:=(Sort.pdq_sorts (ltOf pT) QT l.toArray 0 l.toArray.size (Lib.bitLen l.toArray.size) true true (aY _) (aw _) (Or.inl rfl)).1;unfold kK;generalize Sort.pdq (ltOf pT) l.toArray 0 l.toArray.size (Lib.bitLen l.toArray.size) true true=b at*;have c:=a.2.2;have d:=a.1;have a:b.extract 0 l.toArray.size=b:=by rw[<-d];simp
 have b:l.toArray.extract 0 l.toArray.size=l.toArray:=by simp
 rw[a,b]at c;exact c
theorem axk(l:List Tb):(kK l).Pairwise (λx y=>¬rJ y x):=by
 have a:=(Sort.pdq_sorts (ltOf pT) QT l.toArray 0 l.toArray.size (Lib.bitLen l.toArray.size) true true (aY _) (aw _) (Or.inl rfl))
 unfold kK;generalize Sort.pdq (ltOf pT) l.toArray 0 l.toArray.size (Lib.bitLen l.toArray.size) true true=b at*;have c:=a.1.1;rw[List.pairwise_iff_getElem];intro i j c d e;simp only[ia]at c d;have:=a.2 i j (aY _) e (by omega);rw[getElem!_pos b i c,getElem!_pos b j d,Xf]at this;exact this
theorem axl{w:World}{l:List Tb}(a:Own B w v l)(b:l.length<1000000000):
  Calls Tryz.prog 206 #[v,.func (.func 207) #[] #[]] w λe w'=>e=.returned (.tuple #[])/\Own B w' v (kK l)/\w.grownBy w' v.ownBlock:=by
 have b:(kK l).length=l.length:=(BH l).length_eq;rcases a.2 with⟨rfl,c⟩|⟨g,cap,cur,rfl,d,d,f⟩
 .have f:=AnyF.slices_SortFunc_none Tryz.afl none 0 (.func (.func 207) #[] #[]) w
  have h:Calls Tryz.prog 206 #[.slice none 0 0,.func (.func 207) #[] #[]] w _:=f;have f:l=[]:=je c;have f:kK l=[]:=je (by rw[b];exact c);refine h.mono λe w' ⟨he,hw⟩=>⟨he,?_,?_⟩
  .rw[hw,f];exact jh _ _ _ _
  .rw[hw];exact⟨rfl,rfl,rfl,aw _,λ_ _ _=>rfl⟩
 .have f:∀c w,(callFunc 207 c).run Tryz.prog w=.ok (.enter 207 c) w:=enters_of Tryz.func207 (by kernel_rfl) rfl
  have c:g<w.heap.size:=af d;have d:=AnyQ.slices_SortFunc_eq Tryz.afl 5 Tryz.isAgg101 Tryz.sizeOf101 jF rL QU pT QT 207 #[] g 0 cap l.toArray w f (axc g 0 l.toArray.size w) (axe rL (by decide) a) c (by simp;omega);have c:Calls Tryz.prog 206 #[.slice (some ⟨g,0,none⟩) l.length cap,.func (.func 207) #[] #[]] w _:=d;refine c.mono λe w' ⟨he,n,os,hw⟩=>⟨he,?_,?_⟩
  .have c:=axh rL (by decide) a n (Sort.pdq (ltOf pT) l.toArray 0 l.toArray.size (Lib.bitLen l.toArray.size) true true) os (by have:=(Sort.pdq_sorts (ltOf pT) QT l.toArray 0 l.toArray.size (Lib.bitLen l.toArray.size) true true (aY _) (aw _) (Or.inl rfl)).1.1;simpa using this);rw[hw];unfold Own;rw[b];exact c
  .rw[hw];exact axf w g n _ os
def Ints(w:World)(v:Value)(ks:List Int):Prop:=
 ∃a c,v=.slice a ks.length c/\ks.length<=c/\(ks=[]\/∃b o,a=some ⟨b,o,none⟩/\b<w.heap.size/\∀(j:Nat)(k:Int),ks[j]?=some k->w.cell? ⟨b,o+j,none⟩=some (.int .i64 k))
theorem Ints.grow(a:Ints w v ks)(d:Grow w w'):Ints w' v ks:=by
 obtain⟨e,c,f,g,a⟩:=a;refine⟨e,c,f,g,?_⟩;rcases a with a|⟨b,o,ha,hb,hc⟩
 .exact .inl a
 .refine .inr ⟨b,o,ha,bF hb d.size,λj k a=>?_⟩;rw[Grow.cells _ _ _ d hb];exact hc j k a
theorem Xg(w:World)(b o n c:Nat)(ks:List Int)(x:Int)(a:n<=ks.length)(d:ks.length<=1000000000)(d:∀(j:Nat)(k:Int),ks[j]?=some k->w.cell? ⟨b,o+j,none⟩=some (.int .i64 k)):
  Calls Tryz.prog 204 #[.slice (some ⟨b,o,none⟩) n c,.int .i64 x] w λe w'=>e=.returned (.bool ((ks.take n).contains x))/\w'=w:=by
 have e:=AnyG.slices_Contains_int Tryz.afn b o n c ks x w a (by omega) (λj a=>by rw[d j ks[j] (by simp[a])];simp[List.getD,a])
 exact e
theorem axn(w:World)(a:Option Addr)(c:Nat)(x:Int):Calls Tryz.prog 204 #[.slice a 0 c,.int .i64 x] w λe w'=>e=.returned (.bool false)/\w'=w:=
 AnyG.slices_Contains_int_empty Tryz.afn a c x w
theorem axo(a:Ints w v ks)(d:ks.length<=1000000000)(x:Int):Calls Tryz.prog 204 #[v,.int .i64 x] w λe w'=>e=.returned (.bool (ks.contains x))/\w'=w:=by
 obtain⟨e,c,rfl,_,a⟩:=a;cases ks with
 |nil=>exact axn w e c x
 |cons k ks=>
  rcases a with a|⟨b,o,rfl,hb,hc⟩
  .cases a
  .have:=Xg w b o (k::ks).length c (k::ks) x (aw _) d hc;rw[iA]at this;exact this
def kj(l:List Tb)(f:Int):Bool:=l.any λt=>decide (t.file=f)
theorem axp(f:Int)(B:Nat)(w:World)(b:B<w.heap.size)(c:w.cell? ⟨B,0,none⟩=some (.int .i64 f)):
  PredBelow Tryz.prog 225 #[.pointer (some ⟨B,0,none⟩)] (λx=>.agg (jF x).toArray) (λx=>decide (x.file=f)) w:=λW x a=>by
 have d:W.cell? ⟨B,0,none⟩=some (.int .i64 f):=(a.cell (p:=⟨B,0,none⟩) b).trans c;have c:B<W.heap.size:=bF b a.size;have b:B≠W.heap.size:=by omega
 obtain⟨x0,x1,x2,x3,x4⟩:=x;show Calls Tryz.prog 225 #[.agg #[.int .i64 x0,.int .i64 x1,.string x2,.string x3,.int .i64 x4],.pointer (some ⟨B,0,none⟩)] W _;have b:decide (x0=f)=(x0==f):=by by_cases c:x0=f<;>simp[c]
 simp only[b];go_enter Tryz.func225,Tryz.ntmps225;go_wp2;go_ret;exact⟨rfl,a.alloc a.size _⟩
theorem age(w:World)(a:Option Addr)(c:Nat)(b:Value):Calls Tryz.prog 166 #[.slice a 0 c,b] w λe w'=>e=.returned (.int .i64 (-1))/\w'=w:=by go_enter Tryz.func166,Tryz.ntmps166;go_wp2;refine wp_loop_rounds 1 ?_;rw[rounds_succ];go_wp2;go_ret;exact⟨rfl,rfl⟩
theorem axq(w:World)(a:Option Addr)(c:Nat)(b:Value):Calls Tryz.prog 118 #[.slice a 0 c,b] w λe w'=>e=.returned (.bool false)/\Below w.heap.size w w':=by
 go_enter Tryz.func118,Tryz.ntmps118
 go_wp2_with fail
 (with_reducible refine(age _ _ _ _).mono ?_);rintro e w' ⟨rfl,rfl⟩;go_wp2;go_ret;exact⟨rfl,bW _ _⟩
theorem agf{l:List Tb}(a:Own B w v l)(b:l.length<1000000000)(f:Int):
  Calls Tryz.prog 203 #[v,.int .i64 f] w λe w'=>e=.returned (.bool (kj l f))/\Grow w w':=by
 have b:Grow w (w.alloc (.cells #[.int .i64 f] 3)):=ar _ _;have h:(w.alloc (.cells #[.int .i64 f] 3)).cell? ⟨w.heap.size,0,none⟩=some (.int .i64 f):=by simp
 have k:Calls Tryz.prog 118 #[v,.func (.func 225) #[] #[.pointer (some ⟨w.heap.size,0,none⟩)]] (w.alloc (.cells #[.int .i64 f] 3)) λe w'=>e=.returned (.bool (kj l f))/\Below (w.alloc (.cells #[.int .i64 f] 3)).heap.size (w.alloc (.cells #[.int .i64 f] 3)) w':=by
  rcases a.2 with⟨rfl,m⟩|⟨g,cap,cur,rfl,d,d,o⟩
  .have o:l=[]:=je m;rw[o];exact axq _ _ _ _
  .have p:∀o w,(callFunc 225 o).run Tryz.prog w=.ok (.enter 225 o) w:=enters_of Tryz.func225 (by kernel_rfl) rfl
   have o:g<w.heap.size:=af d;have q:=(xS rL a).grow o b;have o:=AnyQ.slices_ContainsFunc Tryz.avS 5 Tryz.isAgg101 Tryz.sizeOf101 jF rL (λx=>decide (x.file=f)) 225 #[.pointer (some ⟨w.heap.size,0,none⟩)] p g 0 l.length cap l (w.alloc (.cells #[.int .i64 f] 3))
    (axp f w.heap.size _ (by simp) h) (aw _) (by omega) (by simp;omega) (λj p i s t=>q j l[j]! (by rw[getElem!_pos l j p];simp[p]) i s t)
   rw[iA]at o;exact o
 have i:=ae k;have j:=ae b;obtain⟨o,o,o,rfl⟩:∃o n c,v=.slice o n c:=by rcases a.2 with⟨rfl,m⟩|⟨g,cap,cur,rfl,_⟩<;>exact⟨_,_,_,rfl⟩
 generalize kj l f=r at*;clear a k b h;go_enter Tryz.func203,Tryz.ntmps203
 go_wp2_with fail
 (with_reducible refine i.out.mono ?_);rintro e w' ⟨rfl,d⟩;go_wp2;go_ret;exact⟨rfl,j.out.trans d⟩
theorem Tryz.Xh:(Tryz.prog.info? 101).map (λi=>(i.zero,i.size,i.bytes))=some (some (.agg #[.int .i64 0,.int .i64 0,.string ByteArray.empty,.string ByteArray.empty,.int .i64 0]),5,56):=by kernel_rfl
theorem xG{l:List Tb}(a:Own B w v l)(b:l.length<1000000000):
  Calls Tryz.prog 117 #[v] w λe w'=>∃v',e=.returned v'/\Own w.heap.size w' v' l/\Grow w w':=by
 rcases a.2 with⟨rfl,b⟩|⟨g,cap,cur,rfl,c,c,c⟩
 .have c:l=[]:=je b;subst c;have b:Calls Tryz.prog 117 #[.slice none 0 0] w _:=AnyE.slices_Clone_nil Tryz.afm 0 0 w;exact b.mono λe w' ⟨he,hw⟩=>⟨_,he,jh _ _ _ _,by rw[hw];exact aW _⟩
 .obtain⟨c,d,f,h,i⟩:=info_parts Tryz.Xh
  have b:Calls Tryz.prog 117 #[.slice (some ⟨g,0,none⟩) l.length cap] w _:=AnyE.slices_Clone Tryz.afm c _ 5 56 d f h i rfl (by decide) Tryz.sizeOf101 g 0 l.length cap (mP l) w a.1 (by unfold maxLen;omega) (by omega)
   (λj c c=>by
    have d:j<l.length*5:=by have:=(dW.1 c).1;rw[a.1]at this;exact this
    rw[Nat.zero_add,a.cellAt j d,c]) (axj l)
  exact b.mono λe w' ⟨v',he,ho,_,hb⟩=>⟨v',he,ho,hb⟩
theorem aK(a:w.heap[b]?=some (.cells cur t f))(o:Nat)(v:Value):(w.setCell ⟨b,o,none⟩ v).heap[b]?=some (.cells (cur.setIfInBounds o v) t f):=by simp only[World.setCell];rw[Array.getElem?_modify,a];simp
theorem jB(w:World)(b o:Nat)(v:Value):w.grownBy (w.setCell ⟨b,o,none⟩ v) (some b):=⟨rfl,rfl,rfl,by simp,λk _ a=>aN _ _ _ _ (λb=>a (by rw[b]))⟩
theorem xD{r:Option Nat}(a:w1.grownBy w2 r)(k:w2.grownBy w3 r):w1.grownBy w3 r:=
 ⟨k.os.trans a.os,k.tape.trans a.tape,k.output.trans a.output,aJ a.size k.size,λb c d=>by rw[k.block b (bF c a.size) d,a.block b c d]⟩
theorem agh{b:Nat}:∀(cs:List Value)(o:Nat)(w:World)(cur:Array Value)(t:TypeId) (f:Nat×Nat),w.heap[b]?=some (.cells cur t f)->
  ∃a,(w.setCells b o cs).heap[b]?=some (.cells a t f)/\a.size=cur.size/\(∀m,m<=o->a.toList.take m=cur.toList.take m)/\w.grownBy (w.setCells b o cs) (some b)
 | [],o,w,cur,t,f,h=>⟨cur,h,rfl,λ_ _=>rfl,⟨rfl,rfl,rfl,aw _,λ_ _ _=>rfl⟩⟩
 |v::cs,o,w,cur,t,f,h=>by
  have c:=aK h o v;obtain⟨a,d,e,g,h⟩:=agh cs (o+1) _ _ t f c;refine⟨a,d,by simpa using e,λm a=>?_,?_⟩
  .rw[g m (by omega)];simp[Array.toList_setIfInBounds,List.take_set_of_le,a]
  .exact xD (jB w b o v) h
theorem agi:∀(d:List Tb)(i:Nat)(t:Tb),i<d.length->mP (d.set i t)=(((((mP d).set (i*5) (.int .i64 t.file)).set (i*5+1) (.int .i64 t.level)).set (i*5+2) (.string t.first)).set (i*5+3) (.string t.last)).set (i*5+4) (.int .i64 t.size)
 | [],i,t,h=>by simp at h
 |x::d,0,t,_=>by simp[mP,jF]
 |x::d,i+1,t,h=>by
  have b:=agi d i t (by simpa using h);have a:∀c,(i+1)*5+c=(i*5+c)+1+1+1+1+1:=λc=>by omega
  have c:(i+1)*5=(i*5)+1+1+1+1+1:=by omega
  have e:mP (x::d)=.int .i64 x.file:: .int .i64 x.level:: .string x.first:: .string x.last:: .int .i64 x.size::mP d:=rfl;rw[lU,e,a 1,a 2,a 3,a 4,c];simp only[lU];rw[<-b];rfl
theorem axr{d:List Tb}(a:w.ownsRow B 101 5 (.slice (some ⟨g,0,none⟩) n cap) n (mP d))(b:d.length=n)(hi:i<n)(t:Tb)(c:w'=((((w.setCell ⟨g,i*5,none⟩ (.int .i64 t.file)).setCell ⟨g,i*5+1,none⟩ (.int .i64 t.level)).setCell ⟨g,i*5+2,none⟩ (.string t.first)).setCell ⟨g,i*5+3,none⟩ (.string t.last)).setCell ⟨g,i*5+4,none⟩ (.int .i64 t.size)):
  w'.ownsRow B 101 5 (.slice (some ⟨g,0,none⟩) n cap) n (mP (d.set i t))/\w.grownBy w' (some g):=by
 rcases a.2 with⟨a,_⟩|⟨e,e,cur,a,e,f,h,j,k,l⟩
 .cases a
 .cases a
  subst c;refine⟨⟨by rw[<-b];have:=IE rL (d.set i t);rw[List.length_set]at this;exact this,.inr ⟨g,cap,((((cur.setIfInBounds (i*5) (.int .i64 t.file)).setIfInBounds (i*5+1) (.int .i64 t.level)).setIfInBounds (i*5+2) (.string t.first)).setIfInBounds (i*5+3) (.string t.last)).setIfInBounds (i*5+4) (.int .i64 t.size),rfl,e,?_,h,j,by simpa using k,?_⟩⟩,?_⟩
  .exact aK (aK (aK (aK (aK f _ _) _ _) _ _) _ _) _ _
  .rw[agi d i t (by omega),<-l];simp only[Array.toList_setIfInBounds,List.take_set]
  .exact xD (xD (xD (xD (jB _ _ _ _) (jB _ _ _ _)) (jB _ _ _ _)) (jB _ _ _ _)) (jB _ _ _ _)
theorem axs(w:World):(zeroValue 101).run Tryz.prog w=.ok (.agg #[.int .i64 0,.int .i64 0,.string ByteArray.empty,.string ByteArray.empty,.int .i64 0]) w:=by kernel_rfl
theorem axt(w:World)(g o n c:Nat)(hn:0<n)(hc:∀j,j<n*5->(w.cell? ⟨g,o+j,none⟩).isSome=true)(hf:∀j,j<n*5->w.frozen? ⟨g,o+j,none⟩=false):
  ∃cs,(Builtin.clear_ #[83] 0 #[.slice (some ⟨g,o,none⟩) n c]).run Tryz.prog w=.ok (.tuple #[]) (w.setCells g o cs):=by
 obtain⟨za,hza,hsz,mQ⟩:∃za:Array Value,(∀w,(zeroValue 101).run Tryz.prog w=.ok (.agg za) w)/\za.size=5/\∀i,i<5->(za[i]!).oneCell'=true:=⟨_,axs,rfl,λi hi=>by
  match i,hi with
  |0,_=>rfl
  |1,_=>rfl
  |2,_=>rfl
  |3,_=>rfl
  |4,_=>rfl⟩
 have hlen:(Builtin.zeroCells za n).toList.length=n*5:=by rw[ia,size_zeroCells,hsz]
 have hst:=run_storeCells_cells (P:=Tryz.prog) g o (Builtin.zeroCells za n).toList 0 w (by rw[hlen];simpa using hc) (by rw[hlen];simpa using hf) (by intro v hv;obtain⟨i,hi,rfl⟩:=List.mem_iff_getElem.1 hv;simp only[Builtin.zeroCells,Array.toList_map,List.getElem_map];have:=mQ (i%5) (Nat.mod_lt _ (by decide));simpa[hsz]using this)
 simp only[Nat.add_zero]at hst;obtain⟨m,rfl⟩:∃m,n=m+1:=⟨n-1,by omega⟩
 refine⟨(Builtin.zeroCells za (m+1)).toList,?_⟩;simp[Builtin.clear_,run_underlying Tryz.underlying83,hza,Value.cells,hst]
theorem axv{eb:Nat}{s n:Int}(a:w.heap[eb]?=some (.cells #[av,dv,.int .u64 s,.int .i64 n,.int .i64 wl] 148 (0,0)))(b:Ints w dv ks)(d:ks.length<=1000000000)(x:Tb):
  Calls Tryz.prog 205 #[.agg (jF x).toArray,.pointer (some ⟨eb,0,none⟩)] w λe w'=>e=.returned (.bool (ks.contains x.file))/\Grow w w':=by
 obtain⟨x0,x1,x2,x3,x4⟩:=x;obtain⟨c,c,c,c,c⟩:=dI a;have c:=af a;have c:eb≠w.heap.size:=by omega
 have c:=axo (b.grow (ar w (.cells #[.int .i64 x0,.int .i64 x1,.string x2,.string x3,.int .i64 x4] 101))) d x0;obtain⟨d,d,rfl,_⟩:=b;have b:=ae c;simp only[jF];generalize ks.contains x0=r at*;clear c a;go_enter Tryz.func205,Tryz.ntmps205
 go_wp2_with fail
 (with_reducible refine b.out.mono ?_);rintro e w' ⟨rfl,rfl⟩;go_wp2;go_ret;exact⟨rfl,ar _ _⟩
def iY(ks:List Int)(t:Tb):Bool:= !ks.contains t.file
def Xi(B:Nat)(w:World)(g n cap:Nat)(l:List Tb)(ks:List Int)(b c:Value)(wr:World):Prop:=
 ∃(i j:Nat)(a:List Tb),b=.int .i64 i/\c=.int .i64 j/\i<j/\j<=n/\a.length=n/\wr.ownsRow B 101 5 (.slice (some ⟨g,0,none⟩) n cap) n (mP a)/\a.take i=(l.take j).filter (iY ks)/\a.drop j=l.drop j/\Below B w wr
theorem Eh{α:Type}{l:List α}{x:α}(a:l[j]?=some x):l.take (j+1)=l.take j++[x]:=by obtain⟨b,rfl⟩:=dW.1 a;rw[List.take_succ_eq_append_getElem b]
theorem axw{l:List Tb}{p:Tb->Bool}:(Lib.idxBy (λ_ y=>p y) l default= -1/\∀x∈l,p x=false)\/∃(i:Nat)(x:Tb),Lib.idxBy (λ_ y=>p y) l default=(i:Int)/\l[i]?=some x/\p x=true/\∀y∈l.take i,p y=false:=by
 have f:∀(l:List Tb)(a:Nat),(Lib.idxByFrom (λ_ y=>p y) default l a= -1/\∀x∈l,p x=false)\/∃(i:Nat)(x:Tb),Lib.idxByFrom (λ_ y=>p y) default l a=((a+i:Nat):Int)/\l[i]?=some x/\p x=true/\∀y∈l.take i,p y=false:=by
  intro l
  induction l with
  |nil=>intro a;exact .inl ⟨rfl,(λx c=>by cases c)⟩
  |cons e l g=>
   intro a;cases d:p e with
   |true=>exact .inr ⟨0,e,by simp[Lib.idxByFrom,d],rfl,d,(λy b=>by simp at b)⟩
   |false=>
    have h:Lib.idxByFrom (λ_ y=>p y) default (e::l) a=Lib.idxByFrom (λ_ y=>p y) default l (a+1):=by simp[Lib.idxByFrom,d]
    rw[h];rcases g (a+1)with⟨a,e⟩|⟨i,x,a,e,g,h⟩
    .refine .inl ⟨a,λx c=>?_⟩
     rcases bI.1 c with rfl|c
     .exact d
     .exact e x c
    .refine .inr ⟨i+1,x,by rw[a];congr 1;omega,by simpa using e,g,λy b=>?_⟩
     rw[List.take_succ_cons]at b;rcases bI.1 b with rfl|b
     .exact d
     .exact h y b
 rcases f l 0 with b|⟨i,x,a,e⟩
 .exact .inl b
 .exact .inr ⟨i,x,by unfold Lib.idxBy;rw[a];congr 1;omega,e⟩
theorem Xj{d:List Tb}(b:w.ownsRow B 101 5 (.slice (some ⟨g,0,none⟩) n cap) n (mP d))(a:d.length=n){t:Tb}(c:d[j]?=some t):
  w.cell? ⟨g,j*5,none⟩=some (.int .i64 t.file)/\w.cell? ⟨g,j*5+1,none⟩=some (.int .i64 t.level)/\w.cell? ⟨g,j*5+2,none⟩=some (.string t.first)/\w.cell? ⟨g,j*5+3,none⟩=some (.string t.last)/\w.cell? ⟨g,j*5+4,none⟩=some (.int .i64 t.size):=by
 subst a;have a:=xS rL b j t c;have b:=a 0 _ rfl;have c:=a 1 _ rfl;have d:=a 2 _ rfl;have e:=a 3 _ rfl;have f:=a 4 _ rfl;simp only[Nat.zero_add,Nat.add_zero]at b c d e f;exact⟨b,c,d,e,f⟩
theorem QV(a:w.ownsRow B 101 5 (.slice (some ⟨g,0,none⟩) n cap) n xs):∃cur,w.heap[g]?=some (.cells cur 101 (0,0))/\B<=g/\n<=cap/\cap<=maxLen/\cur.size=cap*5/\cur.toList.take (n*5)=xs:=by
 rcases a.2 with⟨b,_⟩|⟨a,a,cur,b,a⟩
 .cases b
 .cases b;exact⟨cur,a.2.1,a.1,a.2.2.1,a.2.2.2.1,a.2.2.2.2.1,a.2.2.2.2.2⟩
theorem axx{l:List Tb}(h:Own B w (.slice (some ⟨g,0,none⟩) l.length cap) l)(a:l.length<1000000000)(o:B<=w.heap.size){eb:Nat}(c:eb<B){s n:Int}(f:w.heap[eb]?=some (.cells #[av,dv,.int .u64 s,.int .i64 n,.int .i64 wl] 148 (0,0)))(q:Below B w0 w)(r:Ints w0 dv ks)(d:w0.heap.size<=B)(m:ks.length<=1000000000):
  Calls Tryz.prog 164 #[.slice (some ⟨g,0,none⟩) l.length cap,.func (.func 205) #[] #[.pointer (some ⟨eb,0,none⟩)]] w λe w'=>∃v',e=.returned v'/\Own B w' v' (l.filter (iY ks))/\Below B w w':=by
 have b:∀W,Below B w W->∀x:Tb,Calls Tryz.prog 205 #[.agg #[.int .i64 x.file,.int .i64 x.level,.string x.first,.string x.last,.int .i64 x.size],.pointer (some ⟨eb,0,none⟩)] W λe w'=>e=.returned (.bool (ks.contains x.file))/\Grow W w':=λW a x=>by
  refine axv (av:=av) (dv:=dv) (s:=s) (n:=n) (wl:=wl) ?_ ?_ m x
  .rw[a.block eb c];exact f
  .have c:=q.trans a;exact r.grow (c.mono d)
 obtain⟨cur,hg,c,hn,c,hs,m⟩:=QV h;have s:=af hg;have u:∀c w,(callFunc 205 c).run Tryz.prog w=.ok (.enter 205 c) w:=enters_of Tryz.func205 (by kernel_rfl) rfl
 have n:=xS rL h;have d:Calls Tryz.prog 166 #[.slice (some ⟨g,0,none⟩) l.length cap,.func (.func 205) #[] #[.pointer (some ⟨eb,0,none⟩)]] w _:=AnyQ.slices_IndexFunc Tryz.kh 5 Tryz.isAgg101 Tryz.sizeOf101 jF rL (λx=>ks.contains x.file) 205 #[.pointer (some ⟨eb,0,none⟩)] u g 0 l.length cap l w
  (λW x a=>(b W (a.mono o) x).mono λe w' ⟨he,hg⟩=>⟨he,a.trans (hg.mono a.size)⟩) (aw _) (by omega) s (λj a i c s=>n j l[j]! (by rw[getElem!_pos l j a];simp[a]) i c s)
 rw[iA]at d;have c:=ae d;have y:=ae b;have s:=ae h;clear d b f q r n m hg;rcases axw (l:=l) (p:=λx=>ks.contains x.file)with⟨b,f⟩|⟨a,x0,h,d,p,q⟩
 .have n:l.filter (iY ks)=l:=List.filter_eq_self.2 λx r=>by simp only[iY,f x r,Bool.not_false]
  rw[b]at c;have r:=ae n;clear b f n;go_enter Tryz.func164,Tryz.ntmps164
  go_wp2_with fail
  (with_reducible refine c.out.mono ?_);rintro e w1 ⟨rfl,b⟩;go_wp2;go_ret;exact⟨_,rfl,by rw[r.out];exact fB s.out b,b.mono o⟩
 .rw[h]at c
  have r:a<l.length:=(dW.1 d).1;have f:l.take a=(l.take (a+1)).filter (iY ks):=by
   rw[Eh d,List.filter_append];have n:(l.take a).filter (iY ks)=l.take a:=List.filter_eq_self.2 λu v=>by simp only[iY,q u v,Bool.not_false]
   have u:iY ks x0=false:=by unfold iY;have:ks.contains x0.file=true:=p;rw[this];rfl
   rw[n,List.filter_cons_of_neg (by rw[u];decide),List.filter_nil,List.append_nil]
  have u:=ae f;have v:((a:Int)== -1)=false:=by simp
  clear h d p q f;go_enter Tryz.func164,Tryz.ntmps164
  go_wp2_with fail
  (with_reducible refine c.out.mono ?_);rintro e w1 ⟨rfl,b⟩;have c:=ae (fB s.out b);have d:=ae (b.mono o);clear b
  go_wp2_with fail
  go_loopw [5,6] (λf b wr=>Xi B w g l.length cap l ks f b wr) (λ_ b _=>l.length-(intOf b).toNat)
  case atStart=>exact⟨a,a+1,l,rfl,rfl,by omega,r,rfl,c.out,u.out,rfl,d.out⟩
  case round=>
   obtain⟨i,j,b,rfl,rfl,a,a,r,p,s,A,q⟩:=hrel;by_cases C:j<l.length
   .obtain⟨t,m⟩:∃t,l[j]?=some t:=⟨l[j],by simp[C]⟩
    have D:b[j]?=some t:=by
     have n:(b.drop j)[0]?=(l.drop j)[0]?:=by rw[A]
     simpa[m]using n
    obtain⟨a,v⟩:∃a,b[i]?=some a:=⟨b[i],by simp[show i<b.length by omega]⟩
    obtain⟨c0,c1,c2,c3,c4⟩:=Xj p r D;obtain⟨cur,u,_⟩:=QV p;have a:=af u;have a:(j:Int)<(l.length:Int):=by omega
    have a:(0:Int)<=(j:Int):=by omega
    have O:(i:Int)<(l.length:Int):=by omega
    have P:(0:Int)<=(i:Int):=by omega
    have a:IntKind.i64.wrap ((i:Int)+1)=(i:Int)+1:=aQ _ (by omega);have a:IntKind.i64.wrap ((j:Int)+1)=(j:Int)+1:=aQ _ (by omega);obtain⟨a,c,d,f,h⟩:=t;have t:Below B w (wr.alloc (.cells #[.int .i64 a,.int .i64 c,.string d,.string f,.int .i64 h] 101)):=q.alloc (aJ o q.size) _;have E:=y.out _ t ⟨a,c,d,f,h⟩;have F:(wr.alloc (.cells #[.int .i64 a,.int .i64 c,.string d,.string f,.int .i64 h] 101)).heap[wr.heap.size]?=some (.cells #[.int .i64 a,.int .i64 c,.string d,.string f,.int .i64 h] 101 (0,0)):=ax _ _;have G:Grow wr (wr.alloc (.cells #[.int .i64 a,.int .i64 c,.string d,.string f,.int .i64 h] 101)):=ar _ _;have H:=Eh m;have y:=ae E;have I:=ae F;have J:=ae G;have K:=ae p;have z:=ae D;have Q:=ae v;have L:=ae s;have M:=ae A;have z:=ae q;have z:=ae t;have N:=ae H;clear E F G p D v s A q t H m u;dsimp only at y;cases t:ks.contains a with
    |true=>
     rw[t]at y;have E:Hid ((l.take (j+1)).filter (iY ks)=b.take i):=ae (by rw[N.out,List.filter_append,<-L.out,List.filter_cons_of_neg (by simp only[iY,t];decide),List.filter_nil,List.append_nil])
     clear t
     go_wp2_with fail
     (with_reducible refine y.out.mono ?_);rintro e w3 ⟨rfl,m⟩;have D:Hid (Xi B w g l.length cap l ks (.int .i64 (i:Nat)) (.int .i64 ((j+1:Nat):Int)) w3):=ae ⟨i,j+1,b,rfl,rfl,by omega,C,r,fB (fB K.out J.out) m,E.out.symm,by have n:=congrArg (List.drop 1) M.out;simpa[List.drop_drop,Nat.add_comm]using n,z.out.trans (m.mono (aJ o z.out.size))⟩
     clear m;go_wp2;go_roundw
     case rel=>exact D.out
     case measure=>simp[intOf];omega
    |false=>
     rw[t]at y;have E:iY ks ⟨a,c,d,f,h⟩=true:=by simp only[iY,t];rfl
     have F:=ae E;clear t E
     go_wp2_with fail
     (with_reducible refine y.out.mono ?_);rintro e w3 ⟨rfl,m⟩;have e:=fB (fB K.out J.out) m;obtain⟨t,t,t,t,t⟩:=dI (m.heap I.out);obtain⟨t,t,t,t,t⟩:=Xj e r Q.out;have t:=e.frozenAt (i*5);have t:=e.frozenAt (i*5+1);have t:=e.frozenAt (i*5+2);have t:=e.frozenAt (i*5+3);have t:=e.frozenAt (i*5+4);obtain⟨t,t,G,_⟩:=QV e;have y:=af t;have y:=af (m.heap I.out);obtain⟨y,E⟩:=axr e r (show i<l.length by omega) ⟨a,c,d,f,h⟩ rfl;have D:Hid (Xi B w g l.length cap l ks (.int .i64 ((i+1:Nat):Int)) (.int .i64 ((j+1:Nat):Int)) (((((w3.setCell ⟨g,i*5,none⟩ (.int .i64 a)).setCell ⟨g,i*5+1,none⟩ (.int .i64 c)).setCell ⟨g,i*5+2,none⟩ (.string d)).setCell ⟨g,i*5+3,none⟩ (.string f)).setCell ⟨g,i*5+4,none⟩ (.int .i64 h))):=ae (by
      refine⟨i+1,j+1,b.set i ⟨a,c,d,f,h⟩,rfl,rfl,by omega,C,by rw[List.length_set];exact r,y,?_,?_,?_⟩
      .rw[N.out,List.filter_append,<-L.out,List.filter_cons_of_pos F.out,List.filter_nil];rw[Eh (x:=(⟨a,c,d,f,h⟩:Tb)) (by simp[show i<b.length by omega])];rw[List.take_set_of_le (aw i)]
      .have n:=congrArg (List.drop 1) M.out;rw[List.drop_set_of_lt (by omega)];simpa[List.drop_drop,Nat.add_comm]using n
      .exact(z.out.trans (m.mono (aJ o z.out.size))).grown E (aJ (aJ o z.out.size) m.size) (λk c=>by cases c;exact G))
     clear y E e m t;go_wp2;go_roundw
     case rel=>exact D.out
     case measure=>simp[intOf];omega
   .obtain rfl:j=l.length:=by omega
    rw[iA]at s;obtain⟨cur,u,e,a,x,d,f⟩:=QV p;have h:∀a,a<(l.length-i)*5->(wr.cell? ⟨g,i*5+a,none⟩).isSome=true:=λa j=>by
     have:i*5+a<cur.size:=by rw[d];omega
     simp[World.cell?,u,this]
    obtain⟨cs,j⟩:=axt wr g (i*5) (l.length-i) (cap-i) (by omega) h (λa _=>p.frozenAt _);obtain⟨y,a,j,v,m⟩:=agh cs (i*5) wr cur _ _ u;have n:Hid (Own B (wr.setCells g (i*5) cs) (.slice (some ⟨g,0,none⟩) i cap) (l.filter (iY ks))/\Below B w (wr.setCells g (i*5) cs)):=ae (by
     have t:(l.filter (iY ks)).length=i:=by rw[<-s,List.length_take,r];omega
     refine⟨⟨IE rL _,.inr ⟨g,cap,y,by rw[t],e,a,by omega,x,by rw[j,d],?_⟩⟩,q.grown m (aJ o q.size) (λk c=>by cases c;exact e)⟩;rw[t,v (i*5) (aw _),<-s,mP,<-axd rL b i (by omega),<-mP,<-f,List.take_take,Nat.min_eq_left (by omega)])
    have O:(i:Int)<=(l.length:Int):=by omega
    have P:(0:Int)<=(i:Int):=by omega
    have b:(l.length:Int)<=(cap:Int):=by omega
    have b:cap-i≠0:=by omega
    clear h a j v m u p s A q f d;generalize wr.setCells g (i*5) cs=a at*
    go_wp2_with fail
    go_ret;exact⟨_,rfl,n.out.1,n.out.2⟩
theorem axI(w:World)(a:Value):Calls Tryz.prog 164 #[.slice none 0 0,a] w λe w'=>e=.returned (.slice none 0 0)/\w'=w:=by
 go_enter Tryz.func164,Tryz.ntmps164
 go_wp2_with fail
 (with_reducible refine(age _ _ _ _).mono ?_);rintro e w1 ⟨rfl,rfl⟩;go_wp2;go_ret;exact⟨rfl,rfl⟩
theorem axJ{l:List Tb}(a:Own B w v l)(b:l.length<1000000000)(c:B<=w.heap.size){eb:Nat}(d:eb<B){s n:Int}(f:w.heap[eb]?=some (.cells #[av,dv,.int .u64 s,.int .i64 n,.int .i64 wl] 148 (0,0)))(h:Below B w0 w)(i:Ints w0 dv ks)(j:w0.heap.size<=B)(k:ks.length<=1000000000):
  Calls Tryz.prog 164 #[v,.func (.func 205) #[] #[.pointer (some ⟨eb,0,none⟩)]] w λe w'=>∃v',e=.returned v'/\Own B w' v' (l.filter (iY ks))/\Below B w w':=by
 rcases a.2 with⟨rfl,m⟩|⟨g,cap,cur,rfl,_⟩
 .have g:l=[]:=je m;subst g;exact(axI w _).mono λe w' ⟨he,hw⟩=>⟨_,he,jh _ _ _ _,by rw[hw];exact bW _ _⟩
 .exact axx a b c d f h i j k
def IG(a b:Tb):Bool:=decide (0<b.level)&&((b.level==a.level)&&(Op.bytesLess b.first.toList a.last.toList||b.first.toList==a.last.toList))
def mU:List Tb->Bool
 |a::b::r=>IG a b||mU (b::r)
 |_=>false
theorem axK{l:List Tb}{a b:Tb}(c:l[k]?=some a)(d:l[k+1]?=some b):mU (l.drop k)=(IG a b||mU (l.drop (k+1))):=by obtain⟨a,rfl⟩:=dW.1 c;obtain⟨b,rfl⟩:=dW.1 d;rw[nA a,nA b];rfl
def axL(w:World)(l:List Tb)(a:Value)(wr:World):Prop:=
 ∃i k:Nat,a=.int .i64 i/\i=k+1/\(i<=l.length\/i=1)/\mU l=mU (l.drop k)/\Grow w wr
theorem axM{l:List Tb}(a:Own B w v l)(d:l.length<1000000000):
  Calls Tryz.prog 208 #[v] w λe w'=>e=.returned (.bool (mU l))/\Grow w w':=by
 obtain⟨d,d,rfl,e⟩:∃d c,v=.slice d l.length c/\(0<l.length->∃g,d=some ⟨g,0,none⟩/\g<w.heap.size/\∀(j:Nat)(t:Tb),l[j]?=some t->w.cell? ⟨g,j*5,none⟩=some (.int .i64 t.file)/\w.cell? ⟨g,j*5+1,none⟩=some (.int .i64 t.level)/\w.cell? ⟨g,j*5+2,none⟩=some (.string t.first)/\w.cell? ⟨g,j*5+3,none⟩=some (.string t.last)/\w.cell? ⟨g,j*5+4,none⟩=some (.int .i64 t.size)):=by
  rcases a.2 with⟨rfl,c⟩|⟨g,cap,cur,rfl,f,m,f⟩
  .exact⟨none,0,by rw[c],λf=>by omega⟩
  .exact⟨_,cap,rfl,λ_=>⟨g,rfl,af m,λj t c=>Xj a rfl c⟩⟩
 have q:=ae e;have c:=Grow.cells (w:=w);clear a e;go_enter Tryz.func208,Tryz.ntmps208;go_wp2
 go_loopw [3] (λc wr=>axL w l c wr) (λc _=>l.length-(intOf c).toNat)
 case atStart=>exact⟨1,0,rfl,rfl,.inr rfl,rfl,aW _⟩
 case round=>
  obtain⟨i,k,rfl,n,y,o,m⟩:=hrel;by_cases p:i<l.length
  .obtain⟨b,c⟩:∃b,l[i]?=some b:=⟨l[i],by simp[p]⟩
   obtain⟨d,h⟩:∃d,l[k]?=some d:=⟨l[k],by simp[show k<l.length by omega]⟩
   obtain⟨g,rfl,e,j⟩:=q.out (by omega);obtain⟨A,B,C,D,E⟩:=j i b c;obtain⟨F,G,H,I,J⟩:=j k d h;have t:=axK h (by rw[<-n];exact c);have e:(0:Int)<=(i:Int):=by omega
   have e:(i:Int)<(l.length:Int):=by omega
   have e:(0:Int)<=(k:Int):=by omega
   have e:(k:Int)<(l.length:Int):=by omega
   have e:IntKind.i64.wrap ((i:Int)-1)=(k:Int):=by rw[aQ _ (by omega)];omega
   have e:IntKind.i64.wrap ((i:Int)+1)=(i:Int)+1:=aQ _ (by omega);have q:=ae t;have s:=ae o;have u:=ae n;have e:=ae m;obtain⟨g,g,x,v,v⟩:=b;obtain⟨v,v,z,z,K⟩:=d;dsimp only at A B C D E F G H I J;clear j h c t o n y;by_cases f:0<g
   .have h:decide (0<g)=true:=by simp[f]
    by_cases j:g=v
    .have t:(g==v)=true:=by simp[j]
     cases A:(Op.bytesLess x.toList z.toList||x.toList==z.toList)with
     |true=>
      have c:Hid (mU l=true):=ae (by rw[s.out,q.out];simp only[IG,h,t,A];rfl);clear f j
      go_wp2_with fail
      refine cN (λW=>Below w.heap.size w W) [] (by kernel_rfl) (bB λ_ _ _ _ _ a=>a) (e.out.trans (ay _)) ?_;simp only[ct]
      repeat ((first|(apply az;rfl;rintro W x;go_simp;with_reducible rfl)|(apply aA;rfl));simp only[ah,List.set])
      refine bg ?_;go_wp2;go_ret;exact⟨by rw[c.out];rfl,e.out.trans (ay _)⟩
     |false=>
      have c:Hid (mU l=mU (l.drop (k+1))):=ae (by rw[s.out,q.out];simp only[IG,h,t,A];rfl);clear f j
      go_wp2_with fail
      refine cN (λW=>Below w.heap.size w W) [] (by kernel_rfl) (bB λ_ _ _ _ _ a=>a) (e.out.trans (ay _)) ?_;simp only[ct]
      repeat ((first|(apply az;rfl;rintro W x;go_simp;with_reducible rfl)|(apply aA;rfl));simp only[ah,List.set])
      refine bg ?_;go_wp2;go_roundw
      case rel=>exact⟨i+1,k+1,rfl,by rw[u.out],.inl p,c.out,e.out.trans (ay _)⟩
      case measure=>simp[intOf];omega
    .have t:(g==v)=false:=by simpa using j
     have c:Hid (mU l=mU (l.drop (k+1))):=ae (by rw[s.out,q.out];simp only[IG,h,t];rfl);clear f j
     go_wp2_with fail
     refine cN (λW=>Below w.heap.size w W) [] (by kernel_rfl) (bB λ_ _ _ _ _ a=>a) (e.out.trans (ay _)) ?_;simp only[ct]
     repeat ((first|(apply az;rfl;rintro W x;go_simp;with_reducible rfl)|(apply aA;rfl));simp only[ah,List.set])
     refine bg ?_;go_wp2;go_roundw
     case rel=>exact⟨i+1,k+1,rfl,by rw[u.out],.inl p,c.out,e.out.trans (ay _)⟩
     case measure=>simp[intOf];omega
   .have h:decide (0<g)=false:=by simpa using f
    have c:Hid (mU l=mU (l.drop (k+1))):=ae (by rw[s.out,q.out];simp only[IG,h];rfl);clear f
    go_wp2_with fail
    refine cN (λW=>Below w.heap.size w W) [] (by kernel_rfl) (bB λ_ _ _ _ _ a=>a) (e.out.trans (ay _)) ?_;simp only[ct]
    repeat ((first|(apply az;rfl;rintro W x;go_simp;with_reducible rfl)|(apply aA;rfl));simp only[ah,List.set])
    refine bg ?_;go_wp2;go_roundw
    case rel=>exact⟨i+1,k+1,rfl,by rw[u.out],.inl p,c.out,e.out.trans (ay _)⟩
    case measure=>simp[intOf];omega
  .have c:Hid (mU l=false):=ae (by
    rw[o];have:(l.drop k).length<=1:=by rw[List.length_drop];omega
    cases a:l.drop k with
    |nil=>rfl
    |cons d r=>
     rw[a]at this;cases r with
     |nil=>rfl
     |cons b r=>simp at this)
   have a:(l.length:Int)<=(i:Int):=by omega
   clear o n y;go_wp2;go_ret;exact⟨by rw[c.out];rfl,m⟩
theorem rN(a:w.ownsRow B 101 5 v n xs)(c:w.heap[b]?=some (.cells arr t f))(d:t≠101){x:Value}:(w.setCell ⟨b,i,none⟩ x).ownsRow B 101 5 v n xs:=by
 refine⟨a.1,?_⟩;rcases a.2 with a|⟨g,cap,cur,a,h2,h3,h4⟩
 .exact .inl a
 .refine .inr ⟨g,cap,cur,a,h2,?_,h4⟩
  rw[aN _ _ _ _ (λa=>?_)]
  .exact h3
  .rw[a]at h3;dsimp only at h3;rw[c]at h3;cases h3;exact d rfl
abbrev bS(v:Value)(s n wl:Int):Array Value:=#[v,.int .u64 s,.int .i64 n,.int .i64 wl]
theorem dJ(a:w.heap[b]?=some (.cells #[x0,x1,x2,x3] t (0,0))):
  w.cell? ⟨b,0,none⟩=some x0/\w.cell? ⟨b,1,none⟩=some x1/\w.cell? ⟨b,2,none⟩=some x2/\w.cell? ⟨b,3,none⟩=some x3:=by
 simp[World.cell?,a]
theorem km{l:List Tb}(b:Own B w v l):∃a c,v=.slice a l.length c:=by
 rcases b.2 with⟨rfl,a⟩|⟨g,cap,cur,rfl,_⟩
 .exact⟨none,0,by rw[a]⟩
 .exact⟨_,_,rfl⟩
theorem agp{l:List Tb}(b:Own B w v l)(a:l.length<1000000000)(s n wl:Int):
  Calls Tryz.prog 67 #[.agg (bS v s n wl)] w λe w'=>∃v',e=.returned (.agg (bS v' s n wl))/\Own w.heap.size w' v' l/\Grow w w':=by
 have c:Grow w ((w.alloc (.cells (bS v s n wl) 85)).alloc (.cells (bS (.slice none 0 0) 0 0 0) 85)):=by((repeat (first|exact bW _ _|assumption|refine cC ?_|refine cD ?_|refine cw ?_ ?_ _|refine cB ?_ ?_ _))<;>try (first|omega|(simp<;>omega)))
 have f:=xG (fB b c) a;have a:((w.alloc (.cells (bS v s n wl) 85)).alloc (.cells (bS (.slice none 0 0) 0 0 0) 85)).heap[w.heap.size]?=some (.cells (bS v s n wl) 85 (0,0)):=(heap_alloc_old _ _ (by simp)).trans (ax _ _);have d:((w.alloc (.cells (bS v s n wl) 85)).alloc (.cells (bS (.slice none 0 0) 0 0 0) 85)).heap[w.heap.size+1]?=some (.cells (bS (.slice none 0 0) 0 0 0) 85 (0,0)):=by have:=ax (w.alloc (.cells (bS v s n wl) 85)) (.cells (bS (.slice none 0 0) 0 0 0) 85);simpa using this
 obtain⟨p,q,rfl⟩:=km b;obtain⟨g,h,i,j⟩:=dJ a;have k:=af a;have k:=af d;have r:=ae f;have k:=ae a;have m:=ae d;have o:=ae c;clear f a d c b;go_enter Tryz.func67,Tryz.ntmps67
 go_wp2_with fail
 generalize (w.alloc (.cells (bS (.slice p l.length q) s n wl) 85)).alloc (.cells (bS (.slice none 0 0) 0 0 0) 85)=a at*;(with_reducible refine r.out.mono ?_);rintro e w2 ⟨v',rfl,d,a⟩;obtain⟨f,p,rfl⟩:=km d;have b:=a.heap k.out;have c:=a.heap m.out;clear g h i j;obtain⟨g,h,i,j⟩:=dJ b;obtain⟨e,e,e,e⟩:=dJ c;have e:=bG b;have e:=bG c;have e:=af b;have e:=af c;have g:=ae d;have e:=ae a;clear b c d a;go_wp2;refine bodyPost_ret (v:=.agg (bS (.slice f l.length p) s n wl)) (by simp[results,Tryz.results67,go_sem, *]) rfl ⟨_,rfl,?_,?_⟩
 .have b:=e.out.heap k.out
  have c:=e.out.heap m.out;have d:w.heap.size+1≠w.heap.size:=by omega
  have a:∀x,(w2.setCell ⟨w.heap.size,0,none⟩ x).heap[w.heap.size+1]?=_:=λx=>(aN _ _ _ _ d).trans c
  refine rN (rN (rN (rN (rN (rK g.out o.out.size) b (by decide)) (a _) (by decide)) (aK (a _) _ _) (by decide)) (aK (aK (a _) _ _) _ _) (by decide)) (aK (aK (aK (a _) _ _) _ _) _ _) (by decide)
 .have a:Below w.heap.size w w2:=o.out.trans e.out
  ((repeat (first|exact bW _ _|assumption|refine cC ?_|refine cD ?_|refine cw ?_ ?_ _|refine cB ?_ ?_ _))<;>try (first|omega|(simp<;>omega)))
structure bM where
 tabs:List Tb
 seq:Int
 next:Int
 wal:Int
structure cO where
 add:List Tb
 drop:List Int
 seq:Int
 next:Int
 wal:Int
def dw:bM:=⟨[],0,0,0⟩
def sP(l:List Tb):List Int->List Int->Bool
 |_,[]=>false
 |pre,n::r=>(!kj l n||pre.contains n)||sP l (pre++[n]) r
def sQ(l:List Tb)(t:Tb):Bool:=
 decide (t.file<0)||(kj l t.file||(decide (t.level<0)||(decide (6<t.level)||(!(Op.bytesLess t.first.toList t.last.toList||t.first.toList==t.last.toList)||(decide (t.size<0)||(decide (1099511627776<t.file)||decide (1099511627776<t.size)))))))
def mV:List Tb->List Tb->Option (List Tb)
 |l,[]=>some l
 |l,t::r=>if sQ l t=true then none else mV (l++[t]) r
def sR(v:bM)(e:cO):Bool:=
 ((e.seq != 0)&&decide (e.seq<v.seq))||(((e.next != 0)&&decide (e.next<v.next))||(((e.wal != 0)&&decide (e.wal<v.wal))||(decide (1099511627776<e.next)||decide (1099511627776<e.wal))))
def bH(v:bM)(e:cO):Int×bM:=
 if sP v.tabs [] e.drop=true then(4,dw)else
 match mV (v.tabs.filter (iY e.drop)) e.add with
 |none=>(1,dw)
 |some l=>
  if 65536<(kK l).length then(1,dw)else
  if mU (kK l)=true then(15,dw)else
  if sR v e=true then(1,dw)else
  (0,⟨kK l,dA e.seq v.seq,dA e.next v.next,dA e.wal v.wal⟩)
def uD(w:World)(v:Value)(l:List Tb):Prop:=
 ∃a c,v=.slice a l.length c/\(l=[]\/∃b o,a=some ⟨b,o,none⟩/\b<w.heap.size/\Rd w b o jF 5 l)
theorem uD.grow{l:List Tb}(a:uD w v l)(d:Grow w w'):uD w' v l:=by
 obtain⟨e,c,f,a⟩:=a;refine⟨e,c,f,?_⟩;rcases a with a|⟨b,o,ha,hb,hr⟩
 .exact .inl a
 .exact .inr ⟨b,o,ha,bF hb d.size,hr.grow hb d⟩
def agq(w:World)(r:Int×bM)(e:Ending)(w':World):Prop:=
 ∃a,e=.returned (.tuple #[.agg (bS a r.2.seq r.2.next r.2.wal),.int .i64 r.1])/\Own w.heap.size w' a r.2.tabs/\Grow w w'
abbrev dY(av dv:Value)(s n wl:Int):Array Value:=#[av,dv,.int .u64 s,.int .i64 n,.int .i64 wl]
structure oX(w wr:World)(cv:Value)(s n wl:Int)(av dv:Value)(es en ew:Int):Prop where
 vb:wr.heap[w.heap.size]?=some (.cells (bS cv s n wl) 85 (0,0))
 eb:wr.heap[w.heap.size+1]?=some (.cells (dY av dv es en ew) 148 (0,0))
 rb:wr.heap[w.heap.size+1+1]?=some (.cells (bS (.slice none 0 0) 0 0 0) 85 (0,0))
 gr:Grow w wr
theorem oX.grow{s n:Int}{c:Int}(a:oX w wr cv s n wl av dv c en ew)(b:Grow wr wr'):oX w wr' cv s n wl av dv c en ew:=
 ⟨b.heap a.vb,b.heap a.eb,b.heap a.rb,a.gr.trans b⟩
theorem oX.start(w:World)(cv:Value)(s n wl:Int)(av dv:Value)(a en ew:Int):oX w (((w.alloc (.cells (bS cv s n wl) 85)).alloc (.cells (dY av dv a en ew) 148)).alloc (.cells (bS (.slice none 0 0) 0 0 0) 85)) cv s n wl av dv a en ew:=by
 refine⟨?_,?_,?_,by((repeat (first|exact bW _ _|assumption|refine cC ?_|refine cD ?_|refine cw ?_ ?_ _|refine cB ?_ ?_ _))<;>try (first|omega|(simp<;>omega)))⟩
 .rw[heap_alloc_old _ _ (by simp;omega),heap_alloc_old _ _ (by simp)];exact ax _ _
 .rw[heap_alloc_old _ _ (by simp)];have:=ax (w.alloc (.cells (bS cv s n wl) 85)) (.cells (dY av dv a en ew) 148);simpa using this
 .have:=ax ((w.alloc (.cells (bS cv s n wl) 85)).alloc (.cells (dY av dv a en ew) 148)) (.cells (bS (.slice none 0 0) 0 0 0) 85);simpa using this
theorem oX.below{s n:Int}{c:Int}(a:oX w w1 cv s n wl av dv c en ew)(b:Below B w1 w2)(d:w.heap.size+1+1<B):oX w w2 cv s n wl av dv c en ew:=
 ⟨by rw[b.block _ (by omega)];exact a.vb,by rw[b.block _ (by omega)];exact a.eb,by rw[b.block _ d];exact a.rb,Below.trans a.gr (b.mono (by omega))⟩
theorem oX.grown{r:Option Nat}{s n:Int}{c:Int}(a:oX w w1 cv s n wl av dv c en ew)(b:w1.grownBy w2 r)(d:∀k,r=some k->B<=k)(f:w.heap.size+1+1<B):oX w w2 cv s n wl av dv c en ew:=by
 have g:=af a.vb;have h:=af a.eb;have i:=af a.rb;have c:∀k,k<B->some k≠r:=λk e j=>by have:=d k j.symm;omega
 exact⟨by rw[b.block _ g (c _ (by omega))];exact a.vb,by rw[b.block _ h (c _ (by omega))];exact a.eb,by rw[b.block _ i (c _ f)];exact a.rb,a.gr.grown b a.gr.size (λk e=>by have:=d k e;omega)⟩
theorem oX.WN{s n:Int}{c:Int}(a:oX w wr cv s n wl av dv c en ew)(b:Value):oX w (wr.setCell ⟨w.heap.size,0,none⟩ b) b s n wl av dv c en ew:=
 ⟨aK a.vb 0 b,(aN _ _ _ _ (by show w.heap.size+1≠w.heap.size;omega)).trans a.eb,(aN _ _ _ _ (by show w.heap.size+1+1≠w.heap.size;omega)).trans a.rb,a.gr.setCell (aw _) _⟩
def agr(w:World)(b:Nat)(V:bM)(a:cO)(av dv:Value)(c:Value)(wr:World):Prop:=
 ∃(i:Nat)(cv:Value)(cur:List Tb),c=.int .i64 i/\i<=a.add.length/\oX w wr cv V.seq V.next V.wal av dv a.seq a.next a.wal/\Own b wr cv cur/\mV (V.tabs.filter (iY a.drop)) a.add=mV cur (a.add.drop i)/\cur.length<=10000+i/\b<=wr.heap.size
theorem axO{l:List Tb}{a:List Tb}{t:Tb}(b:a[i]?=some t):mV l (a.drop i)=if sQ l t=true then none else mV (l++[t]) (a.drop (i+1)):=by obtain⟨a,rfl⟩:=dW.1 b;rw[nA a,mV]
def axP(b:World)(l:List Tb)(a:List Int)(c:Value)(wr:World):Prop:=
 ∃i:Nat,c=.int .i64 i/\i<=a.length/\sP l [] a=sP l (a.take i) (a.drop i)/\Grow b wr
theorem axQ{l:List Tb}{a:List Int}{n:Int}(b:a[i]?=some n):sP l (a.take i) (a.drop i)=((!kj l n||(a.take i).contains n)||sP l (a.take (i+1)) (a.drop (i+1))):=by obtain⟨a,rfl⟩:=dW.1 b;rw[nA a,sP,Eh (ek a)]
theorem axR{t:Array Value}{c:Int}(a:t.getD 4 undef=.pointer (some ⟨rb,0,none⟩))(b:t.getD 5 undef=.int .i64 c)(d:w.heap[rb]?=some (.cells #[x0,x1,x2,x3] 85 (0,0))):
  (results Tryz.f161 t).run Tryz.prog w=.ok (.tuple #[.agg #[x0,x1,x2,x3],.int .i64 c]) w:=by
 obtain⟨c,e,f,g⟩:=dJ d;simp only[gZ]at a b;simp[results,Tryz.results161,go_sem,a,b,c,e,f,g]
theorem ags{t:Array Value}{c:Int}(a:t.getD 4 undef=.pointer (some ⟨rb,0,none⟩))(b:t.getD 5 undef=.int .i64 c)(d:w.heap[rb]?=some (.cells #[x0,x1,x2,x3] 85 (0,0))):
  (results Tryz.f110 t).run Tryz.prog w=.ok (.tuple #[.agg #[x0,x1,x2,x3],.int .i64 c]) w:=by
 obtain⟨c,e,f,g⟩:=dJ d;simp only[gZ]at a b;simp[results,Tryz.results110,go_sem,a,b,c,e,f,g]
structure axS(w:World)(tv:Value)(V:bM)(av dv:Value)(E:cO):Prop where
 own:Own 0 w tv V.tabs
 len:V.tabs.length<=10000
 adds:uD w av E.add
 QY:E.add.length<=10000
 drops:Ints w dv E.drop
 QZ:E.drop.length<=10000
def agt:Prop:=∀(w:World)(tv:Value)(a:bM)(av dv:Value)(b:cO),axS w tv a av dv b->
 Calls Tryz.prog 161 #[.agg (bS tv a.seq a.next a.wal),.agg (dY av dv b.seq b.next b.wal)] w (agq w (bH a b))
def gD:bM->List cO->Int×bM
 |v,[]=>(0,v)
 |v,e::r=>if(bH v e).1=0 then gD (bH v e).2 r else((bH v e).1,dw)
structure Ma(w:World)(b o:Nat)(av dv:Value)(e:cO):Prop where
 c0:w.cell? ⟨b,o,none⟩=some av
 c1:w.cell? ⟨b,o+1,none⟩=some dv
 c2:w.cell? ⟨b,o+2,none⟩=some (.int .u64 e.seq)
 c3:w.cell? ⟨b,o+3,none⟩=some (.int .i64 e.next)
 c4:w.cell? ⟨b,o+4,none⟩=some (.int .i64 e.wal)
 adds:uD w av e.add
 drops:Ints w dv e.drop
theorem Ma.grow{e:cO}(a:Ma w b o av dv e)(f:b<w.heap.size)(d:Grow w w'):Ma w' b o av dv e:=by
 have c:∀i,w'.cell? ⟨b,i,none⟩=w.cell? ⟨b,i,none⟩:=λi=>Grow.cells _ _ _ d f
 exact⟨by rw[c];exact a.c0,by rw[c];exact a.c1,by rw[c];exact a.c2,by rw[c];exact a.c3,by rw[c];exact a.c4,a.adds.grow d,a.drops.grow d⟩
def agu(w:World)(v:Value)(a:List cO):Prop:=
 ∃d c,v=.slice d a.length c/\(a=[]\/∃b o,d=some ⟨b,o,none⟩/\b<w.heap.size/\∀(i:Nat)(c:cO),a[i]?=some c->∃av dv,Ma w b (o+i*5) av dv c)
theorem agv:∀{r l a:List Tb},mV l r=some a->a.length=l.length+r.length
 | [],l,a,h=>by simp[mV]at h;subst h;simp
 |t::r,l,a,h=>by
  unfold mV at h
  split at h
  .cases h
  .have:=agv h;simp at this ⊢;omega
theorem agw(v:bM)(e:cO):(bH v e).2.tabs.length<=v.tabs.length+e.add.length:=by
 unfold bH;split
 .simp[dw]
 .split
  .simp[dw]
  .rename_i l a
   have b:=agv a;have a:(v.tabs.filter (iY e.drop)).length<=v.tabs.length:=List.length_filter_le _ _;have a:=(BH l).length_eq;split
   .simp[dw]
   .split
    .simp[dw]
    .split
     .simp[dw]
     .dsimp only;omega
def Xq(w:World)(V:bM)(b:List cO)(c:Value)(wr:World):Prop:=
 ∃(i:Nat)(cv:Value)(a:bM),c=.int .i64 i/\i<=b.length/\wr.heap[w.heap.size]?=some (.cells (bS cv a.seq a.next a.wal) 85 (0,0))/\wr.heap[w.heap.size+1]?=some (.cells (bS (.slice none 0 0) 0 0 0) 85 (0,0))/\
  Own w.heap.size wr cv a.tabs/\gD V b=gD a (b.drop i)/\a.tabs.length<=V.tabs.length+5000*i/\Grow w wr
theorem BK(f:w.heap[b]?=some (.cells #[x0,x1,x2,x3] 85 (0,0)))(a c d e:Value):
  ((((w.setCell ⟨b,0,none⟩ a).setCell ⟨b,1,none⟩ c).setCell ⟨b,2,none⟩ d).setCell ⟨b,3,none⟩ e).heap[b]?=some (.cells #[a,c,d,e] 85 (0,0)):=
 aK (aK (aK (aK f 0 a) 1 c) 2 d) 3 e
theorem IH(a:c≠b)(d e f g:Value):
  ((((w.setCell ⟨b,0,none⟩ d).setCell ⟨b,1,none⟩ e).setCell ⟨b,2,none⟩ f).setCell ⟨b,3,none⟩ g).heap[c]?=w.heap[c]?:=by
 rw[aN _ _ _ _ a,aN _ _ _ _ a,aN _ _ _ _ a,aN _ _ _ _ a]
theorem Ek{l:List Tb}(f:Own B w v l)(a:w.heap[b]?=some (.cells #[x0,x1,x2,x3] 85 (0,0)))(c d e g:Value):
  Own B ((((w.setCell ⟨b,0,none⟩ c).setCell ⟨b,1,none⟩ d).setCell ⟨b,2,none⟩ e).setCell ⟨b,3,none⟩ g) v l:=
 rN (rN (rN (rN f a (by decide)) (aK a 0 c) (by decide)) (aK (aK a 0 c) 1 d) (by decide)) (aK (aK (aK a 0 c) 1 d) 2 e) (by decide)
theorem xV{a:World}(d:Below B a w)(c:B<=b)(e f g h:Value):
  Below B a ((((w.setCell ⟨b,0,none⟩ e).setCell ⟨b,1,none⟩ f).setCell ⟨b,2,none⟩ g).setCell ⟨b,3,none⟩ h):=
 (((d.setCell c _).setCell c _).setCell c _).setCell c _
theorem agx(hA:agt){V:bM}(hown:Own B w tv V.tabs)(hVl:V.tabs.length<=5000){ev:Value}{es:List cO}(he:agu w ev es)(xW:es.length<=1)(BL:∀e∈es,e.add.length<=5000/\e.drop.length<=10000):
  Calls Tryz.prog 110 #[.agg (bS tv V.seq V.next V.wal),ev] w (agq w (gD V es)):=by
 have hg0:Grow w ((w.alloc (.cells (bS tv V.seq V.next V.wal) 85)).alloc (.cells (bS (.slice none 0 0) 0 0 0) 85)):=by((repeat (first|exact bW _ _|assumption|refine cC ?_|refine cD ?_|refine cw ?_ ?_ _|refine cB ?_ ?_ _))<;>try (first|omega|(simp<;>omega)))
 have hb1:((w.alloc (.cells (bS tv V.seq V.next V.wal) 85)).alloc (.cells (bS (.slice none 0 0) 0 0 0) 85)).heap[w.heap.size]?=some (.cells (bS tv V.seq V.next V.wal) 85 (0,0)):=(heap_alloc_old _ _ (by simp)).trans (ax _ _);have hb2:((w.alloc (.cells (bS tv V.seq V.next V.wal) 85)).alloc (.cells (bS (.slice none 0 0) 0 0 0) 85)).heap[w.heap.size+1]?=some (.cells (bS (.slice none 0 0) 0 0 0) 85 (0,0)):=by have:=ax (w.alloc (.cells (bS tv V.seq V.next V.wal) 85)) (.cells (bS (.slice none 0 0) 0 0 0) 85);simpa using this
 have hap:=agp (fB hown hg0) (by omega) V.seq V.next V.wal;obtain⟨ta,tc,rfl⟩:=km hown;obtain⟨ea,ec,rfl,her⟩:=he;obtain⟨c0,c1,c2,c3⟩:=dJ hb1;have l1:=af hb1;have l2:=af hb2;have fC:=ae hap;have xU:=ae hb1;have rO:=ae hb2;have Eg:=ae hg0;have Her:=ae her;have HA:=ae hA;have Rb:=ae BL;clear hap hb1 hb2 hg0 her hA BL hown;go_enter Tryz.func110,Tryz.ntmps110
 go_wp2_with fail
 generalize (w.alloc (.cells (bS (.slice ta V.tabs.length tc) V.seq V.next V.wal) 85)).alloc (.cells (bS (.slice none 0 0) 0 0 0) 85)=W1 at*;(with_reducible refine fC.out.mono ?_);rintro e w2 ⟨cv,rfl,gy,hg2⟩;have k1:=hg2.heap xU.out;have k2:=hg2.heap rO.out;have hst:Xq w V es (.int .i64 0) ((((w2.setCell ⟨w.heap.size,0,none⟩ cv).setCell ⟨w.heap.size,1,none⟩ (.int .u64 V.seq)).setCell ⟨w.heap.size,2,none⟩ (.int .i64 V.next)).setCell ⟨w.heap.size,3,none⟩ (.int .i64 V.wal)):=
  ⟨0,cv,V,rfl,aY _,BK k1 _ _ _ _,(IH (by omega) _ _ _ _).trans k2,Ek (rK gy Eg.out.size) k1 _ _ _ _,rfl,by omega,xV (Eg.out.trans hg2) (aw _) _ _ _ _⟩
 clear c0 c1 c2 c3;obtain⟨c0,c1,c2,c3⟩:=dJ k1;have f0:=bG k1;have l3:=af k1;obtain⟨xa,xc,rfl⟩:=km gy;have bz:=ae hst;clear k1 k2 hst gy hg2
 go_wp2_with fail
 go_loopw [13] (λiv wr=>Xq w V es iv wr) (λiv _=>es.length-(intOf iv).toNat)
 case atStart=>exact bz.out
 case round=>
  obtain⟨i,cv,V',rfl,hi,kf,eW,hown,hall,hlen,hg⟩:=hrel;by_cases hlt:i<es.length
  .obtain⟨x,hx⟩:∃x,es[i]?=some x:=⟨es[i],by simp[hlt]⟩
   obtain⟨b,o,rfl,hbl,hed⟩:∃b o,ea=some ⟨b,o,none⟩/\b<w.heap.size/\∀(i:Nat)(e:cO),es[i]?=some e->∃av dv,Ma w b (o+i*5) av dv e:=by
    rcases Her.out with h1|h1
    .rw[h1]at hlt;simp at hlt
    .exact h1
   obtain⟨av,dv,Rc⟩:=hed i x hx;have hat:=Rc.grow hbl hg;obtain⟨hxa,hxd⟩:=Rb.out x (dm hx);have hstep:gD V' (es.drop i)=if(bH V' x).1=0 then gD (bH V' x).2 (es.drop (i+1))else((bH V' x).1,dw):=by obtain⟨hi',rfl⟩:=dW.1 hx;rw[nA hi',gD]
   have qG:=agw V' x;obtain⟨aa,ac,rfl,_⟩:=hat.adds;obtain⟨da,dc,rfl,_,_⟩:=hat.drops;obtain⟨p0,p1,p2,p3,p4,_,_⟩:=hat;have ai:Grow wr (wr.alloc (.cells (dY (.slice aa x.add.length ac) (.slice da x.drop.length dc) x.seq x.next x.wal) 148)):=ar _ _;have gj:=HA.out (wr.alloc (.cells (dY (.slice aa x.add.length ac) (.slice da x.drop.length dc) x.seq x.next x.wal) 148)) cv V' (.slice aa x.add.length ac) (.slice da x.drop.length dc) x ⟨rK (fB hown ai) (aY _),by omega,(Rc.adds.grow hg).grow ai,by omega,(Rc.drops.grow hg).grow ai,by omega⟩;obtain⟨va,vc,rfl⟩:=km hown;clear c0 c1 c2 c3;obtain⟨c0,c1,c2,c3⟩:=dJ kf;have lv:=af kf;have lr:=af eW;have lb:b<wr.heap.size:=bF hbl hg.size;have eN:(i:Int)<(es.length:Int):=by omega
   have bU:(0:Int)<=(i:Int):=by omega
   have kL:=ae gj;have pL:=ae hstep;have gB:=ae hall;have Re:=ae kf;have mW:=ae eW;have cn:=ae ai;have Hg:=ae hg;clear gj hstep hall kf eW ai hg Rc hed hown hx;generalize bH V' x=r at*
   go_wp2_with fail
   (with_reducible refine kL.out.mono ?_);rintro e w5 ⟨v5,rfl,gR,bm⟩;have k1:=bm.heap (cn.out.heap Re.out);have k2:=bm.heap (cn.out.heap mW.out);have BM:=(Hg.out.trans cn.out).trans bm;clear c0 c1 c2 c3;obtain⟨c0,c1,c2,c3⟩:=dJ k1;obtain⟨d0,d1,d2,d3⟩:=dJ k2;have g0:=bG k1;have g1:=bG k2;have l5:=af k1;have l6:=af k2;obtain⟨rc,rv⟩:=r;dsimp only at gR qG pL;have Rf:w.heap.size<=(wr.alloc (.cells (dY (.slice aa x.add.length ac) (.slice da x.drop.length dc) x.seq x.next x.wal) 148)).heap.size:=(Hg.out.trans cn.out).size;by_cases sS:rc=0
   .subst sS
    have aR:Hid (Xq w V es (.int .i64 ((i+1:Nat):Int)) ((((w5.setCell ⟨w.heap.size,0,none⟩ v5).setCell ⟨w.heap.size,1,none⟩ (.int .u64 rv.seq)).setCell ⟨w.heap.size,2,none⟩ (.int .i64 rv.next)).setCell ⟨w.heap.size,3,none⟩ (.int .i64 rv.wal))):=ae
     ⟨i+1,v5,rv,rfl,hlt,BK k1 _ _ _ _,(IH (by omega) _ _ _ _).trans k2,Ek (rK gR Rf) k1 _ _ _ _,by rw[gB.out,pL.out,if_pos rfl],by omega,xV BM (aw _) _ _ _ _⟩
    obtain⟨ya,yc,rfl⟩:=km gR;clear gR bm BM k1 k2 g1 Rf;go_wp2;go_roundw
    case rel=>exact aR.out
    case measure=>simp[intOf];omega
   .have dQ:Hid (gD V es=(rc,dw)):=ae (by rw[gB.out,pL.out,if_neg sS])
    have eW:(rc != 0)=true:=by simpa using sS
    have BN:(rc==0)=false:=by simpa using sS
    have axU:=ae BM;have Hk2:=ae k2;obtain⟨ya,yc,rfl⟩:=km gR;clear gR bm BM k1 k2 Rf sS;go_wp2;refine bodyPost_ret (ags (x0:=.slice none 0 0) (x1:=.int .u64 0) (x2:=.int .i64 0) (x3:=.int .i64 0) (c:=rc) rfl rfl (BK ((IH (by omega) _ _ _ _).trans Hk2.out) _ _ _ _)) rfl ?_;rw[dQ.out];exact⟨_,rfl,jh _ _ _ _,xV (xV axU.out (aw _) _ _ _ _) (by omega) _ _ _ _⟩
  .obtain rfl:i=es.length:=by omega
   rw[List.drop_length]at hall;have dQ:Hid (gD V es=(0,V')):=ae hall;have cP:Hid (Own w.heap.size ((((wr.setCell ⟨w.heap.size+1,0,none⟩ cv).setCell ⟨w.heap.size+1,1,none⟩ (.int .u64 V'.seq)).setCell ⟨w.heap.size+1,2,none⟩ (.int .i64 V'.next)).setCell ⟨w.heap.size+1,3,none⟩ (.int .i64 V'.wal)) cv V'.tabs):=ae (Ek hown eW _ _ _ _);obtain⟨va,vc,rfl⟩:=km hown;clear c0 c1 c2 c3;obtain⟨c0,c1,c2,c3⟩:=dJ kf;obtain⟨d0,d1,d2,d3⟩:=dJ eW;have g1:=bG eW;have l5:=af kf;have l6:=af eW;have Hg:=ae hg;have mW:=ae eW;clear hall kf eW hown hg f0;go_wp2;refine bodyPost_ret (ags (c:=0) rfl rfl (BK mW.out _ _ _ _)) rfl (by rw[dQ.out];exact⟨_,rfl,cP.out,xV Hg.out (by omega) _ _ _ _⟩)
end Go.Proofs.YtoolkdapflaeeaaGreatDoor.Mn
namespace Go.Proofs.YtoolkdapflaeeaaGreatDoor
open Go.RowKit Go.Gl Go.aF Mn
theorem agA:∀(k n i v:Nat)(r:List UInt8),n<128^k->i+k<=10->0<k->(i=0\/0<n)->n*128^i<18446744073709551616->
  nC i v (iO k n++r)=(v+n*128^i,i+(iO k n).length,0)
 |0,n,i,v,r,hn,hik,hk,_,_=>by omega
 |k+1,n,i,v,r,hn,hik,hk,h0,Xr=>by
  unfold iO;by_cases a:n<128
  .rw[if_pos a]
   simp only[gP,iK,nC];have b:(UInt8.ofNat n).toNat=n:=by rw[UInt8.toNat_ofNat_of_lt' (by simp[UInt8.size];omega)]
   have c:¬(i=9/\1<n):=by
    rintro⟨rfl,d⟩;have:(128:Nat)^9=9223372036854775808:=by decide
    rw[this]at Xr;omega
   rw[b,if_neg c,if_pos a,if_neg (by omega)];simp
  .rw[if_neg a]
   have b:(UInt8.ofNat (n%128+128)).toNat=n%128+128:=by rw[UInt8.toNat_ofNat_of_lt' (by simp[UInt8.size];omega)]
   simp only[gP,nC];have c:i≠9:=by
    rintro rfl;have:(128:Nat)^9=9223372036854775808:=by decide
    rw[this]at Xr;omega
   rw[b,if_neg (by omega),if_neg (by omega)];have a:0<k:=by
    rcases Nat.eq_zero_or_pos k with rfl|d
    .simp at hn;omega
    .exact d
   have b:n/128<128^k:=by rw[Nat.pow_succ]at hn;exact Nat.div_lt_of_lt_mul (by rw[Nat.mul_comm];exact hn)
   have c:n/128*128^(i+1)<18446744073709551616:=by refine Nat.lt_of_le_of_lt ?_ Xr;rw[Nat.pow_succ,Nat.mul_comm (128^i) 128,<-Nat.mul_assoc];exact Nat.mul_le_mul_right _ (Nat.div_mul_le_self n 128)
   rw[agA k (n/128) (i+1) _ r b (by omega) a (.inr (by omega)) c];refine Prod.ext ?_ (Prod.ext ?_ rfl)
   .show v+(n%128+128-128)*128^i+n/128*128^(i+1)=v+n*128^i
    rw[Nat.add_sub_cancel,Nat.pow_succ,Nat.add_assoc];congr 1;have:n=n%128+128*(n/128):=(Nat.mod_add_div n 128).symm
    conv=>rhs;rw[this]
    rw[Nat.add_mul];congr 1;rw[Nat.mul_comm (128^i) 128,<-Nat.mul_assoc,Nat.mul_comm (n/128) 128]
   .simp;omega
theorem Rg(a:n<18446744073709551616)(r:List UInt8):fG (aG n++r)=(n,(aG n).length,0):=by have:=agA 10 n 0 0 r (bF a (by decide)) (by decide) (by decide) (.inl rfl) (by simpa using a);unfold fG aG;rw[this];simp
theorem cF(n:Nat):(aG n).length<=10:=La 10 n
def jH(t:Tb):List UInt8:=aG t.file.toNat++(aG t.level.toNat++(bp t.first.data.toList++(bp t.last.data.toList++aG t.size.toNat)))
def lZ(n:Int):List UInt8:=aG n.toNat
def dP(e:cO):List UInt8:=
 aG e.add.length++(e.add.flatMap jH++(aG e.drop.length++(e.drop.flatMap lZ++(aG e.seq.toNat++(aG e.next.toNat++aG e.wal.toNat)))))
def nN(n:Int):Prop:=0<=n/\n<=1099511627776
structure Xs(t:Tb):Prop where
 file:nN t.file
 level:nN t.level
 first:t.first.size<=67108864
 last:t.last.size<=67108864
 size:nN t.size
structure BO(e:cO):Prop where
 adds:∀t∈e.add,Xs t
 QY:e.add.length<=65536
 drops:∀n∈e.drop,nN n
 QZ:e.drop.length<=65536
 seq:0<=e.seq/\e.seq<18446744073709551616
 next:nN e.next
 wal:nN e.wal
def jP(l:List Tb):Nat:=(l.map λt=>t.first.size+t.last.size).sum
theorem axX(t:Tb):(jH t).length<=50+(t.first.size+t.last.size):=by
 have a:=cF t.file.toNat;have a:=cF t.level.toNat;have a:=cF t.first.data.toList.length;have a:=cF t.last.data.toList.length;have a:=cF t.size.toNat;have a:t.first.data.toList.length=t.first.size:=by rw[ia];rfl
 have a:t.last.data.toList.length=t.last.size:=by rw[ia];rfl
 simp only[jH,bp,aM]at*;omega
theorem Rh:∀l:List Tb,(l.flatMap jH).length<=50*l.length+jP l
 | []=>by simp[jP]
 |t::l=>by have a:=axX t;have a:=Rh l;simp only[List.flatMap_cons,aM,dD,jP,cr,List.sum_cons]at*;omega
theorem Xt:∀l:List Int,(l.flatMap lZ).length<=10*l.length
 | []=>by simp
 |n::l=>by have a:=cF n.toNat;have a:=Xt l;simp only[List.flatMap_cons,aM,dD,lZ]at*;omega
theorem agB(e:cO):(dP e).length<=50+50*e.add.length+jP e.add+10*e.drop.length:=by have a:=cF e.add.length;have a:=Rh e.add;have a:=cF e.drop.length;have a:=Xt e.drop;have a:=cF e.seq.toNat;have a:=cF e.next.toNat;have a:=cF e.wal.toNat;simp only[dP,aM]at*;omega
theorem axY(a b:List Tb):jP (a++b)=jP a+jP b:=by simp[jP]
theorem axZ(l:List Tb)(i:Nat):jP (l.take i)<=jP l:=by have a:=axY (l.take i) (l.drop i);rw[List.take_append_drop]at a;omega
theorem agC{l:List Tb}{t:Tb}(a:t∈l):t.first.size+t.last.size<=jP l:=by
 induction l with
 |nil=>cases a
 |cons b l c=>
  have d:jP (b::l)=b.first.size+b.last.size+jP l:=by simp[jP]
  rcases bI.1 a with rfl|a
  .omega
  .have:=c a;omega
end Go.Proofs.YtoolkdapflaeeaaGreatDoor
namespace Go.Proofs.YtoolkdapflaeeaaGreatDoor.Mn
open Go.RowKit Go.Gl
def rP(l:List Tb):Prop:=(l.map Tb.file).Nodup
theorem Xu:∀{r l a:List Tb},rP l->mV l r=some a->rP a
 | [],l,a,h,he=>by simp[mV]at he;subst he;exact h
 |t::r,l,a,h,he=>by
  unfold mV at he
  split at he
  .cases he
  .rename_i a
   refine Xu ?_ he;have c:kj l t.file=false:=by
    cases d:kj l t.file with
    |false=>rfl
    |true=>exact absurd (by simp only[sQ,d,Bool.true_or,Bool.or_true]) a
   unfold rP;rw[dS];refine List.nodup_append.2 ⟨h,by simp,?_⟩;intro a d b a;simp only[cr,List.map_nil,cZ]at a;subst a;intro a;obtain⟨x,b,rfl⟩:=aV.1 d;have:kj l t.file=true:=List.any_eq_true.2 ⟨x,b,by simpa using a⟩;rw[c]at this;cases this
theorem aya{v:bM}{e:cO}(b:rP v.tabs):rP (bH v e).2.tabs:=by
 have a:rP dw.tabs:=by simp[rP,dw]
 unfold bH;split
 .exact a
 .split
  .exact a
  .rename_i l c
   have d:rP (v.tabs.filter (iY e.drop)):=b.sublist (List.filter_sublist.map _);have b:=Xu d c;split
   .exact a
   .split
    .exact a
    .split
     .exact a
     .exact((BH l).map Tb.file).nodup_iff.2 b
def Mb(l:List Tb):Prop:=l.Pairwise rJ
theorem ayb{l:List Tb}(a:rP l):Mb (kK l):=by
 have c:rP (kK l):=((BH l).map Tb.file).nodup_iff.2 a;have a:=axk l;have d:(kK l).Pairwise (λx e=>x.file≠e.file):=List.pairwise_map.1 c;refine(a.and d).imp λ{a b} c=>?_
 by_cases d:rJ a b
 .exact d
 .exact absurd (agd a b d c.1).2.2 c.2
theorem ayc{v:bM}{e:cO}(b:rP v.tabs):Mb (bH v e).2.tabs:=by
 have a:Mb dw.tabs:=List.Pairwise.nil;unfold bH;split
 .exact a
 .split
  .exact a
  .rename_i l c
   have d:rP (v.tabs.filter (iY e.drop)):=b.sublist (List.filter_sublist.map _);have b:=Xu d c;split
   .exact a
   .split
    .exact a
    .split
     .exact a
     .exact ayb b
theorem ayd(v:bM)(e:cO)(a:(bH v e).1≠0):(bH v e).2=dw:=by
 revert a
 unfold bH;split
 .intro _;rfl
 .split
  .intro _;rfl
  .split
   .intro _;rfl
   .split
    .intro _;rfl
    .split
     .intro _;rfl
     .intro a;exact absurd rfl a
theorem Mc:∀{a:List cO}{v v':bM}{e:cO},gD v a=(0,v')->(bH v' e).1=0->gD v (a++[e])=(0,(bH v' e).2)
 | [],v,v',e,h,he=>by simp only[gD,Prod.mk.injEq,true_and]at h;subst h;simp only[iK,gD,he,if_true]
 |t::a,v,v',e,h,he=>by
  unfold gD at h;by_cases a:(bH v t).1=0
  .rw[if_pos a]at h;rw[gP,gD,if_pos a];exact Mc h he
  .rw[if_neg a]at h;exact absurd (congrArg Prod.fst h) a
theorem Xv(v:bM)(e:cO):gD v [e]=if(bH v e).1=0 then(0,(bH v e).2)else((bH v e).1,dw):=rfl
end Go.Proofs.YtoolkdapflaeeaaGreatDoor.Mn
namespace Go.Proofs.YtoolkdapflaeeaaGreatDoor
open Go.RowKit Go.Gl Go.aF Mn
structure Ri(t:Tb):Prop where
 file:nN t.file
 level:0<=t.level/\t.level<=6
 size:nN t.size
 keys:(Op.bytesLess t.first.toList t.last.toList||t.first.toList==t.last.toList)=true
structure Good(V:bM):Prop where
 once:rP V.tabs
 strict:Mb V.tabs
 tabs:∀t∈V.tabs,Ri t
 len:V.tabs.length<=65536
 apart:mU V.tabs=false
 seq:0<=V.seq/\V.seq<18446744073709551616
 next:nN V.next
 wal:nN V.wal
theorem agD:nN 0:=by unfold nN;omega
theorem aye:Good dw:=
 ⟨List.nodup_nil,List.Pairwise.nil,λt a=>by simp[dw]at a,aY _,rfl,by decide,agD,agD⟩
theorem ayf{l:List Tb}{t:Tb}(b:¬sQ l t=true):Ri t/\kj l t.file=false:=by
 have a:sQ l t=false:=by simpa using b
 unfold sQ at a;simp only[Bool.or_eq_false_iff,decide_eq_false_iff_not,Bool.not_eq_false']at a;obtain⟨b,b,c,c,c,d,d,d⟩:=a;exact⟨⟨⟨by omega,by omega⟩,⟨by omega,by omega⟩,⟨by omega,by omega⟩,c⟩,b⟩
theorem agE:∀{r l a:List Tb},mV l r=some a->a=l++r/\∀t∈r,Ri t
 | [],l,a,h=>by simp[mV]at h;subst h;exact⟨by simp,λt h=>by cases h⟩
 |t::r,l,a,h=>by
  unfold mV at h
  split at h
  .cases h
  .rename_i b
   obtain⟨a,c⟩:=agE h;refine⟨by rw[a];simp,λd a=>?_⟩;rcases bI.1 a with rfl|a
   .exact(ayf b).1
   .exact c d a
structure Xw(V:bM)(e:cO)(V':bM):Prop where
 drops:∀n∈e.drop,kj V.tabs n=true
 adds:∀t∈e.add,Ri t
 tabs:V'.tabs=kK (V.tabs.filter (iY e.drop)++e.add)
 len:V'.tabs.length<=65536
 apart:mU V'.tabs=false
 dK:sR V e=false
 seq:V'.seq=dA e.seq V.seq
 next:V'.next=dA e.next V.next
 wal:V'.wal=dA e.wal V.wal
theorem agF:∀{r pre:List Int}{l:List Tb},sP l pre r=false->∀n∈r,kj l n=true
 | [],_,_,_,n,hn=>by cases hn
 |m::r,pre,l,h,n,hn=>by
  unfold sP at h;simp only[Bool.or_eq_false_iff,Bool.not_eq_false']at h;rcases bI.1 hn with rfl|hn
  .exact h.1.1
  .exact agF h.2 n hn
theorem El{V:bM}{e:cO}(a:(bH V e).1=0):Xw V e (bH V e).2:=by
 revert a
 unfold bH;split
 .intro a;cases a
 .rename_i b
  split
  .intro a;cases a
  .rename_i l c
   obtain⟨d,e⟩:=agE c;subst d;split
   .intro a;cases a
   .rename_i c
    split
    .intro a;cases a
    .rename_i d
     split
     .intro a;cases a
     .rename_i a
      intro _;exact⟨agF (by simpa using b),e,rfl,by simpa using c,by simpa using d,by simpa using a,rfl,rfl,rfl⟩
theorem agG{x y z:Int}(b:nN y)(a:(x != 0&&decide (x<y))=false)(c:¬1099511627776<x)(c:z=dA x y):nN z:=by
 subst c;unfold dA nN at*;split
 .exact b
 .rename_i b
  simp only[Bool.and_eq_false_iff,decide_eq_false_iff_not,bne_eq_false_iff_eq]at a;rcases a with a|a
  .exact absurd a b
  .omega
theorem agH{V:bM}{e:cO}(a:sR V e=false):(e.seq != 0&&decide (e.seq<V.seq))=false/\(e.next != 0&&decide (e.next<V.next))=false/\(e.wal != 0&&decide (e.wal<V.wal))=false/\¬1099511627776<e.next/\¬1099511627776<e.wal:=by unfold sR at a;simp only[Bool.or_eq_false_iff,decide_eq_false_iff_not]at a;exact⟨a.1,a.2.1,a.2.2.1,a.2.2.2.1,a.2.2.2.2⟩
theorem ayh{V b:bM}{e:cO}(c:Good V)(a:Xw V e b)(d:rP b.tabs)(f:Mb b.tabs)(g:0<=e.seq/\e.seq<18446744073709551616):Good b:=by
 obtain⟨b,e,h,i,j⟩:=agH a.dK;refine⟨d,f,λt b=>?_,a.len,a.apart,?_,agG c.next e i a.next,agG c.wal h j a.wal⟩
 .rw[a.tabs]at b
  rcases dn.1 ((BH _).mem_iff.1 b)with h1|h1
  .exact c.tabs t (List.mem_filter.1 h1).1
  .exact a.adds t h1
 .rw[a.seq]
  unfold dA;split
  .exact c.seq
  .exact g
theorem agI{V:bM}{e:cO}(a:Good V)(b:(bH V e).1=0)(c:0<=e.seq/\e.seq<18446744073709551616):Good (bH V e).2:=
 ayh a (El b) (aya a.once) (ayc a.once) c
theorem agJ{x y:Int}(a:nN y)(a:(x != 0&&decide (x<y))=false)(b:¬1099511627776<x):nN x:=by
 unfold nN at*;simp only[Bool.and_eq_false_iff,decide_eq_false_iff_not,bne_eq_false_iff_eq]at a;rcases a with a|a
 .omega
 .omega
theorem ayi{V a:bM}{e:cO}(c:Good V)(d:Xw V e a)(b:0<=e.seq/\e.seq<18446744073709551616)(f:e.add.length<=65536)(g:e.drop.length<=65536)(a:jP e.add<=67108864):BO e:=by
 obtain⟨a,e,h,i,j⟩:=agH d.dK;refine⟨λt a=>?_,f,λn f=>?_,g,b,agJ c.next e i,agJ c.wal h j⟩
 .have b:=d.adds t a;have e:=agC a;exact⟨b.file,⟨b.level.1,by have:=b.level.2;omega⟩,by omega,by omega,b.size⟩
 .have b:=d.drops n f;unfold kj at b;obtain⟨t,a,d⟩:=List.any_eq_true.1 b;have:=(c.tabs t a).file;rw[<-(by simpa using d:t.file=n)];exact this
section
def BP(t:TypeId):Prop:=t=125\/t=165\/t=5\/t=154
structure iB(r:Nat)(w w':World):Prop where
 os:w'.os=w.os
 tape:w'.tape=w.tape
 output:w'.output=w.output
 size:w.heap.size<=w'.heap.size
 keep:∀(b:Nat)(arr:Array Value)(t:TypeId)(f:Nat×Nat),w.heap[b]?=some (.cells arr t f)->¬BP t->w'.heap[b]?=some (.cells arr t f)
 maps:∀(b:Nat)(o:Obj),w.heap[b]?=some o->(∀arr t f,o≠.cells arr t f)->b≠r->w'.heap[b]?=some o
theorem iB.refl(r:Nat)(w:World):iB r w w:=⟨rfl,rfl,rfl,aw _,λ_ _ _ _ a _=>a,λ_ _ a _ _=>a⟩
theorem iB.trans{r:Nat}{a b c:World}(d:iB r a b)(k:iB r b c):iB r a c:=
 ⟨k.os.trans d.os,k.tape.trans d.tape,k.output.trans d.output,aJ d.size k.size,λx arr t f a b=>k.keep x arr t f (d.keep x arr t f a b) b,λx o a b c=>k.maps x o (d.maps x o a b c) b c⟩
theorem iB.grow{r:Nat}{w w':World}(a:Grow w w'):iB r w w':=⟨a.os,a.tape,a.output,a.size,λ_ _ _ _ b _=>a.heap b,λ_ _ b _ _=>a.heap b⟩
theorem Dl.Xx{Z B:Nat}{w:World}{p r:Nat}{f:Lk}{T K:Nat}{F:Nat->Prop}(e:Dl Z B w p r f T K F){o:Obj}(a:w.heap[b]?=some o)(d:(∀arr t f,o≠.cells arr t f))(f:b≠r):¬F b:=by
 obtain⟨b,⟨b,b,b,b,b,rfl,rfl⟩,_⟩:=e;obtain⟨c,c,_⟩:=b.map;rintro(rfl|rfl|⟨g,c,rfl|e⟩)
 .rw[b.self]at a;cases a;exact d _ _ _ rfl
 .exact f rfl
 .rw[(b.files g c).cell]at a;cases a;exact d _ _ _ rfl
 .obtain⟨cur,f⟩:=(b.files g c).row.block e;rw[f]at a;cases a;exact d _ _ _ rfl
theorem iB.sep{Z B:Nat}{w w':World}{p r:Nat}{f:Lk}{T K:Nat}{F:Nat->Prop}(g:Dl Z B w p r f T K F)(c:Sep F w w' F'):iB r w w':=
 ⟨c.os,c.tape,c.output,c.size,λb arr t a a e=>by rw[c.out b (af a) (g.apart a (λd=>e (.inl d)) (λd=>e (.inr (.inl d))) (λd=>e (.inr (.inr (.inl d)))))];exact a,
  λb o a d e=>by rw[c.out b (af a) (g.Xx a d e)];exact a⟩
theorem iB.set{r:Nat}{w:World}{f:Nat×Nat}(d:w.heap[sb]?=some (.cells cs 154 f))(j:Nat)(v:Value):iB r w (w.setCell ⟨sb,j,none⟩ v):=
 ⟨rfl,rfl,rfl,by simp,λb arr t f a e=>by
   rw[aN _ _ _ _ (λc=>?_)]
   .exact a
   .subst c;rw[d]at a;cases a;exact e (.inr (.inr (.inr rfl))),
  λb o a b _=>by
   rw[aN _ _ _ _ (λc=>?_)]
   .exact a
   .subst c;rw[d]at a;cases a;exact b _ _ _ rfl⟩
theorem Rj{B r:Nat}{w w':World}{l:List Tb}(a:Own B w v l)(b:iB r w w'):Own B w' v l:=by
 refine⟨a.1,?_⟩;rcases a.2 with a|⟨g,cap,cur,a,h2,h3,h4⟩
 .exact .inl a
 .exact .inr ⟨g,cap,cur,a,h2,b.keep _ _ _ _ h3 (by unfold BP;decide),h4⟩
abbrev setCells(p:Nat)(tv:Value)(V:bM)(n:Int):Array Value:=#[.pointer (some ⟨p,0,none⟩),tv,.int .u64 V.seq,.int .i64 V.next,.int .i64 V.wal,.int .i64 n]
def eH(w:World)(sb p:Nat)(tv:Value)(V:bM)(n:Int):Prop:=w.heap[sb]?=some (.cells (setCells p tv V n) 154 (0,0))
theorem eH.grow{w w':World}{p:Nat}{V:bM}{n:Int}(a:eH w sb p tv V n)(b:Grow w w'):eH w' sb p tv V n:=b.heap a
theorem eH.sep{Z B:Nat}{w w':World}{p r:Nat}{V:bM}{n:Int}{f:Lk}{T K:Nat}{F:Nat->Prop}(b:eH w sb p tv V n)(c:Dl Z B w p' r f T K F)(d:Sep F w w' F'):eH w' sb p tv V n:=by have a:w.heap[sb]?=some (.cells (setCells p tv V n) 154 (0,0)):=b;exact(d.out sb (af a) (c.apart a (by decide) (by decide) (by decide))).trans a
theorem eH.cells{w:World}{p:Nat}{V:bM}{n:Int}(b:eH w sb p tv V n):
  w.cell? ⟨sb,0,none⟩=some (.pointer (some ⟨p,0,none⟩))/\w.cell? ⟨sb,1,none⟩=some tv/\w.cell? ⟨sb,2,none⟩=some (.int .u64 V.seq)/\w.cell? ⟨sb,3,none⟩=some (.int .i64 V.next)/\w.cell? ⟨sb,4,none⟩=some (.int .i64 V.wal)/\w.cell? ⟨sb,5,none⟩=some (.int .i64 n)/\sb<w.heap.size:=by
 have a:w.heap[sb]?=some (.cells (setCells p tv V n) 154 (0,0)):=b;exact⟨by simp[World.cell?,a],by simp[World.cell?,a],by simp[World.cell?,a],by simp[World.cell?,a],by simp[World.cell?,a],by simp[World.cell?,a],af a⟩
variable{Z B:Nat}{w w':World}{p r:Nat}{f:Lk}{T K:Nat}{F:Nat→Prop}
def Em(Z:Nat)(n:ByteArray)(x:List UInt8)(f:Lk)(T:Nat):Bool×Lk×Nat:=
 if T-lF f n+x.length<=Z then(true,f.set n (x,x.length),T-lF f n+x.length)else(false,f.del n,T-lF f n)
def okC(b:Bool):Int:=if b then 0 else 5
theorem ayj{f:Lk}{n:ByteArray}(x:List UInt8):(f.del n).add n x=f.set n (x,0):=by unfold Lk.add;rw[afP];exact awI f n (x,0)
theorem agM{V:bM}{m:Int}(a:eH w sb p tv V m)(b:Dl Z B w p r f T K F){n:ByteArray}(k:lA n)(d:Bv w bv x)(s:x.length<=1000000000000)(g:∀w' F',Sep F w w' F'->Bv w' bv x):
  Calls Tryz.prog 183 #[.pointer (some ⟨sb,0,none⟩),.string n,bv] w λe w'=>e=.returned (.int .i64 (okC (Em Z n x f T).1))/\pR Z B w p r F w' (Em Z n x f T).2.1 (Em Z n x f T).2.2 (K+1):=by
 obtain⟨q,_,_,_,_,_,r⟩:=a.cells;obtain⟨t,u,rfl⟩:=d.slice;have h:=ae b;have l:=ae a;have i:=ae g;clear b a d g;go_enter Tryz.func183,Tryz.ntmps183
 go_wp2_with fail
 have b:=ar w (.cells #[.string n] 9);(with_reducible refine(awP (h.out.grow b) n (ax _ _)).mono ?_);rintro e w1 ⟨⟨c,rfl⟩,v,g,j⟩;have a:=(Sep.bO (F:=F) b).trans j;have c:=l.out.sep h.out a;have h:=i.out _ _ a;obtain⟨l,_,_,_,_,_,m⟩:=c.cells;have d:=ae g;have w:=ae c;have o:=ae a;have p:=ae h;clear g j a c h b i q r
 go_wp2_with fail
 have a:=ar w1 (.cells #[.slice t x.length u] 49);by_cases g:T-lF f n+x.length<=Z
 .have b:Em Z n x f T=(true,f.set n (x,x.length),T-lF f n+x.length):=if_pos g
  have h:=ae b;clear b;(with_reducible refine(afV (d.out.grow a) k (ax _ _) (p.out.grow a) g).mono ?_);rintro e w2 ⟨rfl,c,c,j⟩;rw[ayj]at c;have i:=(Sep.bO a).trans j;have q:=w.out.sep d.out i;obtain⟨r,_,_,_,_,_,t⟩:=q.cells;have u:=ae c;have w:=ae (o.out.trans i);clear a j c i q l m
  go_wp2_with fail
  have i:=ar w2 (.cells #[.string n] 9);(with_reducible refine(LW (u.out.grow i) (sN _ _ _) (ax _ _)).mono ?_);rintro e w3 ⟨rfl,u,j,q⟩;rw[QR]at j;have c:=ae (ag j (w.out.trans ((Sep.bO i).trans q)));clear i q j r t;go_wp2;go_ret;rw[h.out];exact⟨rfl,u,c.out.1,c.out.2⟩
 .have b:Em Z n x f T=(false,f.del n,T-lF f n):=if_neg g;have h:=ae b;clear b;(with_reducible refine(afW (d.out.grow a) k (ax _ _) (p.out.grow a) s (by omega)).mono ?_);rintro e w2 ⟨rfl,e⟩;have b:=a.trans e;have c:=ae (ag (d.out.grow b) (o.out.trans (Sep.bO b)));clear a e b l m;go_wp2;go_ret;rw[h.out];exact⟨rfl,v,c.out.1.more (by omega),c.out.2⟩
end
end Go.Proofs.YtoolkdapflaeeaaGreatDoor
namespace Go.Proofs.YtoolkdapflaeeaaGreatDoor
open Go.RowKit Go.Gl Go.aF
theorem Xz{r:List UInt8}(a:Bv w bv (bp x++r))(b:x.length<=67108864)(b:r.length<=1000000000000){m:Nat}(b:x.length<=m)(b:m<=2000000000000):
  Calls Tryz.prog 103 #[bv,.int .i64 (m:Int)] w λe w'=>∃v,e=.returned (.tuple #[v,.int .i64 (((aG x.length).length+x.length:Nat):Int),.int .i64 0])/\aI w.heap.size w' v x/\Grow w w':=by
 have b:=Lg a;have f:fG (bp x++r)=(x.length,(aG x.length).length,0):=by unfold bp;rw[jL];exact Rg (by omega) _
 rw[f]at b;have c:=cF x.length;have g:(bp x++r).length=(aG x.length).length+x.length+r.length:=by simp[bp];omega
 obtain⟨h,l,rfl⟩:=a.slice;have c:=ug a (i:=(aG x.length).length) (j:=(aG x.length).length+x.length) (by omega) (by omega);have i:((bp x++r).drop (aG x.length).length).take ((aG x.length).length+x.length-(aG x.length).length)=x:=by unfold bp;rw[jL,List.drop_left,Nat.add_sub_cancel_left,List.take_left]
 rw[i,Nat.add_sub_cancel_left]at c;have d:=xG c (by omega);have j:(aG x.length).length+x.length<=l:=by obtain⟨j,j,j,n,_⟩:=a;cases j;omega
 rw[g]at b ⊢;generalize (aG x.length).length=k at*;obtain⟨j,n⟩:∃j,(if l=k then h else h.map (λx=>x.add k))=j:=⟨_,rfl⟩
 rw[n]at d;have j:=ae d;have h:=ae b;have l:decide ((m:Int)<(x.length:Int))=false:=by simp;omega
 have l:(0:Int)<=(m:Int):=by omega
 have l:IntKind.u64.wrap (m:Int)=(m:Int):=by simp[IntKind.wrap,IntKind.bits,IntKind.signed];omega
 have w1:IntKind.u64.wrap (((k+x.length+r.length:Nat):Int)-(k:Int))=((x.length+r.length:Nat):Int):=by simp[IntKind.wrap,IntKind.bits,IntKind.signed];omega
 have w2:IntKind.i64.wrap ((k:Int)+(x.length:Int))=(k:Int)+(x.length:Int):=aQ _ (by omega);have w3:IntKind.i64.wrap (x.length:Int)=(x.length:Int):=aQ _ (by omega);clear a b c d f i g;go_enter Tryz.func103,Tryz.ntmps103
 go_wp2_with fail
 (with_reducible refine h.out.mono ?_);rintro e w1 ⟨rfl,a⟩;have b:=a.symm;subst b;clear a h
 go_wp2_with fail
 (with_reducible refine j.out.mono ?_);rintro e w2 ⟨cv,rfl,a,b⟩;obtain⟨c,c,rfl⟩:=a.slice;go_wp2;go_ret3;exact⟨_,by simp,a,b⟩
theorem ayl{r:List UInt8}(b:Bv w bv (bp x++r))(a:x.length<=67108864)(c:r.length<=1000000000000):
  Calls Tryz.prog 103 #[bv,.int .i64 67108864] w λe w'=>∃v,e=.returned (.tuple #[v,.int .i64 (((aG x.length).length+x.length:Nat):Int),.int .i64 0])/\aI w.heap.size w' v x/\Grow w w':=
 Xz b a c (m:=67108864) a (by omega)
structure lH(w0 W:World)(rb:Nat)(l:List UInt8):Prop where
 cell:∃bv,W.heap[rb]?=some (.cells #[bv,.int .i64 0] 293 (0,0))/\Bv w0 bv l
 grow:Grow w0 W
 new:w0.heap.size<=rb
abbrev GX(g:Nat)(w w':World):Prop:=w.grownBy w' (some g)
theorem GX.of(a:Grow w w'):GX g w w':=by obtain⟨d,b,c,e,f⟩:=a;exact⟨d,b,c,e,λk a _=>f k a⟩
theorem GX.refl(g:Nat)(w:World):GX g w w:=GX.of (aW w)
theorem GX.trans{a b c:World}(d:GX g a b)(k:GX g b c):GX g a c:=xD d k
theorem GX.heap(c:GX g w w'){o:Obj}(a:w.heap[b]?=some o)(d:b≠g):w'.heap[b]?=some o:=by obtain⟨_,_,_,_,e⟩:=c;rw[e b (af a) (λx=>d (by cases x;rfl))];exact a
theorem agO{a:Option Addr}(b:Bv w (.slice a l.length c) l)(d:n<=l.length):Bv w (.slice (if c=n then a else a.map (λx=>x.add n)) (l.length-n) (c-n)) (l.drop n):=by have:=ug b d (aw _);rw[List.take_of_length_le (by simp)]at this;exact this
theorem lH.ou(a:lH w0 W rb l)(b:Grow W W'):lH w0 W' rb l:=by obtain⟨bv,c,d⟩:=a.cell;exact⟨⟨bv,b.heap c,d⟩,a.grow.trans b,a.new⟩
theorem agP(b:lH w0 W rb l)(d:n<=l.length)(_hl:l.length<=1000000000000):
  Calls Tryz.prog 218 #[.pointer (some ⟨rb,0,none⟩),.int .i64 n,.int .i64 0] W λe w'=>e=.returned (.tuple #[])/\lH w0 w' rb (l.drop n)/\GX rb W w':=by
 obtain⟨bv,c,e⟩:=b.cell;obtain⟨f,a,rfl⟩:=e.slice;have g:=agO e d;have d:l.length<=a:=by obtain⟨d,d,d,h,_⟩:=e;cases d;omega
 obtain⟨d,h⟩:∃d,(if a=n then f else f.map (λx=>x.add n))=d:=⟨_,rfl⟩
 rw[h]at g;have h:W.cell? ⟨rb,0,none⟩=some (.slice f l.length a):=by simp[World.cell?,c]
 have f:W.cell? ⟨rb,1,none⟩=some (.int .i64 0):=by simp[World.cell?,c]
 have f:=bG c;have f:=af c;have f:((W.setCell ⟨rb,1,none⟩ (.int .i64 0)).setCell ⟨rb,0,none⟩ (.slice d (l.length-n) (a-n))).heap[rb]?=some (.cells #[.slice d (l.length-n) (a-n),.int .i64 0] 293 (0,0)):=aK (aK c 1 _) 0 _;have h:Hid (lH w0 ((W.setCell ⟨rb,1,none⟩ (.int .i64 0)).setCell ⟨rb,0,none⟩ (.slice d (l.length-n) (a-n))) rb (l.drop n)/\GX rb W ((W.setCell ⟨rb,1,none⟩ (.int .i64 0)).setCell ⟨rb,0,none⟩ (.slice d (l.length-n) (a-n)))):=
  ae ⟨⟨⟨_,f,g⟩,cw (cw b.grow (p:=⟨rb,1,none⟩) b.new _) (p:=⟨rb,0,none⟩) b.new _,b.new⟩,xD (jB _ _ _ _) (jB _ _ _ _)⟩
 clear b c e g f;go_enter Tryz.func218,Tryz.ntmps218;go_wp2;exact⟨rfl,.tuple #[],by simp[results,Tryz.results218,go_sem],rfl,h.out⟩
theorem agQ{r:List UInt8}(a:lH w0 W rb (aG n++r))(f:n<18446744073709551616)(b:r.length<=900000000000):
  Calls Tryz.prog 189 #[.pointer (some ⟨rb,0,none⟩)] W λe w'=>e=.returned (.int .u64 n)/\lH w0 w' rb r/\GX rb W w':=by
 obtain⟨bv,b,c⟩:=a.cell;have d:=Lg (c.grow a.grow);rw[Rg f r]at d;have f:=cF n;have f:=agP a (n:=(aG n).length) (by simp) (by simp;omega);rw[List.drop_left]at f;have g:W.cell? ⟨rb,0,none⟩=some bv:=by simp[World.cell?,b]
 have g:=af b;obtain⟨g,g,rfl⟩:=c.slice;have g:=ae d;have h:=ae f;clear a b c d f;generalize (aG n++r).length=a at*;generalize (aG n).length=k at*;go_enter Tryz.func189,Tryz.ntmps189
 go_wp2_with fail
 (with_reducible refine g.out.mono ?_);rintro e w1 ⟨rfl,a⟩;have b:=a.symm;subst b;clear a g
 go_wp2_with fail
 (with_reducible refine h.out.mono ?_);rintro e w2 ⟨rfl,a,b⟩;go_wp2;go_ret;exact⟨rfl,a,b⟩
theorem agR{a:Nat}{r:List UInt8}(b:lH w0 W rb (aG n++r))(c:n<=a)(c:a<=1099511627776)(d:r.length<=900000000000):
  Calls Tryz.prog 217 #[.pointer (some ⟨rb,0,none⟩),.int .u64 a] W λe w'=>e=.returned (.int .i64 n)/\lH w0 w' rb r/\GX rb W w':=by
 have c:=ae (agQ b (by omega) d);have d:decide ((a:Int)<(n:Int))=false:=by simp;omega
 have w1:IntKind.i64.wrap (n:Int)=(n:Int):=aQ _ (by omega);clear b;go_enter Tryz.func217,Tryz.ntmps217
 go_wp2_with fail
 (with_reducible refine c.out.mono ?_);rintro e w2 ⟨rfl,a,d⟩;obtain⟨bv,b,e⟩:=a.cell;have f:w2.cell? ⟨rb,1,none⟩=some (.int .i64 0):=by simp[World.cell?,b]
 have f:=af b;have f:=ae (ag a d);clear b e a d c;go_wp2;go_ret;exact⟨rfl,f.out⟩
theorem IJ{r:List UInt8}(a:lH w0 W rb (aG n++r))(b:n<=1099511627776)(c:r.length<=900000000000):
  Calls Tryz.prog 186 #[.pointer (some ⟨rb,0,none⟩)] W λe w'=>e=.returned (.int .i64 n)/\lH w0 w' rb r/\GX rb W w':=by
 have d:Hid (Calls Tryz.prog 217 #[.pointer (some ⟨rb,0,none⟩),.int .u64 1099511627776] W λe w'=>e=.returned (.int .i64 n)/\lH w0 w' rb r/\GX rb W w'):=ae (agR a b (aw _) c);clear a;go_enter Tryz.func186,Tryz.ntmps186
 go_wp2_with fail
 (with_reducible refine d.out.mono ?_);rintro e w2 ⟨rfl,a,b⟩;go_wp2;go_ret;exact⟨rfl,a,b⟩
theorem agS{r:List UInt8}(b:lH w0 W rb (bp x++r))(a:x.length<=67108864)(c:r.length<=900000000000):
  Calls Tryz.prog 187 #[.pointer (some ⟨rb,0,none⟩)] W λe w'=>e=.returned (.string ⟨x.toArray⟩)/\lH w0 w' rb r/\GX rb W w':=by
 obtain⟨bv,c,d⟩:=b.cell;have h:=ayl (d.grow b.grow) a (by omega);have i:=cF x.length;have m:(bp x++r).length=(aG x.length).length+x.length+r.length:=by simp[bp];omega
 have j:(bp x++r).drop ((aG x.length).length+x.length)=r:=by
  have:(bp x).length=(aG x.length).length+x.length:=by simp[bp]
  rw[<-this,List.drop_left]
 have f:=ae (λ(w':World)(a:Grow W w')=>agP (b.ou a) (n:=(aG x.length).length+x.length) (by omega) (by omega));rw[j]at f;have l:W.cell? ⟨rb,0,none⟩=some bv:=by simp[World.cell?,c]
 have l:=af c;obtain⟨l,l,rfl⟩:=d.slice;have l:=ae h;clear b c d h j m;generalize (bp x++r).length=b at*;generalize (aG x.length).length+x.length=k at*;go_enter Tryz.func187,Tryz.ntmps187
 go_wp2_with fail
 (with_reducible refine l.out.mono ?_);rintro e w1 ⟨v,rfl,b,a⟩;have h:=f.out w1 a;have j:=ae b;have k:=ae a;have m:∀g,v.ownBlock=some g->g≠rb/\g<w1.heap.size:=λg c=>⟨by have:=(b.lt c).1;omega,(b.lt c).2⟩
 have d:=ae m;clear m;have m:=ae h;obtain⟨n,n,rfl⟩:=b.slice;clear b a l f h
 go_wp2_with fail
 (with_reducible refine m.out.mono ?_);rintro e w2 ⟨rfl,b,a⟩;have f:=j.out.keep (w':=w2) (λg c=>by obtain⟨_,_,_,_,i⟩:=a;exact i g (d.out g c).2 (λe=>(d.out g c).1 (by cases e;rfl)))
 have c:=xQ (cE f);have c:=ae (ag b ((GX.of k.out).trans a));clear b a f j k d m;go_wp2;go_ret;exact⟨rfl,c.out⟩
end Go.Proofs.YtoolkdapflaeeaaGreatDoor
namespace Go.Proofs.YtoolkdapflaeeaaGreatDoor
open Go.RowKit Go.Gl Go.aF Mn
def agT(a:Nat->World->Prop)(m:Nat)(b:Value)(wr:World):Prop:=∃i:Nat,b=.int .i64 ((m-i:Nat):Int)/\i<=m/\a i wr
theorem agU{W:World}{rest:List UInt8}{fn:FuncId}{agV:Array Value}(I:Nat->World->Prop)(h:lH w0 W rb (aG m++rest))(hm:m<=65536)(hr:rest.length<=900000000000)(h0:∀w1,lH w0 w1 rb rest->GX rb W w1->I 0 w1)(hI:∀i wr,I i wr->∃l,lH w0 wr rb l)(hstep:∀i wr,i<m->I i wr->Calls Tryz.prog fn agV wr λe w'=>e=.returned (.tuple #[])/\I (i+1) w')(hfn:∃F,Tryz.prog.funcs[fn]?=some F/\F.params.size=0)(avw:∀args w,(callFunc fn args).run Tryz.prog w=.ok (.enter fn args) w):
  Calls Tryz.prog 184 #[.pointer (some ⟨rb,0,none⟩),.func (.func fn) #[] agV] W λe w'=>e=.returned (.tuple #[])/\I m w':=by
 have Ha:Hid (Calls Tryz.prog 217 #[.pointer (some ⟨rb,0,none⟩),.int .u64 65536] W λe w'=>e=.returned (.int .i64 m)/\lH w0 w' rb rest/\GX rb W w'):=ae (agR h hm (by decide) hr);have H0:=ae h0;have HI:=ae hI;have Hs:=ae hstep;clear h h0 hI hstep;go_enter Tryz.func184,Tryz.ntmps184
 go_wp2_with fail
 (with_reducible refine Ha.out.mono ?_);rintro e w1 ⟨rfl,hR,hG⟩;have Hi0:=ae (H0.out w1 hR hG);clear hR hG H0 Ha
 go_wp2_with fail
 go_loopw [4] (λnv wr=>agT I m nv wr) (λnv _=>(intOf nv).toNat)
 case atStart=>exact⟨0,rfl,aY _,Hi0.out⟩
 case round=>
  obtain⟨i,rfl,hi,Mf⟩:=hrel;obtain⟨l,hR⟩:=HI.out i wr Mf;obtain⟨bv,h1,_⟩:=hR.cell;have c1:wr.cell? ⟨rb,1,none⟩=some (.int .i64 0):=by simp[World.cell?,h1]
  have lr:=af h1;clear h1 hR;by_cases hlt:i<m
  .have hc:=Hs.out i wr hlt Mf
   obtain⟨k,hk⟩:∃k,m-i=k+1:=⟨m-i-1,by omega⟩
   have Hk:=ae hk;rw[hk];have e1:decide ((0:Int)<((k+1:Nat):Int))=true:=by simp
   have w1':IntKind.i64.wrap (k:Int)=(k:Int):=aQ _ (by omega);have Hc:=ae hc;clear hk hc Mf
   go_wp2_with fail
   (with_reducible refine Hc.out.mono ?_);rintro e w2 ⟨rfl,BS⟩;have aR:Hid (agT I m (.int .i64 (k:Int)) w2):=ae ⟨i+1,by rw[show m-(i+1)=k by have:=Hk.out;omega],hlt,BS⟩;clear BS;go_wp2;go_roundw
   case rel=>exact aR.out
   case measure=>simp[intOf]
  .have e0:m-i=0:=by omega
   obtain rfl:i=m:=by omega
   have HIm:=ae Mf;rw[e0];clear Mf e0;go_wp2;exact⟨rfl,.tuple #[],by simp[results,Tryz.results184,go_sem],rfl,HIm.out⟩
end Go.Proofs.YtoolkdapflaeeaaGreatDoor
namespace Go.Proofs.YtoolkdapflaeeaaGreatDoor.Mn
open Go.RowKit Go.Gl
theorem agW(w:World)(a:Option Addr)(al ac:Nat)(b:Option Addr)(c d:Nat)(s n wl:Int):(Instr.buildSlice 272 1 #[(0,.agg (dY (.slice a al ac) (.slice b c d) s n wl))]).run Tryz.prog w=.ok (.slice (some ⟨w.heap.size,0,none⟩) 1 1) (w.alloc (.cells (dY (.slice a al ac) (.slice b c d) s n wl) 148)):=by
 simp[Instr.buildSlice,run_underlying Tryz.underlying272,Tryz.sizeOf148,Tryz.zeroValue148,Instr.fill,newRow,Value.cells];congr 2;apply Array.ext
 .simp
 .intro i a b
  simp at a
  match i,a with
  |0,_=>simp
  |1,_=>simp
  |2,_=>simp
  |3,_=>simp
  |4,_=>simp
theorem ayo(w:World)(f l:Int)(a b:ByteArray)(s:Int):(Instr.buildSlice 83 1 #[(0,.agg #[.int .i64 f,.int .i64 l,.string a,.string b,.int .i64 s])]).run Tryz.prog w=.ok (.slice (some ⟨w.heap.size,0,none⟩) 1 1) (w.alloc (.cells #[.int .i64 f,.int .i64 l,.string a,.string b,.int .i64 s] 101)):=by
 simp[Instr.buildSlice,run_underlying Tryz.underlying83,Tryz.sizeOf101,Tryz.zeroValue101,Instr.fill,newRow,Value.cells];congr 2;apply Array.ext
 .simp
 .intro i a b
  simp at a
  match i,a with
  |0,_=>simp
  |1,_=>simp
  |2,_=>simp
  |3,_=>simp
  |4,_=>simp
theorem agX{e:cO}(c:W.heap[b]?=some (.cells (dY av dv e.seq e.next e.wal) 148 (0,0)))(d:uD W av e.add)(f:Ints W dv e.drop):agu W (.slice (some ⟨b,0,none⟩) 1 1) [e]:=by
 refine⟨_,1,rfl,.inr ⟨b,0,rfl,af c,λi x a=>?_⟩⟩
 match i,a with
 |0,a=>cases a;obtain⟨b,e,g,h,j⟩:=dI c;exact⟨av,dv,b,e,g,h,j,d,f⟩
 |i+1,a=>simp at a
theorem ayp(W:World):uD W (.slice none 0 0) []:=⟨none,0,rfl,.inl rfl⟩
theorem ayq(W:World):Ints W (.slice none 0 0) []:=⟨none,0,rfl,aw _,.inl rfl⟩
end Go.Proofs.YtoolkdapflaeeaaGreatDoor.Mn

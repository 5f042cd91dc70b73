/- Helpers. -/
import Derived.Test.YtoolkdapflaeeaaGreatDoorW07
set_option maxRecDepth 100000
set_option maxHeartbeats 16000000
set_option linter.unusedSimpArgs false
open Go
variable{B ha aX tb:Nat}{N:Nat→Prop}{ds:List Int}{dv v:Value}{w:World}
namespace Go.Proofs.YtoolkdapflaeeaaGreatDoor
open Go.RowKit Go.Gl Go.aF Mn
theorem aBc(k:Int):∃a:Nat,1<=a/\a<=12/\IntKind.i64.wrap (1+(max k 0).tmod 12)=(a:Int):=by
 have c:0<=(max k 0):=by omega
 generalize (max k 0)=a at*;have d:=Int.tmod_nonneg 12 c;have c:=Int.tmod_lt_of_pos a (b:=12) (by omega);refine⟨(1+a.tmod 12).toNat,by omega,by omega,?_⟩;rw[aQ _ (by omega)];omega
theorem aBd{ns:List Nd}(h:ed N w tb ha ns aX dv ds):
  Calls Tryz.prog 129 #[au tb] w λe w'=>(∃k:Nat,1<=k/\k<=12/\e=.returned (.int .i64 (k:Int)))/\Grow w w':=by
 have hb:=h.self;obtain⟨da,dc,rfl,hlen,hd⟩:=h.draws;obtain⟨c7,c8,lb⟩:w.cell? ⟨tb,7,none⟩=some (.int .i64 (ns.length:Int))/\w.cell? ⟨tb,8,none⟩=some (.slice da ds.length dc)/\tb<w.heap.size:=⟨by simp[World.cell?,hb],by simp[World.cell?,hb],af hb⟩
 clear hb h;cases pq:ds with
 |nil=>subst pq;clear hd;go_enter Tryz.func129,Tryz.ntmps129;go_wp2;go_ret;exact⟨⟨1,by omega,by omega,rfl⟩,aW _⟩
 |cons d0 dr=>
  have hne:¬ds=[]:=by rw[pq];simp
  clear pq;obtain⟨b,o,rfl,hN,lt,hc⟩:∃b o,da=some ⟨b,o,none⟩/\N b/\b<w.heap.size/\∀(j:Nat)(k:Int),ds[j]?=some k->w.cell? ⟨b,o+j,none⟩=some (.int .i64 k):=hd.resolve_left hne
  have vZ:0<ds.length:=List.length_pos_iff.2 hne;have hi:=Nat.mod_lt ns.length vZ;obtain⟨k,hk⟩:∃k,ds[ns.length%ds.length]?=some k:=⟨_,ek hi⟩
  have ck:=hc _ _ hk;have Ic:(ns.length:Int).tmod (ds.length:Int)=((ns.length%ds.length:Nat):Int):=(Int.ofNat_tmod _ _).symm;obtain⟨h,h1,h2,h3⟩:=aBc k;have e0:((ds.length:Int)==0)=false:=by simp;exact hne
  generalize ns.length%ds.length=i at*;have hi':(i:Int)<(ds.length:Int):=by omega
  have bU:(0:Int)<=(i:Int):=by omega
  have Hk:=ae (ag h1 h2);clear hc hk hd h1 h2 hi;go_enter Tryz.func129,Tryz.ntmps129
  go_upto_region 3 with fail
  have aU:=Grow.cells (w:=w);refine cN (λV=>Below w.heap.size w V) [] (by kernel_rfl) (bB λ_ _ _ _ _ h=>h) (by((repeat (first|exact bW _ _|assumption|refine cC ?_|refine cD ?_|refine cw ?_ ?_ _|refine cB ?_ ?_ _))<;>try (first|omega|(simp<;>omega)))) ?_;simp only[ct]
  repeat ((first|(apply az;rfl;rintro W hW;go_simp;with_reducible rfl)|(apply aA;rfl));simp only[ah,List.set])
  refine bg ?_;go_wp2;go_ret;exact⟨⟨h,Hk.out.1,Hk.out.2,rfl⟩,ay _⟩
theorem Iw.src{l:List Int}(a:Iw N w v l):Src Tryz.prog 1 24 v l.length (l.map (λx=>.int .i64 x)) w:=by
 obtain⟨c,d,rfl,f,a⟩:=a;cases c with
 |none=>
  have:l=[]:=by
   rcases a with a|⟨b,o,a,_⟩
   .exact a
   .cases a
  subst this;exact Src.ofNil w Tryz.underlying24 d
 |some c=>
  refine Src.ofSlice w Tryz.underlying24 c l.length d _ (by simp) (λf d c=>?_) (λd c=>?_)
  .rw[gQ]at c
   cases d:l[f]? with
   |none=>rw[d]at c;cases c
   |some x=>
    rw[d]at c;cases c;rcases a with rfl|⟨b,o,e,_,_,hc⟩
    .cases d
    .cases e;rw[Addr.add_lit];exact hc f x d
  .obtain⟨x,_,rfl⟩:=aV.1 c;rfl
theorem Nc{l:List Int}(a:Go.Gl.Row1 3 B w v (l.map (λx=>.int .i64 x)))(b:l.length<=1000000000)(c:∀g,v.ownBlock=some g->N g):Iw N w v l:=by
 have d:=a;rcases a with⟨rfl,a⟩|⟨g,e,f,rfl,f,f,h,h,h,h⟩
 .have:l=[]:=List.map_eq_nil_iff.1 a;subst this;exact⟨none,0,rfl,by simp,.inl rfl⟩
 .refine⟨some ⟨g,0,none⟩,e,by rw[bA],b,.inr ⟨g,0,rfl,c g rfl,af f,λa a a=>?_⟩⟩;rw[Nat.zero_add];exact d.cells rfl (by simp[a])
theorem ajh{l:List Int}(a:Iw N w v l):
  Calls Tryz.prog 49 #[v] w λe w'=>∃v',e=.returned v'/\Go.Gl.Row1 3 w.heap.size w' v' (l.map (λx=>.int .i64 x))/\Grow w w':=by
 have c:Grow w (w.alloc (.cells #[] 3)):=ar _ _;have d:Go.Gl.Row1 3 w.heap.size (w.alloc (.cells #[] 3)) (.slice (some ⟨w.heap.size,0,none⟩) 0 0) []:=.inr ⟨w.heap.size,0,#[],rfl,aw _,ax _ _,aw _,aw _,aY _,rfl⟩;have e:l.length<=1000000000:=by obtain⟨_,_,_,a,_⟩:=a;exact a
 obtain⟨v',w',e,f,g,_⟩:=zx (ty:=24) Tryz.underlying24 Tryz.QD rfl d (a.kp (.bO c)).src (by simp) (by simp;unfold maxLen;omega) (by simp;omega);have h:Grow w w':=Go.Gl.below_grown c (by simp) d g;have k:=ae e;have m:=ae f;have n:=ae h;obtain⟨j,i,rfl,_,i⟩:=a;have p:=@Lib.run_eql_slice_nil Tryz.prog;cases j with
 |none=>
  have:l=[]:=by
   rcases i with a|⟨b,o,a,_⟩
   .exact a
   .cases a
  subst this;clear e f g h d c i;go_enter Tryz.func49,Tryz.ntmps49;go_wp2;go_ret;exact⟨_,rfl,oM _ _ _,aW _⟩
 |some j=>
  clear e f g h d c i;go_enter Tryz.func49,Tryz.ntmps49
  go_wp2_with (at_builtin;refine fP rfl rfl rfl rfl k.out ?_)
  go_ret;exact⟨_,rfl,m.out,n.out⟩
end Go.Proofs.YtoolkdapflaeeaaGreatDoor

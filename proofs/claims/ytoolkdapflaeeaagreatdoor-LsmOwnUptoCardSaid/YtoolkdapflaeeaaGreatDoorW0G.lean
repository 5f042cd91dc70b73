/- Helpers. -/
import Derived.Deep.CutRange
import Derived.Deep.DeepCutAuto
import Derived.Test.YtoolkdapflaeeaaGreatDoorW0F
import Derived.Test.YtoolkdapflaeeaaGreatDoorW0E
import Derived.Test.YtoolkdapflaeeaaGreatDoorW09
import Derived.Laws.OwnMore
import Derived.Test.YtoolkdapflaeeaaGreatDoorW0B
set_option maxRecDepth 100000
set_option maxHeartbeats 16000000
set_option linter.unusedSimpArgs false
open Go
variable{B K Nn T T' Z am b db g j k lb m mm n o p q qb r seq wb:Nat}{E et kt t:TypeId}{F G M N:Nat→Prop}{W W' w w' w0 wr:World}{ds:List Int}{hv ov pv v z:Value}{l:List UInt8}{xs:List Value}
namespace Go.Proofs.YtoolkdapflaeeaaGreatDoor
open Go.RowKit Go.Gl Go.aF Mn
section
attribute [local go_sem] Oper.semAt_some
theorem aIO(x y:ByteArray)(t:TypeId)(w:World):(Builtin.max_ #[9,9] t #[.string x,.string y]).run Tryz.prog w=.ok (.string (if Op.bytesLess x.toList y.toList then y else x)) w:=by cases a:Op.bytesLess x.toList y.toList<;>simp[Builtin.max_,Builtin.max2,Op.stringOp,asBool,a]
def aIP(N:Nat->Prop)(w:World)(l:List En)(c:Value):Prop:=
 ∀(a:ByteArray)(W:World),Grow w W->
  (∃b,c=.iface 89 (.pointer (some ⟨b,0,none⟩))/\Calls Tryz.prog 124 #[.pointer (some ⟨b,0,none⟩),.string a] W (VC N W (eI (spot a 18446744073709551615) l)))\/
  (∃b,c=.iface 143 (.pointer (some ⟨b,0,none⟩))/\Calls Tryz.prog 105 #[.pointer (some ⟨b,0,none⟩),.string a] W (VC N W (eI (spot a 18446744073709551615) l)))
theorem aIQ(d:Go.Gl.Row1 57 B w v xs)(a:B<=w.heap.size)(a:xs.length<=1000000)(x:Value)(e:x.oneCell'=true):
  ∃v' w',(Builtin.append_ #[116,116] 116 #[v,.slice (some ⟨w.heap.size,0,none⟩) 1 1]).run Tryz.prog (w.alloc (.cells #[x] 57))=.ok v' w'/\Go.Gl.Row1 57 B w' v' (xs++[x])/\w.grownBy w' v.ownBlock:=by
 have f:(w.alloc (.cells #[x] 57)).heap[w.heap.size]?=some (.cells #[x] 57 (0,0)):=ax _ _;have g:Src Tryz.prog 1 116 (.slice (some ⟨w.heap.size,0,none⟩) 1 1) 1 [x] (w.alloc (.cells #[x] 57)):=
  Src.ofSlice _ Tryz.underlying116 ⟨w.heap.size,0,none⟩ 1 1 [x] rfl (λj c a=>World.news_of_block f j c (by simpa using a)) (λc a=>by rw[cZ.1 a];exact e)
 obtain⟨v',w',a,c,e,_⟩:=zx (ty:=116) Tryz.underlying116 Tryz.arl rfl (d.grow (ar _ _)) g (by simp;omega) (by unfold maxLen;omega) (by omega);obtain⟨d,b,f,g,h⟩:=e;exact⟨v',w',a,c,⟨d,b,f,aJ (by simp) g,λk a b=>by rw[h k (by simp;omega) b];exact heap_alloc_old _ _ a⟩⟩
def ScI(w2:World)(p m:ByteArray)(ls:List (List En))(c d:Value)(ds:List Deferred)(W:World):Prop:=
 ∃(i:Nat)(a:List Value)(b:List Nat),d=.int .i64 (i:Int)/\i<=ls.length/\Go.Gl.Row1 57 w2.heap.size W c a/\a.length=i/\
  (∀(j:Nat)(c:Value) l,a[j]?=some c->ls[j]?=some l->∃a,cQ w2.heap.size (λ_=>False) W c a/\a.map Ev.e=pG p m l)/\Grow w2 W/\
  ds=b.map Qa/\b.Nodup/\∀a∈b,w2.heap.size<=a/\W.heap[a]?=some (.deferred (some []))
theorem arB{f:En->Bool}:∀{l:List En},(∀x∈l,f x=true)->l.takeWhile f=l
 | [],_=>rfl
 |a::l,h=>by rw[List.takeWhile_cons,if_pos (h a (ej ..)),arB (λx a=>h x (fE _ a))]
theorem arC{f:En->Bool}:∀{a:List En}{x:En}{r:List En},(∀y∈a,f y=true)->f x=false->(a++x::r).takeWhile f=a
 | [],x,r,_,hx=>by rw[iK,List.takeWhile_cons,if_neg (by rw[hx];exact Bool.false_ne_true)]
 |a::l,x,r,h,hx=>by rw[gP,List.takeWhile_cons,if_pos (h a (ej ..)),arC (λy a=>h y (fE _ a)) hx]
def GP(lb:Nat)(w:World)(p:ByteArray)(pre:List En)(W:World):Prop:=
 ∃(a:List Ev)(b:Value),a.map Ev.e=pre/\(∀c∈pre,Dv p c=true)/\W.heap[lb]?=some (.cells #[b] 57 (0,0))/\cQ w.heap.size (λ_=>False) W b a/\GX lb w W
theorem GP.own{p:ByteArray}:OwnFrom w.heap.size (GP lb w p):=by rintro a W W' a ⟨e,g,h,i,j,l,c⟩ a d;refine⟨e,g,h,i,si a d j,l.keep a.size (λb e=>e.elim) (λb b t f _ _ b=>si a d b),a.os.trans c.os,a.tape.trans c.tape,a.output.trans c.output,aJ c.size a.size,λk b e=>?_⟩;rw[a.block k (bF b c.size) (λa=>by have:=(d k a.symm).1;omega),c.block k b e]
def VF(lb:Nat)(w:World)(p:ByteArray)(c:Code)(pre:List En)(W:World):Prop:=c=.exit 2/\∃a b,pre=a++[b]/\Dv p b=false/\GP lb w p a W
theorem VF.own{p:ByteArray}(c:Code):OwnFrom w.heap.size (VF lb w p c):=λa W W' b c d e=>by obtain⟨f,a,g,h,i,j⟩:=c;exact⟨f,a,g,h,i,GP.own a W W' b j d e⟩
theorem arD{a:Type}:∀(l m:List a),l.Pairwise (· ≠ ·)->(∀x∈l,x∈m)->l.length<=m.length
 | [],_,_,_=>aY _
 |x::l,m,hp,hm=>by
  obtain⟨s,t,rfl⟩:=ry (hm x (ej ..));have a:=List.pairwise_cons.1 hp;have:=arD l (s++t) a.2 (λb c=>by
   rcases dn.1 (hm b (fE _ c))with h|h
   .exact dn.2 (.inl h)
   .rcases bI.1 h with h|h
    .exact absurd h.symm (a.1 b c)
    .exact dn.2 (.inr h))
  simp only[aM,dD]at this ⊢;omega
def VG(e:World)(p a:ByteArray)(d:List Ev)(n:Nat)(ov g h j:Value)(W:World):Prop:=
 ∃(i:Nat)(c:List Ev)(f:Option ByteArray),j=.int .i64 (i:Int)/\i<=d.length/\c.map Ev.e++nY (zk p a) f ((d.drop i).map Ev.e)=nY (zk p a) none (d.map Ev.e)/\c.length<=n/\c.length<=i/\
  ((f=none/\g=.string ⟨#[]⟩/\h=.bool false)\/∃k,f=some k/\g=.string k/\h=.bool true)/\cQ e.heap.size (λb=>b<e.heap.size) W ov c/\(∀z∈c,z∈d)/\Grow e W
theorem aIR{ls:List (List En)}{us:List Value}(p a:ByteArray)(most:Int)(mN:∀W,Grow w W->Calls Tryz.prog 45 #[.pointer (some ⟨db,0,none⟩)] W λe w'=>∃v,e=.returned v/\Go.Gl.Row1 113 W.heap.size w' v us/\Grow W w')(hlen:us.length=ls.length)(hne:ls≠[])(hl6:ls.length<=200000)(dV:∀(i:Nat) l u,ls[i]?=some l->us[i]?=some u->aIP N w l u)(hN:∀b,N b->b<w.heap.size)(ho:∀l∈ls,cx l)(jE:∀l∈ls,Ai l)(hf:qQ ls.flatten)(hs:∀e∈ls.flatten,e.seq<=18446744073709551615)(hval:∀e∈ls.flatten,e.val.length<=1000000000000)(og:ls.flatten.length<=1000000000):
  Calls Tryz.prog 18 #[.pointer (some ⟨db,0,none⟩),.string p,.string a,.int .i64 most] w λe w'=>∃v ys R,e=.returned v/\cQ w.heap.size (λ_=>False) w' v ys/\GN ls.flatten p a R/\ys.map Ev.e=R.take most.toNat/\Grow w w':=by
 have ai:=ar w (.cells #[.string p] 9);have dB:=ax w (.cells #[.string p] 9);have Uh:=ae (mN _ ai);have pM:=ae dV;have Hl:=ae (ag ho (ag jE (ag hf (ag hs (ag hval og)))));have cn:=ae ai;have HN:=ae hN;clear mN dV ho jE hf hs hval og ai hN;refine(callsIn_wide (n:=4)).1 (callsIn_of_wp_marks Tryz.func18 rfl trivial ?_ rfl);simp only[Tryz.ntmps18,List.size_toArray,dD,iJ,Nat.reduceAdd,Nat.reduceSub,Array.replicate_succ,Array.replicate_zero,List.push_toArray,List.append_toArray,iK,gP];refine wpIn_wide.2 ?_
 go_upto_region 2 with fail
 generalize w.alloc (.cells #[.string p] 9)=w1 at*;obtain⟨pb,uT⟩:∃pb,pb=w.heap.size:=⟨_,rfl⟩
 rw[<-uT]at dB ⊢;have Ak:=ae uT;clear uT
 go_wp2_with fail
 (with_reducible refine Uh.out.mono ?_);rintro e w2 ⟨v,rfl,hrow,hg2⟩;rcases id hrow with⟨_,h0⟩|⟨gs,cap,cur,rfl,hB,fk,hn,hc,hmx,dN⟩
 .exfalso;rw[h0]at hlen;exact hne (je hlen.symm)
 have hat:∀(i:Nat)(u:Value),us[i]?=some u->∀W:World,W.heap[gs]?=some (.cells cur 113 (0,0))->W.cell? ⟨gs,i,none⟩=some u:=λi u hu W hW=>by have h1:=Go.Gl.Row1.cells hrow rfl hu;simp only[World.cell?,fk]at h1;simp only[World.cell?,hW];exact h1
 rw[hlen];have Hat:=ae hat;have eG:=ae (ag fk (ag hg2 dB));have lgs:=af fk;clear hrow hB fk hn hc hmx dN hat hg2 dB;obtain⟨m,hm,jW,hma,Bb⟩:=aIN p a;have hmx:∀t W,(Builtin.max_ #[9,9] t #[.string p,.string a]).run Tryz.prog W=.ok (.string m) W:=λt W=>by rw[aIO,hm]
 have Hm:=ae (ag jW (ag hma Bb));clear hm jW hma Bb;have bz:Hid (ScI w2 p m ls (.slice none 0 0) (.int .i64 0) [] w2):=ae ⟨0,[],[],rfl,aY _,.inl ⟨rfl,rfl⟩,rfl,(λj u l h=>by cases h),aW _,rfl,List.nodup_nil,(λD h=>by cases h)⟩
 go_wp2_with fail
 refine wp_loop (λa' W=>∃(u9 u11 u12 u13 Tt u26 Tu u28 Mo Mp Mq u32 u33 Ry XR XS XT XU Rz RA RB RD RG u44 u45 u46 u47 u48 u49 u50 u51 u52 u53 u54:Value)(ds:List Deferred),ScI w2 p m ls u9 Tt ds W/\a'=⟨#[.pointer (some ⟨db,0,none⟩),.string p,.string a,.int .i64 most,undef,.pointer (some ⟨pb,0,none⟩),undef,undef,.slice none 0 0,u9,undef,u11,u12,u13,undef,undef,undef,undef,undef,undef,undef,undef,.pointer (some ⟨db,0,none⟩),.slice (some ⟨gs,0,none⟩) ls.length cap,.int .i64 (ls.length:Int),Tt,u26,Tu,u28,Mo,Mp,Mq,u32,u33,Ry,XR,XS,XT,XU,Rz,RA,RB,RD,RG,u44,u45,u46,u47,u48,u49,u50,u51,u52,u53,u54,undef,undef,undef,undef,undef,undef,undef,undef,undef,undef,undef,undef,undef,undef,undef,undef,undef,undef,undef,undef,undef,undef,undef,undef,undef,undef,undef,undef,undef,undef,undef,undef,undef,undef,undef,undef,undef,undef,undef,undef,undef,undef,undef,undef,undef,undef,undef,undef,undef,undef],ds⟩) (λa' _=>ls.length-(intOf (a'.tmps.getD 25 undef)).toNat) ?_ ?_
 .exact⟨_,_,_,_,_,_,_,_,_,_,_,_,_,_,_,_,_,_,_,_,_,_,_,_,_,_,_,_,_,_,_,_,_,_,[],bz.out,rfl⟩
 rintro _ wr ⟨u9,u11,u12,u13,Tt,u26,Tu,u28,Mo,Mp,Mq,u32,u33,Ry,XR,XS,XT,XU,Rz,RA,RB,RD,RG,u44,u45,u46,u47,u48,u49,u50,u51,u52,u53,u54,ds,hrel,rfl⟩;clear bz;obtain⟨i,vals,Ds,rfl,hi,hrow,rk,hall,hgr,rfl,iV,pq⟩:=hrel;by_cases hlt:i<ls.length
 .obtain⟨l,hl⟩:∃l,ls[i]?=some l:=⟨_,ek hlt⟩
  obtain⟨u,hu⟩:∃u,us[i]?=some u:=⟨_,ek (by omega)⟩
  have adt:=hgr.heap eG.out.1;have Da:=Hat.out i u hu wr adt;have adu:Grow w1 wr:=eG.out.2.1.trans hgr;have Qb:=adu.heap eG.out.2.2;have eN:(i:Int)<(ls.length:Int):=by omega
  have bU:(0:Int)<=(i:Int):=by omega
  have fT:IntKind.i64.wrap ((i:Int)+1)=((i+1:Nat):Int):=by rw[aQ _ (by omega)];omega
  have lgs:=af adt;have ai:=ar wr (.cells #[.slice none 0 0] 57);have dy:=ax wr (.cells #[.slice none 0 0] 57);have oT:(wr.alloc (.cells #[.slice none 0 0] 57)).cell? ⟨pb,0,none⟩=some (.string p):=by simp[World.cell?,ai.heap Qb]
  have lpb:=af (ai.heap Qb);have aR:=ae (ag hrow (ag rk (ag hall (ag hgr (ag iV (ag pq hl))))));obtain⟨lv,hlv⟩:∃lv,lv=u9:=⟨_,rfl⟩
  have Pk:=pM.out i l u hl hu m (wr.alloc (.cells #[.slice none 0 0] 57)) (cn.out.trans (adu.trans ai));clear hrow rk hall hgr iV pq hl hlv lv;have hst:Grow wr (wr.alloc (.cells #[.slice none 0 0] 57)):=ai
  go_upto_region 6 with fail
  go_cut [33]from 29 to 33 (λfv wx=>∃(gf Bl:Nat)(M:Nat->Prop),fv=.func (.func gf) #[] #[.pointer (some ⟨Bl,0,none⟩)]/\(∀args w,(callFunc gf args).run Tryz.prog w=.ok (.enter gf args) w)/\CK Tryz.prog gf #[.pointer (some ⟨Bl,0,none⟩)] (Ra wx.heap.size) M (eI (spot m 18446744073709551615) l) wx/\(∀b,M b->b<wx.heap.size)/\(∀b,M b->N b\/(wr.alloc (.cells #[.slice none 0 0] 57)).heap.size<=b)/\Grow (wr.alloc (.cells #[.slice none 0 0] 57)) wx)
  case first=>
   rcases Pk with⟨b,rfl,gj⟩|⟨b,rfl,gj⟩
   have ku:=Tryz.aIJ (.pointer (some ⟨b,0,none⟩)) (wr.alloc (.cells #[.slice none 0 0] 57));rotate_left;have ku:=Tryz.aIK (.pointer (some ⟨b,0,none⟩)) (wr.alloc (.cells #[.slice none 0 0] 57))
   all_goals
    have kL:=ae gj;clear gj
    go_wp2_with fail
    (with_reducible refine kL.out.mono ?_);rintro e w5 ⟨gf,Bl,M,rfl,hp9⟩;have Hp9:=ae hp9;clear ku hp9
    go_wp2_with fail
    go_meet;exact⟨gf,Bl,M,rfl,Hp9.out⟩
  case rest=>
   obtain⟨gf,Bl,M,rfl,heg,hseq,hM,hMN,bm⟩:=hcut;generalize oQ:wc=w5 at*;clear Da adt oT Pk hst oQ
   go_wp2_with fail
   obtain⟨lb,pj⟩:∃lb,lb=wr.heap.size:=⟨_,rfl⟩
   have arR:=bm.heap dy;rw[<-pj]at arR ⊢;have z1:=ai.size;have z2:=bm.size;have z3:wr.heap.size<(wr.alloc (.cells #[.slice none 0 0] 57)).heap.size:=af dy;have hMl:Hid (∀b,M b->b<w5.heap.size/\b≠lb):=ae (λb hb=>⟨hM b hb,λe=>by
    have h1:=cn.out.size;have h2:=adu.size;rcases hMN b hb with h|h
    .have:=HN.out b h;omega
    .omega⟩)
   have arT:Hid (lb<w5.heap.size/\pb<wr.heap.size):=ae ⟨by omega,af Qb⟩;have h0:GP lb w5 p [] w5:=⟨[],.slice none 0 0,rfl,(λx h=>by cases h),arR,⟨jh _ _ _ _,λ_ h=>(by cases h)⟩,GX.refl _ _⟩
   have Hlb:=ae pj;have vz:=ae bm;have aPl:=(ai.trans bm).heap Qb;clear pj;refine Zu (gf:=gf) (lb:=#[.pointer (some ⟨Bl,0,none⟩)]) rfl heg (R:=Ra w5.heap.size) (N:=M) (xs:=eI (spot m 18446744073709551615) l) hseq (Kp.refl _ _) hM (λx v W h=>by obtain⟨_,rfl,_⟩:=h;rfl) (λx v=>anZ x v)
    (GP lb w5 p) (VF lb w5 p) GP.own (λc=>VF.own c) h0 ?round ?done ?stop
   case round=>
    rintro l1 pre x rest v W dC dE hW hI Ao;obtain⟨sv,rfl,GQ⟩:=Ao;obtain⟨xa,xc,rfl⟩:=GQ.slice;have Hgo:=ae dC;clear hI GQ dC;gi_wp2;refine⟨ar _ _,λW2 hs2 hc2 BS CL=>?_⟩;have iU:=hc2 _ _ _ _ (ax W (.cells #[.string x.key,.int .u64 x.seq,.bool x.gone,.slice xa x.val.length xc] 60));obtain⟨zs,rv,e1,arV,gV,hrow,dX⟩:=BS;obtain⟨sv,jV,GQ⟩:=CL;obtain rfl:sv=.slice xa x.val.length xc:=by have h1:=congrArg (λa:Array Value=>a[0]?) jV;simpa using h1.symm
    have hzl:zs.length<=1000000000:=by
     have h1:=congrArg List.length e1;have h2:=congrArg List.length Hgo.out;have h3:=Hl.out.2.2.2.2.2;have h4:l.length<=ls.flatten.length:=by rw[List.length_flatten];exact Vv (aV.2 ⟨l,dm aR.out.2.2.2.2.2.2,rfl⟩)
     have h5:(eI (spot m 18446744073709551615) l).length<=l.length:=(List.dropWhile_sublist _).length_le;rw[bA]at h1;rw[aM]at h2;omega
    have eZ:nU (λ_=>False) w5.heap.size W2 ⟨x,.slice xa x.val.length xc⟩:=⟨cE GQ,.inr (λb hb=>.inr ⟨by have:=(GQ.lt hb).1;omega,by obtain⟨cur,hc⟩:=GQ.block hb;exact⟨cur,_,hc,rfl⟩⟩)⟩
    obtain⟨g,cap,w4,hrun,hrow4,hg4⟩:=NG hrow eZ (λb hb=>hb.elim) (aJ dX.size (aw _)) hzl;obtain⟨ra,rc,rfl⟩:=hrow.slice;have b0:W2.cell? ⟨lb,0,none⟩=some (.slice ra zs.length rc):=by simp[World.cell?,gV]
    have Il:=af gV;obtain⟨q0,q1,q2,q3⟩:=cX iU;have lq2:=af iU;have adw:W2.heap[pb]?=some (.cells #[.string p] 9 (0,0)):=dX.heap ((ai.trans bm).heap Qb) (λe=>by have:=arT.out.2;have:=Hlb.out;omega);have p0:W2.cell? ⟨pb,0,none⟩=some (.string p):=by simp[World.cell?,adw]
    have Ls:=af adw;have AA:=LC x.key p W2;have qo:w4.heap[lb]?=some (.cells #[.slice ra zs.length rc] 57 (0,0)):=by
     rw[hg4.block _ Il (λe=>?_)]
     .exact gV
     .obtain⟨_,cur,h1⟩:=sg hrow e.symm;rw[gV]at h1;exact absurd (cp (bh h1)).2.1 (by decide)
    have c4:w4.cell? ⟨lb,0,none⟩=some (.slice ra zs.length rc):=by simp[World.cell?,qo]
    have f4:w4.frozen? ⟨lb,0,none⟩=false:=by simp[World.frozen?,qo]
    have l4:=af qo;have cU:=ae hrun;have Hb:=ae (ag e1 (ag dX (ag hrow (ag hrow4 (ag hg4 (ag qo gV))))));have arW:=ae arV;clear hrun hrow4 hg4 eZ GQ jV hc2 hs2 iU adw hrow dX gV qo e1 arV;obtain⟨hp,GR⟩:∃b,Lib.hasPrefix x.key.data.toList p.data.toList=b:=⟨_,rfl⟩
    have lX:=arz x.key p;obtain⟨b1,hb1⟩:∃b,Op.bytesLess x.key.toList p.toList=b:=⟨_,rfl⟩
    obtain⟨b2,hb2⟩:∃b,(x.key.toList==p.toList)=b:=⟨_,rfl⟩
    rw[GR]at AA;rw[hb1,hb2]at lX;have GS:=ae AA;have hgo:Hid (Dv p x=(hp||(b1||b2))):=ae (by unfold Dv;rw[GR,<-lX];simp);clear AA GR lX;have VH:(hp=false/\b1=false/\b2=false)\/(hp=true\/(hp=false/\b1=true)\/(hp=false/\b1=false/\b2=true)):=by cases hp<;>cases b1<;>cases b2<;>simp
    rcases VH with⟨rfl,rfl,rfl⟩|VH
    .gi_wp2_with (refine⟨trivial,?_⟩;gi_at_call 46;refine(CallsIn.inRound l1 (callsIn_wide.2 GS.out)).mono ?_;rintro e w6 ⟨rfl,rfl⟩)
     have hb:=Hb.out;exact⟨KeepsFrom.refl _ _,rfl,pre,x,rfl,by rw[hgo.out];rfl,zs,_,hb.1,arW.out,hb.2.2.2.2.2.2,hb.2.2.1,hb.2.1⟩
    .have aIV:Hid (Dv p x=true):=ae (by rw[hgo.out];rcases VH with rfl|⟨rfl,rfl⟩|⟨rfl,rfl,rfl⟩<;>simp)
     clear hgo;rcases VH with rfl|⟨rfl,rfl⟩|⟨rfl,rfl,rfl⟩
     all_goals
      gi_wp2_with (first|(refine⟨trivial,?_⟩;gi_at_call 46;refine(CallsIn.inRound l1 (callsIn_wide.2 GS.out)).mono ?_;rintro e w6 ⟨rfl,rfl⟩)|(gi_at_builtin;refine akr rfl _ _ _ rfl rfl rfl cU.out ?_))
      have hb:=Hb.out;have hs2:=hb.2.2.2.2.1;have Zz:(w4.setCell ⟨lb,0,none⟩ (.slice (some ⟨g,0,none⟩) (zs.length+1) cap)).heap[lb]?=some (.cells #[.slice (some ⟨g,0,none⟩) (zs.length+1) cap] 57 (0,0)):=Go.Gl.aK hb.2.2.2.2.2.1 0 _;have hown:∀b,(Value.slice ra zs.length rc).ownBlock=some b->w5.heap.size<=b/\∃cur,w6.heap[b]?=some (.cells cur 60 (0,0)):=λb e=>sg hb.2.2.1 e
      have zK:∀b,b≠lb->b<w6.heap.size->(Value.slice ra zs.length rc).ownBlock≠some b->(w4.setCell ⟨lb,0,none⟩ (.slice (some ⟨g,0,none⟩) (zs.length+1) cap)).heap[b]?=w6.heap[b]?:=λb h1 h2 h3=>by rw[aN _ _ _ _ h1,hs2.block b h2 (λe=>h3 e.symm)]
      have NI:w6.heap.size<=(w4.setCell ⟨lb,0,none⟩ (.slice (some ⟨g,0,none⟩) (zs.length+1) cap)).heap.size:=by simpa using hs2.size
      refine⟨⟨NI,λk o hk ho hc=>?_⟩,⟨NI,λb JC hlt=>?_⟩,zs++[⟨x,.slice xa x.val.length xc⟩],_,by rw[dS,hb.1];rfl,λy hy=>?_,Zz,?_,?_⟩
      .rw[zK k (by have:=arT.out.1;omega) (af ho) (λe=>?_)]
       .exact ho
       .obtain⟨_,cur,h1⟩:=hown k e;rw[ho]at h1;cases h1;cases hc
      .exact zK b (hMl.out b JC).2 hlt (λe=>by have:=(hown b e).1;have:=(hMl.out b JC).1;omega)
      .rcases dn.1 hy with hy|hy
       .exact arW.out y hy
       .rw[cZ.1 hy];exact aIV.out
      .refine hb.2.2.2.1.keep (by simp) (λb yU=>yU.elim) (λb cur t f hB ht hcb=>?_)
       rw[aN _ _ _ _ (λe=>?_)]
       .exact hcb
       .have e':b=lb:=e
        rw[e',hb.2.2.2.2.2.1]at hcb;have h9:=(cp (bh hcb)).2.1;rcases ht with rfl|rfl
        .exact absurd h9 (by decide)
        .exact absurd h9 (by decide)
      .refine⟨hs2.os.trans hb.2.1.os,hs2.tape.trans hb.2.1.tape,hs2.output.trans hb.2.1.output,by have:=hb.2.1.size;omega,λk hk hne=>?_⟩;rw[zK k (λe=>hne (by rw[e])) (bF hk hb.2.1.size) (λe=>by have:=(hown k e).1;omega),hb.2.1.block k hk hne]
   case' done=>
    rintro D W hD ⟨ys,rv,e1,hgo,gV,hrow,hgx⟩ hK;have hcut:Hid (ys.map Ev.e=pG p m l):=ae (by rw[e1];unfold pG;exact(arB hgo).symm)
    clear hseq h0 heg hgo e1
   case' stop=>
    rintro D c pre x rest W hD dC ⟨rfl,KM,x0,hpe,hx0,ys,rv,e1,hgo,gV,hrow,hgx⟩ hK;have hcut:Hid (ys.map Ev.e=pG p m l):=ae (by obtain⟨rfl,qp⟩:=List.append_inj' hpe rfl;cases qp;rw[e1];unfold pG;rw[dC];exact(arC hgo hx0).symm)
    clear hseq h0 heg hgo e1 dC hpe hx0
   all_goals
    obtain⟨ra,rc,rfl⟩:=hrow.slice;have b0:W.cell? ⟨lb,0,none⟩=some (.slice ra ys.length rc):=by simp[World.cell?,gV]
    have Il:=af gV;have z4:wr.heap.size<=W.heap.size:=by have:=hgx.size;omega
    obtain⟨hr1,hr2,hr3,hr4,uY,IZ,Ck⟩:=aR.out;have ic:∀b,b<wr.heap.size->W.heap[b]?=wr.heap[b]?:=λb hb=>by rw[hgx.block b (by omega) (λe=>by have e':b=lb:=bh e;have:=Hlb.out;omega),bm.block b (by omega),ai.block b hb]
    have wk:Go.Gl.Row1 57 w2.heap.size W u9 vals:=hr1.keep (λb hb=>ic b (hr1.lt hb).2);obtain⟨l9,c9,hu9⟩:=wk.slice;have hzw:w2.heap.size<=wr.heap.size:=hr4.size;obtain⟨v',w',hrun,hrow',BJ⟩:=aIQ wk (by omega) (by omega) (.slice ra ys.length rc) rfl;have lD:Grow wr W:=⟨hgx.os.trans (bm.os.trans ai.os),hgx.tape.trans (bm.tape.trans ai.tape),hgx.output.trans (bm.output.trans ai.output),z4,ic⟩
    have hrel:ScI w2 p m ls v' (.int .i64 ((i+1:Nat):Int)) (Qa D::List.map Qa Ds) w':=by
     have hap:∀(b:Nat)(o:Obj),W.heap[b]?=some o->(∀cur f,o≠.cells cur 57 f)->w'.heap[b]?=some o:=λb o ho hne=>by
      rw[BJ.block b (af ho) (λe=>?_)]
      .exact ho
      .obtain⟨cur,hc⟩:=wk.block e.symm;rw[ho]at hc;exact hne _ _ (bh hc)
     have zJ:∀(b:Nat)(cur:Array Value)(t:TypeId)(f:Nat×Nat),(t=5\/t=60)->W.heap[b]?=some (.cells cur t f)->w'.heap[b]?=some (.cells cur t f):=λb cur t f ht hc=>hap b _ hc (λcur' f' e=>by
      have h9:=(cp e).2.1;rcases ht with rfl|rfl
      .exact absurd h9 (by decide)
      .exact absurd h9 (by decide))
     refine⟨i+1,vals++[.slice ra ys.length rc],D::Ds,rfl,hlt,hrow',by simp[hr2],λj u l' hj hl'=>?_,?_,rfl,?_,λD' hD'=>?_⟩
     .by_cases VE:j<vals.length
      .rw[vB VE]at hj;obtain⟨ys2,k1,k2⟩:=hr3 j u l' hj hl';exact⟨ys2,k1.keep (aJ z4 BJ.size) (λb hb=>hb.elim) (λb cur t f _ ht hc=>zJ b cur t f ht ((ic b (af hc)).trans hc)),k2⟩
      .have iM:j=vals.length:=by have:=(dW.1 hj).1;simp only[aM,List.length_singleton]at this;omega
       subst iM;rw[xx (aw _),Nat.sub_self,List.getElem?_cons_zero]at hj;cases hj;rw[hr2,Ck]at hl';cases hl';exact⟨ys,(hrow.mono (by omega)).keep BJ.size (λb hb=>hb.elim) (λb cur t f _ ht hc=>zJ b cur t f ht hc),hcut.out⟩
     .exact(hr4.trans lD).grown BJ (by omega) (λk e=>(wk.lt e).1)
     .refine List.nodup_cons.2 ⟨λhm=>?_,uY⟩;have h9:=af (IZ D hm).2;omega
     .rcases bI.1 hD' with rfl|hD'
      .exact⟨by omega,hap _ _ hK (λ_ _ e=>by cases e)⟩
      .obtain⟨k1,k2⟩:=IZ D' hD';exact⟨k1,hap _ _ ((ic D' (af k2)).trans k2) (λ_ _ e=>by cases e)⟩
    have cU:=ae hrun;have aIY:=ae hrel;subst hu9;clear hrun hrel hr1 hr2 hr3 hr4 uY IZ Ck wk ic lD hrow' BJ
    go_wp2_with (at_builtin;refine fP rfl rfl rfl rfl cU.out ?_)
    refine⟨⟨v',_,_,_,.int .i64 ((i+1:Nat):Int),_,_,_,_,_,_,_,_,_,_,_,_,_,_,_,_,_,_,_,_,_,_,_,_,_,_,_,_,_,_,aIY.out,rfl⟩,?_⟩;simp[intOf];omega
 .obtain rfl:i=ls.length:=by omega
  have hl:=Hl.out;obtain⟨bV,hx1,hx2⟩:=arA (P:=λj ys=>∀(u:Value) l,vals[j]?=some u->ls[j]?=some l->cQ w2.heap.size (λ_=>False) wr u ys/\ys.map Ev.e=pG p m l) vals.length (λj hj=>by obtain⟨ys,k1,k2⟩:=hall j _ _ (ek hj) (ek (by omega));refine⟨ys,λu l h1 h2=>?_⟩;rw[ek hj]at h1;rw[ek (by omega)]at h2;cases h1;cases h2;exact⟨k1,k2⟩)
  have hmap:bV.map (List.map Ev.e)=ls.map (pG p m):=by
   apply List.ext_getElem?;intro j;rw[gQ,gQ];by_cases hj:j<ls.length
   .rw[ek hj,ek (show j<bV.length by omega)];have:=(hx2 j _ (ek (show j<bV.length by omega)) _ _ (ek (by omega)) (ek hj)).2;simp only[Option.map_some];rw[this]
   .rw[List.getElem?_eq_none (by omega),List.getElem?_eq_none (by omega)];rfl
  have cM:∀xs∈bV,∃l∈ls,xs.map Ev.e=pG p m l:=λxs dC=>by
   have h1:xs.map Ev.e∈ls.map (pG p m):=by rw[<-hmap];exact aV.2 ⟨xs,dC,rfl⟩
   obtain⟨l,h2,h3⟩:=aV.1 h1;exact⟨l,h2,h3.symm⟩
  rcases id hrow with⟨_,h0⟩|⟨gb,gc,aPn,rfl,xX,hgb,_⟩
  .exfalso;rw[h0]at rk;exact hne (je rk.symm)
  have hes:il (λb=>w2.heap.size<=b/\b<wr.heap.size) wr gb bV:=il.ofRow hrow hx1.symm (λj u xs hu dC=>by have h2:=ek (show j<ls.length by have:=(dW.1 hu).1;omega);exact((hx2 j xs dC u _ hu h2).1.es (M:=λb=>w2.heap.size<=b) (λb hb=>hb.elim (λh=>h.elim) id)).under)
  have zj:=aID (c:=gc) hes (λb hb=>hb.2) (by
    have h1:=adq p m ls;have h2:(bV.map List.length)=((ls.map (pG p m)).map List.length):=by rw[<-hmap,fh];exact jf (λl _=>by simp)
    rw[h2];have:=hl.2.2.2.2.2;omega) (by omega) (λxs dC x hx=>by
    obtain⟨l,h1,h2⟩:=cM xs dC;refine hl.2.2.2.2.1 x.e (adr (p:=p) (m:=m) (List.mem_flatten.2 ⟨_,aV.2 ⟨l,h1,rfl⟩,?_⟩));rw[<-h2];exact aV.2 ⟨x,hx,rfl⟩) (λxs dC=>by
    obtain⟨l,h1,h2⟩:=cM xs dC;rw[h2];exact List.Pairwise.sublist (VB p m l) (hl.1 l h1)) (λxs dC=>by
    obtain⟨l,h1,h2⟩:=cM xs dC;rw[h2];exact λe he=>hl.2.1 l h1 e ((VB p m l).mem he)) (by
    rw[hmap];exact λx hx y hy=>hl.2.2.1 x (adr hx) y (adr hy))
  rw[hx1,hmap]at zj;have Hmg:=ae zj;have Qc:=ae (ag iV (ag pq hgr));clear zj hes cM hmap hx1 hx2 hrow hall hgb xX iV pq hgr rk hl
  go_wp2_with fail
  (with_reducible refine Hmg.out.mono ?_);rintro e w6 ⟨v6,ys,rfl,hM,Gw,dh⟩;obtain⟨ra,rc,rfl⟩:=Gw.slice;have H6:=ae (ag hM (ag Gw dh));clear hM Gw dh Hmg;obtain⟨n,hn⟩:∃n,n=most.toNat:=⟨_,rfl⟩
  have amh:max most 0=(n:Int):=by omega
  have Hn:=ae hn;have dM:Hid (ys.length<=1000000000):=ae (by
   have h1:=arD (ys.map Ev.e) (ls.map (pG p m)).flatten (H6.out.1.1.imp aBv) (λx hx=>by obtain⟨l,h2,h3⟩:=(H6.out.1.2 x).1 hx;exact List.mem_flatten.2 ⟨l,h2,h3⟩)
   have h2:=adq p m ls;have h3:=Hl.out.2.2.2.2.2;rw[List.length_flatten,bA]at h1;omega)
  have kx:Hid (VG w6 p a ys n (.slice none 0 0) (.string ⟨#[]⟩) (.bool false) (.int .i64 0) w6):=ae ⟨0,[],none,rfl,aY _,by simp,aY _,aY _,.inl ⟨rfl,rfl,rfl⟩,⟨jh _ _ _ _,λ_ h=>(by cases h)⟩,(λz h=>by cases h),aW _⟩;have fI:Hid (∀(W:World)(zs:List Ev)(ov:Value)(tm:Array Value),(∀W',(results Tryz.f18 tm).run Tryz.prog W'=.ok ov W')->cQ w6.heap.size (λb=>b<w6.heap.size) W ov zs->(∀z∈zs,z∈ys)->Grow w6 W->zs.map Ev.e=(nY (zk p a) none (ys.map Ev.e)).take n->
    LeavesInM Fence.wide 4 Tryz.prog Tryz.f18 tm (λe w'=>∃v ys R,e=.returned v/\cQ w.heap.size (λ_=>False) w' v ys/\GN ls.flatten p a R/\ys.map Ev.e=R.take most.toNat/\Grow w w') (Ds.map Qa) .returning W):=ae (λW zs ov tm hres hrow Bn hg heq=>by
   have hwW:Grow wr W:=H6.out.2.2.trans hg;have hw2:Grow w w2:=cn.out.trans eG.out.2.1;have hwr:=hw2.trans Qc.out.2.2;have hdW:∀D∈Ds,W.heap[D]?=some (.deferred (some [])):=λD hD=>hwW.heap (Qc.out.2.1 D hD).2
   refine ary hres Ds W Qc.out.1 hdW (λw' h1 h2 h3 h4 h5=>?_);have se:∀(b:Nat)(cur:Array Value)(t:TypeId)(f:Nat×Nat),W.heap[b]?=some (.cells cur t f)->w'.heap[b]?=some (.cells cur t f):=λb cur t f hc=>by rw[h5 b (λhD=>by rw[hdW b hD]at hc;cases hc) (af hc)];exact hc
   have hrW:cQ w.heap.size (λ_=>False) W ov zs:=⟨rK hrow.1 (by have:=hwr.size;have:=H6.out.2.2.size;omega),λz hz=>by have h6:=(H6.out.2.1.2 z (Bn z hz)).keep hg.size (λb hb=>hb.elim) (λb cur f _ hc=>hg.heap hc);exact⟨h6.1,h6.2.imp id (λh2 b hb=>(h2 b hb).imp id (λh3=>⟨by have:=hwr.size;omega,h3.2⟩))⟩⟩
   have eu:=hwr.trans hwW;refine⟨ov,zs,_,rfl,hrW.keep h4 (λb hb=>hb.elim) (λb cur t f _ _ hc=>se b cur t f hc),aIH Hl.out.2.2.1 (λe=>List.mem_flatten) Hl.out.1 Hl.out.2.2.2.1 Hm.out.1 Hm.out.2.1 Hm.out.2.2 H6.out.1,by rw[<-Hn.out];exact heq,h1.trans eu.os,h2.trans eu.tape,h3.trans eu.output,aJ eu.size h4,λk hk=>?_⟩;rw[h5 k (λhD=>by have:=(Qc.out.2.1 k hD).1;have:=hw2.size;omega) (bF hk eu.size),eu.block k hk])
  clear hn
  go_wp2_with fail
  go_loopw [16,17,18,62] (λov kv sv iv W=>VG w6 p a ys n ov kv sv iv W) (λ_ _ _ iv _=>ys.length-(intOf iv).toNat)
  case atStart=>exact kx.out
  case round=>
   clear kx;obtain⟨j,zs,lst,rfl,hj,hT,KN,hzj,ady,hrow,Bn,sZ⟩:=hrel;by_cases hlt:j<ys.length
   .have Om:Es (λ_=>True) w6 (.slice ra ys.length rc) ys:=H6.out.2.1.es (λb _=>trivial)
    obtain⟨x,b,o,c,xa,xc,hx,hv,hb,cI,lO,c0,c1,c2,c3⟩:=Om.read sZ hlt;cases hv;have eN:(j:Int)<(ys.length:Int):=by omega
    have bU:(0:Int)<=(j:Int):=by omega
    have fT:IntKind.i64.wrap ((j:Int)+1)=((j+1:Nat):Int):=by have:=dM.out;rw[aQ _ (by omega)];omega
    obtain⟨oa,oc,rfl⟩:=hrow.slice;by_cases aJa:n<=zs.length
    .have hf1:(n:Int)<=(zs.length:Int):=by omega
     have hzs:zs.map Ev.e=(nY (zk p a) none (ys.map Ev.e)).take n:=by rw[<-hT,List.take_append_of_le_length (by rw[bA];exact aJa),List.take_of_length_le (by rw[bA];exact KN)]
     have qR:=ar wr (.cells #[.string x.e.key,.int .u64 x.e.seq,.bool x.e.gone,.slice xa x.e.val.length xc] 60);have aZ:=ae (ag (hrow.grow qR (λb hb=>bF hb sZ.size)) (ag Bn (ag (sZ.trans qR) hzs)));clear hrow Bn sZ hzs hT ady lO cI hx qR
     go_wp2_with fail
     exact fI.out _ zs (.slice oa zs.length oc) _ (λw=>by exact results_tmp (t:=8) rfl _ _ _) aZ.out.1 aZ.out.2.1 aZ.out.2.2.1 aZ.out.2.2.2
    .obtain⟨⟨xk,xs,xg,xd⟩,xv⟩:=x
     simp only at cI;subst cI;have qR:=ar wr (.cells #[.string xk,.int .u64 xs,.bool xg,.slice xa xd.length xc] 60);have mZ:=ax wr (.cells #[.string xk,.int .u64 xs,.bool xg,.slice xa xd.length xc] 60);have Dw:=sZ.trans qR;have Gb:=hrow.grow qR (λb hb=>bF hb sZ.size);have nP:=dm hx;have hdr:(ys.drop j).map Ev.e=⟨xk,xs,xg,xd⟩::(ys.drop (j+1)).map Ev.e:=by rw[nA hlt];rw[ek hlt]at hx;rw[bh hx];rfl
     rw[hdr]at hT
     go_upto_region 18 with fail
     clear c0 c1 c2 c3 hb;obtain⟨qb,adz⟩:∃qb,qb=wr.heap.size:=⟨_,rfl⟩
     rw[<-adz]at mZ ⊢;have aPq:=ae adz;clear adz;generalize wr.alloc (.cells #[.string xk,.int .u64 xs,.bool xg,.slice xa xd.length xc] 60)=wa at*;have adA:wa.heap[pb]?=some (.cells #[.string p] 9 (0,0)):=Dw.heap (H6.out.2.2.heap (Qc.out.2.2.heap (eG.out.2.1.heap eG.out.2.2)));have Oj:nU (λb=>b<w6.heap.size) w6.heap.size wa ⟨⟨xk,xs,xg,xd⟩,.slice xa xd.length xc⟩:=by
      have h5:=H6.out.2.1.2 _ nP;have h6:=h5.keep Dw.size (λb hb=>hb.elim) (λb cur f _ hc=>Dw.heap hc);refine⟨h6.1,h5.2.imp id (λh2 b hb=>.inl ?_)⟩;rcases h2 b hb with h3|⟨_,cur,f,h4,_⟩
      .exact h3.elim
      .exact af h4
     have aPr:=dM.out;obtain⟨g9,aJb,w8,hrun,mG,tL⟩:=NG Gb Oj (λb hb=>hb) Dw.size (by omega);have zg:Grow w6 w8:=Dw.grown tL Dw.size (λk e=>(sg Gb e).1);have AA:=LC xk p wa;have lX:=arz xk a;obtain⟨hp,GR⟩:∃b,Lib.hasPrefix xk.data.toList p.data.toList=b:=⟨_,rfl⟩
     obtain⟨b1,hb1⟩:∃b,Op.bytesLess xk.toList a.toList=b:=⟨_,rfl⟩
     obtain⟨b2,hb2⟩:∃b,(xk.toList==a.toList)=b:=⟨_,rfl⟩
     rw[GR]at AA;rw[hb1,hb2]at lX;have dG:zk p a ⟨xk,xs,xg,xd⟩=(!xg&& !(b1||b2)&&hp):=by unfold zk;rw[GR,<-lX]
     have Dx:Hid (¬(lst≠some xk/\(!xg&& !(b1||b2)&&hp)=true)->VG w6 p a ys n (.slice oa zs.length oc) (.string xk) (.bool true) (.int .i64 ((j+1:Nat):Int)) wa):=ae (λhno=>⟨j+1,zs,some xk,rfl,hlt,by rw[<-hT,nY,if_neg (by rw[dG];exact hno)],KN,by omega,.inr ⟨_,rfl,rfl,rfl⟩,Gb,Bn,Dw⟩);have GU:Hid (lst≠some xk/\(!xg&& !(b1||b2)&&hp)=true->VG w6 p a ys n (.slice (some ⟨g9,0,none⟩) (zs.length+1) aJb) (.string xk) (.bool true) (.int .i64 ((j+1:Nat):Int)) w8):=ae (λacZ=>⟨j+1,zs++[⟨⟨xk,xs,xg,xd⟩,.slice xa xd.length xc⟩],some xk,rfl,hlt,by rw[<-hT,nY,if_pos (by rw[dG];exact acZ)];simp,by simp;omega,by simp;omega,.inr ⟨_,rfl,rfl,rfl⟩,mG,λz hz=>by
      rcases dn.1 hz with hz|hz
      .exact Bn z hz
      .rw[cZ.1 hz];exact nP,zg⟩)
     have cU:=ae hrun;have GS:=ae AA;obtain⟨q0,q1,q2,q3⟩:=cX mZ;have lq:=af mZ;have p0:wa.cell? ⟨pb,0,none⟩=some (.string p):=by simp[World.cell?,adA]
     have lp:=af adA;have hf0:¬(n:Int)<=(zs.length:Int):=by omega
     have Dy:(xg=false/\b1=false/\b2=false/\hp=true)\/(xg=true\/(xg=false/\b1=true)\/(xg=false/\b1=false/\b2=true)\/(xg=false/\b1=false/\b2=false/\hp=false)):=by cases xg<;>cases b1<;>cases b2<;>cases hp<;>simp
     clear qR Dw Gb hdr hT Oj hrun mG tL zg AA lX GR dG hrow Bn sZ lO hx nP adA;have wO:∀k:ByteArray,(xk.toList==k.toList)=true->k=xk:=λk h=>by
      rw[jz,jz]at h;have h2:xk.data.toList=k.data.toList:=by simpa using h
      exact(Cu h2).symm
     rcases ady with⟨rfl,rfl,rfl⟩|⟨k,rfl,rfl,rfl⟩
     .rcases Dy with⟨rfl,rfl,rfl,rfl⟩|Dy
      .have aR:=ae (GU.out ⟨by simp,rfl⟩)
       clear Dx GU
       go_wp2_with (first|((with_reducible refine GS.out.mono ?_);rintro e w7 ⟨rfl,hw⟩;have hw':=hw.symm;subst hw';clear hw)|(at_builtin;refine fP rfl rfl rfl rfl cU.out ?_))
       go_roundw
       case rel=>exact aR.out
       case measure=>simp[intOf];omega
      .have aR:=ae (Dx.out (by rintro⟨_,h⟩;rcases Dy with rfl|⟨rfl,rfl⟩|⟨rfl,rfl,rfl⟩|⟨rfl,rfl,rfl,rfl⟩<;>simp at h))
       clear Dx GU;rcases Dy with rfl|⟨rfl,rfl⟩|⟨rfl,rfl,rfl⟩|⟨rfl,rfl,rfl,rfl⟩
       all_goals
        go_wp2_with ((with_reducible refine GS.out.mono ?_);rintro e w7 ⟨rfl,hw⟩;have hw':=hw.symm;subst hw';clear hw)
        go_roundw
        case rel=>exact aR.out
        case measure=>simp[intOf];omega
     .obtain⟨kb,hkb⟩:∃kb,(xk.toList==k.toList)=kb:=⟨_,rfl⟩
      cases kb
      .have hlk:some k≠some xk:=λh=>by cases bh h;simp at hkb
       rcases Dy with⟨rfl,rfl,rfl,rfl⟩|Dy
       .have aR:=ae (GU.out ⟨hlk,rfl⟩)
        clear Dx GU
        go_wp2_with (first|((with_reducible refine GS.out.mono ?_);rintro e w7 ⟨rfl,hw⟩;have hw':=hw.symm;subst hw';clear hw)|(at_builtin;refine fP rfl rfl rfl rfl cU.out ?_))
        go_roundw
        case rel=>exact aR.out
        case measure=>simp[intOf];omega
       .have aR:=ae (Dx.out (by rintro⟨_,h⟩;rcases Dy with rfl|⟨rfl,rfl⟩|⟨rfl,rfl,rfl⟩|⟨rfl,rfl,rfl,rfl⟩<;>simp at h))
        clear Dx GU;rcases Dy with rfl|⟨rfl,rfl⟩|⟨rfl,rfl,rfl⟩|⟨rfl,rfl,rfl,rfl⟩
        all_goals
         go_wp2_with ((with_reducible refine GS.out.mono ?_);rintro e w7 ⟨rfl,hw⟩;have hw':=hw.symm;subst hw';clear hw)
         go_roundw
         case rel=>exact aR.out
         case measure=>simp[intOf];omega
      .obtain rfl:=wO k hkb
       have aR:=ae (Dx.out (λh=>h.1 rfl));clear Dx GU
       go_wp2_with fail
       go_roundw
       case rel=>exact aR.out
       case measure=>simp[intOf];omega
   .obtain rfl:j=ys.length:=by omega
    rw[List.drop_length,List.map_nil,nY,List.append_nil]at hT;have hzs:zs.map Ev.e=(nY (zk p a) none (ys.map Ev.e)).take n:=by rw[<-hT,List.take_of_length_le (by rw[bA];exact KN)]
    obtain⟨oa,oc,rfl⟩:=hrow.slice;have aZ:=ae (ag hrow (ag Bn (ag sZ hzs)));clear hrow Bn sZ hzs hT ady
    go_wp2_with fail
    exact fI.out _ zs (.slice oa zs.length oc) _ (λw=>by exact results_tmp (t:=8) rfl _ _ _) aZ.out.1 aZ.out.2.1 aZ.out.2.2.1 aZ.out.2.2.2
end
section
variable{Z B Nn A C i:Nat}{w:World}{t:Tr}{f:Lk}{T K:Nat}{s:di}
theorem aJc(b:cY Z B Nn A C i w t f T K s):s.V.tabs.length<=A:=by
 have a:s.V.tabs.length<=(s.V.tabs.map λa=>(s.aB a.file).length).sum:=by
  have d:∀l:List Tb,(∀a∈l,s.aB a.file≠[])->l.length<=(l.map λa=>(s.aB a.file).length).sum:=by
   intro l
   induction l with
   |nil=>intro _;exact aw _
   |cons a l e=>intro c;have f:=List.length_pos_iff.2 (c a (ej ..));have f:=e (λe f=>c e (fE _ f));simp only[dD,cr,List.sum_cons];omega
  exact d _ (λa c=>(b.gX.aB a c).1)
 have:=b.lim.pB;omega
theorem asb(x:En)(l:List En):(eI x l).length<=l.length:=by
 unfold eI
 first
 |exact List.length_filter_le _ _
 |exact(List.dropWhile_sublist _).length_le
theorem asc{x e:En}{l:List En}(a:e∈eI x l):e∈l:=by
 unfold eI at a
 first
 |exact(List.mem_filter.1 a).1
 |exact(List.dropWhile_sublist _).mem a
theorem ase(d:cY Z B Nn A C i w t f T K s)(c:A<=100000)(p a:ByteArray)(n:Int):
  Calls Tryz.prog 18 #[.pointer (some ⟨t.db,0,none⟩),.string p,.string a,.int .i64 n] w λe w'=>∃v c R,e=.returned v/\cQ w.heap.size (λ_=>False) w' v c/\GN (cJ s) p a R/\c.map Ev.e=R.take n.toNat/\Grow w w':=by
 obtain⟨c,o⟩:=d.tree.mem;have c:=d.V;have f:=aJc d;have j:=d.tree.own;have m:=d.tree.set;rw[c]at j m;have c:=d.lim.pB;have f:(cJ s).length<=A:=by unfold cJ;rw[aM,List.length_flatten,fh];exact c
 have x:∀c∈s.V.tabs,(s.aB c.file).length<=A:=λc g=>by have h:(s.aB c.file).length<=(s.V.tabs.map λc=>(s.aB c.file).length).sum:=Kh (aV.2 ⟨c,g,rfl⟩);omega
 have q:∀l∈(aH s.LL::s.V.tabs.map λc=>s.aB c.file),rq l:=λl f=>by
  rcases bI.1 f with rfl|f
  .exact d.yY
  .obtain⟨c,g,rfl⟩:=aV.1 f;exact(d.gX.aB c g).2
 have r:∀e∈(aH s.LL::s.V.tabs.map λc=>s.aB c.file).flatten,CR e:=λe k=>by obtain⟨l,h,u⟩:=List.mem_flatten.1 k;exact(q l h).ok e u
 have y:=λ(W:World)(h:Grow w W)=>amA (d.tree.cell.grow h) (m.grow h) (fB j h) (by omega) (d.tree.tabs.grow h) (tbs:=s.V.tabs.map λc=>((t.ld c.file).map Prod.fst).getD 0) (by rw[bA]) (λi c b g j=>by rw[gQ,g]at j;obtain⟨u,m⟩:=d.ld c (dm g);rw[Option.map_some,m]at j;cases j;exact(d.tree.load _ _ _ m).1)
 have v:=d.mem;have w:=aIR (N:=t.N) (ls:=aH s.LL::s.V.tabs.map λc=>s.aB c.file) p a n y (by simp[oI]) (by simp) (by simp only[dD,bA];omega) (λi l a f a n W h=>by
   cases i with
   |zero=>left;simp only[List.getElem?_cons_zero,Option.some.injEq]at f;simp only[oI,List.getElem?_cons_zero,Option.some.injEq]at a;subst f;refine⟨_,a.symm,(akB (o.grow h) (λb j=>bF (d.tree.apart b j).1 h.size) (by have:=congrArg List.length v;rw[bA]at this;omega) n).mono (λe w' o=>?_)⟩;rw[v]at o;exact aIL o (by have:=asb (spot n 18446744073709551615) (aH s.LL);show(eI (spot n 18446744073709551615) (aH s.LL)).length<=_;omega) (λc g=>by have:=(d.yY.ok c (asc g)).val;omega)
   |succ i=>
    right;simp only[List.getElem?_cons_succ,gQ]at f;simp only[oI,List.getElem?_cons_succ,gQ]at a;cases g:s.V.tabs[i]? with
    |none=>rw[g]at f;cases f
    |some c=>rw[g]at f a;obtain⟨u,m⟩:=d.ld c (dm g);simp only[Option.map_some,Option.some.injEq,m,Option.getD_some]at f a;subst f;refine⟨u,a.symm,(aII ((d.tree.load _ _ _ m).2.kp (.bO h)) n).mono (λe w' o=>?_)⟩;exact aIM o (by have:=asb (spot n 18446744073709551615) (s.aB c.file);have:=x c (dm g);omega) (λa h=>by have:=((d.gX.aB c (dm g)).2.ok a (asc h)).val;omega)) (λb j=>(d.tree.apart b j).1)
  (λl f=>(q l f).ord) (λl f=>(q l f).gone) (by rw[List.flatten_cons];exact d.vu) (λe k=>by have:=(r e k).seq;omega) (λe k=>by have:=(r e k).val;omega) (by rw[List.flatten_cons];show(cJ s).length<=_;omega)
 rw[List.flatten_cons]at w;exact w
end
section
abbrev TM:=ByteArray->Option (Nat×List UInt8)
def GV(L:List En)(up:Nat):TM:=λk=>(seen L k up).map λa=>(a.seq,a.val)
def iI(n:Nat)(ws:List Wr)(M:TM):TM:=λk=>match gJ k ws with
 |some a=>if a.gone then none else some (n,a.val)
 |none=>M k
section
variable{L L':List En}{n up:Nat}{ws:List Wr}
theorem aJd(e:qQ L')(a:∀x,x∈L'↔(∃y,gJ x.key ws=some y/\x=gI n y)\/x∈L)(c:∀x∈L,x.seq<n)(f:n<=up)(k:ByteArray):
  eP k up L'=match gJ k ws with|some y=>some (gI n y)|none=>eP k up L:=by
 cases d:gJ k ws with
 |some y=>
  have b:=(ajD d).2;refine Jk e ((a _).2 (.inl ⟨y,by rw[show(gI n y).key=k from b];exact d,rfl⟩)) ⟨b,f⟩ (λx b _=>?_);rcases(a x).1 b with⟨y',_,he⟩|h1
  .rw[he];exact aw _
  .exact Nat.le_of_lt (c x h1)
 |none=>
  simp only;cases f:eP k up L with
  |none=>
   refine EW.2 λx b c=>?_
   rcases(a x).1 b with⟨y',h',_⟩|h1
   .rw[c.1,d]at h';cases h'
   .exact EW.1 f x h1 c
  |some y=>
   obtain⟨g,h,i⟩:=Cx f;refine Jk e ((a _).2 (.inr g)) h (λx b c=>?_);rcases(a x).1 b with⟨y',h',_⟩|h1
   .rw[c.1,d]at h';cases h'
   .exact i x h1 c
theorem aJe(a:qQ L')(b:∀x,x∈L'↔(∃y,gJ x.key ws=some y/\x=gI n y)\/x∈L)(c:∀x∈L,x.seq<n)(d:n<=up):GV L' up=iI n ws (GV L up):=by
 funext k
 unfold GV iI seen;rw[aJd a b c d k];cases gJ k ws with
 |some y=>cases a:y.gone<;>simp[gI,a]
 |none=>rfl
end
def VI(N:Nat->Prop)(w:World):Option Value->Option (List UInt8)->Prop
 |none,none=>True
 |some v,some d=>Bw N w v d
 |_,_=>False
theorem VI.kp{a:Option Value}{b:Option (List UInt8)}(c:VI N w a b)(k:Kp N w w'):VI N w' a b:=by cases a<;>cases b<;>first|exact c|exact Bw.kp c k
def jd(N:Nat->Prop)(w:World)(r:Nat)(M:TM)(m:Nat):Prop:=∃g,eh w r Value.string g m/\∀k,VI N w (g k) ((M k).map (·.2))
theorem jd.keep{M:TM}(a:jd N w r M m)(b:w'.heap[r]?=w.heap[r]?)(k:Kp N w w'):jd N w' r M m:=by obtain⟨g,c,d⟩:=a;exact⟨g,c.keep b,λa=>(d a).kp k⟩
theorem jd.grow{M:TM}(a:jd N w r M m)(b:Grow w w'):jd N w' r M m:=by obtain⟨g,c,d⟩:=id a;exact a.keep (b.block r c.lt) (.bO b)
def zm(A:ByteArray->Option Nat):ByteArray->Option Value:=λk=>(A k).map λn:Nat=>Value.int .u64 (n:Int)
structure Hd where
 n:Nat
 r:Nat
 M:TM
structure im(N:Nat->Prop)(B:Nat)(w:World)(t:Tr)(wb mm am:Nat)(drv hv ov:Value)(seq:Nat)(M:TM)(ats:ByteArray->Option Nat)(hs:List Hd)(m:Nat):Prop where
 self:w.heap[wb]?=some (.cells (Du t.p t.o drv (.pointer (some ⟨t.db,0,none⟩)) mm am seq hv ov) 47 (0,0))
 map:jd N w mm M m
 dK:eh w am Value.string (zm ats) m
 draws:Iw N w drv t.ds
 hrow:Go.Gl.Row1 37 B w hv (hs.map λh=>.int .u64 (h.n:Int))
 zo:Go.Gl.Row1 42 B w ov (hs.map λh=>.map (some h.r))
 olds:∀h∈hs,jd N w h.r h.M m
 apart:mm≠am/\∀h∈hs,h.r≠mm/\h.r≠am
 maps:∀b,(b=mm\/b=am\/∃h∈hs,b=h.r)->(b≠t.r/\b≠t.tm/\b≠t.hm)/\¬t.N b/\B<=b
 tX:∀b,(b=wb\/hv.ownBlock=some b\/ov.ownBlock=some b)->¬t.N b/\B<=b
 low:∀b,N b->b<B
end
section
variable{Nn:Nat}{w:World}
theorem aJf(w:World)(a:Int)(x y:Option Addr)(m n c d:Nat)(b:Int):(Instr.buildSlice 32 1 #[(0,.agg #[.int .i64 a,.slice x m c,.slice y n d,.int .i64 b])]).run Tryz.prog w=.ok (.slice (some ⟨w.heap.size,0,none⟩) 1 1) (w.alloc (.cells #[.int .i64 a,.slice x m c,.slice y n d,.int .i64 b] 31)):=by kernel_rfl
theorem aJg{a:Av}(b:W.heap[qb]?=some (.cells #[.int .i64 a.op,a.wv,a.pv,.int .i64 a.n] 31 (0,0)))(d:N qb)(e:Ws N W a.wv a.ys)(f:Iw N W a.pv a.ks):PV N W (.slice (some ⟨qb,0,none⟩) 1 1) [a]:=by
 have c:∀(j:Nat)(v:Value),(#[Value.int .i64 a.op,a.wv,a.pv,.int .i64 a.n]:Array Value)[j]?=some v->W.cell? ⟨qb,j,none⟩=some v:=λj v a=>by simp only[World.cell?,b];exact a
 refine⟨⟨_,1,rfl,.inr ⟨qb,0,rfl,d,af b,λi g b d a a=>?_⟩⟩,λg b=>by rw[cZ.1 b];exact⟨e,f⟩⟩
 match i,b with
 |0,b=>
  cases b
  match d,a with
  |0,a=>cases a;exact c 0 _ rfl
  |1,a=>cases a;exact c 1 _ rfl
  |2,a=>cases a;exact c 2 _ rfl
  |3,a=>cases a;exact c 3 _ rfl
  |d+4,a=>simp[acU]at a
 |i+1,b=>simp at b
theorem aJh{a:List Wv}{c:Value}(b:Bh [⟨0,c,pv,0,a,[]⟩]):a.length<=8192/\bj (a.map (·.x))<=8192/\a.length+bj (a.map (·.x))<=8192/\∀y∈a,y.x.key.size<=60000:=by have a:=b.2.1;simp only[cr,List.map_nil,List.sum_cons,List.sum_nil,sB,iJ]at a;exact⟨by omega,by omega,by omega,b.2.2 _ (List.mem_singleton_self _)⟩
theorem asf(k:ByteArray)(l:List Wr):gJ k (l.map kW)=(gJ k l).map kW:=by
 have b:∀a:Wr,(kW a).key=a.key:=λa=>by unfold kW;split<;>rfl
 induction l using YW with
 |h0=>rfl
 |h1 l a a=>
  rw[dS,cr,List.map_nil,Ni,Ni,a,b]
  split<;>rfl
end
section
theorem eh.Dz{κ:Type}[DecidableEq κ]{w:World}{r:Nat}{enc:κ->Value}{g:κ->Option Value}{m:Nat}(a:eh w r enc g m)(arr:Array Value)(ty:TypeId)(fz:Nat×Nat):w.heap[r]?≠some (.cells arr ty fz):=λb=>by obtain⟨l,c,c,_⟩:=a;have a:w.heap[r]?=_:=c;rw[b]at a;cases a
def oJ(n:Nat)(ws:List Wr)(A:ByteArray->Option Nat):ByteArray->Option Nat:=λk=>match gJ k ws with
 |some _=>some n
 |none=>A k
theorem aJi(n:Nat)(ws:List Wr)(y:Wr)(M:TM):iI n (ws++[y]) M=λk=>if y.key=k then(if y.gone then none else some (n,y.val))else iI n ws M k:=by
 funext k
 unfold iI;rw[Ni];by_cases a:y.key=k
 .rw[if_pos a,if_pos a]
 .rw[if_neg a,if_neg a]
theorem asg(n:Nat)(ws:List Wr)(y:Wr)(A:ByteArray->Option Nat):oJ n (ws++[y]) A=λk=>if y.key=k then some n else oJ n ws A k:=by
 funext k
 unfold oJ;rw[Ni];by_cases a:y.key=k
 .rw[if_pos a,if_pos a]
 .rw[if_neg a,if_neg a]
theorem aJj(n:Nat)(M:TM):iI n [] M=M:=rfl
theorem ash(n:Nat)(A:ByteArray->Option Nat):oJ n [] A=A:=rfl
theorem adB(n:Nat)(ws:List Wr)(M:TM):iI n (ws.map kW) M=iI n ws M:=by
 funext k
 unfold iI;rw[asf];cases gJ k ws with
 |none=>rfl
 |some a=>obtain⟨b,b,c⟩:=a;cases b<;>rfl
section
variable{N:Nat→Prop}{w:World}{r m:Nat}{M:TM}
theorem VJ{w':World}(a:GX r w w')(c:¬N r):Kp N w w':=⟨a.size,λb d e=>a.block b e (λa=>c (by cases a;exact d))⟩
theorem jd.put(a:jd N w r M m)(c:¬N r)(k:ByteArray){d:List UInt8}(hv:Bw N w v d)(n:Nat):
  ∃w',(Instr.mapUpdate 42 (.map (some r)) (.string k) v).run Tryz.prog w=.ok () w'/\jd N w' r (λj=>if k=j then some (n,d)else M j) (m+1)/\GX r w w':=by
 obtain⟨g,b,d⟩:=a;obtain⟨w',e,f,a⟩:=aaw sH Tryz.underlying42 b k v;have b:=VJ a c;refine⟨w',e,⟨_,f,λj=>?_⟩,a⟩;unfold tJ;dsimp only;by_cases a:k=j
 .subst a;rw[if_pos rfl,if_pos rfl];exact Bw.kp hv b
 .rw[if_neg (λc=>a c.symm),if_neg a];exact(d j).kp b
theorem jd.del(a:jd N w r M m)(b:¬N r)(k:ByteArray):
  ∃w',(Builtin.delete_ #[42,9] 0 #[.map (some r),.string k]).run Tryz.prog w=.ok (.tuple #[]) w'/\jd N w' r (λj=>if k=j then none else M j) m/\GX r w w':=by
 obtain⟨g,c,d⟩:=a;obtain⟨w',e,f,a⟩:=aEh (ty:=0) (kt':=9) sH Tryz.underlying42 c k;have c:=VJ a b;refine⟨w',e,⟨_,f,λj=>?_⟩,a⟩;unfold aat;dsimp only;by_cases a:k=j
 .subst a;rw[if_pos rfl,if_pos rfl];exact True.intro
 .rw[if_neg (λb=>a b.symm),if_neg a];exact(d j).kp c
theorem asi{A:ByteArray->Option Nat}(a:eh w r Value.string (zm A) m)(k:ByteArray)(n:Nat):
  ∃w',(Instr.mapUpdate 43 (.map (some r)) (.string k) (.int .u64 (n:Int))).run Tryz.prog w=.ok () w'/\eh w' r Value.string (zm (λj=>if k=j then some n else A j)) (m+1)/\GX r w w':=by
 obtain⟨w',b,c,d⟩:=aaw sH Tryz.underlying43 a k (.int .u64 (n:Int));refine⟨w',b,?_,d⟩;have a:tJ (zm A) k (.int .u64 (n:Int))=zm (λj=>if k=j then some n else A j):=by
  funext j
  unfold tJ zm;dsimp only;by_cases b:k=j
  .subst b;rw[if_pos rfl,if_pos rfl];rfl
  .rw[if_neg (λa=>b a.symm),if_neg b]
 rw[<-a];exact c
end
def WaI(N:Nat->Prop)(w2:World)(mm am n:Nat)(M:TM)(A:ByteArray->Option Nat)(ws:List Wr)(m:Nat)(a:Value)(wr:World):Prop:=
 ∃i:Nat,a=.int .i64 (i:Int)/\i<=ws.length/\jd N wr mm (iI n (ws.take i) M) (m+i)/\eh wr am Value.string (zm (oJ n (ws.take i) A)) (m+i)/\Sep (λb=>b=mm\/b=am) w2 wr (λb=>b=mm\/b=am)
def Qd(t:Tr)(s:di)(ws:List Wr):Nat:=(bC aq (jw (t.seq+1) ws)).length+(gW t.o.block.toNat (fO (t.seq+1) ws (aH s.LL))).length+(2*costs (fO (t.seq+1) ws (aH s.LL))+200)
section
variable{Z B Nn A C i:Nat}{w w':World}{t t':Tr}{f f':Lk}{T K T' K':Nat}{s s':di}
theorem xr(c:Go.Gl.Row1 E B w v xs)(a:v.ownBlock=some g):B<=g/\∃b,w.heap[g]?=some (.cells b E (0,0)):=by
 rcases c with⟨c,_⟩|⟨d,d,b,c,d,e,_⟩
 .rw[c]at a;cases a
 .rw[c]at a;cases a;exact⟨d,b,e⟩
theorem DA(a:Go.Gl.Row1 E B w v xs)(b:∀g,v.ownBlock=some g->w'.heap[g]?=w.heap[g]?):Go.Gl.Row1 E B w' v xs:=by
 rcases a with a|⟨g',cap,cur,a,hB,h3,h4⟩
 .exact .inl a
 .exact .inr ⟨g',cap,cur,a,hB,(b g' (by rw[a];rfl)).trans h3,h4⟩
theorem im.off{N:Nat->Prop}{m:Nat}{drv:Value}{M:TM}{ats:ByteArray->Option Nat}{e:List Hd}(a:im N B w t wb mm am drv hv ov seq M ats e m)(c:cR Z B Nn w t f T K)(d:b=wb\/b=mm\/b=am\/(∃x∈e,b=x.r)\/hv.ownBlock=some b\/ov.ownBlock=some b\/N b):¬FT t b:=by
 rcases d with rfl|rfl|rfl|⟨x,hx,rfl⟩|d|d|d
 .exact c.off a.self (by decide)
 .obtain⟨⟨g,⟨l,h,e,_⟩,_⟩,q⟩:=ag a.map (a.maps _ (.inl rfl)).1;exact c.PX e (λ_ _ _ f=>by cases f) q.1 q.2.1 q.2.2
 .obtain⟨⟨l,h,e,_⟩,q⟩:=ag a.dK (a.maps _ (.inr (.inl rfl))).1;exact c.PX e (λ_ _ _ f=>by cases f) q.1 q.2.1 q.2.2
 .obtain⟨⟨g,⟨l,h,e,_⟩,_⟩,q⟩:=ag (a.olds x hx) (a.maps _ (.inr (.inr ⟨x,hx,rfl⟩))).1;exact c.PX e (λ_ _ _ f=>by cases f) q.1 q.2.1 q.2.2
 .obtain⟨_,g,f⟩:=xr a.hrow d;exact c.off f (by decide)
 .obtain⟨_,g,f⟩:=xr a.zo d;exact c.off f (by decide)
 .exact λf=>by have e:=c.base b f;have c:=a.low b d;omega
theorem jd.lt{N:Nat->Prop}{r m:Nat}{M:TM}(a:jd N w r M m):r<w.heap.size:=by obtain⟨g,b,_⟩:=a;exact b.lt
theorem im.turn{N:Nat->Prop}{m:Nat}{drv:Value}{M:TM}{ats:ByteArray->Option Nat}{c:List Hd}(a:im N B w t wb mm am drv hv ov seq M ats c m)(i:cR Z B Nn w t f T K)(d:fJ w t w' t'):im N B w' t' wb mm am drv hv ov seq M ats c m:=by
 have e:B<=w.heap.size:=i.aS.base;have e:∀b,b<w.heap.size->(b=wb\/b=mm\/b=am\/(∃f∈c,b=f.r)\/hv.ownBlock=some b\/ov.ownBlock=some b\/N b)->w'.heap[b]?=w.heap[b]?:=λb c h=>d.sep.out b c (a.off i h)
 have i:Kp N w w':=⟨d.sep.size,λb c j=>e b j (.inr (.inr (.inr (.inr (.inr (.inr c))))))⟩
 have m:∀b,b<w.heap.size->¬t.N b->¬t'.N b:=λb j k l=>(d.new b l).elim k (λk=>by omega)
 refine⟨?_,a.map.keep (e _ a.map.lt (.inr (.inl rfl))) i,a.dK.keep (e _ a.dK.lt (.inr (.inr (.inl rfl)))),by rw[d.ds];exact a.draws.kp i,DA a.hrow (λg k=>?_),DA a.zo (λg k=>?_),λf h=>(a.olds f h).keep (e _ (a.olds f h).lt (.inr (.inr (.inr (.inl ⟨f,h,rfl⟩))))) i,a.apart,λb c=>?_,λb c=>?_,a.low⟩
 .rw[d.p,d.o,d.db,e wb (af a.self) (.inl rfl)];exact a.self
 .obtain⟨_,l,i⟩:=xr a.hrow k;exact e g (af i) (.inr (.inr (.inr (.inr (.inl k)))))
 .obtain⟨_,l,i⟩:=xr a.zo k;exact e g (af i) (.inr (.inr (.inr (.inr (.inr (.inl k))))))
 .obtain⟨e,g,k⟩:=a.maps b c
  have j:b<w.heap.size:=by
   rcases c with rfl|rfl|⟨f,h,rfl⟩
   .exact a.map.lt
   .exact a.dK.lt
   .exact(a.olds f h).lt
  exact⟨by rw[d.r,d.tm,d.hm];exact e,m b j g,k⟩
 .obtain⟨e,g⟩:=a.tX b c
  have j:b<w.heap.size:=by
   rcases c with rfl|c|c
   .exact af a.self
   .obtain⟨_,l,i⟩:=xr a.hrow c;exact af i
   .obtain⟨_,l,i⟩:=xr a.zo c;exact af i
  exact⟨m b j e,g⟩
theorem im.keep{N:Nat->Prop}{m:Nat}{drv:Value}{M:TM}{ats:ByteArray->Option Nat}{d:List Hd}(a:im N B w t wb mm am drv hv ov seq M ats d m)(e:w.heap.size<=w'.heap.size)(c:∀b,b<w.heap.size->(b=wb\/b=mm\/b=am\/(∃x∈d,b=x.r)\/hv.ownBlock=some b\/ov.ownBlock=some b\/N b)->w'.heap[b]?=w.heap[b]?):im N B w' t wb mm am drv hv ov seq M ats d m:=by
 have d:Kp N w w':=⟨e,λb e f=>c b f (.inr (.inr (.inr (.inr (.inr (.inr e))))))⟩
 refine⟨(c wb (af a.self) (.inl rfl)).trans a.self,a.map.keep (c _ a.map.lt (.inr (.inl rfl))) d,a.dK.keep (c _ a.dK.lt (.inr (.inr (.inl rfl)))),a.draws.kp d,DA a.hrow (λg b=>?_),DA a.zo (λg b=>?_),λx e=>(a.olds x e).keep (c _ (a.olds x e).lt (.inr (.inr (.inr (.inl ⟨x,e,rfl⟩))))) d,a.apart,a.maps,a.tX,a.low⟩
 .obtain⟨_,e,d⟩:=xr a.hrow b;exact c g (af d) (.inr (.inr (.inr (.inr (.inl b)))))
 .obtain⟨_,e,d⟩:=xr a.zo b;exact c g (af d) (.inr (.inr (.inr (.inr (.inr (.inl b))))))
theorem im.grow{N:Nat->Prop}{m:Nat}{drv:Value}{M:TM}{ats:ByteArray->Option Nat}{a:List Hd}(d:im N B w t wb mm am drv hv ov seq M ats a m)(c:Grow w w'):im N B w' t wb mm am drv hv ov seq M ats a m:=
 d.keep c.size (λb a _=>c.block b a)
theorem im.GW{N:Nat->Prop}{m:Nat}{drv:Value}{M:TM}{ats:ByteArray->Option Nat}{c:List Hd}(a:im N B w t wb mm am drv hv ov seq M ats c m)(d:b=mm\/b=am\/(∃x∈c,b=x.r)\/hv.ownBlock=some b\/ov.ownBlock=some b\/N b):b≠wb:=by
 have f:∀{r m:Nat}{M:TM},jd N w r M m->r≠wb:=λ{r m M} e c=>by obtain⟨g,⟨l,h,g,_⟩,_⟩:=e;have e:w.heap[r]?=_:=g;rw[c,a.self]at e;cases e
 rcases d with rfl|rfl|⟨x,hx,rfl⟩|d|d|d
 .exact f a.map
 .intro c;obtain⟨l,h,g,_⟩:=a.dK;have e:w.heap[b]?=_:=g;rw[c,a.self]at e;cases e
 .exact f (a.olds x hx)
 .obtain⟨_,h,f⟩:=xr a.hrow d;intro c;rw[c,a.self]at f;exact absurd (cp (bh f)).2.1 (by decide)
 .obtain⟨_,h,f⟩:=xr a.zo d;intro c;rw[c,a.self]at f;exact absurd (cp (bh f)).2.1 (by decide)
 .intro c;have g:=a.low b d;have e:=(a.tX wb (.inl rfl)).2;omega
theorem im.asl{N:Nat->Prop}{m:Nat}{drv:Value}{M:TM}{ats:ByteArray->Option Nat}{e:List Hd}(a:im N B w t wb mm am drv hv ov seq M ats e m)(n:Nat):im N B (w.setCell ⟨wb,10,none⟩ (.int .u64 (n:Int))) t wb mm am drv hv ov n M ats e m:=by
 have c:∀b,(b=mm\/b=am\/(∃d∈e,b=d.r)\/hv.ownBlock=some b\/ov.ownBlock=some b\/N b)->(w.setCell ⟨wb,10,none⟩ (.int .u64 (n:Int))).heap[b]?=w.heap[b]?:=λb e=>aN _ _ _ _ (a.GW e)
 have f:Kp N w (w.setCell ⟨wb,10,none⟩ (.int .u64 (n:Int))):=⟨by simp,λb e _=>c b (.inr (.inr (.inr (.inr (.inr e)))))⟩
 refine⟨?_,a.map.keep (c _ (.inl rfl)) f,a.dK.keep (c _ (.inr (.inl rfl))),a.draws.kp f,DA a.hrow (λg b=>c g (.inr (.inr (.inr (.inl b))))),DA a.zo (λg b=>c g (.inr (.inr (.inr (.inr (.inl b)))))),λd b=>(a.olds d b).keep (c _ (.inr (.inr (.inl ⟨d,b,rfl⟩)))) f,a.apart,a.maps,a.tX,a.low⟩;have b:=Go.Gl.aK a.self 10 (.int .u64 (n:Int));exact b
theorem im.asm{N:Nat->Prop}{mm am m c:Nat}{drv:Value}{M e:TM}{ats f:ByteArray->Option Nat}{h:List Hd}(a:im N B w t wb mm am drv hv ov seq M ats h m)(d:Sep (λb=>b=mm\/b=am) w w' (λb=>b=mm\/b=am))(h1:jd N w' mm e c)(k:eh w' am Value.string (zm f) c)(l:m<=c):im N B w' t wb mm am drv hv ov seq e f h c:=by
 have n:∀{r m:Nat}{M:TM},jd N w r M m->∀e f h,w.heap[r]?≠some (.cells e f h):=λ{r m M} i e f h c=>by obtain⟨g,j,_⟩:=i;exact j.Dz e f h c
 have f:∀{E:TypeId}{v:Value}{xs:List Value},Go.Gl.Row1 E B w v xs->∀g,v.ownBlock=some g->w'.heap[g]?=w.heap[g]?:=λ{E v xs} i g h=>by
  obtain⟨_,e,e⟩:=xr i h;refine d.out g (af e) (λc=>?_);rcases c with rfl|rfl
  .exact n a.map _ _ _ e
  .exact a.dK.Dz _ _ _ e
 have e:∀b,N b->b<w.heap.size->w'.heap[b]?=w.heap[b]?:=λb h i=>d.out b i (λc=>by
  have j:=a.low b h;rcases c with rfl|rfl
  .have:=(a.maps b (.inl rfl)).2.2;omega
  .have:=(a.maps b (.inr (.inl rfl))).2.2;omega)
 have h:Kp N w w':=⟨d.size,e⟩
 refine⟨(d.out wb (af a.self) (λc=>?_)).trans a.self,h1,k,a.draws.kp h,DA a.hrow (f a.hrow),DA a.zo (f a.zo),λb e=>?_,a.apart,a.maps,a.tX,a.low⟩
 .rcases c with c|c
  .exact a.GW (.inl rfl) c.symm
  .exact a.GW (.inr (.inl rfl)) c.symm
 .obtain⟨g,f,i⟩:=(a.olds b e).keep (d.out _ (a.olds b e).lt (λc=>by
   have:=a.apart.2 b e;rcases c with c|c
   .exact this.1 c
   .exact this.2 c)) h
  exact⟨g,f.more l,i⟩
end
end
section
theorem asn{κ:Type}[DecidableEq κ](k:κ):∀(l:List (aD κ)) (i:Nat),(ly k l i).map (·.2)=(l.find? (λe=>decide (k=e.key))).map aD.val
 | [],_=>rfl
 |e::l,i=>by
  unfold ly;by_cases a:k=e.key
  .simp[a]
  .rw[if_neg a,asn k l (i+1),List.find?_cons,decide_eq_false a]
theorem aJk{κ:Type}[DecidableEq κ]{enc:κ->Value}{g:κ->Option Value}(K:xy Tryz.prog kt enc)(a:Tryz.prog.underlying t=some (.map kt et))(d:(zeroValue et).run Tryz.prog w=.ok z w)(c:eh w r enc g m)(k:κ):
  (Instr.lookup t (.map (some r)) (enc k) true).run Tryz.prog w=.ok (.tuple #[(g k).getD z,.bool (g k).isSome]) w:=by
 obtain⟨l,b,b,_,_,_,_,e⟩:=c;rw[<-e k,<-asn k l 0];cases c:ly k l 0 with
 |none=>simp[Instr.lookup,run_underlying a,Go.Gl.run_getObj_map b,K.check,K.find,c,d,Result.andThen]
 |some p=>simp[Instr.lookup,run_underlying a,Go.Gl.run_getObj_map b,K.check,K.find,c,Result.andThen]
theorem VK{c:Type}:∀{a b:List c},a.Nodup->(∀x∈a,x∈b)->a.length<=b.length
 | [],_,_,_=>aY _
 |x::a,b,hn,hs=>by
  obtain⟨p,q,c⟩:=ry (hs x (ej ..));have d:=VK (a:=a) (b:=p++q) (List.nodup_cons.1 hn).2 (λe b=>by
   have a:=hs e (fE _ b);rw[c]at a;rcases dn.1 a with a|a
   .exact jg _ a
   .rcases bI.1 a with rfl|a
    .exact absurd b (List.nodup_cons.1 hn).1
    .exact nz _ a)
  rw[c,aM,dD];rw[aM]at d;rw[dD];omega
theorem aso{c:Type}{a b:List c}(d:a.Nodup)(e:b.Nodup)(c:∀x,x∈a↔x∈b):a.length=b.length:=
 Nat.le_antisymm (VK d (λx a=>(c x).1 a)) (VK e (λx a=>(c x).2 a))
structure tY(L:List En)(M:TM)(ats:ByteArray->Option Nat):Prop where
 tell:GV L 18446744073709551615=M
 dK:∀k n d,M k=some (n,d)->ats k=some n
section
variable{L:List En}{M:TM}{ats:ByteArray→Option Nat}{R:List En}
theorem aJl{k:ByteArray}{e:En}(a:tY L M ats)(b:eP k 18446744073709551615 L=some e)(c:e.gone=false):M k=some (e.seq,e.val):=by rw[<-a.tell];unfold GV seen;rw[b];simp[c]
theorem asp{k:ByteArray}{d:List UInt8}(b:tY L M ats)(a:M k=some (n,d)):∃e,eP k 18446744073709551615 L=some e/\e.gone=false/\e.seq=n/\e.val=d:=by
 rw[<-b.tell]at a;unfold GV seen at a;cases b:eP k 18446744073709551615 L with
 |none=>rw[b]at a;cases a
 |some e=>
  rw[b]at a;cases b:e.gone with
  |true=>simp[b]at a
  |false=>simp only[b,Bool.false_eq_true,if_false,Option.map_some,Option.some.injEq,Prod.mk.injEq]at a;exact⟨e,rfl,b,a.1,a.2⟩
theorem adC(a:R.Pairwise aaz):(R.map (·.key)).Nodup:=by rw[List.Nodup,List.pairwise_map];refine a.imp (λ{c b} d=>λe=>?_);have a:c.key.data.toList<b.key.data.toList:=d;rw[e]at a;exact List.lt_irrefl _ a
theorem asq(a:GN L ⟨#[]⟩ ⟨#[]⟩ R):R.length<=L.length:=by have c:R.Nodup:=(List.pairwise_map.1 (adC a.keys)).imp (λ{d b} b d=>b (by rw[d]));exact VK c (λb c=>(Cx ((a.mem b).1 c).1).1)
theorem asr(a:tY L M ats)(c:GN L ⟨#[]⟩ ⟨#[]⟩ R){e:En}(d:e∈R):M e.key=some (e.seq,e.val)/\ats e.key=some e.seq/\e.gone=false:=by obtain⟨f,b,_⟩:=(c.mem e).1 d;have c:=aJl a f b;exact⟨c,a.dK _ _ _ c,b⟩
theorem aJm(h:tY L M ats)(c:GN L ⟨#[]⟩ ⟨#[]⟩ R){d:List ByteArray}(i:d.Nodup)(j:∀k,k∈d↔(M k).isSome=true):d.length=R.length+if(M ⟨#[]⟩).isSome then 1 else 0:=by
 have g:∀k,k∈R.map (·.key)↔(M k).isSome=true/\k≠⟨#[]⟩:=λk=>by
  constructor
  .intro f;obtain⟨a,e,rfl⟩:=aV.1 f;refine⟨by rw[(asr h c e).1];rfl,λm=>?_⟩;have f:=((c.mem a).1 e).2.2.1;rw[m]at f;exact List.lt_irrefl _ f
  .rintro⟨f,e⟩
   obtain⟨⟨n,m⟩,m⟩:=Option.isSome_iff_exists.1 f;obtain⟨a,f,n,_,_⟩:=asp h m;have h:a.key=k:=(Cx f).2.1.1;subst h;refine aV.2 ⟨a,(c.mem a).2 ⟨f,n,?_,?_⟩,rfl⟩
   .cases f:a.key.data.toList with
    |nil=>exact absurd (ByteArray.ext (by apply Array.ext';exact f)) e
    |cons h l=>exact List.Lex.nil
   .rfl
 have f:R.length=(R.map (·.key)).length:=by simp
 rw[f];by_cases f:(M ⟨#[]⟩).isSome=true
 .rw[if_pos f]
  have e:=aso (a:=d) (b:=⟨#[]⟩::R.map (·.key)) i (List.nodup_cons.2 ⟨λl=>((g _).1 l).2 rfl,adC c.keys⟩) (λk=>by
   rw[j,bI,g];by_cases a:k=⟨#[]⟩
   .subst a;simp[f]
   .simp[a])
  rw[e,dD]
 .rw[if_neg f]
  have e:=aso (a:=d) (b:=R.map (·.key)) i (adC c.keys) (λk=>by
   rw[j,g];by_cases a:k=⟨#[]⟩
   .subst a;simp[f]
   .simp[a])
  rw[e];rfl
end
theorem aJn{M:TM}(a:jd N w r M m):∃(l:List (aD ByteArray)) (c:Nat),Go.Gl.MapAt w r Value.string l c/\(l.map aD.key).Nodup/\l.length<=m/\∀k,k∈l.map aD.key↔(M k).isSome=true:=by
 obtain⟨g,⟨l,c,b,d,_,_,e,f⟩,g⟩:=a;refine⟨l,c,b,d,e,λk=>?_⟩;have b:=g k;rw[<-f k]at b;constructor
 .intro d
  obtain⟨e,f,rfl⟩:=aV.1 d;cases c:l.find? (λa=>decide (e.key=a.key))with
  |none=>exact absurd (List.find?_eq_none.1 c e f) (by simp)
  |some a=>
   rw[c]at b;cases f:M e.key with
   |none=>rw[f]at b;exact b.elim
   |some p=>rfl
 .intro d
  obtain⟨p,e⟩:=Option.isSome_iff_exists.1 d;cases c:l.find? (λa=>decide (k=a.key))with
  |none=>rw[c,e]at b;exact b.elim
  |some a=>have b:=List.find?_some c;exact aV.2 ⟨a,List.mem_of_find?_eq_some c,(by simpa using b:k=a.key).symm⟩
theorem adD{M:TM}(a:jd N w r M m)(k:ByteArray):∃b c,(Instr.lookup 42 (.map (some r)) (.string k) true).run Tryz.prog w=.ok (.tuple #[.slice b (((M k).map (·.2)).getD []).length c,.bool (M k).isSome]) w/\Bv w (.slice b (((M k).map (·.2)).getD []).length c) (((M k).map (·.2)).getD []):=by
 obtain⟨g,e,f⟩:=a;have d:=aJk sH Tryz.underlying42 (z:=.slice none 0 0) (by kernel_rfl) e k;have a:=f k;cases f:g k with
 |none=>
  rw[f]at d a;cases e:M k with
  |some p=>rw[e]at a;exact a.elim
  |none=>exact⟨none,0,d,Ul w⟩
 |some v=>
  rw[f]at d a;cases e:M k with
  |none=>rw[e]at a;exact a.elim
  |some p=>rw[e]at a;have e:Bv w v p.2:=a.1;obtain⟨b,c,rfl⟩:=e.slice;exact⟨b,c,d,e⟩
theorem aJo{L:List En}{M:TM}{ats:ByteArray->Option Nat}(g:tY L M ats){k:ByteArray}{e:Ending}(b:Ke w (eP k 18446744073709551615 L) e w'):∃d f,e=.returned (.tuple #[.slice d (((M k).map (·.2)).getD []).length f,.bool (M k).isSome])/\Bv w' (.slice d (((M k).map (·.2)).getD []).length f) (((M k).map (·.2)).getD [])/\Grow w w':=by
 have a:M k=(seen L k 18446744073709551615).map λc=>(c.seq,c.val):=by rw[<-g.tell];rfl
 unfold seen at a;cases h:eP k 18446744073709551615 L with
 |none=>rw[h]at b a;obtain⟨i,g⟩:=b;rw[a];exact⟨none,0,i,Ul w',g⟩
 |some c=>
  rw[h]at b a;obtain⟨b,g⟩:=b;cases h:c.gone with
  |true=>
   simp only[h,if_true,Option.map_none]at a;have j:e=.returned (.tuple #[.slice none 0 0,.bool false]):=by simpa only[h,if_true]using b
   rw[a];exact⟨none,0,j,Ul w',g⟩
  |false=>
   simp only[h,Bool.false_eq_true,if_false,Option.map_some]at a;have j:∃v,e=.returned (.tuple #[v,.bool true])/\aI w.heap.size w' v c.val:=by simpa[h]using b
   obtain⟨v,i,b⟩:=j;rw[a];obtain⟨d,f,rfl⟩:=b.slice;exact⟨d,f,i,cE b,g⟩
end
section
variable{Z B Nn A C i:Nat}{w:World}{t:Tr}{f:Lk}{T K:Nat}{s:di}
def SmI(w2:World)(L:Nat)(a b:Value)(wr:World):Prop:=∃i:Nat,a=.int .i64 (i:Int)/\b=.int .i64 (i:Int)/\i<=L/\Grow w2 wr
def SmK(w2:World)(am b c:Nat)(wr:World):Prop:=∃(d:Array Nat)(a:Nat),wr.heap[b]?=some (.mapIter (some am) c d a)/\c<=a/\Grow w2 wr
theorem aJp(p:cY Z B Nn A C i w t f T K s){drv:Value}{M:TM}{ats:ByteArray->Option Nat}(hl:im N B w t wb mm am drv (.slice none 0 0) (.slice none 0 0) t.seq M ats [] m)(ht:tY (cJ s) M ats)(hA:A<=100000)(hm:m<=1000000):
  Calls Tryz.prog 19 #[.pointer (some ⟨wb,0,none⟩)] w λe w'=>e=.returned (.bool true)/\Grow w w':=by
 have H0:=ae p;have Hl:=ae hl;have Ht:=ae ht;have Hb:=ae (ag hA hm);obtain⟨_,q,d,g,r,u,_,c⟩:=vA hl.self;have S1:∀W,Grow w W->(W.cell? ⟨wb,7,none⟩=some (.pointer (some ⟨t.db,0,none⟩))/\W.cell? ⟨wb,8,none⟩=some (.map (some mm))/\W.cell? ⟨wb,9,none⟩=some (.map (some am))/\W.cell? ⟨wb,10,none⟩=some (.int .u64 (t.seq:Int))/\W.cell? ⟨wb,11,none⟩=some (.slice none 0 0))/\wb<W.heap.size:=λW S=>by obtain⟨_,q,d,g,r,u,_,c⟩:=vA (Hl.out.grow S).self;exact⟨⟨q,d,g,r,u⟩,c⟩
 have D:=ae S1;clear p hl ht hA hm S1 q d g r u c;go_enter Tryz.func19,Tryz.ntmps19
 go_upto_region 1 with fail
 have E:=ay w;have dR:=aqp (H0.out.grow E);refine oK (λW=>(W.cell? ⟨wb,7,none⟩=some (.pointer (some ⟨t.db,0,none⟩))/\W.cell? ⟨wb,8,none⟩=some (.map (some mm))/\W.cell? ⟨wb,9,none⟩=some (.map (some am))/\W.cell? ⟨wb,10,none⟩=some (.int .u64 (t.seq:Int))/\W.cell? ⟨wb,11,none⟩=some (.slice none 0 0))/\wb<W.heap.size) [(0,false),(1,false),(2,false),(3,false),(5,false),(6,false),(7,false),(8,false),(4,true),(9,false)] (by kernel_rfl) (by kernel_rfl) (bB λ_ _ _ _ _ p=>p) (D.out _ E) ?_;simp only[cm,nth]
 repeat ((first|(apply az;rfl;rintro W ⟨⟨bi,bk,bl,bn,jR⟩,nj⟩;go_simp;with_reducible rfl)|(apply aA;rfl));simp only[ah,List.set])
 refine bw (by rfl) (by go_simp) dR ?_;rintro e w1 ⟨rfl,rfl⟩;refine⟨_,rfl,D.out _ E,?_⟩
 try simp only[ah,List.set,aC]
 repeat ((first|(apply az;rfl;rintro W ⟨⟨bi,bk,bl,bn,jR⟩,nj⟩;go_simp;with_reducible rfl)|(apply aA;rfl));simp only[ah,List.set])
 refine bg ?_;have aL:=ase (H0.out.grow E) Hb.out.1 ⟨#[]⟩ ⟨#[]⟩ 1048576;have Qe:=ae aL;have xp:=ae E;obtain⟨⟨q,d,g,r,u⟩,c⟩:=D.out _ E;clear aL E dR;generalize w.drew=w1 at*
 go_wp2_with fail
 (with_reducible refine Qe.out.mono ?_);rintro e w2 ⟨lv,a,R,rfl,ak,ke,bQ,aR⟩;have bo:(cJ s).length<=100000:=by have F:=H0.out.lim.pB;have h2:=Hb.out.1;unfold cJ;rw[aM,List.length_flatten];simp only[fh,Function.comp_def];omega
 have aT:R.take 1048576=R:=List.take_of_length_le (by have:=asq ke;omega);have an:a.map Ev.e=R:=by rw[bQ];exact aT
 have dM:a.length<=100000:=by have F:=congrArg List.length an;rw[bA]at F;have:=asq ke;omega
 obtain⟨la,lc,rfl⟩:=ak.slice;obtain⟨ML,bs⟩:∃k,k=a.length:=⟨_,rfl⟩
 have aU:Es (λb=>w1.heap.size<=b) w2 (.slice la a.length lc) a:=ak.es (λb hb=>hb.elim (λh9=>h9.elim) id);have iz:=xp.out.trans aR;have Dc:=ae aU;have Oi:=ae ke;have FP:=ae an;have JY:=ae dM;have eG:=ae iz;have bz:Hid (SmI w2 a.length (.int .i64 0) (.int .i64 0) w2):=ae ⟨0,rfl,rfl,aY _,aW w2⟩;obtain⟨⟨bt,bD,bE,bK,bL⟩,bN⟩:=D.out _ iz;clear q d g r u c ak ke bQ an aT bo dM bs aU iz aR Qe
 go_wp2_with fail
 go_loopw [4,5] (λnv iv wr=>SmI w2 a.length nv iv wr) (λ_ iv _=>a.length-(intOf iv).toNat)
 case atStart=>exact bz.out
 case round=>
  clear bz bt bD bE bK bL bN;obtain⟨k,rfl,rfl,hk,y⟩:=hrel;have S:=eG.out.trans y;obtain⟨⟨q,d,g,r,u⟩,c⟩:=D.out _ S;have G:=Hl.out.grow S;by_cases U:k<a.length
  .obtain⟨h,V⟩:∃h,a[k]?=some h:=⟨a[k],by simp[U]⟩
   have hE:=Dc.out.kp (.bO y);obtain⟨b,o,ab,hv,bR,ao,bq⟩:=hE.addr V;cases hv;obtain⟨H,X,Y,d3⟩:=Cw bq V;have ba:h.e∈R:=by rw[<-FP.out];exact aV.2 ⟨h,dm V,rfl⟩
   obtain⟨m1,m2,m3⟩:=asr Ht.out Oi.out ba;have eZ:Bv wr h.v h.e.val:=(hE.get V).1;have ap:k=0\/∃aa:Ev,0<k/\wr.cell? ⟨b,o+(k-1)*4,none⟩=some (.string aa.e.key)/\aa.e.key.data.toList<h.e.key.data.toList:=by
    rcases Nat.eq_zero_or_pos k with I|I
    .exact .inl I
    .have hx:a[k-1]?=some (a[k-1]'(by omega)):=by simp
     refine .inr ⟨_,I,(Cw bq hx).1,?_⟩;have hp:=Oi.out.keys;rw[<-FP.out,List.pairwise_map]at hp;have F:=List.pairwise_iff_getElem.1 hp (k-1) k (by omega) U (by omega);have h2:a[k]=h:=by have:=ek U;rw[V]at this;exact(bh this).symm
     rw[h2]at F;exact F
   obtain⟨bU,bV,J,L⟩:=adD (G.map.grow (ay wr)) h.e.key;rw[m1]at J L;dsimp only[Option.map_some,Option.getD_some,Option.isSome_some]at J L;have Qf:=ay wr.drew;have KO:=xQ (L.grow Qf);have O:=xQ ((eZ.grow (ay wr)).grow Qf);have v:=aau sH Tryz.underlying43 (z:=.int .u64 0) (by kernel_rfl) ((G.dK.grow (ay wr)).grow Qf) h.e.key;unfold zm at v;rw[m2]at v;dsimp only[Option.map_some,Option.getD_some]at v;obtain⟨⟨yk,yq,yg,yd⟩,yv⟩:=h;dsimp only at H X Y d3 m3 eZ ap J L KO O v;subst m3;obtain⟨ya,yc,rfl⟩:=eZ.slice;have lV:(k:Int)<(a.length:Int):=by omega
   have jZ:(0:Int)<=(k:Int):=by omega
   have yF:IntKind.i64.wrap ((k:Int)+1)=(k:Int)+1:=aQ _ (by have:=JY.out;omega);have aZ:=ae ((y.trans (ay wr)).trans Qf);have iy:=ae U;have D0:(wr.drew.cell? ⟨b,o+k*4,none⟩=some (.string yk)/\wr.drew.cell? ⟨wb,8,none⟩=some (.map (some mm))/\wb<wr.drew.heap.size/\b<wr.drew.heap.size):=⟨H,d,c,ao⟩
   have D1:wr.drew.drew.cell? ⟨b,o+k*4,none⟩=some (.string yk)/\wr.drew.drew.cell? ⟨b,o+k*4+1,none⟩=some (.int .u64 yq)/\wr.drew.drew.cell? ⟨b,o+k*4+2,none⟩=some (.bool false)/\wr.drew.drew.cell? ⟨b,o+k*4+3,none⟩=some (.slice ya yd.length yc)/\wr.drew.drew.cell? ⟨wb,9,none⟩=some (.map (some am))/\wb<wr.drew.drew.heap.size/\b<wr.drew.drew.heap.size:=⟨H,X,Y,d3,g,c,ao⟩
   have P1:k=0\/∃aa:Ev,0<k/\wr.drew.drew.cell? ⟨b,o+(k-1)*4,none⟩=some (.string aa.e.key)/\aa.e.key.data.toList<yk.data.toList:=ap
   have Rm:=ae D1;have XW:=ae P1;have Hq:=ae (ag KO (ag O v));clear hE bq V ba m1 m2 eZ ap L bR G S y U D1 P1 KO O v Qf;obtain⟨e0,e8,le,lb⟩:=D0
   go_upto_region 8 with fail
   refine cN (λW=>W=wr.drew) [] (by kernel_rfl) (bB λ_ _ _ _ _ p=>p) rfl ?_;simp only[ct];clear q d g r u c H X Y d3 ao;generalize wr.drew=W1 at*
   repeat ((first|(apply az;rfl;rintro W rfl;go_simp;with_reducible rfl)|(apply aA;rfl));simp only[ah,List.set])
   refine bg ?_;clear J e0 e8 le lb
   go_upto_region 9 with fail
   obtain⟨KO,O,v⟩:=Hq.out;obtain⟨H,X,Y,d3,d9,le,lb⟩:=Rm.out;rcases XW.out with I|⟨aa,vZ,JP,gL⟩
   .have av:¬(0:Int)<(k:Int):=by omega
    have aE:¬0<k:=by omega
    clear I;refine cN (λW=>W=W1.drew) [] (by kernel_rfl) (bB λ_ _ _ _ _ p=>p) rfl ?_;simp only[ct];generalize W1.drew=W2 at*
    repeat ((first|(apply az;rfl;rintro W rfl;go_simp;with_reducible rfl)|(apply aA;rfl));simp only[ah,List.set])
    refine bg ?_;clear KO O v H X Y d3 d9 le lb av aE;go_wp2;go_roundw
    case rel=>exact⟨k+1,by simp,by simp,by have:=iy.out;omega,aZ.out⟩
    case measure=>simp[intOf];have:=iy.out;omega
   .have I:=vZ
    clear vZ;have av:(0:Int)<(k:Int):=by omega
    have aE:0<k:=by omega
    clear I;have bT:IntKind.i64.wrap ((k:Int)-1)=((k-1:Nat):Int):=(aQ _ (by have:=JY.out;have:=iy.out;omega)).trans (by omega);have uB:((k-1:Nat):Int)<(a.length:Int):=by have:=iy.out;omega
    have rM:(0:Int)<=((k-1:Nat):Int):=by omega
    obtain⟨j,hj⟩:∃j,j=k-1:=⟨_,rfl⟩
    rw[<-hj]at bT uB rM JP;clear hj;have tK:=(VD _ _).2 gL;clear gL;refine cN (λW=>W=W1.drew) [] (by kernel_rfl) (bB λ_ _ _ _ _ p=>p) rfl ?_;simp only[ct];generalize W1.drew=W2 at*
    repeat ((first|(apply az;rfl;rintro W rfl;go_simp;with_reducible rfl)|(apply aA;rfl));simp only[ah,List.set])
    refine bg ?_;clear KO O v H X Y d3 d9 le lb av aE tK JP bT uB rM;go_wp2;go_roundw
    case rel=>exact⟨k+1,by simp,by simp,by have:=iy.out;omega,aZ.out⟩
    case measure=>simp[intOf];have:=iy.out;omega
  .obtain rfl:k=a.length:=by omega
   have e1:¬(a.length:Int)<(a.length:Int):=by omega
   obtain⟨ml,mc,mC,fU,bY,Jv⟩:=aJn G.map;have n:=aJm Ht.out Oi.out fU Jv;rw[bA,<-congrArg List.length FP.out,bA]at n;obtain⟨bU,bV,J,L⟩:=adD G.map ⟨#[]⟩;have Q:((ml.map (aD.raw Value.string)).toArray).size=ml.length:=by simp
   obtain⟨bb,eD⟩:∃bb,bb=(M ⟨#[]⟩).isSome:=⟨_,rfl⟩
   rw[<-eD]at J n;clear eD;have oG:wr.heap[mm]?=some (.map ((ml.map (aD.raw Value.string)).toArray) mc):=mC;have yF:IntKind.i64.wrap ((a.length:Int)+1)=(a.length:Int)+1:=aQ _ (by have:=JY.out;omega);obtain⟨MA,bc⟩:∃MA,MA=(ml.map (aD.raw Value.string)).toArray:=⟨_,rfl⟩
   rw[<-bc]at oG Q;clear bc;obtain⟨nl,x,fM,bd,dB⟩:∃l ab,Go.Gl.MapAt wr am Value.string l ab/\(∀e∈l,e.born<ab)/\(l.map aD.born).Nodup:=by obtain⟨l,ab,q1,q2,q3,q4,q5,q6⟩:=G.dK;exact⟨l,ab,q1,q3,q4⟩
   have LG:=run_range_map (P:=Tryz.prog) wr 43 9 37 am _ x Tryz.underlying43 fM;have oP:wr.heap.size≠am:=by have:=af fM;omega
   have zF:=ae fM;have iB:=ae bd;have kH:=ae dB;have Hg:=ae S;have ca:=ae (ag oG Q);have cb:=ae n;clear mC fU bY Jv L fM bd dB G y U oG Q n;obtain⟨w3,cc⟩:∃W,W=wr:=⟨_,rfl⟩
   subst cc
   go_upto_if 120 with fail
   go_cut [4]from 121 to 122 (λnv wx=>nv=.int .i64 (ml.length:Int)/\wx=w3)
   case first=>
    have n:=cb.out;cases bb with
    |true=>rw[if_pos rfl]at n;have Hc:=ae n;clear n;go_wp2;go_meet;exact⟨by rw[Hc.out];simp,rfl⟩
    |false=>rw[if_neg (by decide)]at n;have Hc:=ae n;clear n;go_wp2;go_meet;exact⟨by rw[Hc.out];simp,rfl⟩
   case rest=>
   obtain⟨rfl,ce⟩:=hcut;subst ce;obtain⟨oG,Q⟩:=ca.out;have lB:(Builtin.len_ #[42] 3 #[.map (some mm)]).run Tryz.prog wc=.ok (.int .i64 (ml.length:Int)) wc:=by have h9:=run_len_map (P:=Tryz.prog) (w:=wc) 42 3 mm MA mc (by kernel_rfl) oG;rw[Q]at h9;exact h9
   clear J yF e1
   go_wp2_with fail
   clear LG oG Q lB q d g r u c
   go_loopw [] (λW=>SmK wc am wc.heap.size x W) (λW=>vF am wc.heap.size W)
   case atStart=>exact⟨#[],x,ax wc _,aw _,ar _ _⟩
   case round=>
    obtain⟨ch,c0,ad,ci,eu⟩:=hrel;have qJ:Go.Gl.MapAt wr am Value.string nl x:=eu.heap zF.out;have ux:=Ie ad qJ;rcases VR (P:=Tryz.prog) (enc:=Value.string) (l:=nl) 0 ad qJ iB.out ci oP kH.out with⟨F,h2⟩|⟨e,w4,he,ck,Wz,vT,y,Q⟩
    .have aZ:=ae (Hg.out.trans eu);clear F ux qJ ad eu;go_wp2;go_ret;exact⟨rfl,aZ.out⟩
    .have ai:Grow wc w4:=eu.grown y eu.size (λk hk=>by cases hk;exact aw _)
     have xK:∀W,W.heap[wc.heap.size]?=some (.mapIter (some am) x (ch.push e.born) x)->Grow wc W->vF am wc.heap.size W<vF am wc.heap.size wr:=λW hW lD=>by
      rw[Ie hW (lD.heap zF.out:Go.Gl.MapAt W am Value.string nl x),ux,KV];refine Nat.lt_of_le_of_ne (List.length_filter_le _ _) λh4=>?_
      have:=(List.length_filter_eq_length_iff.1 h4) e he;simp at this
     have DZ:=ae xK;have cl:=ae vT;have AL:=ae ai;generalize e.key=aj at*;obtain⟨⟨q,d,g,r,u⟩,c⟩:=D.out _ (Hg.out.trans ai);have vq:=Vl (H0.out.grow (Hg.out.trans ai)) Hb.out.1 aj;have Ui:=ae vq;clear ux qJ ad eu xK vT ai vq y he
     go_wp2_with fail
     (with_reducible refine Ui.out.mono ?_);rintro e5 w5 hp;obtain⟨cq,cs,rfl,be,bm⟩:=aJo Ht.out hp;have BM:=(Hg.out.trans AL.out).trans bm;obtain⟨⟨d7,d8,d9,cu,cv⟩,cG⟩:=D.out _ BM;obtain⟨cH,cI,jU,bf⟩:=adD (Hl.out.grow BM).map aj;have O:=xQ be;have cL:=xQ bf;have aF:=bm.heap cl.out;have cn:Hid (SmK wc am wc.heap.size x w5):=ae ⟨_,x,aF,aw _,AL.out.trans bm⟩;have co:=ae (DZ.out w5 aF (AL.out.trans bm));clear be bf aF bm BM hp Ui q d g r u c ck Wz;generalize ((M aj).map (·.2)).getD []=dd at*;generalize (M aj).isSome=cM at*
     go_wp2_with fail
     refine wp_loop_rounds 2 ?_;rw[rounds_succ]
     go_wp2_with fail
     go_roundw
     case rel=>exact cn.out
     case measure=>exact co.out
end
section
variable{Z B Nn A C i:Nat}{w:World}{t:Tr}{f:Lk}{T K:Nat}{s:di}
def FX(t:Tr)(wb mm am:Nat):Nat->Prop:=λb=>FT t b\/b=wb\/b=mm\/b=am
def adH(Z B Nn A C i:Nat)(N:Nat->Prop)(w:World)(t:Tr)(T:Nat)(s:di)(wb mm am:Nat)(drv hv ov:Value)(M:TM)(ats:ByteArray->Option Nat)(a:List Hd)(m:Nat)(ws:List Wr)(e:Ending)(w':World):Prop:=
 e=.returned (.bool true)/\∃(t':Tr)(f':Lk)(T' K':Nat)(s':di)(c:TM) (d:ByteArray->Option Nat),cY Z B Nn (A+ws.length) (C+16*ws.length+bj ws) (i+2) w' t' f' T' K' s'/\im N B w' t' wb mm am drv hv ov t'.seq c d a (m+ws.length)/\
  Sep (FX t wb mm am) w w' (FX t' wb mm am)/\(∀b,t'.N b->t.N b\/w.heap.size<=b)/\t'.db=t.db/\t'.o=t.o/\t'.hh=t.hh/\t'.hn=t.hn/\s'.V.tabs.length<=s.V.tabs.length+1/\T'<=T+Qd t s ws/\
  ((c=M/\d=ats/\t'.seq=t.seq/\(∀a,a∈cJ s'↔a∈cJ s)/\T'=T/\aH s'.LL=aH s.LL/\(ws=[]\/lu ws\/Z<T+(bC aq (jw (t.seq+1) ws)).length))\/
   (¬lu ws/\c=iI (t.seq+1) ws M/\d=oJ (t.seq+1) ws ats/\t'.seq=t.seq+1/\(∀a,a∈cJ s'↔(∃b,gJ a.key ws=some b/\a=gI (t.seq+1) b)\/a∈cJ s)/\
    (aH s'.LL=[]\/T'=T+(bC aq (jw (t.seq+1) ws)).length/\aH s'.LL=fO (t.seq+1) ws (aH s.LL))))
theorem adI(n:Nat)(ws:List Wr)(A:ByteArray->Option Nat):oJ n (ws.map kW) A=oJ n ws A:=by
 funext k
 unfold oJ;rw[asf];cases gJ k ws<;>rfl
theorem aJF(o:cY Z B Nn A C i w t f T K s){drv:Value}{M:TM}{ats:ByteArray->Option Nat}{J:List Hd}(a:im N B w t wb mm am drv hv ov t.seq M ats J m){Na:Nat->Prop}(c:∀b,Na b->b<w.heap.size/\¬FX t wb mm am b){e:List Wv}(f:Ws Na w v e)(r:∀y∈e,pz N w y){ws:List Wr}(h:ws=(e.map (·.x)).map kW)(j:e.length<=60000)(I:bj ws<=800000)(l:A+ws.length<=100000)(p:C+16*ws.length+bj ws<=1000000)(hi:i+4<=Nn)(u:i<=800000)(G:s.V.tabs.length<=4999):
  Calls Tryz.prog 17 #[.pointer (some ⟨wb,0,none⟩),v] w (adH Z B Nn A C i N w t T s wb mm am drv hv ov M ats J m ws):=by
 have v:ws.length=e.length:=by rw[h];simp
 obtain⟨va,vc,rfl⟩:=f.slice;obtain⟨_,L,_,_,H,_,_,x⟩:=vA a.self;have z:=UH o (λb d=>⟨(c b d).1,λD=>(c b d).2 (.inl D)⟩) f h j (by omega) l p hi u G;have D:t.seq+1<18446744073709551616:=by have:=o.rr;omega
 have E:=λb d=>a.off o.tree (b:=b) d
 have F:=ae z;have O:=ae o;have Hl:=ae a;have HW:=ae f;have Gu:=ae c;have aa:=ae r;have Gv:=ae (ag h v);have Hb:=ae (ag j (ag D (ag l p)));have ab:=ae E;clear z o a f c r h v j I l p hi u G D E;go_enter Tryz.func17,Tryz.ntmps17
 go_wp2_with fail
 (with_reducible refine F.out.mono ?_);rintro a u ⟨ai,n,t',f',T',K',s',rfl,l,P,V,j,G,f⟩;have h:=Hl.out.turn O.out.tree l;clear L H x F;obtain⟨_,L,Q,R,H,_,_,x⟩:=vA h.self;have v:=Gv.out.2;have ad:FX t wb mm am wb:=.inr (.inl rfl);have X:∀W:World,Sep (λb=>b=wb\/b=mm\/b=am) u W (λb=>b=wb\/b=mm\/b=am)->Sep (FX t wb mm am) w W (FX t' wb mm am):=λW c=>
  ⟨c.os.trans l.sep.os,c.tape.trans l.sep.tape,c.output.trans l.sep.output,aJ l.sep.size c.size,λb d j=>by rw[c.out b (bF d l.sep.size) (λa=>j (.inr a)),l.sep.out b d (λa=>j (.inl a))],λb d=>d.elim (λc=>(l.sep.foot b c).imp .inl id) (λc=>.inl (.inr c))⟩
 have aj:=ae X;have S:=ae l;have Y:=ae P;have U:=ae (ag V (ag j G));have MF:=ae h;rcases f with⟨z,p,D,I,E⟩|⟨F,iX,rfl,rfl,p,D,I,_,E⟩
 .have f:ws=[]\/lu ws\/Z<T+(bC aq (jw (t.seq+1) ws)).length:=by
   rcases z with⟨c,_⟩|⟨_,c,_⟩|⟨_,_,_,c⟩
   .exact .inl c
   .exact .inr (.inl c)
   .exact .inr (.inr c)
  have n:∀b:Bool,b=true->adH Z B Nn A C i N w t T s wb mm am drv hv ov M ats J m ws (.returned (.bool b)) u:=λb d=>by
   subst d;exact⟨rfl,t',f',T',K',s',M,ats,Y.out,by
    have c:=MF.out;rw[<-p]at c;exact{c with map:=by obtain⟨g,r,A⟩:=c.map;exact⟨g,r.more (by omega),A⟩,dK:=c.dK.more (by omega),olds:=λi s=>by obtain⟨g,r,A⟩:=c.olds i s;exact⟨g,r.more (by omega),A⟩},
    aj.out _ (Sep.refl _ _),S.out.new,S.out.db,S.out.o,U.out.1,U.out.2.1,U.out.2.2,by omega,.inl ⟨rfl,rfl,p,D,I,E,f⟩⟩
  have s:=ae n;rcases z with⟨F,rfl,rfl⟩|⟨F,_,rfl,rfl⟩|⟨_,rfl,rfl,_⟩
  .have B:e.length=0:=by rw[<-v,F];rfl
   have i:((e.length:Int)==0)=true:=by simp[B]
   clear n f p D I E h l P V j G X v B F;go_wp2;go_ret;exact s.out _ (by simp)
  .clear n f p D I E h l P V j G X v F;go_wp2;go_ret;exact s.out _ (by simp)
  .clear n f p D I E h l P V j G X v;go_wp2;go_ret;exact s.out _ (by simp)
 .have B:e.length≠0:=λa=>F (je (v.trans a))
  have i:((e.length:Int)==0)=false:=beq_eq_false_iff_ne.2 (by omega);obtain⟨f,O⟩:∃f,f=t.seq+1:=⟨_,rfl⟩
  have i:IntKind.u64.wrap ((t.seq:Int)+1)=(f:Int):=by have:=Hb.out.2.1;rw[IntWalk.u64_in _ (by omega)];omega
  have i:=bG h.self;have C:=h.asl f;have ak:Hid (Ws Na (u.setCell ⟨wb,10,none⟩ (.int .u64 (f:Int))) (.slice va e.length vc) e):=ae (HW.out.kp ⟨by simpa using l.sep.size,λb d i=>by have n:=(Gu.out b d).2;rw[aN _ _ _ _ (λa=>n (.inr (.inl a)))];exact l.sep.out b i (λa=>n (.inl a))⟩)
  have T:Kp N w (u.setCell ⟨wb,10,none⟩ (.int .u64 (f:Int))):=⟨by simpa using l.sep.size,λb d i=>by rw[aN _ _ _ _ (h.GW (.inr (.inr (.inr (.inr (.inr d))))))];exact l.sep.out b i (ab.out b (.inr (.inr (.inr (.inr (.inr (.inr d)))))))⟩
  have an:=ae (λy n=>(show pz N _ y from Bw.kp (aa.out y n) T));have w:Sep (λb=>b=wb\/b=mm\/b=am) u (u.setCell ⟨wb,10,none⟩ (.int .u64 (f:Int))) (λb=>b=wb\/b=mm\/b=am):=⟨rfl,rfl,rfl,by simp,λb _ j=>aN _ _ _ _ (λa=>j (.inl a)),λb d=>.inl d⟩
  have VL:=ae w;have t:=ae C;have MO:=ae (ag F (ag iX (ag p (ag D (ag I E)))));have Z:WaI N (u.setCell ⟨wb,10,none⟩ (.int .u64 (f:Int))) mm am f M ats (e.map (·.x)) m (.int .i64 0) (u.setCell ⟨wb,10,none⟩ (.int .u64 (f:Int))):=⟨0,rfl,aY _,by rw[List.take_zero,aJj];exact C.map,by rw[List.take_zero,ash];exact C.dK,Sep.refl _ _⟩
  have Gn:=ae Z;have aE:=ae O;rw[<-O];have ab:=ae B;clear B O C w T Z F iX p D I E h l P V j G X v ad aa Hl HW
  go_wp2_with fail
  generalize u.setCell ⟨wb,10,none⟩ (.int .u64 (f:Int))=w2 at*
  go_loopw [7] (λl wr=>WaI N w2 mm am f M ats (e.map (·.x)) m l wr) (λl _=>e.length-(intOf l).toNat)
  case atStart=>exact Gn.out
  case round=>
   clear Gn L Q R H x;obtain⟨k,rfl,v,X,Z,l⟩:=hrel;rw[bA]at v;have FQ:=t.out.GW (b:=mm) (.inl rfl);have zD:=t.out.GW (b:=am) (.inr (.inl rfl));have ab:=t.out.apart.1;have eK:=(l.out wb (af t.out.self) (λa=>a.elim (λa=>FQ a.symm) (λa=>zD a.symm))).trans t.out.self;obtain⟨_,L,Q,R,H,_,_,x⟩:=vA eK;have oZ:=ae (ag FQ (ag zD ab));by_cases i:k<e.length
   .obtain⟨y,n⟩:∃y,e[k]?=some y:=⟨e[k],by simp[i]⟩
    have zb:=ak.out.kp (show Kp Na w2 wr from⟨l.size,λb d i=>l.out b i (λa=>(Gu.out b d).2 (.inr (.inr a)))⟩);have V:¬N mm:=λj=>by have c:=t.out.low _ j;have v:=(t.out.maps _ (.inl rfl)).2.2;omega
    have ad:¬N am:=λj=>by have c:=t.out.low _ j;have v:=(t.out.maps _ (.inr (.inl rfl))).2.2;omega
    have ak:Kp N w2 wr:=⟨l.size,λb d i=>l.out b i (λa=>a.elim (λa=>V (a ▸ d)) (λa=>ad (a ▸ d)))⟩
    have C:Bw N wr y.v y.x.val:=Bw.kp (an.out y (dm n)) ak;obtain⟨b,B,ai,w,an,aa,bq⟩:=zb.addr n;cases w;obtain⟨a0,a1,a2⟩:=JK bq n;have dN:(e.map (·.x)).take (k+1)=(e.map (·.x)).take k++[y.x]:=take_one (by rw[gQ,n];rfl);have dy:=(Gu.out b an).2;have G:b≠mm/\b≠am:=⟨λa=>dy (.inr (.inr (.inl a))),λa=>dy (.inr (.inr (.inr a)))⟩
    obtain⟨⟨w,yg,T⟩,P⟩:=y;dsimp only at a0 a1 a2 dN C;obtain⟨xa,xc,rfl⟩:=C.1.slice;have y:=aJi f ((e.map (·.x)).take k) ⟨w,yg,T⟩ M;have P:=asg f ((e.map (·.x)).take k) ⟨w,yg,T⟩ ats;rw[<-dN]at y P;dsimp only at y P;have lV:(k:Int)<(e.length:Int):=by omega
    have jZ:(0:Int)<=(k:Int):=by omega
    have yF:IntKind.i64.wrap ((k:Int)+1)=(k:Int)+1:=aQ _ (by have:=Hb.out.1;omega);have Hm:=ae (ag y P);have ao:=ae X;have zF:=ae Z;have aF:=ae l;have av:=ae C;have ai:=ae G;have ai:=ae (ag V ad);have iy:=ae i;have S0:∀W:World,(∀q,q≠mm->q≠am->q<wr.heap.size->W.heap[q]?=wr.heap[q]?)->wr.heap.size<=W.heap.size->(W.cell? ⟨wb,8,none⟩=some (.map (some mm))/\W.cell? ⟨wb,9,none⟩=some (.map (some am))/\W.cell? ⟨wb,10,none⟩=some (.int .u64 (f:Int))/\wb<W.heap.size)/\W.cell? ⟨b,B+k*3,none⟩=some (.string w)/\W.cell? ⟨b,B+k*3+2,none⟩=some (.slice xa T.length xc)/\b<W.heap.size:=λW xI ap=>by
     have e1:=xI wb (λa=>FQ a.symm) (λa=>zD a.symm) x;have e2:=xI b G.1 G.2 aa;refine⟨⟨?_,?_,?_,bF x ap⟩,?_,?_,bF aa ap⟩
     .rw[<-Q];simp only[World.cell?,e1]
     .rw[<-R];simp only[World.cell?,e1]
     .rw[<-H];simp only[World.cell?,e1]
     .rw[<-a0];simp only[World.cell?,e2]
     .rw[<-a2];simp only[World.cell?,e2]
    have Qh:=ae S0;clear y P X Z l C G V ad i zb bq ak dN dy an FQ zD ab eK S0 n
    go_upto_if 47 with fail
    go_cut []from 48 to 70 (λi=>jd N i mm (iI f ((e.map (·.x)).take (k+1)) M) (m+(k+1))/\GX mm wr i)
    case first=>
     have n:=ay wr;have G:=Qh.out wr.drew (λq _ _ _=>rfl) (aw _);cases yg with
     |true=>
      obtain⟨P,Je,V,y⟩:=(ao.out.grow n).del ai.out.1 w;have wY:=Qh.out P (λq c _ i=>(y.block q i (λa=>c (by cases a;rfl))).trans rfl) y.size
      go_upto_region 11 with fail
      refine cN (λW=>(W.cell? ⟨wb,8,none⟩=some (.map (some mm))/\W.cell? ⟨wb,9,none⟩=some (.map (some am))/\W.cell? ⟨wb,10,none⟩=some (.int .u64 (f:Int))/\wb<W.heap.size)/\W.cell? ⟨b,B+k*3,none⟩=some (.string w)/\W.cell? ⟨b,B+k*3+2,none⟩=some (.slice xa T.length xc)/\b<W.heap.size) [9] (by kernel_rfl) (bB λ_ _ _ _ _ o=>o) G ?_;simp only[ct];clear L Q R H x a0 a1 a2 aa G
      repeat ((first|(apply az;rfl;rintro W ⟨⟨ad,ak,an,ap⟩,jR,nj,pn⟩;go_simp;with_reducible rfl)|(apply aA;rfl));simp only[ah,List.set])
      refine fK (by rfl) (λK C=>?_);go_simp;refine C _ _ ⟨wY,?_⟩;clear C K
      try simp only[ah,List.set,aC]
      refine bg ?_;have s:=ae (ag V ((GX.of n).trans y));clear Je V y n wY;go_wp2;go_meet;obtain⟨r,A⟩:=s.out;obtain⟨g,q3,q4⟩:=r;rw[Hm.out.1];exact⟨⟨g,q3.more (by omega),q4⟩,A⟩
     |false=>
      obtain⟨P,Je,V,y⟩:=(ao.out.grow n).put ai.out.1 w (Bw.kp av.out (.bO n)) f;have wY:=Qh.out P (λq c _ i=>(y.block q i (λa=>c (by cases a;rfl))).trans rfl) y.size
      go_upto_region 12 with fail
      refine cN (λW=>(W.cell? ⟨wb,8,none⟩=some (.map (some mm))/\W.cell? ⟨wb,9,none⟩=some (.map (some am))/\W.cell? ⟨wb,10,none⟩=some (.int .u64 (f:Int))/\wb<W.heap.size)/\W.cell? ⟨b,B+k*3,none⟩=some (.string w)/\W.cell? ⟨b,B+k*3+2,none⟩=some (.slice xa T.length xc)/\b<W.heap.size) [14] (by kernel_rfl) (bB λ_ _ _ _ _ o=>o) G ?_;simp only[ct];clear L Q R H x a0 a1 a2 aa G
      repeat ((first|(apply az;rfl;rintro W ⟨⟨ad,ak,an,ap⟩,jR,nj,pn⟩;go_simp;with_reducible rfl)|(apply aA;rfl));simp only[ah,List.set])
      refine fK (by rfl) (λK C=>?_);go_simp;refine C _ _ ⟨wY,?_⟩;clear C K
      try simp only[ah,List.set,aC]
      refine bg ?_;have s:=ae (ag V ((GX.of n).trans y));clear Je V y n wY;go_wp2;go_meet;obtain⟨r,A⟩:=s.out;rw[Hm.out.1];exact⟨r,A⟩
    case rest=>
     obtain⟨ao,y⟩:=hcut;generalize wc=P at*;have n:=ay P;have av:eh P.drew am Value.string (zm (oJ f ((e.map (·.x)).take k) ats)) (m+k):=(zF.out.keep (y.block am zF.out.lt (λa=>oZ.out.2.2 (by cases a;rfl)))).grow n;obtain⟨w4,vk,uK,V⟩:=asi av w f;have G:=Qh.out P.drew (λq c _ i=>(y.block q i (λa=>c (by cases a;rfl)))) y.size;have P:=Qh.out w4 (λq c v i=>(V.block q (bF i y.size) (λa=>v (by cases a;rfl))).trans (y.block q i (λa=>c (by cases a;rfl)))) (aJ y.size V.size);have q:Sep (λb=>b=mm\/b=am) w2 w4 (λb=>b=mm\/b=am):=by have c:=Sep.AX y;have v:=Sep.AX ((GX.of (g:=am) n).trans V);have i:=aF.out;exact⟨v.os.trans (c.os.trans i.os),v.tape.trans (c.tape.trans i.tape),v.output.trans (c.output.trans i.output),aJ i.size (aJ c.size v.size),λb d j=>(v.out b (bF d (aJ i.size c.size)) (λa=>j (.inr a))).trans ((c.out b (bF d i.size) (λa=>j (.inl a))).trans (i.out b d j)),λb d=>.inl d⟩
     have i:jd N w4 mm (iI f ((e.map (·.x)).take (k+1)) M) (m+(k+1)):=by have c:=ao.grow n;exact c.keep (V.block mm c.lt (λa=>oZ.out.2.2 (by cases a;rfl))) (VJ V ai.out.2)
     have s:=ae (ag i (ag uK q));clear ao y av uK V q i L Q R H x a0 a1 a2 aa
     go_upto_region 13 with fail
     refine cN (λW=>(W.cell? ⟨wb,8,none⟩=some (.map (some mm))/\W.cell? ⟨wb,9,none⟩=some (.map (some am))/\W.cell? ⟨wb,10,none⟩=some (.int .u64 (f:Int))/\wb<W.heap.size)/\W.cell? ⟨b,B+k*3,none⟩=some (.string w)/\W.cell? ⟨b,B+k*3+2,none⟩=some (.slice xa T.length xc)/\b<W.heap.size) [13] (by kernel_rfl) (bB λ_ _ _ _ _ o=>o) G ?_;simp only[ct];clear G
     repeat ((first|(apply az;rfl;rintro W ⟨⟨ad,ak,an,ap⟩,jR,nj,pn⟩;go_simp;with_reducible rfl)|(apply aA;rfl));simp only[ah,List.set])
     refine fK (by rfl) (λK C=>?_);go_simp;refine C _ _ ⟨P,?_⟩;clear C K
     try simp only[ah,List.set,aC]
     refine bg ?_;clear vk P n;go_wp2;go_roundw
     case rel=>obtain⟨r,A,q3⟩:=s.out;refine⟨k+1,by simp,by rw[bA];exact iy.out,r,?_,q3⟩;rw[Hm.out.2];exact A
     case measure=>simp[intOf];have:=iy.out;omega
   .obtain rfl:k=e.length:=by omega
    have e1:¬(e.length:Int)<(e.length:Int):=by omega
    have i:(e.map (·.x)).take e.length=e.map (·.x):=List.take_of_length_le (by simp);rw[i]at X Z;have f:=t.out.asm l X Z (by omega);have e:Sep (λb=>b=wb\/b=mm\/b=am) u wr (λb=>b=wb\/b=mm\/b=am):=by have c:=VL.out;exact⟨l.os.trans c.os,l.tape.trans c.tape,l.output.trans c.output,aJ c.size l.size,λb d j=>(l.out b (bF d c.size) (λa=>j (.inr a))).trans (c.out b d j),λb d=>.inl d⟩
    have a:=Y.out.side e (λb d=>by
     have h:=MF.out;rcases d with rfl|rfl|rfl
     .exact⟨h.off Y.out.tree (.inl rfl),(h.tX _ (.inl rfl)).1,(h.tX _ (.inl rfl)).2,λb c z=>by rw[h.self]at z;exact absurd (cp (bh z)).2.1 (by decide)⟩
     .obtain⟨g,r,_⟩:=h.map;exact⟨h.off Y.out.tree (.inr (.inl rfl)),(h.maps _ (.inl rfl)).2.1,(h.maps _ (.inl rfl)).2.2,λb c z=>r.Dz _ _ _ z⟩
     .exact⟨h.off Y.out.tree (.inr (.inr (.inl rfl))),(h.maps _ (.inr (.inl rfl))).2.1,(h.maps _ (.inr (.inl rfl))).2.2,λb c z=>h.dK.Dz _ _ _ z⟩)
    have s:=ae (ag f (ag e a));clear X Z l f e a eK FQ zD ab i;go_wp2;go_ret;obtain⟨f,e,a⟩:=s.out;obtain⟨F,iX,p,D,I,E⟩:=MO.out;have J:=Gv.out;have O:=aE.out;refine⟨rfl,t',f',T',K',s',_,_,a,by rw[p,<-O,J.2];exact f,aj.out _ e,S.out.new,S.out.db,S.out.o,U.out.1,U.out.2.1,U.out.2.2,by unfold Qd;omega,.inr ⟨iX,?_,?_,p,D,E⟩⟩
    .rw[J.1,adB,O]
    .rw[J.1,adI,O]
end
theorem IE(a:List Wv):(a.flatMap mF).length=a.length*3:=by
 induction a with
 |nil=>rfl
 |cons b a a=>rw[List.flatMap_cons,aM,a,alb,dD];omega
theorem asH(w:World)(a:ByteArray)(g:Bool)(x:Option Addr)(m n:Nat):(Instr.buildSlice 27 1 #[(0,.agg #[.string a,.bool g,.slice x m n])]).run Tryz.prog w=.ok (.slice (some ⟨w.heap.size,0,none⟩) 1 1) (w.alloc (.cells #[.string a,.bool g,.slice x m n] 51)):=by kernel_rfl
theorem asI{k:ByteArray}{g:Bool}{d:List UInt8}(a:W.heap[q]?=some (.cells #[.string k,.bool g,v] 51 (0,0)))(b:M q)(hv:Bw M W v d):Ws M W (.slice (some ⟨q,0,none⟩) 1 1) [⟨⟨k,g,d⟩,v⟩]:=by
 have d:∀(j:Nat)(c:Value),(#[Value.string k,.bool g,v]:Array Value)[j]?=some c->W.cell? ⟨q,j,none⟩=some c:=λj c e=>by simp only[World.cell?,a];exact e
 refine⟨⟨_,1,rfl,aw _,by unfold maxLen;omega,(λa=>by cases a),.inr ⟨q,0,rfl,b,af a,λi f b e c a=>?_⟩⟩,λf b=>by rw[cZ.1 b];exact hv⟩
 match i,b with
 |0,b=>
  cases b
  match e,a with
  |0,a=>cases a;exact d 0 _ rfl
  |1,a=>cases a;exact d 1 _ rfl
  |2,a=>cases a;exact d 2 _ rfl
  |e+3,a=>simp[mF]at a
 |i+1,b=>simp at b
section
theorem asJ{L L':List En}{M:TM}{ats:ByteArray->Option Nat}{ws:List Wr}(b:tY L M ats)(a:qQ L')(c:∀x,x∈L'↔(∃y,gJ x.key ws=some y/\x=gI n y)\/x∈L)(d:∀x∈L,x.seq<n)(e:n<=18446744073709551615):tY L' (iI n ws M) (oJ n ws ats):=by
 refine⟨by rw[aJe a c d e,b.tell],λk q a a=>?_⟩;unfold iI at a;unfold oJ;cases c:gJ k ws with
 |none=>rw[c]at a;exact b.dK _ _ _ a
 |some y=>
  rw[c]at a;cases b:y.gone with
  |true=>simp[b]at a
  |false=>simp only[b,Bool.false_eq_true,if_false,Option.some.injEq,Prod.mk.injEq]at a;rw[<-a.1]
theorem jd.congr{N:Nat->Prop}{m:Nat}{M a:TM}(b:jd N w r M m)(c:∀k,(a k).map (·.2)=(M k).map (·.2)):jd N w r a m:=by obtain⟨g,a,d⟩:=b;exact⟨g,a,λk=>by rw[c k];exact d k⟩
theorem asK:∀l:List En,16*l.length<=costs l
 | []=>aY _
 |e::l=>by
  have a:=asK l;have a:costs (e::l)=iH e+costs l:=by simp[costs]
  rw[a];unfold iH;rw[dD];omega
theorem asL{t:Tr}{s s':di}{ws:List Wr}{T:Nat}(c:ws.length=1)(d:T'<=T+Qd t s ws)(n:costs (aH s.LL)<=1000000)(o:bj ws<=100000)(a:aH s'.LL=[]\/T'=T+(bC aq (jw (t.seq+1) ws)).length/\aH s'.LL=fO (t.seq+1) ws (aH s.LL))(i:cx (aH s.LL)):T'+15*costs (aH s'.LL)<=T+15*costs (aH s.LL)+1510+16*bj ws:=by
 have j:=Vn (t.seq+1) ws;have e:=(Oe (t.seq+1) (aH s.LL) ws).1;rw[c]at j e;rcases a with a|⟨a,fR⟩
 .unfold Qd at d
  obtain⟨l,f⟩:∃l,l=fO (t.seq+1) ws (aH s.LL):=⟨_,rfl⟩
  rw[<-f]at d e;have p:=asK l;have q:=OX l;have k:costs ([]:List En)=0:=rfl;rw[a,k];have m:l≠[]:=λg=>by obtain⟨b,rfl⟩:=List.length_eq_one_iff.1 c;have h:=(YX i (e:=gI (t.seq+1) b) (s:=t.seq+1) [b]).2 (.inl ⟨b,by simp[gJ,gI],rfl⟩);rw[<-f,g]at h;cases h
  have r:=aqq (size:=t.o.block.toNat) m (by omega) (by omega);omega
 .rw[a,fR];omega
def qy(w:World)(g o n:Nat):Prop:=∃a,w.heap[g]?=some (.cells a 5 (0,0))/\∀j,j<n->∃b:UInt8,a[o+j]?=some (.int .u8 (b.toNat:Int))
theorem qy.cell(b:qy w g o n)(c:j<n):∃x:UInt8,w.cell? ⟨g,o+j,none⟩=some (.int .u8 (x.toNat:Int))/\(∀q,w.frozen? ⟨g,q,none⟩=false)/\g<w.heap.size:=by obtain⟨a,a,d⟩:=b;obtain⟨x,b⟩:=d j c;exact⟨x,by simp only[World.cell?,a];exact b,bG a,af a⟩
theorem qy.set(d:qy w g o n)(b q:Nat)(y:UInt8):qy (w.setCell ⟨b,q,none⟩ (.int .u8 (y.toNat:Int))) g o n:=by
 obtain⟨f,a,c⟩:=d;by_cases d:g=b
 .subst d
  refine⟨_,Go.Gl.aK a q _,λj e=>?_⟩;obtain⟨g,b⟩:=c j e;rw[Array.getElem?_setIfInBounds];by_cases e:q=o+j
  .rw[if_pos e];have:=af b;rw[if_pos (by omega)];exact⟨y,rfl⟩
  .rw[if_neg e];exact⟨g,b⟩
 .exact⟨f,by rw[aN _ _ _ _ d];exact a,c⟩
theorem adM(d:Bv w v l)(f:l≠[]->∀b,v.ownBlock=some b->∃e,w.heap[b]?=some (.cells e 5 (0,0))):∃a c,v=.slice a l.length c/\(l.length=0\/∃g o,a=some ⟨g,o,none⟩/\qy w g o l.length):=by
 obtain⟨a,c,rfl,_,_,_,d⟩:=d;refine⟨a,c,rfl,?_⟩;by_cases a:l=[]
 .exact .inl (by rw[a];rfl)
 rcases d with d|⟨b,o,rfl,hlt,hc⟩
 .exact absurd d a
 .obtain⟨e,c⟩:=f a b rfl;refine .inr ⟨b,o,rfl,e,c,λj a=>?_⟩;have b:=hc j (l[j]'a) (ek a);simp only[World.cell?,c]at b;exact⟨_,b⟩
theorem adN(x:UInt8):IntKind.u8.wrap ((x.toNat:Int)+1)=(((x+1:UInt8).toNat:Nat):Int):=by rw[IntKind.wrap_u8,UInt8.toNat_add];show((x.toNat:Int)+1)%256=(((x.toNat+1)%256:Nat):Int);omega
def zq(G:Nat->Prop)(W0:World)(n:Nat)(a:Value)(wr:World):Prop:=∃k:Nat,a=.int .i64 (k:Int)/\k<=n/\Sep G W0 wr G/\∀g o m,qy W0 g o m->qy wr g o m
theorem zq.next{W0:World}{k:Nat}(a:Sep G W0 wr G)(c:∀g o m,qy W0 g o m->qy wr g o m)(d:k<n)(e:G b)(q:Nat)(y:UInt8):zq G W0 n (.int .i64 ((k:Int)+1)) (wr.setCell ⟨b,q,none⟩ (.int .u8 (y.toNat:Int))):=
 ⟨k+1,by simp,d,a.trans ⟨rfl,rfl,rfl,by simp,λa _ d=>aN _ _ _ _ (λf=>d (f ▸ e)),λa a=>.inl a⟩,λg o m a=>(c g o m a).set b q y⟩
def GF(N:Nat->Prop)(B:Nat)(t:Tr)(W0:World):Nat->Prop:=λb=>¬FT t b/\¬t.N b/\B<=b/\∃a,W0.heap[b]?=some (.cells a 5 (0,0))
section
variable{Z B Nn A C i:Nat}{W0 W:World}{t:Tr}{f:Lk}{T K:Nat}{s:di}{N:Nat→Prop}{wb mm am seq m:Nat}{drv:Value}{M:TM}{ats:ByteArray→Option Nat}
theorem cY.free(a:cY Z B Nn A C i W0 t f T K s)(c:Sep (GF N B t W0) W0 W (GF N B t W0)):cY Z B Nn A C i W t f T K s:=
 a.side c (λb a=>⟨a.1,a.2.1,a.2.2.1,λb b b=>by obtain⟨c,c⟩:=a.2.2.2;rw[c]at b;exact absurd (cp (bh b)).2.1 (by decide)⟩)
theorem im.free(c:im N B W0 t wb mm am drv (.slice none 0 0) (.slice none 0 0) seq M ats [] m)(d:Sep (GF N B t W0) W0 W (GF N B t W0)):im N B W t wb mm am drv (.slice none 0 0) (.slice none 0 0) seq M ats [] m:=
 c.keep d.size (λb e a=>d.out b e (λe=>by
  obtain⟨d,d⟩:=e.2.2.2;rcases a with rfl|rfl|rfl|⟨x,a,_⟩|a|a|a
  .rw[c.self]at d;exact absurd (cp (bh d)).2.1 (by decide)
  .obtain⟨g,f,_⟩:=c.map;exact f.Dz _ _ _ d
  .exact c.dK.Dz _ _ _ d
  .cases a
  .cases a
  .cases a
  .have:=c.low b a;have:=e.2.2.1;omega))
end
end
def Bo(B Nn:Nat)(N:Nat->Prop)(w:World)(wb mm am:Nat)(drv:Value)(k S:Nat)(W:World):Prop:=
 ∃(t:Tr)(f:Lk)(T K:Nat)(s:di)(M:TM) (ats:ByteArray->Option Nat),cY 4194304 B Nn (2*k) (32*k+2*S) (2+4*k) W t f T K s/\im N B W t wb mm am drv (.slice none 0 0) (.slice none 0 0) t.seq M ats [] (2*k)/\tY (cJ s) M ats/\
  s.V.tabs.length<=2*k/\T+15*costs (aH s.LL)<=6+3100*k+32*S/\Grow w W
theorem Dl.rF{f:Lk}(a:Dl Z B w p r f T K F):F r:=by obtain⟨b,⟨_,_,b,b,b,rfl,rfl⟩,_⟩:=a;exact .inr (.inl rfl)
theorem Bo.begun{o:Od}{a:Option Addr}{c:Nat}{e:Ending}(r:∀b,N b->b<w.heap.size)(j:Grow w w0)(u:Iw N w' (.slice a ds.length c) ds)(g:ada 4194304 Nn w0 o (.slice a ds.length c) ds e w'):
  ∃(wb B mm am:Nat),e=.returned (.tuple #[.pointer (some ⟨wb,0,none⟩),.bool true])/\w.heap.size<=B/\Bo B Nn N w wb mm am (.slice a ds.length c) 0 0 w':=by
 obtain⟨wb,B,mm,am,t,f,T,K,s,rfl,l,v,x,y,p,z,_,_,a,A,C,D,E,_,_,a,_,F,G,H,h,i,c,I,J,L,M⟩:=g;have m:w.heap.size<=B:=aJ j.size a;have o:∀d,d ∉ cJ s:=λd c=>by have a:=(p d).1 c;rw[show cJ Ba=[]from rfl]at a;cases a
 have p:t.F t.r:=l.tree.aS.rF;have q:∀b,w'.heap[b]?=some (.map #[] 0)->eh w' b Value.string (λ_=>none) 0:=λb a=>⟨[],0,a,List.nodup_nil,(λe g=>by cases g),List.nodup_nil,aw _,λ_=>rfl⟩
 have g:aH s.LL=[]:=List.eq_nil_iff_forall_not_mem.2 λd c=>o d (jg _ c)
 refine⟨wb,B,mm,am,rfl,m,t,f,T,K,s,λ_=>none,λ_=>none,l,⟨?_,⟨_,q mm C,λ_=>True.intro⟩,q am D,by rw[x];exact u,.inl ⟨rfl,rfl⟩,.inl ⟨rfl,rfl⟩,(λd c=>by cases c),⟨E,λd c=>by cases c⟩,λb a=>?_,λb a=>?_,λb a=>bF (r b a) m⟩,⟨?_,λk n b b=>by cases b⟩,by rw[y];exact aY _,by rw[g];show T+15*0<=_;omega,j.trans M⟩
 .rw[v,z];exact A
 .rcases a with rfl|rfl|⟨d,c,_⟩
  .exact⟨⟨λe=>h (.inl (by rw[e];exact p)),λe=>h (.inr (.inr (.inr (.inr (.inr (.inl e)))))),λe=>h (.inr (.inr (.inr (.inr (.inr (.inr e))))))⟩,J,G⟩
  .exact⟨⟨λe=>i (.inl (by rw[e];exact p)),λe=>i (.inr (.inr (.inr (.inr (.inr (.inl e)))))),λe=>i (.inr (.inr (.inr (.inr (.inr (.inr e))))))⟩,L,H⟩
  .cases c
 .rcases a with rfl|a|a
  .exact⟨I,F⟩
  .cases a
  .cases a
 .funext k
  unfold GV seen;have a:eP k 18446744073709551615 (cJ s)=none:=EW.2 (λd c _=>o d c);rw[a];rfl
theorem Bo.first{a:World}{S:Nat}{drv:Value}{t:Tr}{f:Lk}{s:di}{M:TM}{ats:ByteArray->Option Nat}{y:Wr}{e:Ending}(c:cY 4194304 B Nn (2*k) (32*k+2*S) (2+4*k) W t f T K s)(f:tY (cJ s) M ats)(d:T+15*costs (aH s.LL)<=6+3100*k+32*S)(d:k<=100)(d:S+bj [y]<=8192)(d:y.key.size<=60000)(g:adH 4194304 B Nn (2*k) (32*k+2*S) (2+4*k) N a t T s wb mm am drv (.slice none 0 0) (.slice none 0 0) M ats [] (2*k) ([y].map kW) e W'):
  e=.returned (.bool true)/\∃(t':Tr)(f':Lk)(T' K':Nat)(s':di),cY 4194304 B Nn (2*k+1) (32*k+2*S+16+bj [y]) (2+4*k+2) W' t' f' T' K' s'/\im N B W' t' wb mm am drv (.slice none 0 0) (.slice none 0 0) t'.seq (iI (t.seq+1) [y] M) (oJ (t.seq+1) [y] ats) [] (2*k+1)/\
   tY (cJ s') (iI (t.seq+1) [y] M) (oJ (t.seq+1) [y] ats)/\t'.seq=t.seq+1/\s'.V.tabs.length<=s.V.tabs.length+1/\T'+15*costs (aH s'.LL)<=6+3100*k+32*S+1510+16*bj [y]/\Sep (FX t wb mm am) a W' (FX t' wb mm am)/\(∀b,t'.N b->t.N b\/a.heap.size<=b):=by
 obtain⟨rfl,t',f',T',K',s',a,a,d,b,e,h,a,a,_,_,i,j,k⟩:=g;have a:bj ([y].map kW)<=bj [y]:=UG _;have g:([y].map kW).length=1:=rfl;have a:bj [y]=y.key.size+y.val.length:=by simp[bj]
 have l:=Vn (t.seq+1) ([y].map kW);have m:(kW y).key=y.key:=by unfold kW;split<;>rfl
 have n:¬lu ([y].map kW):=by
  rintro(a|⟨z,o,a⟩)
  .omega
  .rw[cZ.1 o,m]at a;omega
 have m:=c.rr;refine⟨rfl,t',f',T',K',s',?_⟩;rw[g]at l d b;rcases k with⟨_,_,_,_,_,_,a|a|a⟩|⟨_,rfl,rfl,g,k,l⟩
 .cases a
 .exact absurd a n
 .omega
 .rw[adB]at b
  rw[adI]at b;refine⟨d.wide (by omega) (by omega) (by omega),b,?_,g,i,?_,e,h⟩
  .have a:=asJ f d.vu k (λb d=>by have:=c.top b d;omega) (by omega);rw[adB,adI]at a;exact a
  .have a:=asL (t:=t) (s:=s) (s':=s') (ws:=[y].map kW) rfl j (by omega) (by omega) l c.yY.ord;omega
theorem aJO(n a:Nat)(ws:List Wr)(M:TM)(j:ByteArray):(iI a ws (iI n ws M) j).map (·.2)=(iI n ws M j).map (·.2):=by
 unfold iI;cases gJ j ws with
 |none=>rfl
 |some a=>cases b:a.gone<;>simp[b]
theorem aJP(n:Nat)(y:Wr)(M:TM)(a:y.gone=false):iI n [y] M y.key=some (n,y.val):=by unfold iI;rw[show gJ y.key [y]=some y by simp[gJ]];simp[a]
theorem Bo.second{g h:World}{S:Nat}{a:Tr}{f:Nat}{c:di}{b:Lk}{d:Nat}{l:TM}{m:ByteArray->Option Nat}{y:Wr}{e:Ending}(h1:cY 4194304 B Nn (2*k+1) (32*k+2*S+16+n) (2+4*k+2) g a b f d c)(o:tY (cJ c) l m)(b:c.V.tabs.length<=2*k+1)(b:f+15*costs (aH c.LL)<=6+3100*k+32*S+1510+16*n)(b:k<=100)(b:bj [y]=n)(b:S+n<=8192)(b:y.key.size<=60000)(p:UF 4194304 B Nn (2*k+1) (32*k+2*S+16+n) (2+4*k+2) g a f c [y] e h):
  e=.returned (.tuple #[.int .u64 ((a.seq+1:Nat):Int),.int .i64 0])/\∃(d:Tr)(i:Lk)(e j:Nat)(b:di),fJ g a h d/\cY 4194304 B Nn (2*(k+1)) (32*(k+1)+2*(S+n)) (2+4*(k+1)) h d i e j b/\tY (cJ b) (iI (a.seq+1) [y] l) (oJ (a.seq+1) [y] m)/\d.seq=a.seq+1/\
   b.V.tabs.length<=2*(k+1)/\e+15*costs (aH b.LL)<=6+3100*(k+1)+32*(S+n):=by
 have g:bj [y]=y.key.size+y.val.length:=by simp[bj]
 have h:([y]:List Wr).length=1:=rfl;have k:¬lu [y]:=by
  rintro(g|⟨z,l,g⟩)
  .omega
  .rw[cZ.1 l]at g;omega
 have g:=h1.rr;obtain⟨d,i,e,j,b,rfl,l,g,_,_,m,m,n,_,q,q⟩:=p.done (by simp) k (by rw[h];omega);rw[h]at g;refine⟨rfl,d,i,e,j,b,l,g.wide (by omega) (by omega) (by omega),?_,m,by omega,?_⟩
 .exact asJ o g.vu n (λd g=>by have:=h1.top d g;omega) (by omega)
 .have d:=asL (t:=a) (s:=c) (s':=b) (T:=f) (T':=e) (ws:=[y]) rfl (by unfold Qd;omega) (by omega) (by omega) q h1.yY.ord;omega
end Go.Proofs.YtoolkdapflaeeaaGreatDoor

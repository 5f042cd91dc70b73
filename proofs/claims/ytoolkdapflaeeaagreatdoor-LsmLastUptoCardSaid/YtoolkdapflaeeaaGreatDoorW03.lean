/- Helpers. -/
import Derived.Test.YtoolkdapflaeeaaGreatDoorW02
import Derived.Shelf.SlLaysF0
import Derived.Shelf.SlLaysE0
import Derived.Shelf.SlLaysH0
import Derived.Shelf.SlLaysN
import Derived.Shelf.Lays
import Derived.Test.YtoolkdapflaeeaaGreatDoorProg
import Derived.Sort.OwnSorted
import Derived.Shelf.Strings.Prefix
import Derived.Shelf.Sort.Plain
import Derived.Shelf.Slices.In.SortNone
import Derived.Sort.KeysCollected
set_option maxRecDepth 100000
set_option maxHeartbeats 16000000
namespace Go.Proofs.YtoolkdapflaeeaaGreatDoor
open Go.RowKit Go.Gl Go.aH
def jn (m n:ByteArray) (f:Fe) (fs:List Fe):List Fe:=(om m fs).map fun g=>if g.name=n then {g with fb:=f.fb,bv:=f.bv,b:=f.b,synced:=f.synced} else g
def tB (m n:ByteArray) (b:List UInt8) (s:Nat) (V:Vw):Vw:=(jm m V).map fun e=>if e.1=n then (e.1,b,s) else e
theorem apd (m n:ByteArray) (f:Fe) (fs:List Fe):vw (jn m n f fs)=tB m n f.b f.synced (vw fs):=by
 unfold tB;rw [←Sh];unfold jn vw;rw [List.map_map,List.map_map];refine List.map_congr_left fun g _=> ?_
 simp only [Function.comp];by_cases h:g.name=n
 ·simp [h]
 ·simp [h]
theorem ape (m n:ByteArray) (f:Fe) (fs:List Fe) (_hmn:m≠n):(jn m n f fs).map Fe.az=((kM n (.pointer (some ⟨f.fb,0,none⟩)) (fs.map Fe.az)).filter (fun e=>decide (m≠e.key))):=by
 unfold jn om kM;rw [List.map_map,List.map_map,List.filter_map];have:((fun e:aF ByteArray=>decide (m≠e.key))∘(fun e:aF ByteArray=>if n=e.key then {e with val:= .pointer (some ⟨f.fb,0,none⟩)} else e)∘Fe.az)=(fun g:Fe=>decide (m≠g.name)):=by
  have hk:∀ e:aF ByteArray,(if n=e.key then {e with val:= .pointer (some ⟨f.fb,0,none⟩)} else e).key=e.key:=fun e=>by split<;>rfl
  funext g
  simp only [Function.comp,hk];rfl
 rw [this];refine List.map_congr_left fun g _=> ?_
 simp only [Function.comp];by_cases h:g.name=n
 ·have h':n=g.az.key:=h.symm
  rw [if_pos h,if_pos h'];rfl
 ·have h':¬ n=g.az.key:=Ne.symm h
  rw [if_neg h,if_neg h']
theorem Si {m n:ByteArray} {f:Fe} {fs:List Fe} {g:Fe} (h:g∈jn m n f fs):∃ g0∈fs,g0.name≠m∧g.name=g0.name∧g.born=g0.born∧((g0.name=n∧g.fb=f.fb∧g.bv=f.bv∧g.b=f.b∧g.synced=f.synced)∨(g0.name≠n∧g=g0)):=by
 obtain ⟨g0,h0,rfl⟩:=List.mem_map.1 h;obtain ⟨h1,h2⟩:=List.mem_filter.1 h0;refine ⟨g0,h1,fun e=>by simp [e] at h2,?_⟩;by_cases hn:g0.name=n
 ·rw [if_pos hn];exact ⟨rfl,rfl,.inl ⟨hn,rfl,rfl,rfl,rfl⟩⟩
 ·rw [if_neg hn];exact ⟨rfl,rfl,.inr ⟨hn,rfl⟩⟩
section
variable {B:Nat} {w:World} {p r:Nat} {size used born:Int} {fs:List Fe}
theorem bM.ren (h:bM B w p r size used born fs) {m n:ByteArray} {f:Fe} (hf:f∈fs) (jD:f.name=m) (_hmn:m≠n) {c:Nat} (hm:MapAt w r Value.string (fs.map Fe.az) c) (hc:∀ f∈fs,f.born<c):
  bM B (cB w r (.map (((jn m n f fs).map Fe.az).map (aF.raw Value.string)).toArray c)) p r size used born (jn m n f fs)∧
  Sep (cN p r fs) w (cB w r (.map (((jn m n f fs).map Fe.az).map (aF.raw Value.string)).toArray c)) (cN p r (jn m n f fs)):=by
 have qj:=af hm;generalize hw2:cB w r (.map (((jn m n f fs).map Fe.az).map (aF.raw Value.string)).toArray c)=w2;have ho:∀ b,b≠r→w2.heap[b]?=w.heap[b]?:=fun b hbr=>by rw [←hw2,wC hbr]
 have hr2:MapAt w2 r Value.string ((jn m n f fs).map Fe.az) c:=by
  rw [←hw2];unfold MapAt;rw [yE qj]
 have hsz:w2.heap.size=w.heap.size:=by rw [←hw2];simp [cB]
 have apf:(jn m n f fs).map Fe.name=(om m fs).map Fe.name:=by
  unfold jn;rw [List.map_map];refine List.map_congr_left fun g _=> ?_
  simp only [Function.comp]
  split<;>rfl
 have apg:(jn m n f fs).map Fe.born=(om m fs).map Fe.born:=by
  unfold jn;rw [List.map_map];refine List.map_congr_left fun g _=> ?_
  simp only [Function.comp]
  split<;>rfl
 have jo:((jn m n f fs).map Fe.name).Nodup:=by rw [apf];exact h.names.sublist (List.filter_sublist.map _)
 have gP:∀ g∈jn m n f fs,∃ g0∈fs,g.fb=g0.fb∧g.bv=g0.bv∧g.b=g0.b∧g.synced=g0.synced∧(g.name=n∧g0=f∨g.name≠n∧g0=g):=by
  intro g hg;obtain ⟨g0,h0,tC,gD,_,hc0⟩:=Si hg;rcases hc0 with ⟨e0,e1,e2,e3,e4⟩|⟨e0,rfl⟩
  ·exact ⟨f,hf,e1,e2,e3,e4,.inl ⟨by rw [gD,e0],rfl⟩⟩
  ·exact ⟨g,h0,rfl,rfl,rfl,rfl,.inr ⟨e0,rfl⟩⟩
 have hfn:∀ g∈jn m n f fs,g.name≠n→g.name≠m∧g∈fs:=by
  intro g hg iQ;obtain ⟨g0,h0,tC,gD,_,hc0⟩:=Si hg;rcases hc0 with ⟨e0,_⟩|⟨e0,rfl⟩
  ·exact absurd (gD.trans e0) iQ
  ·exact ⟨tC,h0⟩
 refine ⟨⟨(ho p h.Bq).trans h.self,⟨c,hr2,fun g hg=> ?_⟩,jo,by rw [apg];exact h.rD.sublist (List.filter_sublist.map _),?_,?_,fun g hg=> ?_,h.base.1,h.base.2.1,by rw [hsz];exact h.base.2.2⟩,⟨by rw [←hw2];rfl,by rw [←hw2];rfl,by rw [←hw2];rfl,by omega,fun b _ hn=>ho b (fun e=>hn (.inr (.inl e))),?_⟩⟩
 ·obtain ⟨g0,h0,_,_,hb,_⟩:=Si hg
  rw [hb];exact hc g0 h0
 ·refine List.pairwise_map.2 ?_
  refine (List.pairwise_map.1 jo).imp_of_mem fun {a b} ha hb hab=> ?_
  intro e;obtain ⟨a0,ha0,ea,_,_,_,ca⟩:=gP a ha;obtain ⟨b0,hb0,eb,_,_,_,cb⟩:=gP b hb;have wG:a0=b0:=RZ h.rE ha0 hb0 (by rw [←ea,←eb,e]);rcases ca with ⟨an,xa⟩|⟨an,xa⟩<;>rcases cb with ⟨bn,xb⟩|⟨bn,xb⟩
  ·exact hab (an.trans bn.symm)
  ·exact (hfn b hb bn).1 (by rw [←xb,←wG,xa,jD])
  ·exact (hfn a ha an).1 (by rw [←xa,wG,xb,jD])
  ·exact hab (by rw [←xa,←xb,wG])
 ·intro a ha b hb x hx1 hx2
  obtain ⟨a0,ha0,_,ea,_,_,ca⟩:=gP a ha;obtain ⟨b0,hb0,_,eb,_,_,cb⟩:=gP b hb;have wG:=h.rows a0 ha0 b0 hb0 x (by rw [←ea];exact hx1) (by rw [←eb];exact hx2);rcases ca with ⟨an,xa⟩|⟨an,xa⟩<;>rcases cb with ⟨bn,xb⟩|⟨bn,xb⟩
  ·exact an.trans bn.symm
  ·exact absurd (by rw [←xb,←wG,xa,jD]) (hfn b hb bn).1
  ·exact absurd (by rw [←xa,wG,xb,jD]) (hfn a ha an).1
  ·rw [←xa,←xb];exact wG
 ·obtain ⟨g0,h0,e1,e2,e3,e4,_⟩:=gP g hg
  have bh:=h.files g0 h0;exact ⟨by rw [e1,e2,e4];exact (ho _ (h.yN h0).2).trans bh.cell,by rw [e2,e3];exact bh.row.keep (fun b hb=>ho b (h.tz h0 hb).2.1),by rw [e1];exact bh.base,by rw [e3,e4];exact bh.sync⟩
 ·rintro b (rfl|rfl|⟨g,hg,hb⟩)
  ·exact .inl (.inl rfl)
  ·exact .inl (.inr (.inl rfl))
  ·obtain ⟨g0,h0,e1,e2,_,_,_⟩:=gP g hg
   rw [e1,e2] at hb;exact .inl (.inr (.inr ⟨g0,h0,hb⟩))
end
end Go.Proofs.YtoolkdapflaeeaaGreatDoor
namespace Go.Proofs.YtoolkdapflaeeaaGreatDoor
open Go.RowKit Go.Gl Go.aH
theorem aph {B:Nat} {w:World} {p r:Nat} {size used born:Int} {fs:List Fe} (h:bM B w p r size used born fs) {m n:ByteArray} {f g:Fe} (eN:fileOf m fs=some f) (hgo:fileOf n fs=some g) (eY:m≠n) (hn:jC n) (wH:g.b.length≤1073741824) (hu:0≤used) (Ih:used≤1073741824):
  Calls Tryz.prog 153 #[.pointer (some ⟨p,0,none⟩),.string m,.string n] w fun e w'=>e= .returned (.int .i64 0)∧∃ br,bM B w' p r size (used-g.b.length) born br∧Sep (cN p r fs) w w' (cN p r br)∧vw br=tB m n f.b f.synced (vw fs):=by
 have H:=ae h;obtain ⟨hm,jD⟩:=rG eN;obtain ⟨Sj,iQ⟩:=rG hgo;have api:(Instr.lookup 123 (.map (some r)) (.string m) false).run Tryz.prog w= .ok (.pointer (some ⟨f.fb,0,none⟩)) w:=by
  have:=h.lookup m;simpa only [mj,eN] using this
 have apj:(Instr.lookup 123 (.map (some r)) (.string n) false).run Tryz.prog w= .ok (.pointer (some ⟨g.fb,0,none⟩)) w:=by
  have:=h.lookup n;simpa only [mj,hgo] using this
 obtain ⟨c0,c1,c2,c3⟩:=h.cells;have lp:=af h.self;have ai:=h.files g Sj;obtain ⟨ba,bc,bg⟩:=ai.row.slice;have z0:w.cell? ⟨g.fb,0,none⟩=some (.slice ba g.b.length bc):=by simp [World.cell?,ai.cell,bg,iL]
 have lg:=af ai.cell;have ff:∀ i,w.frozen? ⟨p,i,none⟩=false:=fun i=>by simp [World.frozen?,h.self]
 have aQ:=Grow.cells (w:=w);have hgd:Grow w w.drew:=Grow.drew w;have bS:IntKind.i64.wrap (used-(g.b.length:Int))=used-(g.b.length:Int):=aR _ (by omega);obtain ⟨Ii,Ij⟩:=(h.grow hgd).Ed (used-g.b.length);obtain ⟨w2,hw2⟩:∃ x,x=(w.setCell ⟨p,1,none⟩ (.int .i64 (used-g.b.length))).drew:=⟨_,rfl⟩
 have cn:bM B w2 p r size (used-g.b.length) born fs:=by rw [hw2];exact Ii
 have hs2:Sep (cN p r fs) w.drew w2 (cN p r fs):=by rw [hw2];exact Ij
 clear Ii Ij;obtain ⟨ck,hmap,gH⟩:=cn.map;have rP:((fs.map Fe.az).map aF.key).Nodup:=by have:=cn.names;rw [List.map_map];exact this
 have ME:=Zp yK Tryz.underlying123 hmap rP n (.pointer (some ⟨f.fb,0,none⟩)) ⟨g.az,List.mem_map.2 ⟨g,Sj,rfl⟩,iQ.symm⟩;have Il:MapAt (cB w2 r (.map ((kM n (.pointer (some ⟨f.fb,0,none⟩)) (fs.map Fe.az)).map (aF.raw Value.string)).toArray ck)) r Value.string (kM n (.pointer (some ⟨f.fb,0,none⟩)) (fs.map Fe.az)) ck:=by
  unfold MapAt;rw [yE (af hmap)]
 have Im:((kM n (.pointer (some ⟨f.fb,0,none⟩)) (fs.map Fe.az)).map aF.key).Nodup:=by
  have:(kM n (.pointer (some ⟨f.fb,0,none⟩)) (fs.map Fe.az)).map aF.key=(fs.map Fe.az).map aF.key:=by
   unfold kM;rw [List.map_map];refine List.map_congr_left fun e _=> ?_
   simp only [Function.comp]
   split<;>rfl
  rw [this];exact rP
 have hdel:=Rx (ty:=0) (kt':=9) yK Tryz.underlying123 Il Im m;rw [←ape m n f fs eY] at hdel;obtain ⟨eV,hs3⟩:=cn.ren hm jD eY hmap gH;have Bz:cB (cB w2 r (.map ((kM n (.pointer (some ⟨f.fb,0,none⟩)) (fs.map Fe.az)).map (aF.raw Value.string)).toArray ck)) r (.map (((jn m n f fs).map Fe.az).map (aF.raw Value.string)).toArray ck)=cB w2 r (.map (((jn m n f fs).map Fe.az).map (aF.raw Value.string)).toArray ck):=by
  unfold cB;simp
 rw [Bz] at hdel;have wI:(cB w2 r (.map ((kM n (.pointer (some ⟨f.fb,0,none⟩)) (fs.map Fe.az)).map (aF.raw Value.string)).toArray ck)).heap[p]?=w2.heap[p]?:=wC cn.Bq;have e3':(cB w2 r (.map ((kM n (.pointer (some ⟨f.fb,0,none⟩)) (fs.map Fe.az)).map (aF.raw Value.string)).toArray ck)).cell? ⟨p,3,none⟩=some (.map (some r)):=by simp [World.cell?,wI,cn.self]
 have lp3:=af (wI.trans cn.self);obtain ⟨_,_,_,e3⟩:=cn.cells;have MD:=af cn.self;have fK:Hid (∃ br,bM B (cB w2 r (.map (((jn m n f fs).map Fe.az).map (aF.raw Value.string)).toArray ck)) p r size (used-g.b.length) born br∧Sep (cN p r fs) w (cB w2 r (.map (((jn m n f fs).map Fe.az).map (aF.raw Value.string)).toArray ck)) (cN p r br)∧vw br=tB m n f.b f.synced (vw fs)):=ae ⟨_,eV,((Sep.bF hgd).trans hs2).trans hs3,apd m n f fs⟩;generalize hw3:cB w2 r (.map ((kM n (.pointer (some ⟨f.fb,0,none⟩)) (fs.map Fe.az)).map (aF.raw Value.string)).toArray ck)=w3 at*;generalize hw4:cB w2 r (.map (((jn m n f fs).map Fe.az).map (aF.raw Value.string)).toArray ck)=w4 at*;have pd:=ae hw2;clear hw2 hw3 hw4 cn hs2 eV hs3 hmap gH hgd ai bg h hm Sj eN hgo jD iQ c0 c2 rP Im Il Bz wI;have hne:(m==n)=false:=by
  cases hb:(m==n) with
  |false=>rfl
  |true=>exact absurd ((Go.MapKept.bytes_beq _ _).1 hb) eY
 have Sl:(m.toList==n.toList)=false:=by
  cases hb:(m.toList==n.toList) with
  |false=>rfl
  |true=>exact absurd (ByteArray.ext (by simpa [ByteArray.toList_eq] using hb)) eY
 go_enter Tryz.func153,Tryz.ntmps153
 go_wp2_with ((with_reducible refine (Ec hn _).mono ?_);rintro e w1 ⟨rfl,hw⟩;have hw':=hw.symm;subst hw';clear hw)
 refine sX (fun W=>Below w.heap.size w W) [(0,false),(1,false),(2,false),(3,false),(4,false),(5,false),(6,false),(7,false),(8,false),(9,false),(10,false),(11,false)] 12 (by kernel_rfl) (by kernel_rfl) (fun c a d v w h=>by cases d<;>exact h) (Grow.drew _) ?_;simp only [aP,nth]
 repeat (first|(refine aB (v:= ?_) (by rfl) ?_ ?_;rotate_left;(rintro W hW;go_simp;with_reducible rfl);simp only [ag,List.set])|(refine aC (by rfl) ?_;simp only [ag,List.set]))
 refine bm ?_;refine sY (by rfl) (fun K hK=> ?_);go_simp;refine hK _ ((w.setCell ⟨p,1,none⟩ (.int .i64 (used-g.b.length))).drew) ?_;clear hK K aQ
 try first|simp only [ag,List.set]|simp only [aD]
 rw [←pd.out];go_wp2;go_ret;exact ⟨rfl,fK.out⟩
end Go.Proofs.YtoolkdapflaeeaaGreatDoor
namespace Go.Proofs.YtoolkdapflaeeaaGreatDoor
open Go.Shelf
def Tryz.apl:Go.Shelf.Ren:=⟨fun|190=>71|125=>122|258=>121|128=>176|129=>177|302=>167|303=>168|304=>169|305=>170|306=>171|307=>172|308=>173|309=>174|310=>175|333=>210|329=>211|330=>212|334=>213|335=>214|336=>196|344=>229|n=>n,fun|31=>95|9=>9|3=>3|46=>229|0=>0|51=>247|53=>37|4=>4|183=>278|182=>277|131=>236|5=>5|218=>319|222=>322|228=>336|229=>337|n=>n,fun|n=>n⟩
theorem Tryz.aaw:Go.Proofs.Lays.n190 Tryz.prog Tryz.apl:={
 mixed:=by kernel_rfl
 f125:=Tryz.func122.trans (congrArg some (by kernel_rfl))
 f128:=Tryz.func176.trans (congrArg some (by kernel_rfl))
 f129:=Tryz.func177.trans (congrArg some (by kernel_rfl))
 f190:=Tryz.func71.trans (congrArg some (by kernel_rfl))
 f258:=Tryz.func121.trans (congrArg some (by kernel_rfl))
 f302:=Tryz.func167.trans (congrArg some (by kernel_rfl))
 f303:=Tryz.func168.trans (congrArg some (by kernel_rfl))
 f304:=Tryz.func169.trans (congrArg some (by kernel_rfl))
 f305:=Tryz.func170.trans (congrArg some (by kernel_rfl))
 f306:=Tryz.func171.trans (congrArg some (by kernel_rfl))
 f307:=Tryz.func172.trans (congrArg some (by kernel_rfl))
 f308:=Tryz.func173.trans (congrArg some (by kernel_rfl))
 f309:=Tryz.func174.trans (congrArg some (by kernel_rfl))
 f310:=Tryz.func175.trans (congrArg some (by kernel_rfl))
 f329:=Tryz.func211.trans (congrArg some (by kernel_rfl))
 f330:=Tryz.func212.trans (congrArg some (by kernel_rfl))
 f333:=Tryz.func210.trans (congrArg some (by kernel_rfl))
 f334:=Tryz.func213.trans (congrArg some (by kernel_rfl))
 f335:=Tryz.func214.trans (congrArg some (by kernel_rfl))
 f336:=Tryz.func196.trans (congrArg some (by kernel_rfl))
 f344:=Tryz.func229.trans (congrArg some (by kernel_rfl))
 t0:=Tryz.underlying0
 a0:=Tryz.isAgg0
 z0:=Tryz.sizeOf0
 v0:=Tryz.zeroValue0
 t3:=Tryz.underlying3
 a3:=Tryz.isAgg3
 z3:=Tryz.sizeOf3
 v3:=Tryz.zeroValue3
 t4:=Tryz.underlying4
 a4:=Tryz.isAgg4
 z4:=Tryz.sizeOf4
 v4:=Tryz.zeroValue4
 t5:=Tryz.underlying5
 a5:=Tryz.isAgg5
 z5:=Tryz.sizeOf5
 v5:=Tryz.zeroValue5
 t9:=Tryz.underlying9
 a9:=Tryz.isAgg9
 z9:=Tryz.sizeOf9
 v9:=Tryz.zeroValue9
 t31:=Tryz.underlying95
 a31:=Tryz.isAgg95
 z31:=Tryz.sizeOf95
 v31:=Tryz.zeroValue95
 t46:=Tryz.underlying229
 a46:=Tryz.isAgg229
 z46:=Tryz.sizeOf229
 v46:=Tryz.zeroValue229
 t51:=Tryz.underlying247
 a51:=Tryz.isAgg247
 z51:=Tryz.sizeOf247
 v51:=Tryz.zeroValue247
 t53:=Tryz.underlying37
 a53:=Tryz.isAgg37
 z53:=Tryz.sizeOf37
 v53:=Tryz.zeroValue37
 t131:=Tryz.underlying236
 a131:=Tryz.isAgg236
 z131:=Tryz.sizeOf236
 v131:=Tryz.zeroValue236
 t182:=Tryz.underlying277
 a182:=Tryz.isAgg277
 z182:=Tryz.sizeOf277
 v182:=Tryz.zeroValue277
 t183:=Tryz.underlying278
 a183:=Tryz.isAgg278
 z183:=Tryz.sizeOf278
 v183:=Tryz.zeroValue278
 t218:=Tryz.underlying319
 a218:=Tryz.isAgg319
 z218:=Tryz.sizeOf319
 v218:=Tryz.zeroValue319
 t222:=Tryz.underlying322
 a222:=Tryz.isAgg322
 z222:=Tryz.sizeOf322
 v222:=Tryz.zeroValue322
 t228:=Tryz.underlying336
 a228:=Tryz.isAgg336
 z228:=Tryz.sizeOf336
 v228:=Tryz.zeroValue336
 t229:=Tryz.underlying337
 a229:=Tryz.isAgg337
 z229:=Tryz.sizeOf337
 v229:=Tryz.zeroValue337}
def Tryz.apm:Go.Shelf.Ren:=⟨fun|99=>46|206=>85|n=>n,fun|9=>9|4=>4|3=>3|n=>n,fun|n=>n⟩
theorem Tryz.Sm:Go.Proofs.Lays.n99 Tryz.prog Tryz.apm:={
 mixed:=by kernel_rfl
 f99:=Tryz.func46.trans (congrArg some (by kernel_rfl))
 f206:=Tryz.func85.trans (congrArg some (by kernel_rfl))
 t3:=Tryz.underlying3
 a3:=Tryz.isAgg3
 z3:=Tryz.sizeOf3
 v3:=Tryz.zeroValue3
 t4:=Tryz.underlying4
 a4:=Tryz.isAgg4
 z4:=Tryz.sizeOf4
 v4:=Tryz.zeroValue4
 t9:=Tryz.underlying9
 a9:=Tryz.isAgg9
 z9:=Tryz.sizeOf9
 v9:=Tryz.zeroValue9}
def Tryz.apn:Go.Shelf.Ren:=⟨fun|101=>91|208=>141|206=>85|n=>n,fun|9=>9|4=>4|3=>3|n=>n,fun|n=>n⟩
theorem Tryz.apo:Go.Proofs.Lays.n101 Tryz.prog Tryz.apn:={
 mixed:=by kernel_rfl
 f101:=Tryz.func91.trans (congrArg some (by kernel_rfl))
 f206:=Tryz.func85.trans (congrArg some (by kernel_rfl))
 f208:=Tryz.func141.trans (congrArg some (by kernel_rfl))
 t3:=Tryz.underlying3
 a3:=Tryz.isAgg3
 z3:=Tryz.sizeOf3
 v3:=Tryz.zeroValue3
 t4:=Tryz.underlying4
 a4:=Tryz.isAgg4
 z4:=Tryz.sizeOf4
 v4:=Tryz.zeroValue4
 t9:=Tryz.underlying9
 a9:=Tryz.isAgg9
 z9:=Tryz.sizeOf9
 v9:=Tryz.zeroValue9}
def Tryz.apq:Go.Shelf.Ren:=⟨fun|172=>90|244=>139|245=>140|247=>191|279=>192|280=>193|281=>194|282=>195|287=>219|316=>220|171=>123|205=>221|321=>234|322=>235|243=>178|246=>215|283=>230|284=>231|285=>232|286=>233|129=>177|317=>245|318=>246|319=>247|320=>248|337=>252|338=>253|n=>n,fun|9=>9|3=>3|75=>66|76=>186|4=>4|5=>5|167=>297|37=>49|0=>0|85=>298|2=>2|168=>300|53=>37|175=>326|46=>229|210=>330|127=>344|145=>347|143=>345|21=>21|171=>339|173=>341|212=>355|51=>247|20=>20|213=>356|232=>360|233=>361|80=>295|n=>n,fun|15=>0|16=>1|17=>2|18=>3|19=>4|n=>n⟩
theorem Tryz.atoi:Go.Proofs.Lays.n172 Tryz.prog Tryz.apq:={
 mixed:=by kernel_rfl
 f129:=Tryz.func177.trans (congrArg some (by kernel_rfl))
 f171:=Tryz.func123.trans (congrArg some (by kernel_rfl))
 f172:=Tryz.func90.trans (congrArg some (by kernel_rfl))
 f205:=Tryz.func221.trans (congrArg some (by kernel_rfl))
 f243:=Tryz.func178.trans (congrArg some (by kernel_rfl))
 f244:=Tryz.func139.trans (congrArg some (by kernel_rfl))
 f245:=Tryz.func140.trans (congrArg some (by kernel_rfl))
 f246:=Tryz.func215.trans (congrArg some (by kernel_rfl))
 f247:=Tryz.func191.trans (congrArg some (by kernel_rfl))
 f279:=Tryz.func192.trans (congrArg some (by kernel_rfl))
 f280:=Tryz.func193.trans (congrArg some (by kernel_rfl))
 f281:=Tryz.func194.trans (congrArg some (by kernel_rfl))
 f282:=Tryz.func195.trans (congrArg some (by kernel_rfl))
 f283:=Tryz.func230.trans (congrArg some (by kernel_rfl))
 f284:=Tryz.func231.trans (congrArg some (by kernel_rfl))
 f285:=Tryz.func232.trans (congrArg some (by kernel_rfl))
 f286:=Tryz.func233.trans (congrArg some (by kernel_rfl))
 f287:=Tryz.func219.trans (congrArg some (by kernel_rfl))
 f316:=Tryz.func220.trans (congrArg some (by kernel_rfl))
 f317:=Tryz.func245.trans (congrArg some (by kernel_rfl))
 f318:=Tryz.func246.trans (congrArg some (by kernel_rfl))
 f319:=Tryz.func247.trans (congrArg some (by kernel_rfl))
 f320:=Tryz.func248.trans (congrArg some (by kernel_rfl))
 f321:=Tryz.func234.trans (congrArg some (by kernel_rfl))
 f322:=Tryz.func235.trans (congrArg some (by kernel_rfl))
 f337:=Tryz.func252.trans (congrArg some (by kernel_rfl))
 f338:=Tryz.func253.trans (congrArg some (by kernel_rfl))
 t0:=Tryz.underlying0
 a0:=Tryz.isAgg0
 z0:=Tryz.sizeOf0
 v0:=Tryz.zeroValue0
 t2:=Tryz.underlying2
 a2:=Tryz.isAgg2
 z2:=Tryz.sizeOf2
 v2:=Tryz.zeroValue2
 t3:=Tryz.underlying3
 a3:=Tryz.isAgg3
 z3:=Tryz.sizeOf3
 v3:=Tryz.zeroValue3
 t4:=Tryz.underlying4
 a4:=Tryz.isAgg4
 z4:=Tryz.sizeOf4
 v4:=Tryz.zeroValue4
 t5:=Tryz.underlying5
 a5:=Tryz.isAgg5
 z5:=Tryz.sizeOf5
 v5:=Tryz.zeroValue5
 t9:=Tryz.underlying9
 a9:=Tryz.isAgg9
 z9:=Tryz.sizeOf9
 v9:=Tryz.zeroValue9
 t20:=Tryz.underlying20
 a20:=Tryz.isAgg20
 z20:=Tryz.sizeOf20
 v20:=Tryz.zeroValue20
 t21:=Tryz.underlying21
 a21:=Tryz.isAgg21
 z21:=Tryz.sizeOf21
 v21:=Tryz.zeroValue21
 t37:=Tryz.underlying49
 a37:=Tryz.isAgg49
 z37:=Tryz.sizeOf49
 v37:=Tryz.zeroValue49
 t46:=Tryz.underlying229
 a46:=Tryz.isAgg229
 z46:=Tryz.sizeOf229
 v46:=Tryz.zeroValue229
 t51:=Tryz.underlying247
 a51:=Tryz.isAgg247
 z51:=Tryz.sizeOf247
 v51:=Tryz.zeroValue247
 t53:=Tryz.underlying37
 a53:=Tryz.isAgg37
 z53:=Tryz.sizeOf37
 v53:=Tryz.zeroValue37
 t75:=Tryz.underlying66
 a75:=Tryz.isAgg66
 z75:=Tryz.sizeOf66
 v75:=Tryz.zeroValue66
 t76:=Tryz.underlying186
 a76:=Tryz.isAgg186
 z76:=Tryz.sizeOf186
 v76:=Tryz.zeroValue186
 t85:=Tryz.underlying298
 a85:=Tryz.isAgg298
 z85:=Tryz.sizeOf298
 v85:=Tryz.zeroValue298
 t127:=Tryz.underlying344
 a127:=Tryz.isAgg344
 z127:=Tryz.sizeOf344
 v127:=Tryz.zeroValue344
 t143:=Tryz.underlying345
 a143:=Tryz.isAgg345
 z143:=Tryz.sizeOf345
 v143:=Tryz.zeroValue345
 t145:=Tryz.underlying347
 a145:=Tryz.isAgg347
 z145:=Tryz.sizeOf347
 v145:=Tryz.zeroValue347
 t167:=Tryz.underlying297
 a167:=Tryz.isAgg297
 z167:=Tryz.sizeOf297
 v167:=Tryz.zeroValue297
 t168:=Tryz.underlying300
 a168:=Tryz.isAgg300
 z168:=Tryz.sizeOf300
 v168:=Tryz.zeroValue300
 t171:=Tryz.underlying339
 a171:=Tryz.isAgg339
 z171:=Tryz.sizeOf339
 v171:=Tryz.zeroValue339
 t173:=Tryz.underlying341
 a173:=Tryz.isAgg341
 z173:=Tryz.sizeOf341
 v173:=Tryz.zeroValue341
 t175:=Tryz.underlying326
 a175:=Tryz.isAgg326
 z175:=Tryz.sizeOf326
 v175:=Tryz.zeroValue326
 t210:=Tryz.underlying330
 a210:=Tryz.isAgg330
 z210:=Tryz.sizeOf330
 v210:=Tryz.zeroValue330
 t212:=Tryz.underlying355
 a212:=Tryz.isAgg355
 z212:=Tryz.sizeOf355
 v212:=Tryz.zeroValue355
 t213:=Tryz.underlying356
 a213:=Tryz.isAgg356
 z213:=Tryz.sizeOf356
 t232:=Tryz.underlying360
 a232:=Tryz.isAgg360
 z232:=Tryz.sizeOf360
 v232:=Tryz.zeroValue360
 t233:=Tryz.underlying361
 a233:=Tryz.isAgg361
 z233:=Tryz.sizeOf361
 v233:=Tryz.zeroValue361
 g15:=by kernel_rfl
 g16:=by kernel_rfl
 g17:=by kernel_rfl
 g18:=by kernel_rfl
 g19:=by kernel_rfl}
def Tryz.apr:Go.Shelf.Ren:=⟨fun|171=>123|243=>178|246=>215|283=>230|284=>231|285=>232|286=>233|129=>177|317=>245|318=>246|319=>247|320=>248|337=>252|338=>253|n=>n,fun|3=>3|9=>9|2=>2|4=>4|171=>339|0=>0|53=>37|37=>49|5=>5|173=>341|212=>355|51=>247|20=>20|213=>356|46=>229|232=>360|233=>361|n=>n,fun|17=>2|18=>3|19=>4|n=>n⟩
theorem Tryz.itoa:Go.Proofs.Lays.n171 Tryz.prog Tryz.apr:={
 mixed:=by kernel_rfl
 f129:=Tryz.func177.trans (congrArg some (by kernel_rfl))
 f171:=Tryz.func123.trans (congrArg some (by kernel_rfl))
 f243:=Tryz.func178.trans (congrArg some (by kernel_rfl))
 f246:=Tryz.func215.trans (congrArg some (by kernel_rfl))
 f283:=Tryz.func230.trans (congrArg some (by kernel_rfl))
 f284:=Tryz.func231.trans (congrArg some (by kernel_rfl))
 f285:=Tryz.func232.trans (congrArg some (by kernel_rfl))
 f286:=Tryz.func233.trans (congrArg some (by kernel_rfl))
 f317:=Tryz.func245.trans (congrArg some (by kernel_rfl))
 f318:=Tryz.func246.trans (congrArg some (by kernel_rfl))
 f319:=Tryz.func247.trans (congrArg some (by kernel_rfl))
 f320:=Tryz.func248.trans (congrArg some (by kernel_rfl))
 f337:=Tryz.func252.trans (congrArg some (by kernel_rfl))
 f338:=Tryz.func253.trans (congrArg some (by kernel_rfl))
 t0:=Tryz.underlying0
 a0:=Tryz.isAgg0
 z0:=Tryz.sizeOf0
 v0:=Tryz.zeroValue0
 t2:=Tryz.underlying2
 a2:=Tryz.isAgg2
 z2:=Tryz.sizeOf2
 v2:=Tryz.zeroValue2
 t3:=Tryz.underlying3
 a3:=Tryz.isAgg3
 z3:=Tryz.sizeOf3
 v3:=Tryz.zeroValue3
 t4:=Tryz.underlying4
 a4:=Tryz.isAgg4
 z4:=Tryz.sizeOf4
 v4:=Tryz.zeroValue4
 t5:=Tryz.underlying5
 a5:=Tryz.isAgg5
 z5:=Tryz.sizeOf5
 v5:=Tryz.zeroValue5
 t9:=Tryz.underlying9
 a9:=Tryz.isAgg9
 z9:=Tryz.sizeOf9
 v9:=Tryz.zeroValue9
 t20:=Tryz.underlying20
 a20:=Tryz.isAgg20
 z20:=Tryz.sizeOf20
 v20:=Tryz.zeroValue20
 t37:=Tryz.underlying49
 a37:=Tryz.isAgg49
 z37:=Tryz.sizeOf49
 v37:=Tryz.zeroValue49
 t46:=Tryz.underlying229
 a46:=Tryz.isAgg229
 z46:=Tryz.sizeOf229
 v46:=Tryz.zeroValue229
 t51:=Tryz.underlying247
 a51:=Tryz.isAgg247
 z51:=Tryz.sizeOf247
 v51:=Tryz.zeroValue247
 t53:=Tryz.underlying37
 a53:=Tryz.isAgg37
 z53:=Tryz.sizeOf37
 v53:=Tryz.zeroValue37
 t171:=Tryz.underlying339
 a171:=Tryz.isAgg339
 z171:=Tryz.sizeOf339
 v171:=Tryz.zeroValue339
 t173:=Tryz.underlying341
 a173:=Tryz.isAgg341
 z173:=Tryz.sizeOf341
 v173:=Tryz.zeroValue341
 t212:=Tryz.underlying355
 a212:=Tryz.isAgg355
 z212:=Tryz.sizeOf355
 v212:=Tryz.zeroValue355
 t213:=Tryz.underlying356
 a213:=Tryz.isAgg356
 z213:=Tryz.sizeOf356
 t232:=Tryz.underlying360
 a232:=Tryz.isAgg360
 z232:=Tryz.sizeOf360
 v232:=Tryz.zeroValue360
 t233:=Tryz.underlying361
 a233:=Tryz.isAgg361
 z233:=Tryz.sizeOf361
 v233:=Tryz.zeroValue361
 g17:=by kernel_rfl
 g18:=by kernel_rfl
 g19:=by kernel_rfl}
def Tryz.aps:Go.Shelf.Ren:=⟨fun|6=>206|15=>122|14=>227|28=>176|29=>177|20=>236|21=>237|22=>238|23=>239|24=>240|25=>241|26=>242|27=>243|46=>249|47=>211|48=>212|49=>250|50=>251|57=>254|n=>n,fun|22=>83|24=>101|25=>316|3=>3|39=>229|0=>0|53=>247|55=>37|4=>4|46=>278|45=>277|50=>236|5=>5|9=>9|66=>319|70=>322|76=>336|77=>337|n=>n,fun|n=>n⟩
theorem Tryz.aax:Go.Proofs.SlLaysF0.n6 Tryz.prog Tryz.aps:={
 mixed:=by kernel_rfl
 f6:=⟨Tryz.f206.name,by decide,Tryz.func206.trans (congrArg some (by kernel_rfl))⟩
 f14:=⟨Tryz.f227.name,by decide,Tryz.func227.trans (congrArg some (by kernel_rfl))⟩
 f15:=Tryz.func122.trans (congrArg some (by kernel_rfl))
 f20:=⟨Tryz.f236.name,by decide,Tryz.func236.trans (congrArg some (by kernel_rfl))⟩
 f21:=⟨Tryz.f237.name,by decide,Tryz.func237.trans (congrArg some (by kernel_rfl))⟩
 f22:=⟨Tryz.f238.name,by decide,Tryz.func238.trans (congrArg some (by kernel_rfl))⟩
 f23:=⟨Tryz.f239.name,by decide,Tryz.func239.trans (congrArg some (by kernel_rfl))⟩
 f24:=⟨Tryz.f240.name,by decide,Tryz.func240.trans (congrArg some (by kernel_rfl))⟩
 f25:=⟨Tryz.f241.name,by decide,Tryz.func241.trans (congrArg some (by kernel_rfl))⟩
 f26:=⟨Tryz.f242.name,by decide,Tryz.func242.trans (congrArg some (by kernel_rfl))⟩
 f27:=⟨Tryz.f243.name,by decide,Tryz.func243.trans (congrArg some (by kernel_rfl))⟩
 f28:=Tryz.func176.trans (congrArg some (by kernel_rfl))
 f29:=Tryz.func177.trans (congrArg some (by kernel_rfl))
 f46:=⟨Tryz.f249.name,by decide,Tryz.func249.trans (congrArg some (by kernel_rfl))⟩
 f47:=Tryz.func211.trans (congrArg some (by kernel_rfl))
 f48:=Tryz.func212.trans (congrArg some (by kernel_rfl))
 f49:=⟨Tryz.f250.name,by decide,Tryz.func250.trans (congrArg some (by kernel_rfl))⟩
 f50:=⟨Tryz.f251.name,by decide,Tryz.func251.trans (congrArg some (by kernel_rfl))⟩
 f57:=⟨Tryz.f254.name,by decide,Tryz.func254.trans (congrArg some (by kernel_rfl))⟩
 t0:=Tryz.underlying0
 a0:=Tryz.isAgg0
 z0:=Tryz.sizeOf0
 v0:=Tryz.zeroValue0
 t3:=Tryz.underlying3
 a3:=Tryz.isAgg3
 z3:=Tryz.sizeOf3
 v3:=Tryz.zeroValue3
 t4:=Tryz.underlying4
 a4:=Tryz.isAgg4
 z4:=Tryz.sizeOf4
 v4:=Tryz.zeroValue4
 t5:=Tryz.underlying5
 a5:=Tryz.isAgg5
 z5:=Tryz.sizeOf5
 v5:=Tryz.zeroValue5
 t9:=Tryz.underlying9
 a9:=Tryz.isAgg9
 z9:=Tryz.sizeOf9
 v9:=Tryz.zeroValue9
 t22:=Tryz.underlying83
 a22:=Tryz.isAgg83
 z22:=Tryz.sizeOf83
 v22:=Tryz.zeroValue83
 t25:=Tryz.underlying316
 a25:=Tryz.isAgg316
 z25:=Tryz.sizeOf316
 v25:=Tryz.zeroValue316
 t39:=Tryz.underlying229
 a39:=Tryz.isAgg229
 z39:=Tryz.sizeOf229
 v39:=Tryz.zeroValue229
 t45:=Tryz.underlying277
 a45:=Tryz.isAgg277
 z45:=Tryz.sizeOf277
 v45:=Tryz.zeroValue277
 t46:=Tryz.underlying278
 a46:=Tryz.isAgg278
 z46:=Tryz.sizeOf278
 v46:=Tryz.zeroValue278
 t50:=Tryz.underlying236
 a50:=Tryz.isAgg236
 z50:=Tryz.sizeOf236
 v50:=Tryz.zeroValue236
 t53:=Tryz.underlying247
 a53:=Tryz.isAgg247
 z53:=Tryz.sizeOf247
 v53:=Tryz.zeroValue247
 t55:=Tryz.underlying37
 a55:=Tryz.isAgg37
 z55:=Tryz.sizeOf37
 v55:=Tryz.zeroValue37
 t66:=Tryz.underlying319
 a66:=Tryz.isAgg319
 z66:=Tryz.sizeOf319
 v66:=Tryz.zeroValue319
 t70:=Tryz.underlying322
 a70:=Tryz.isAgg322
 z70:=Tryz.sizeOf322
 v70:=Tryz.zeroValue322
 t76:=Tryz.underlying336
 a76:=Tryz.isAgg336
 z76:=Tryz.sizeOf336
 v76:=Tryz.zeroValue336
 t77:=Tryz.underlying337
 a77:=Tryz.isAgg337
 z77:=Tryz.sizeOf337
 v77:=Tryz.zeroValue337}
def Tryz.apt:Go.Shelf.Ren:=⟨fun|41=>117|n=>n,fun|22=>83|23=>101|4=>4|n=>n,fun|n=>n⟩
theorem Tryz.aay:Go.Proofs.SlLaysE0.n41 Tryz.prog Tryz.apt:={
 mixed:=by kernel_rfl
 f41:=⟨Tryz.f117.name,by decide,Tryz.func117.trans (congrArg some (by kernel_rfl))⟩
 t4:=Tryz.underlying4
 a4:=Tryz.isAgg4
 z4:=Tryz.sizeOf4
 v4:=Tryz.zeroValue4
 t22:=Tryz.underlying83
 a22:=Tryz.isAgg83
 z22:=Tryz.sizeOf83
 v22:=Tryz.zeroValue83}
def Tryz.apu:Go.Shelf.Ren:=⟨fun|6=>166|n=>n,fun|22=>83|23=>101|25=>225|3=>3|0=>0|4=>4|n=>n,fun|n=>n⟩
theorem Tryz.iR:Go.Proofs.SlLaysH0.n6 Tryz.prog Tryz.apu:={
 mixed:=by kernel_rfl
 f6:=⟨Tryz.f166.name,by decide,Tryz.func166.trans (congrArg some (by kernel_rfl))⟩
 t0:=Tryz.underlying0
 a0:=Tryz.isAgg0
 z0:=Tryz.sizeOf0
 v0:=Tryz.zeroValue0
 t3:=Tryz.underlying3
 a3:=Tryz.isAgg3
 z3:=Tryz.sizeOf3
 v3:=Tryz.zeroValue3
 t4:=Tryz.underlying4
 a4:=Tryz.isAgg4
 z4:=Tryz.sizeOf4
 v4:=Tryz.zeroValue4
 t22:=Tryz.underlying83
 a22:=Tryz.isAgg83
 z22:=Tryz.sizeOf83
 v22:=Tryz.zeroValue83
 t25:=Tryz.underlying225
 a25:=Tryz.isAgg225
 z25:=Tryz.sizeOf225
 v25:=Tryz.zeroValue225}
def Tryz.apv:Go.Shelf.Ren:=⟨fun|8=>118|6=>166|n=>n,fun|22=>83|23=>101|25=>225|4=>4|3=>3|0=>0|n=>n,fun|n=>n⟩
theorem Tryz.apw:Go.Proofs.SlLaysH0.n8 Tryz.prog Tryz.apv:={
 mixed:=by kernel_rfl
 f6:=⟨Tryz.f166.name,by decide,Tryz.func166.trans (congrArg some (by kernel_rfl))⟩
 f8:=⟨Tryz.f118.name,by decide,Tryz.func118.trans (congrArg some (by kernel_rfl))⟩
 t0:=Tryz.underlying0
 a0:=Tryz.isAgg0
 z0:=Tryz.sizeOf0
 v0:=Tryz.zeroValue0
 t3:=Tryz.underlying3
 a3:=Tryz.isAgg3
 z3:=Tryz.sizeOf3
 v3:=Tryz.zeroValue3
 t4:=Tryz.underlying4
 a4:=Tryz.isAgg4
 z4:=Tryz.sizeOf4
 v4:=Tryz.zeroValue4
 t22:=Tryz.underlying83
 a22:=Tryz.isAgg83
 z22:=Tryz.sizeOf83
 v22:=Tryz.zeroValue83
 t25:=Tryz.underlying225
 a25:=Tryz.isAgg225
 z25:=Tryz.sizeOf225
 v25:=Tryz.zeroValue225}
def Tryz.apx:Go.Shelf.Ren:=⟨fun|31=>204|29=>226|n=>n,fun|22=>24|23=>3|4=>4|3=>3|0=>0|n=>n,fun|n=>n⟩
theorem Tryz.aaz:Go.Proofs.SlLaysN.n31 Tryz.prog Tryz.apx:={
 mixed:=by kernel_rfl
 f29:=⟨Tryz.f226.name,by decide,Tryz.func226.trans (congrArg some (by kernel_rfl))⟩
 f31:=⟨Tryz.f204.name,by decide,Tryz.func204.trans (congrArg some (by kernel_rfl))⟩
 t0:=Tryz.underlying0
 a0:=Tryz.isAgg0
 z0:=Tryz.sizeOf0
 v0:=Tryz.zeroValue0
 t3:=Tryz.underlying3
 a3:=Tryz.isAgg3
 z3:=Tryz.sizeOf3
 v3:=Tryz.zeroValue3
 t4:=Tryz.underlying4
 a4:=Tryz.isAgg4
 z4:=Tryz.sizeOf4
 v4:=Tryz.zeroValue4
 t22:=Tryz.underlying24
 a22:=Tryz.isAgg24
 z22:=Tryz.sizeOf24
 v22:=Tryz.zeroValue24
 t23:=Tryz.underlying3
 a23:=Tryz.isAgg3
 z23:=Tryz.sizeOf3
 v23:=Tryz.zeroValue3}
end Go.Proofs.YtoolkdapflaeeaaGreatDoor
namespace Go.Proofs.YtoolkdapflaeeaaGreatDoor
open Go.RowKit Go.Gl Go.aH Go.Sort
def apy:Prop:=∀ (w:World) (g cap:Nat) (ss:List (List UInt8)) (cur:Array Value),w.heap[g]?=some (.cells cur 9 (0,0))→cur.toList.take ss.length=ss.map encStr→ss.length<1000000000→
 Calls Tryz.prog 71 #[.slice (some ⟨g,0,none⟩) ss.length cap] w fun e w'=>e= .returned (.tuple #[])∧∃ n os,w'=grow (putRow encStr (Sort.ahead w n) g 0 (ss.mergeSort fun x y=>decide (x≤y)).toArray) os
def apz:Prop:=∀ (w:World),Calls Tryz.prog 71 #[.slice none 0 0] w fun e w'=>e= .returned (.tuple #[])∧w'=w
def aaA:Prop:=∀ (s p:ByteArray) (w:World),Calls Tryz.prog 46 #[.string s,.string p] w fun e w'=>e= .returned (.bool (Lib.hasPrefix s.data.toList p.data.toList))∧w'=w
theorem aaB:apy:=fun w g cap ss cur hb ht hl=>Any.slices_Sort_string Tryz.aaw g 0 cap ss w (holds_of_block hb ht) (af hb) (by omega)
theorem aaC:apz:=fun w=>Any.slices_Sort_string_none Tryz.aaw none 0 w
theorem Sm:aaA:=fun s p w=>Any.strings_HasPrefix Tryz.Sm s p w
theorem Sn {κ:Type}:∀ {l:List (aF κ)} {x:aF κ},(l.map aF.born).Nodup→x∈l→l.Perm (x::(l.filter fun e=>decide (e.born≠x.born)))
 |y::l,x,hn,h=>by
  simp only [List.map_cons,List.nodup_cons,List.mem_map,not_exists,not_and] at hn;by_cases yQ:y.born=x.born
  ·have gA:x=y:=by
    rcases List.mem_cons.1 h with h|h
    ·exact h
    ·exact absurd yQ.symm (hn.1 x h)
   subst gA;rw [List.filter_cons_of_neg (by simp)];rw [List.filter_eq_self.2 fun e he=>by simpa using fun h1=>hn.1 e he h1]
  ·have hx:x∈l:=by
    rcases List.mem_cons.1 h with h|h
    ·exact absurd (by rw [h]) yQ
    ·exact h
   rw [List.filter_cons_of_pos (by simpa using yQ)];exact ((Sn hn.2 hx).cons y).trans (List.Perm.swap x y _)
def pick (keep:ByteArray→Bool) (l:List (aF ByteArray)):List (List UInt8):=(l.filter fun e=>keep e.key).map fun e=>e.key.data.toList
def Io (w:World) (r:Nat) (keep:ByteArray→Bool) (l:List (aF ByteArray)) (c:Nat) (lv:Value) (wr:World):Prop:=
 ∃ (seen:Array Nat) (c0:Nat) (done:List (List UInt8)) (la:Option Addr) (ln lc:Nat),lv= .slice la ln lc∧wr.heap[w.heap.size]?=some (.mapIter (some r) c seen c0)∧c≤c0∧wr.ownsRow w.heap.size 9 1 (.slice la ln lc) done.length (done.map encStr)∧(done++pick keep (kh seen l)).Perm (pick keep l)∧Grow w wr
theorem aaD (s:ByteArray):encStr s.data.toList= .string s:=by
 obtain ⟨a⟩:=s;simp [encStr]
def Sp (w:World) (names:List (List UInt8)) (e:Ending) (w':World):Prop:=
 ∃ v,e= .returned v∧w'.ownsRow w.heap.size 9 1 v names.length ((names.mergeSort fun x y=>decide (x≤y)).map encStr)∧Grow w w'
theorem apA (hP:aaA) (s p:ByteArray) {w:World} {bx:Nat} (hb:w.heap[bx]?=some (.cells #[.string s] 9 (0,0))):
  Calls Tryz.prog 70 #[.string p,.pointer (some ⟨bx,0,none⟩)] w fun e w'=>e= .returned (.bool (Lib.hasPrefix s.data.toList p.data.toList))∧w'=w:=by
 have b0:w.cell? ⟨bx,0,none⟩=some (.string s):=by simp [World.cell?,hb]
 have lb:=af hb;have Hc:=ae (hP s p w);go_enter Tryz.func70,Tryz.ntmps70
 go_wp2_with fail
 (with_reducible refine Hc.out.mono ?_);rintro e w1 ⟨rfl,hw⟩;have hw':=hw.symm;subst hw';clear hw;go_wp2;go_ret;exact ⟨rfl,rfl⟩
theorem apB {B:Nat} {w:World} {p r:Nat} {size used born:Int} {fs:List Fe} (h:bM B w p r size used born fs) (kY:fs.length<1000000000):
  Calls Tryz.prog 33 #[.pointer (some ⟨p,0,none⟩),.slice none 0 0] w (Sp w (pick (fun _=>true) (fs.map Fe.az))):=by
 obtain ⟨c,hm,Ip⟩:=h.map;have Sq:=run_range_map (P:=Tryz.prog) w 123 9 162 r _ c Tryz.underlying123 hm;obtain ⟨c0,c1,c2,c3⟩:=h.cells;have lp:=af h.self;have dw:((fs.map Fe.az).map aF.born).Nodup:=by rw [List.map_map];exact h.rD
 have hold:∀ e∈fs.map Fe.az,e.born<c:=fun e he=>by obtain ⟨x,hx,rfl⟩:=List.mem_map.1 he;exact Ip x hx
 have rQ:w.heap.size≠r:=by have:=af hm;omega
 have hlen:(fs.map Fe.az).length<1000000000:=by simpa using kY
 generalize fs.map Fe.az=l at*;have Hm:=ae hm;have gS:=ae dw;have gU:=ae hold;clear h Ip dw hold hm;go_enter Tryz.func33,Tryz.ntmps33;go_wp2;clear Sq
 go_loopw [5] (fun lv wr=>Io w r (fun _=>true) l c lv wr) (fun _ wr=>yF r w.heap.size wr)
 case atStart=>
  refine ⟨#[],c,[],none,0,0,rfl,aw w _,ay _,World.ownsRow_nil _ _ _ _,?_,by (repeat (first|exact Below.refl _ _|assumption|refine Below.drew ?_|refine cp ?_|refine Below.setCell ?_ (by first|omega|(simp<;>omega)) _|refine Below.alloc ?_ (by first|omega|(simp<;>omega)) _))⟩;rw [show kh #[] l=l from List.filter_eq_self.2 (by simp)];simp
 case round=>
  obtain ⟨seen,MG,done,la,ln,lc,rfl,hit,hcc,hown,oo,hg⟩:=hrel;have uM:MapAt wr r Value.string l c:=hg.heap Hm.out;have yR:=Mp hit uM;rcases Zr (P:=Tryz.prog) (enc:=Value.string) (l:=l) 0 hit uM gU.out hcc rQ gS.out with ⟨h1,h2⟩|⟨e,w1,he,hrun,apC,yS,hgr,hsz⟩
  ·rw [h1] at oo
   have Hp:Hid (done.Perm (pick (fun _=>true) l)):=ae (by simpa [pick] using oo);have eT:=ae hown;have Hg:=ae hg;have yT:done.length<1000000000:=by
    have:=Hp.out.length_eq;have h3:(pick (fun _=>true) l).length≤l.length:=by unfold pick;rw [List.length_map];exact List.length_filter_le _ _
    omega
   clear h1 yR uM hit hown oo hg
   go_wp2_with fail
   have Iq:done.mergeSort (fun x y=>decide (x≤y))=(pick (fun _=>true) l).mergeSort (fun x y=>decide (x≤y)):=mergeSort_of_perm Hp.out;have hrow:=eT.out;rcases hrow.2 with ⟨e1,e2⟩|⟨g,cap,cur,e1,iK,e2,e3,e4,e5,e6⟩
   ·cases e1
    have hd:done= []:=jb e2;subst hd;have wJ:Calls Tryz.prog 71 #[.slice none 0 0] wr _:=aaC wr;(with_reducible refine wJ.mono ?_);rintro e w' ⟨rfl,rfl⟩;go_wp2;go_ret;refine ⟨_,rfl,?_,Hg.out⟩;rw [←Iq,←Hp.out.length_eq,List.mergeSort_nil];exact World.ownsRow_nil _ _ _ _
   ·cases e1
    have hS:=aaB wr g lc done cur e2 (by simpa using e6) yT;have cS:Hid (∀ n os,(grow (putRow encStr (Sort.ahead wr n) g 0 (done.mergeSort fun x y=>decide (x≤y)).toArray) os).ownsRow w.heap.size 9 1 (.slice (some ⟨g,0,none⟩) done.length lc) done.length ((done.mergeSort fun x y=>decide (x≤y)).map encStr)):=ae (fun n os=>ownsRow_sorted (List.length_mergeSort _) iK e2 e3 e4 e5);have HS:=ae hS;have Sr:=ae iK;clear hrow e2 iK e3 e4 e5 e6 hS;(with_reducible refine HS.out.mono ?_);rintro e w' ⟨rfl,nn,os,hw'⟩;have Ir:=ae hw';clear hw';go_wp2;go_ret;refine ⟨_,rfl,?_,?_⟩
    ·rw [←Iq,←Hp.out.length_eq,Ir.out]
     exact cS.out nn os
    ·rw [Ir.out]
     exact Hg.out.grown (grownBy_sorted _) Hg.out.size (fun k hk=>by cases hk;exact Sr.out)
  ·have wK:=Sn (Zs gS.out) he
   rw [←Mq] at wK;have yT:done.length<1000000000:=by
    have:=oo.length_eq;have h3:(pick (fun _=>true) l).length≤l.length:=by unfold pick;rw [List.length_map];exact List.length_filter_le _ _
    simp at this;omega
   have Ss:encStr e.key.data.toList= .string e.key:=aaD _;have tD:pick (fun _=>true) (e::kh (seen.push e.born) l)=(if (fun _=>true) e.key=true then [e.key.data.toList] else [])++pick (fun _=>true) (kh (seen.push e.born) l):=by
    unfold pick;rw [List.filter_cons]
    split<;>simp
   have ql:(pick (fun _=>true) (kh seen l)).Perm (pick (fun _=>true) (e::kh (seen.push e.born) l)):=by
    unfold pick;exact (wK.filter _).map _
   rw [tD] at ql;generalize rr:e.key=key at*;have hown1:w1.ownsRow w.heap.size 9 1 (.slice la ln lc) done.length (done.map encStr):=hown.kept hgr (.inr fun e1=>by
    rcases hown.2 with ⟨e2,_⟩|⟨g,cap,cur,e2,_,e3,_⟩
    ·rw [e2] at e1;cases e1
    ·rw [e2] at e1
     have e4:g=w.heap.size:=bB e1;rw [e4,hit] at e3;cases e3)
   have hsw:w.heap.size<w1.heap.size:=af yS;have hg1:Grow w w1:=hg.grown hgr hg.size (fun k hk=>by cases hk;exact ay _);have ai:Grow w1 (w1.alloc (.cells #[.string key] 9)):=Grow.alloc _ _;have eO:(w1.alloc (.cells #[.string key] 9)).heap[w1.heap.size]?=some (.cells #[.string key] 9 (0,0)):=aw _ _;have hown2:=hown1.alloc (.cells #[.string key] 9);have uN:=ai.heap yS;have hg2:=hg1.trans ai;have BA:∀ W,W.heap[w.heap.size]?=some (.mapIter (some r) c (seen.push e.born) c)→Grow w W→yF r w.heap.size W<yF r w.heap.size wr:=fun W hW Eg=>by
    rw [Mp hW (Eg.heap Hm.out:MapAt W r Value.string l c),yR,Mq];refine Nat.lt_of_le_of_ne (List.length_filter_le _ _) fun h4=> ?_
    have:=(List.length_filter_eq_length_iff.1 h4) e he;simp at this
   cases iA:(fun _=>true) key with
   |true=>
    rw [iA,if_pos rfl] at ql;obtain ⟨i0,bK,hz0,hz1,hz2⟩:=info_parts Tryz.Mv;have hgb:Grow (w1.alloc (.cells #[.string key] 9)) ((w1.alloc (.cells #[.string key] 9)).alloc (.cells #[.string key] 9)):=Grow.alloc _ _;have dV:=aw (w1.alloc (.cells #[.string key] 9)) (.cells #[.string key] 9);rw [show (w1.alloc (.cells #[.string key] 9)).heap.size=w1.heap.size+1 by simp] at dV;obtain ⟨g3,Su,w3,Iu,gI,qm,Sv,Sw⟩:=run_append_lies (P:=Tryz.prog) ((w1.alloc (.cells #[.string key] 9)).alloc (.cells #[.string key] 9)) 95 95 w.heap.size 9 i0 _ 1 16 Tryz.underlying95 bK hz0 hz1 hz2 rfl (by decide) _ _ _ (hown2.alloc _)
     ⟨w1.heap.size+1,0,none⟩ 1 1 [.string key] rfl (fun j u hu=>World.news_of_block dV j u (by simpa using hu)) (fun u hu=>by rw [cY.1 hu];rfl) (by decide) (by unfold maxLen;omega) (by omega) (by simp;omega) _ rfl
    have hg3:Grow w w3:=(hg2.trans hgb).grown qm (by have:=(hg2.trans hgb).size;omega) (fun k hk=>(hown2.lt k hk).1);have BB:w3.heap[w.heap.size]?=some (.mapIter (some r) c (seen.push e.born) c):=by
     rw [qm.block w.heap.size (by simp;omega) (fun e1=> ?_)]
     ·exact hgb.heap uN
     ·rcases hown2.2 with ⟨e2,_⟩|⟨g,cap,cur,e2,_,e3,_⟩
      ·rw [e2] at e1;cases e1
      ·rw [e2] at e1
       have e4:w.heap.size=g:=bB e1;rw [←e4,uN] at e3;cases e3
    have bq:Hid (Io w r (fun _=>true) l c (.slice (some ⟨g3,0,none⟩) (done.length+1) Su) w3):=by
     refine ae ⟨seen.push e.born,c,done++ [key.data.toList],_,_,_,rfl,BB,ay _,?_,?_,hg3⟩
     ·rw [List.length_append,List.map_append,List.map_singleton,Ss];exact gI
     ·refine List.Perm.trans ?_ oo
      rw [List.append_assoc];exact List.Perm.append_left _ ql.symm
    have Iy:=ae (BA w3 BB hg3);have Iz:=ae Iu;clear yR uM hit yS hgr he oo hg wK hown rr hown1 hg1 bK hz0 hz1 hz2 dV Iu gI qm Sv Sw hg2 uN hg3 BB BA ql tD hgb hown2 iA hsz eO
    go_wp2_with (at_builtin;refine fC rfl rfl rfl rfl Iz.out ?_)
    go_roundw
    case rel=>exact bq.out
    case measure=>exact Iy.out
   |false=>
    cases iA
theorem aaE {B:Nat} {w:World} {p r:Nat} {size used born:Int} {fs:List Fe} (h:bM B w p r size used born fs) (kY:fs.length<1000000000) (pf:ByteArray) {qb:Nat} (hq:w.heap[qb]?=some (.cells #[.string pf] 9 (0,0))):
  Calls Tryz.prog 33 #[.pointer (some ⟨p,0,none⟩),.slice (some ⟨qb,0,none⟩) 1 1] w (Sp w (pick (fun s=>Lib.hasPrefix s.data.toList pf.data.toList) (fs.map Fe.az))):=by
 obtain ⟨c,hm,Ip⟩:=h.map;have Sq:=run_range_map (P:=Tryz.prog) w 123 9 162 r _ c Tryz.underlying123 hm;obtain ⟨c0,c1,c2,c3⟩:=h.cells;have lp:=af h.self;have dw:((fs.map Fe.az).map aF.born).Nodup:=by rw [List.map_map];exact h.rD
 have hold:∀ e∈fs.map Fe.az,e.born<c:=fun e he=>by obtain ⟨x,hx,rfl⟩:=List.mem_map.1 he;exact Ip x hx
 have rQ:w.heap.size≠r:=by have:=af hm;omega
 have hlen:(fs.map Fe.az).length<1000000000:=by simpa using kY
 generalize fs.map Fe.az=l at*;have Hm:=ae hm;have gS:=ae dw;have gU:=ae hold;have Hq:=ae hq;clear hq;clear h Ip dw hold hm;go_enter Tryz.func33,Tryz.ntmps33;go_wp2;clear Sq
 go_loopw [5] (fun lv wr=>Io w r (fun s=>Lib.hasPrefix s.data.toList pf.data.toList) l c lv wr) (fun _ wr=>yF r w.heap.size wr)
 case atStart=>
  refine ⟨#[],c,[],none,0,0,rfl,aw w _,ay _,World.ownsRow_nil _ _ _ _,?_,by (repeat (first|exact Below.refl _ _|assumption|refine Below.drew ?_|refine cp ?_|refine Below.setCell ?_ (by first|omega|(simp<;>omega)) _|refine Below.alloc ?_ (by first|omega|(simp<;>omega)) _))⟩;rw [show kh #[] l=l from List.filter_eq_self.2 (by simp)];simp
 case round=>
  obtain ⟨seen,MG,done,la,ln,lc,rfl,hit,hcc,hown,oo,hg⟩:=hrel;have uM:MapAt wr r Value.string l c:=hg.heap Hm.out;have yR:=Mp hit uM;rcases Zr (P:=Tryz.prog) (enc:=Value.string) (l:=l) 0 hit uM gU.out hcc rQ gS.out with ⟨h1,h2⟩|⟨e,w1,he,hrun,apC,yS,hgr,hsz⟩
  ·rw [h1] at oo
   have Hp:Hid (done.Perm (pick (fun s=>Lib.hasPrefix s.data.toList pf.data.toList) l)):=ae (by simpa [pick] using oo);have eT:=ae hown;have Hg:=ae hg;have yT:done.length<1000000000:=by
    have:=Hp.out.length_eq;have h3:(pick (fun s=>Lib.hasPrefix s.data.toList pf.data.toList) l).length≤l.length:=by unfold pick;rw [List.length_map];exact List.length_filter_le _ _
    omega
   clear h1 yR uM hit hown oo hg
   go_wp2_with fail
   have Iq:done.mergeSort (fun x y=>decide (x≤y))=(pick (fun s=>Lib.hasPrefix s.data.toList pf.data.toList) l).mergeSort (fun x y=>decide (x≤y)):=mergeSort_of_perm Hp.out;have hrow:=eT.out;rcases hrow.2 with ⟨e1,e2⟩|⟨g,cap,cur,e1,iK,e2,e3,e4,e5,e6⟩
   ·cases e1
    have hd:done= []:=jb e2;subst hd;have wJ:Calls Tryz.prog 71 #[.slice none 0 0] wr _:=aaC wr;(with_reducible refine wJ.mono ?_);rintro e w' ⟨rfl,rfl⟩;go_wp2;go_ret;refine ⟨_,rfl,?_,Hg.out⟩;rw [←Iq,←Hp.out.length_eq,List.mergeSort_nil];exact World.ownsRow_nil _ _ _ _
   ·cases e1
    have hS:=aaB wr g lc done cur e2 (by simpa using e6) yT;have cS:Hid (∀ n os,(grow (putRow encStr (Sort.ahead wr n) g 0 (done.mergeSort fun x y=>decide (x≤y)).toArray) os).ownsRow w.heap.size 9 1 (.slice (some ⟨g,0,none⟩) done.length lc) done.length ((done.mergeSort fun x y=>decide (x≤y)).map encStr)):=ae (fun n os=>ownsRow_sorted (List.length_mergeSort _) iK e2 e3 e4 e5);have HS:=ae hS;have Sr:=ae iK;clear hrow e2 iK e3 e4 e5 e6 hS;(with_reducible refine HS.out.mono ?_);rintro e w' ⟨rfl,nn,os,hw'⟩;have Ir:=ae hw';clear hw';go_wp2;go_ret;refine ⟨_,rfl,?_,?_⟩
    ·rw [←Iq,←Hp.out.length_eq,Ir.out]
     exact cS.out nn os
    ·rw [Ir.out]
     exact Hg.out.grown (grownBy_sorted _) Hg.out.size (fun k hk=>by cases hk;exact Sr.out)
  ·have wK:=Sn (Zs gS.out) he
   rw [←Mq] at wK;have yT:done.length<1000000000:=by
    have:=oo.length_eq;have h3:(pick (fun s=>Lib.hasPrefix s.data.toList pf.data.toList) l).length≤l.length:=by unfold pick;rw [List.length_map];exact List.length_filter_le _ _
    simp at this;omega
   have Ss:encStr e.key.data.toList= .string e.key:=aaD _;have tD:pick (fun s=>Lib.hasPrefix s.data.toList pf.data.toList) (e::kh (seen.push e.born) l)=(if (fun s=>Lib.hasPrefix s.data.toList pf.data.toList) e.key=true then [e.key.data.toList] else [])++pick (fun s=>Lib.hasPrefix s.data.toList pf.data.toList) (kh (seen.push e.born) l):=by
    unfold pick;rw [List.filter_cons]
    split<;>simp
   have ql:(pick (fun s=>Lib.hasPrefix s.data.toList pf.data.toList) (kh seen l)).Perm (pick (fun s=>Lib.hasPrefix s.data.toList pf.data.toList) (e::kh (seen.push e.born) l)):=by
    unfold pick;exact (wK.filter _).map _
   rw [tD] at ql;generalize rr:e.key=key at*;have hown1:w1.ownsRow w.heap.size 9 1 (.slice la ln lc) done.length (done.map encStr):=hown.kept hgr (.inr fun e1=>by
    rcases hown.2 with ⟨e2,_⟩|⟨g,cap,cur,e2,_,e3,_⟩
    ·rw [e2] at e1;cases e1
    ·rw [e2] at e1
     have e4:g=w.heap.size:=bB e1;rw [e4,hit] at e3;cases e3)
   have hsw:w.heap.size<w1.heap.size:=af yS;have hg1:Grow w w1:=hg.grown hgr hg.size (fun k hk=>by cases hk;exact ay _);have ai:Grow w1 (w1.alloc (.cells #[.string key] 9)):=Grow.alloc _ _;have eO:(w1.alloc (.cells #[.string key] 9)).heap[w1.heap.size]?=some (.cells #[.string key] 9 (0,0)):=aw _ _;have hown2:=hown1.alloc (.cells #[.string key] 9);have uN:=ai.heap yS;have hg2:=hg1.trans ai;have BA:∀ W,W.heap[w.heap.size]?=some (.mapIter (some r) c (seen.push e.born) c)→Grow w W→yF r w.heap.size W<yF r w.heap.size wr:=fun W hW Eg=>by
    rw [Mp hW (Eg.heap Hm.out:MapAt W r Value.string l c),yR,Mq];refine Nat.lt_of_le_of_ne (List.length_filter_le _ _) fun h4=> ?_
    have:=(List.length_filter_eq_length_iff.1 h4) e he;simp at this
   have hcon:=aat (hg2.heap Hq.out) (fn:=70) ⟨_,Tryz.func70,by kernel_rfl⟩ (apA Sm key pf eO) (enters_of Tryz.func70 (by kernel_rfl) rfl);have q0:=af Hq.out;cases iA:(fun s=>Lib.hasPrefix s.data.toList pf.data.toList) key with
   |true=>
    have IA:=iA;rw [iA,if_pos rfl] at ql;obtain ⟨i0,bK,hz0,hz1,hz2⟩:=info_parts Tryz.Mv;have hgb:Grow (w1.alloc (.cells #[.string key] 9)) ((w1.alloc (.cells #[.string key] 9)).alloc (.cells #[.string key] 9)):=Grow.alloc _ _;have dV:=aw (w1.alloc (.cells #[.string key] 9)) (.cells #[.string key] 9);rw [show (w1.alloc (.cells #[.string key] 9)).heap.size=w1.heap.size+1 by simp] at dV;obtain ⟨g3,Su,w3,Iu,gI,qm,Sv,Sw⟩:=run_append_lies (P:=Tryz.prog) ((w1.alloc (.cells #[.string key] 9)).alloc (.cells #[.string key] 9)) 95 95 w.heap.size 9 i0 _ 1 16 Tryz.underlying95 bK hz0 hz1 hz2 rfl (by decide) _ _ _ (hown2.alloc _)
     ⟨w1.heap.size+1,0,none⟩ 1 1 [.string key] rfl (fun j u hu=>World.news_of_block dV j u (by simpa using hu)) (fun u hu=>by rw [cY.1 hu];rfl) (by decide) (by unfold maxLen;omega) (by omega) (by simp;omega) _ rfl
    have hg3:Grow w w3:=(hg2.trans hgb).grown qm (by have:=(hg2.trans hgb).size;omega) (fun k hk=>(hown2.lt k hk).1);have BB:w3.heap[w.heap.size]?=some (.mapIter (some r) c (seen.push e.born) c):=by
     rw [qm.block w.heap.size (by simp;omega) (fun e1=> ?_)]
     ·exact hgb.heap uN
     ·rcases hown2.2 with ⟨e2,_⟩|⟨g,cap,cur,e2,_,e3,_⟩
      ·rw [e2] at e1;cases e1
      ·rw [e2] at e1
       have e4:w.heap.size=g:=bB e1;rw [←e4,uN] at e3;cases e3
    have bq:Hid (Io w r (fun s=>Lib.hasPrefix s.data.toList pf.data.toList) l c (.slice (some ⟨g3,0,none⟩) (done.length+1) Su) w3):=by
     refine ae ⟨seen.push e.born,c,done++ [key.data.toList],_,_,_,rfl,BB,ay _,?_,?_,hg3⟩
     ·rw [List.length_append,List.map_append,List.map_singleton,Ss];exact gI
     ·refine List.Perm.trans ?_ oo
      rw [List.append_assoc];exact List.Perm.append_left _ ql.symm
    have Iy:=ae (BA w3 BB hg3);have Iz:=ae Iu;clear yR uM hit yS hgr he oo hg wK hown rr hown1 hg1 bK hz0 hz1 hz2 dV Iu gI qm Sv Sw hg2 uN hg3 BB BA ql tD hgb hown2 iA hsz eO;rw [show Lib.hasPrefix key.data.toList pf.data.toList=true from IA] at hcon;have tA:=ae hcon;clear hcon IA
    go_wp2_with fail
    (with_reducible refine tA.out.mono ?_);rintro e5 w5 ⟨rfl,oq⟩;have IB:=oq.symm;subst IB;clear oq
    go_wp2_with (at_builtin;refine fC rfl rfl rfl rfl Iz.out ?_)
    go_roundw
    case rel=>exact bq.out
    case measure=>exact Iy.out
   |false=>
    have IA:=iA;rw [iA,if_neg (by decide),List.nil_append] at ql;have bq:Hid (Io w r (fun s=>Lib.hasPrefix s.data.toList pf.data.toList) l c (.slice la ln lc) (w1.alloc (.cells #[.string key] 9))):=ae ⟨seen.push e.born,c,done,_,_,_,rfl,uN,ay _,hown2,(List.Perm.append_left _ ql.symm).trans oo,hg2⟩;have Iy:=ae (BA _ uN hg2);clear yR uM hit yS hgr he oo hg wK hown rr hown1 hg1 hg2 uN BA ql tD hown2 iA hsz eO;rw [show Lib.hasPrefix key.data.toList pf.data.toList=false from IA] at hcon;have tA:=ae hcon;clear hcon IA
    go_wp2_with fail
    (with_reducible refine tA.out.mono ?_);rintro e5 w5 ⟨rfl,oq⟩;have IB:=oq.symm;subst IB;clear oq;go_wp2;go_roundw
    case rel=>exact bq.out
    case measure=>exact Iy.out
def cG (V:Vw):Nat:=(V.map (fun e=>e.2.1.length)).sum
def uO (picks:List Int) (i len tE:Nat):Nat:=match picks[i]? with
 |none=>tE
 |some k=>if 0≤k then tE+(k%((len-tE+1:Nat):Int)).toNat else tE
def mX (n:ByteArray) (k:Nat) (V:Vw):Vw:=V.map (fun e=>if e.1=n then (e.1,e.2.1.take k,k) else e)
def cH (n:ByteArray) (V:Vw):Option (List UInt8×Nat):=(V.find? (fun e=>decide (n=e.1))).map (·.2)
def yU (picks:List Int):Nat→List (List UInt8)→Vw→Vw
 |_,[],V=>V
 |i,n::ns,V=>yU picks (i+1) ns (match cH ⟨n.toArray⟩ V with|none=>V|some (b,s)=>mX ⟨n.toArray⟩ (uO picks i b.length s) V)
theorem aaF (picks:List Int) (i:Nat) {len tE:Nat} (h:tE≤len):tE≤uO picks i len tE∧uO picks i len tE≤len:=by
 unfold uO;split
 ·omega
 ·rename_i k _
  split
  ·have h1:=Int.emod_nonneg k (b:=((len-tE+1:Nat):Int)) (by omega)
   have h2:=Int.emod_lt_of_pos k (b:=((len-tE+1:Nat):Int)) (by omega);omega
  ·omega
theorem uP (n:ByteArray) (fs:List Fe):cH n (vw fs)=(fileOf n fs).map (fun f=>(f.b,f.synced)):=by
 unfold cH fileOf vw
 induction fs with
 |nil=>rfl
 |cons f fs ih=>
  simp only [List.map_cons,List.find?_cons];by_cases h:n=f.name
  ·simp [h]
  ·simp only [h,decide_false]
   exact ih
theorem apD {fs:List Fe} (h:(fs.map Fe.name).Nodup) {f:Fe} (hf:f∈fs) (v:Value) (k:Nat):vw (jf f.name v (f.b.take k) k fs)=mX f.name k (vw fs):=by
 unfold mX vw jf;rw [List.map_map,List.map_map];refine List.map_congr_left fun g hg=> ?_
 simp only [Function.comp];by_cases hn:g.name=f.name
 ·have:=MC h hg hf hn
  subst this;simp
 ·simp [hn]
theorem apE {fs:List Fe} (h:(fs.map Fe.name).Nodup) {f:Fe} (hf:f∈fs) {k:Nat} (hk:k≤f.b.length):cG (mX f.name k (vw fs))+(f.b.length-k)=cG (vw fs):=by
 induction fs with
 |nil=>cases hf
 |cons g fs ih=>
  simp only [List.map_cons,List.nodup_cons,List.mem_map,not_exists,not_and] at h;rcases List.mem_cons.1 hf with rfl|hf'
  ·have jO:mX f.name k (vw fs)=vw fs:=by
    unfold mX;refine (List.map_congr_left fun e he=> ?_).trans (List.map_id _);obtain ⟨x,hx,rfl⟩:=List.mem_map.1 he;simp [h.1 x hx]
   have e1:mX f.name k (vw (f::fs))=(f.name,f.b.take k,k)::vw fs:=by
    show (if f.name=f.name then _ else _)::mX f.name k (vw fs)=_;rw [jO,if_pos rfl]
   rw [e1];simp [cG,vw];omega
  ·have hne:¬ g.name=f.name:=fun e=>h.1 f hf' e.symm
   have:=ih h.2 hf';have e1:mX f.name k (vw (g::fs))=(g.name,g.b,g.synced)::mX f.name k (vw fs):=by
    show (if g.name=f.name then _ else _)::mX f.name k (vw fs)=_;rw [if_neg hne]
   rw [e1];simp only [cG,vw,List.map_cons,List.sum_cons] at this ⊢;omega
theorem apF {B:Nat} {w:World} {a:Option Addr} {c k:Nat} {l:List UInt8} (h:aG B w (.slice a l.length c) l) (hk:k≤l.length):aG B w (.slice a k k) (l.take k):=by
 have hl:(cR (l.take k)).length=k:=by rw [iL];simp;omega
 rcases h with ⟨h1,h2⟩|⟨g,cap,cur,h1,hB,hg,hlc,hcc,hm,ht⟩
 ·have hl0:l= []:=jb (by rw [←iL,h2];rfl)
  subst hl0;simp only [Value.slice.injEq] at h1;obtain ⟨rfl,_,rfl⟩:=h1;have:k=0:=by simpa using hk
  subst this;exact .inl ⟨rfl,rfl⟩
 ·simp only [Value.slice.injEq] at h1
  obtain ⟨rfl,_,rfl⟩:=h1;rw [iL] at hlc ht;refine .inr ⟨g,k,cur,by rw [hl],hB,hg,by rw [hl];exact ay _,by omega,by omega,?_⟩;rw [hl];have:cur.toList.take k=(cur.toList.take l.length).take k:=by rw [List.take_take,Nat.min_eq_left hk]
  rw [this,ht];simp [cR,List.map_take]
def Iv (w:World) (v:Value) (ks:List Int):Prop:=
 ∃ a c,v= .slice a ks.length c∧ks.length≤maxLen∧(ks= []∨∃ b o,a=some ⟨b,o,none⟩∧b<w.heap.size∧∀ (j:Nat) (k:Int),ks[j]?=some k→w.cell? ⟨b,o+j,none⟩=some (.int .i64 k))
def Sx (F:Nat→Prop) (v:Value):Prop:=∀ b,v.ownBlock=some b→¬ F b
theorem Iv.sep {w w':World} {v:Value} {ks:List Int} {F F':Nat→Prop} (h:Iv w v ks) (hs:Sep F w w' F') (hf:ks≠ []→Sx F v):Iv w' v ks:=by
 obtain ⟨a,c,rfl,hm,h⟩:=h;refine ⟨a,c,rfl,hm,?_⟩;by_cases hk:ks= []
 ·exact .inl hk
 ·rcases h with h|⟨b,o,rfl,hb,hc⟩
  ·exact absurd h hk
  ·have eu:=hs.free hb (hf hk b rfl)
   exact .inr ⟨b,o,rfl,eu.2.1,fun j k hj=>by rw [←hc j k hj];simp only [World.cell?,eu.1]⟩
theorem apG (n:ByteArray) (k:Nat) (V:Vw):(mX n k V).map (·.1)=V.map (·.1):=by
 unfold mX;rw [List.map_map];refine List.map_congr_left fun e _=> ?_
 simp only [Function.comp]
 split<;>rfl
structure CrI (B:Nat) (w:World) (p r:Nat) (size born:Int) (V0:Vw) (F:Nat→Prop) (picks:List Int) (ns:List (List UInt8)) (gN:Nat) (cur:Array Value) (i:Nat) (br:List Fe) (wr:World):Prop where
 aW:bM B wr p r size (cG (vw br)) born br
 run:yU picks 0 ns V0=yU picks i (ns.drop i) (vw br)
 names:(vw br).map (·.1)=V0.map (·.1)
 sep:Sep F w wr (cN p r br)
 row:wr.heap[gN]?=some (.cells cur 9 (0,0))
 room:cG (vw br)≤1073741824
def Sy (B:Nat) (w:World) (p r:Nat) (size born:Int) (V0:Vw) (F:Nat→Prop) (picks:List Int) (ns:List (List UInt8)) (gN:Nat) (cur:Array Value) (iv:Value) (wr:World):Prop:=
 ∃ (i:Nat) (br:List Fe),iv= .int .i64 i∧i≤ns.length∧CrI B w p r size born V0 F picks ns gN cur i br wr
theorem aaG {fs:List Fe} {f:Fe} (h:f∈fs):f.b.length≤cG (vw fs):=by
 induction fs with
 |nil=>cases h
 |cons g fs ih=>
  simp only [cG,vw,List.map_cons,List.sum_cons] at ih ⊢;rcases List.mem_cons.1 h with rfl|h
  ·omega
  ·have:=ih h;omega
theorem apI {fs:List Fe} {n:ByteArray} (h:n∈(vw fs).map (·.1)):∃ f,fileOf n fs=some f:=by
 cases hf:fileOf n fs with
 |some f=>exact ⟨f,rfl⟩
 |none=>
  obtain ⟨e,he,rfl⟩:=List.mem_map.1 h;obtain ⟨f,jD,rfl⟩:=List.mem_map.1 he;exact absurd rfl (Bp hf f jD)
theorem apJ {B:Nat} {w:World} {p r:Nat} {size used born:Int} {fs:List Fe} (h:bM B w p r size used born fs) {f:Fe} (hf:f∈fs) {a:Option Addr} {c:Nat} (bg:f.bv= .slice a f.b.length c) {k:Nat} (hk:k≤f.b.length) (rI:Int):
  bM B (((w.setCell ⟨p,1,none⟩ (.int .i64 rI)).setCell ⟨f.fb,0,none⟩ (.slice a k k)).setCell ⟨f.fb,1,none⟩ (.int .i64 k)) p r size rI born (jf f.name (.slice a k k) (f.b.take k) k fs)∧
  Sep (cN p r fs) w (((w.setCell ⟨p,1,none⟩ (.int .i64 rI)).setCell ⟨f.fb,0,none⟩ (.slice a k k)).setCell ⟨f.fb,1,none⟩ (.int .i64 k)) (cN p r (jf f.name (.slice a k k) (f.b.take k) k fs)):=by
 obtain ⟨h1,s1⟩:=h.Ed rI;have hrow:aG B (w.setCell ⟨p,1,none⟩ (.int .i64 rI)) (.slice a k k) (f.b.take k):=apF (l:=f.b) (c:=c) (by rw [←bg];exact (h1.files f hf).row) hk;have hc1:=(h1.files f hf).cell;obtain ⟨h2,s2⟩:=h1.put hf (w1:=w.setCell ⟨p,1,none⟩ (.int .i64 rI)) (w2:=((w.setCell ⟨p,1,none⟩ (.int .i64 rI)).setCell ⟨f.fb,0,none⟩ (.slice a k k)).setCell ⟨f.fb,1,none⟩ (.int .i64 k)) (s:=k) hrow ⟨rfl,rfl,rfl,ay _,fun _ _ _=>rfl⟩ (fun b hb=> .inl (by rw [bg];cases a<;>exact hb)) (aI (aI hc1 0 _) 1 _) (uH (iJ _ _ _ _) (iJ _ _ _ _)) (by simp;omega);exact ⟨h2,s1.trans s2⟩
end Go.Proofs.YtoolkdapflaeeaaGreatDoor

/- Helpers. -/
import Derived.Deep.CondSized
import Derived.Test.YtoolkdapflaeeaaGreatDoorW06
import Derived.Test.YtoolkdapflaeeaaGreatDoorW00
set_option maxRecDepth 100000
set_option maxHeartbeats 16000000
set_option linter.unusedSimpArgs false
open Go
variable{N:Nat→Prop}{w:World}
namespace Go.Proofs.YtoolkdapflaeeaaGreatDoor
open Go.RowKit Go.Gl Go.aF Mn
theorem YN(w:World)(k:ByteArray)(s:Int)(g:Bool)(a:Option Addr)(n c:Nat)(hk:k.size<=1000000000000)(hn:n<=1000000000000):
  Calls Tryz.prog 130 #[.agg #[.string k,.int .u64 s,.bool g,.slice a n c]] w λe w'=>e=.returned (.int .i64 ((k.size+n+16:Nat):Int))/\Grow w w':=by
 have h1:IntKind.i64.wrap ((k.size:Int)+(n:Int))=((k.size+n:Nat):Int):=by rw[aQ _ (by omega)];omega
 have h2:IntKind.i64.wrap (((k.size+n:Nat):Int)+16)=((k.size+n+16:Nat):Int):=by rw[aQ _ (by omega)];omega
 generalize k.size+n=m1 at*;generalize m1+16=m2 at*;go_enter Tryz.func130,Tryz.ntmps130;go_wp2;go_ret;exact⟨rfl,ar _ _⟩
theorem YO{x:Ev}(l:lM N w x)(j:x.e.val.length<=1000000000000):∀b,b=181\/b=156\/b=134->Calls Tryz.prog b #[.agg (cd x)] w λe w'=>∃v,e=.returned (.agg (cd ⟨x.e,v⟩))/\aI w.heap.size w' v x.e.val/\Grow w w':=by
 obtain⟨⟨d,f,g,a⟩,c⟩:=x;obtain⟨c,h,i⟩:=l.slice;have m:=l.1;simp only at i m j;subst i;have o:=ar w (.cells (cd ⟨⟨d,f,g,a⟩,.slice c a.length h⟩) 60);have n:=ar (w.alloc (.cells (cd ⟨⟨d,f,g,a⟩,.slice c a.length h⟩) 60)) (.cells #[.string ⟨#[]⟩,.int .u64 0,.bool false,.slice none 0 0] 60);obtain⟨q,r⟩:∃q,(w.alloc (.cells (cd ⟨⟨d,f,g,a⟩,.slice c a.length h⟩) 60)).alloc (.cells #[.string ⟨#[]⟩,.int .u64 0,.bool false,.slice none 0 0] 60)=q:=⟨_,rfl⟩
 have j:=o.trans n;have i:=n.heap (ax w (.cells (cd ⟨⟨d,f,g,a⟩,.slice c a.length h⟩) 60));have k:=ax (w.alloc (.cells (cd ⟨⟨d,f,g,a⟩,.slice c a.length h⟩) 60)) (.cells #[.string ⟨#[]⟩,.int .u64 0,.bool false,.slice none 0 0] 60);rw[World.size_alloc]at k;rw[r]at j i k;have E:=ae (xG (m.grow j) (by omega));have r:=ae j;have s:=ae (ag i k);obtain⟨c,c,c,c⟩:=cX i;have z:=af i;clear l m o n j i k;rintro b (rfl|rfl|rfl);go_enter Tryz.func181,Tryz.ntmps181;rotate_left;go_enter Tryz.func156,Tryz.ntmps156;rotate_left;go_enter Tryz.func134,Tryz.ntmps134
 all_goals
  go_wp2_with fail
  (with_reducible refine E.out.mono ?_);rintro e i ⟨v,rfl,l,m⟩;obtain⟨b,c,rfl⟩:=Go.Gl.Row1.slice l;rw[jX];have k:=m.heap s.out.1;have F:=m.heap s.out.2;have n:=Go.Gl.aK k 3 (.slice b a.length c);have h:(i.setCell ⟨w.heap.size,3,none⟩ (.slice b a.length c)).heap[w.heap.size+1]?=some (.cells #[.string ⟨#[]⟩,.int .u64 0,.bool false,.slice none 0 0] 60 (0,0)):=(aN _ _ _ _ (by simp)).trans F;have o:aI w.heap.size (i.setCell ⟨w.heap.size,3,none⟩ (.slice b a.length c)) (.slice b a.length c) a:=by
   have j:aI q.heap.size i (.slice b a.length c) a:=by rw[jX]at l;exact l
   refine(j.mono r.out.size).keep (λt u=>?_);have x:=(j.lt u).1;have y:=z;exact aN _ _ _ _ (λe=>by have j:t=w.heap.size:=e;omega)
  have z:Grow w (i.setCell ⟨w.heap.size,3,none⟩ (.slice b a.length c)):=(r.out.trans m).setCell (p:=⟨w.heap.size,3,none⟩) (aw _) _;obtain⟨j,j,j,j⟩:=cX k;have j:i.frozen? ⟨w.heap.size,3,none⟩=false:=by simp[World.frozen?,k]
  have j:=af k;obtain⟨j,q⟩:∃j,i.setCell ⟨w.heap.size,3,none⟩ (.slice b a.length c)=j:=⟨_,rfl⟩
  rw[q]at n h o z;obtain⟨i,i,i,i⟩:=cX (show j.heap[w.heap.size]?=some (.cells #[.string d,.int .u64 f,.bool g,.slice b a.length c] 60 (0,0))from n);obtain⟨i,q,q,q⟩:=cX h;have q:=bG h;have q:=af n;have q:=af h;have G:=Go.Gl.aK h 0 (.string d);have y:=Go.Gl.aK G 1 (.int .u64 f);have x:=Go.Gl.aK y 2 (.bool g);have H:=Go.Gl.aK x 3 (.slice b a.length c);obtain⟨A,B,C,D⟩:=cX (show((((j.setCell ⟨w.heap.size+1,0,none⟩ (.string d)).setCell ⟨w.heap.size+1,1,none⟩ (.int .u64 f)).setCell ⟨w.heap.size+1,2,none⟩ (.bool g)).setCell ⟨w.heap.size+1,3,none⟩ (.slice b a.length c)).heap[w.heap.size+1]?=some (.cells #[.string d,.int .u64 f,.bool g,.slice b a.length c] 60 (0,0))from H);have I:aI w.heap.size ((((j.setCell ⟨w.heap.size+1,0,none⟩ (.string d)).setCell ⟨w.heap.size+1,1,none⟩ (.int .u64 f)).setCell ⟨w.heap.size+1,2,none⟩ (.bool g)).setCell ⟨w.heap.size+1,3,none⟩ (.slice b a.length c)) (.slice b a.length c) a:=by
   refine o.keep (λt u=>?_);have q:t≠w.heap.size+1:=λe=>by obtain⟨t,t⟩:=o.block u;rw[e,h]at t;exact absurd (cp (bh t)).2.1 (by decide)
   exact(aN _ _ _ _ q).trans ((aN _ _ _ _ q).trans ((aN _ _ _ _ q).trans (aN _ _ _ _ q)))
  have e:Grow w ((((j.setCell ⟨w.heap.size+1,0,none⟩ (.string d)).setCell ⟨w.heap.size+1,1,none⟩ (.int .u64 f)).setCell ⟨w.heap.size+1,2,none⟩ (.bool g)).setCell ⟨w.heap.size+1,3,none⟩ (.slice b a.length c)):=by
   have i:w.heap.size<=w.heap.size+1:=by omega
   exact(((z.setCell (p:=⟨w.heap.size+1,0,none⟩) i _).setCell (p:=⟨w.heap.size+1,1,none⟩) i _).setCell (p:=⟨w.heap.size+1,2,none⟩) i _).setCell (p:=⟨w.heap.size+1,3,none⟩) i _
  have i:=ae (ag I e);clear n h G y x H I e o z k F l m s E r;go_wp2;refine bodyPost_ret (v:=.agg #[.string d,.int .u64 f,.bool g,.slice b a.length c]) (by first|simp[results,Tryz.results181,go_sem,A,B,C,D]|simp[results,Tryz.results156,go_sem,A,B,C,D]|simp[results,Tryz.results134,go_sem,A,B,C,D]) rfl ⟨_,rfl,i.out.1,i.out.2⟩
theorem ajf{x:Ev}(a:lM N w x)(b:x.e.val.length<=1000000000000):Calls Tryz.prog 181 #[.agg (cd x)] w λe w'=>∃v,e=.returned (.agg (cd ⟨x.e,v⟩))/\aI w.heap.size w' v x.e.val/\Grow w w':=YO a b _ (.inl rfl)
theorem ajg{x:Ev}(a:lM N w x)(b:x.e.val.length<=1000000000000):Calls Tryz.prog 156 #[.agg (cd x)] w λe w'=>∃v,e=.returned (.agg (cd ⟨x.e,v⟩))/\aI w.heap.size w' v x.e.val/\Grow w w':=YO a b _ (.inr (.inl rfl))
theorem aBb{x:Ev}(a:lM N w x)(b:x.e.val.length<=1000000000000):Calls Tryz.prog 134 #[.agg (cd x)] w λe w'=>∃v,e=.returned (.agg (cd ⟨x.e,v⟩))/\aI w.heap.size w' v x.e.val/\Grow w w':=YO a b _ (.inr (.inr rfl))
end Go.Proofs.YtoolkdapflaeeaaGreatDoor

/- Helpers. -/
import Derived.Deep.CondSized
import Derived.Test.YtoolkdapflaeeaaGreatDoorW06
import Derived.Test.YtoolkdapflaeeaaGreatDoorW00
set_option maxRecDepth 100000
set_option maxHeartbeats 16000000
set_option linter.unusedSimpArgs false
open Go
variable {N : Nat → Prop} {w : World}
namespace Go.Proofs.YtoolkdapflaeeaaGreatDoor
open Go.RowKit Go.Gl Go.aF Mn
theorem WH (w:World) (k:ByteArray) (s:Int) (g:Bool) (a:Option Addr) (n c:Nat) (hk:k.size≤1000000000000) (hn:n≤1000000000000):
  Calls Tryz.prog 130 #[.agg #[.string k,.int .u64 s,.bool g,.slice a n c]] w fun e w'=>e= .returned (.int .i64 ((k.size+n+16:Nat):Int))∧Grow w w':=by
 have h1:IntKind.i64.wrap ((k.size:Int)+(n:Int))=((k.size+n:Nat):Int):=by rw [aS _ (by omega)];omega
 have h2:IntKind.i64.wrap (((k.size+n:Nat):Int)+16)=((k.size+n+16:Nat):Int):=by rw [aS _ (by omega)];omega
 generalize k.size+n=m1 at*;generalize m1+16=m2 at*;go_enter Tryz.func130,Tryz.ntmps130;go_wp2;go_ret;exact ⟨rfl,ar _ _⟩
theorem WI {x:Ev} (h:kJ N w x) (hl:x.e.val.length≤1000000000000):∀ f,f=181∨f=156∨f=134→Calls Tryz.prog f #[.agg (bW x)] w fun e w'=>∃ v,e= .returned (.agg (bW ⟨x.e,v⟩))∧aI w.heap.size w' v x.e.val∧Grow w w':=by
 obtain ⟨⟨xk,xs,xg,xd⟩,xv⟩:=x;obtain ⟨xa,xc,hv⟩:=h.slice;have h':=h.1;simp only at hv h' hl;subst hv;have agN:=ar w (.cells (bW ⟨⟨xk,xs,xg,xd⟩,.slice xa xd.length xc⟩) 60);have pY:=ar (w.alloc (.cells (bW ⟨⟨xk,xs,xg,xd⟩,.slice xa xd.length xc⟩) 60)) (.cells #[.string ⟨#[]⟩,.int .u64 0,.bool false,.slice none 0 0] 60);obtain ⟨w2,hw2⟩:∃ w2,(w.alloc (.cells (bW ⟨⟨xk,xs,xg,xd⟩,.slice xa xd.length xc⟩) 60)).alloc (.cells #[.string ⟨#[]⟩,.int .u64 0,.bool false,.slice none 0 0] 60)=w2:=⟨_,rfl⟩
 have hg:=agN.trans pY;have hb0:=pY.heap (ax w (.cells (bW ⟨⟨xk,xs,xg,xd⟩,.slice xa xd.length xc⟩) 60));have hb1:=ax (w.alloc (.cells (bW ⟨⟨xk,xs,xg,xd⟩,.slice xa xd.length xc⟩) 60)) (.cells #[.string ⟨#[]⟩,.int .u64 0,.bool false,.slice none 0 0] 60);rw [World.size_alloc] at hb1;rw [hw2] at hg hb0 hb1;have gp:=ae (vX (h'.grow hg) (by omega));have Hg:=ae hg;have Hb:=ae (ag hb0 hb1);obtain ⟨c0,c1,c2,c3⟩:=cS hb0;have l0:=af hb0;clear h h' agN pY hg hb0 hb1;rintro f (rfl|rfl|rfl);go_enter Tryz.func181,Tryz.ntmps181;rotate_left;go_enter Tryz.func156,Tryz.ntmps156;rotate_left;go_enter Tryz.func134,Tryz.ntmps134
 all_goals
  go_wp2_with fail
  (with_reducible refine gp.out.mono ?_);rintro e w3 ⟨v,rfl,ho,hg3⟩;obtain ⟨va,vc,rfl⟩:=Go.Gl.Row1.slice ho;rw [jF];have hb3:=hg3.heap Hb.out.1;have hb4:=hg3.heap Hb.out.2;have h5:=Go.Gl.aK hb3 3 (.slice va xd.length vc);have h6:(w3.setCell ⟨w.heap.size,3,none⟩ (.slice va xd.length vc)).heap[w.heap.size+1]?=some (.cells #[.string ⟨#[]⟩,.int .u64 0,.bool false,.slice none 0 0] 60 (0,0)):=(aP _ _ _ _ (by simp)).trans hb4;have gI:aI w.heap.size (w3.setCell ⟨w.heap.size,3,none⟩ (.slice va xd.length vc)) (.slice va xd.length vc) xd:=by
   have eA:aI w2.heap.size w3 (.slice va xd.length vc) xd:=by rw [jF] at ho;exact ho
   refine (eA.mono Hg.out.size).keep (fun g hgb=> ?_);have h9:=(eA.lt hgb).1;have h8:=l0;exact aP _ _ _ _ (fun e=>by have e':g=w.heap.size:=e;omega)
  have oQ:Grow w (w3.setCell ⟨w.heap.size,3,none⟩ (.slice va xd.length vc)):=(Hg.out.trans hg3).setCell (p:=⟨w.heap.size,3,none⟩) (aw _) _;obtain ⟨c30,c31,c32,c33⟩:=cS hb3;have f3:w3.frozen? ⟨w.heap.size,3,none⟩=false:=by simp [World.frozen?,hb3]
  have l3:=af hb3;obtain ⟨w5,nR⟩:∃ w5,w3.setCell ⟨w.heap.size,3,none⟩ (.slice va xd.length vc)=w5:=⟨_,rfl⟩
  rw [nR] at h5 h6 gI oQ;obtain ⟨d0,d1,d2,d3⟩:=cS (show w5.heap[w.heap.size]?=some (.cells #[.string xk,.int .u64 xs,.bool xg,.slice va xd.length vc] 60 (0,0)) from h5);obtain ⟨e0,e1,e2,e3⟩:=cS h6;have f5:=bG h6;have l5:=af h5;have l6:=af h6;have h7:=Go.Gl.aK h6 0 (.string xk);have h8:=Go.Gl.aK h7 1 (.int .u64 xs);have h9:=Go.Gl.aK h8 2 (.bool xg);have hA:=Go.Gl.aK h9 3 (.slice va xd.length vc);obtain ⟨q0,q1,q2,q3⟩:=cS (show ((((w5.setCell ⟨w.heap.size+1,0,none⟩ (.string xk)).setCell ⟨w.heap.size+1,1,none⟩ (.int .u64 xs)).setCell ⟨w.heap.size+1,2,none⟩ (.bool xg)).setCell ⟨w.heap.size+1,3,none⟩ (.slice va xd.length vc)).heap[w.heap.size+1]?=some (.cells #[.string xk,.int .u64 xs,.bool xg,.slice va xd.length vc] 60 (0,0)) from hA);have fB:aI w.heap.size ((((w5.setCell ⟨w.heap.size+1,0,none⟩ (.string xk)).setCell ⟨w.heap.size+1,1,none⟩ (.int .u64 xs)).setCell ⟨w.heap.size+1,2,none⟩ (.bool xg)).setCell ⟨w.heap.size+1,3,none⟩ (.slice va xd.length vc)) (.slice va xd.length vc) xd:=by
   refine gI.keep (fun g hgb=> ?_);have hne:g≠w.heap.size+1:=fun e=>by
    obtain ⟨cur,hc⟩:=gI.block hgb;rw [e,h6] at hc;exact absurd (cE (bk hc)).2.1 (by decide)
   exact (aP _ _ _ _ hne).trans ((aP _ _ _ _ hne).trans ((aP _ _ _ _ hne).trans (aP _ _ _ _ hne)))
  have iT:Grow w ((((w5.setCell ⟨w.heap.size+1,0,none⟩ (.string xk)).setCell ⟨w.heap.size+1,1,none⟩ (.int .u64 xs)).setCell ⟨w.heap.size+1,2,none⟩ (.bool xg)).setCell ⟨w.heap.size+1,3,none⟩ (.slice va xd.length vc)):=by
   have e0:w.heap.size≤w.heap.size+1:=by omega
   exact (((oQ.setCell (p:=⟨w.heap.size+1,0,none⟩) e0 _).setCell (p:=⟨w.heap.size+1,1,none⟩) e0 _).setCell (p:=⟨w.heap.size+1,2,none⟩) e0 _).setCell (p:=⟨w.heap.size+1,3,none⟩) e0 _
  have bw:=ae (ag fB iT);clear h5 h6 h7 h8 h9 hA fB iT gI oQ hb3 hb4 ho hg3 Hb gp Hg;go_wp2;refine bodyPost_ret (v:= .agg #[.string xk,.int .u64 xs,.bool xg,.slice va xd.length vc]) (by first|simp [results,Tryz.results181,go_sem,q0,q1,q2,q3]|simp [results,Tryz.results156,go_sem,q0,q1,q2,q3]|simp [results,Tryz.results134,go_sem,q0,q1,q2,q3]) rfl ⟨_,rfl,bw.out.1,bw.out.2⟩
theorem agO {x:Ev} (h:kJ N w x) (hl:x.e.val.length≤1000000000000):Calls Tryz.prog 181 #[.agg (bW x)] w fun e w'=>∃ v,e= .returned (.agg (bW ⟨x.e,v⟩))∧aI w.heap.size w' v x.e.val∧Grow w w':=WI h hl _ (.inl rfl)
theorem agP {x:Ev} (h:kJ N w x) (hl:x.e.val.length≤1000000000000):Calls Tryz.prog 156 #[.agg (bW x)] w fun e w'=>∃ v,e= .returned (.agg (bW ⟨x.e,v⟩))∧aI w.heap.size w' v x.e.val∧Grow w w':=WI h hl _ (.inr (.inl rfl))
theorem ayr {x:Ev} (h:kJ N w x) (hl:x.e.val.length≤1000000000000):Calls Tryz.prog 134 #[.agg (bW x)] w fun e w'=>∃ v,e= .returned (.agg (bW ⟨x.e,v⟩))∧aI w.heap.size w' v x.e.val∧Grow w w':=WI h hl _ (.inr (.inr rfl))
end Go.Proofs.YtoolkdapflaeeaaGreatDoor

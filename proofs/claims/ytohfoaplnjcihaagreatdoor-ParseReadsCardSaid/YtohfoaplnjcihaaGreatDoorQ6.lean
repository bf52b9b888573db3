/- ParseReads: the row and the card. Parse returns what the reference's does,for any text,drafted words,canonical texts,and such with changes. Conditions: those of the card. -/
import Derived.ChangeArms
import Derived.OpenShut
import Derived.WideHanded
import Derived.ChangeSame
import Derived.ProofKit
import Derived.LaidMore
import Derived.LaidLaws
import Derived.Stop.Joined
import Derived.MakeChecks
import Derived.Test.YtohfoaplnjcihaaGreatDoorRows
import Derived.Lay
import Derived.Test.YtohfoaplnjcihaaGreatDoorCards
import Derived.Test.YtohfoaplnjcihaaGreatDoorTie
import Derived.SevenTiedAt
import Derived.Test.YtohfoaplnjcihaaGreatDoorQ5
namespace Go.Proofs.YtohfoaplnjcihaaGreatDoor
open Go Y
set_option maxRecDepth 100000
set_option maxHeartbeats 40000000
theorem qDi (p:Pc) (rs:List Rf) (cs:List Int) (h:RcA rs cs) (hm3:3≤p.m.toNat % 8):Pure cx 66 [.agg p.cells,qBu rs,ints cs] fun r=>∃ c:Cd,r=.ret [c.pv]∧∀ d,CdS (d+1) c 1 18:=
 (qOY p rs cs h hm3).weak fun r hr=>by
  obtain⟨y,c,rfl,h1,h2⟩:=hr
  exact⟨.ret [c.pv],⟨_,rfl,_,_,rfl,h1,rfl⟩,c,rfl,h2⟩
theorem qUW (p:Pc) (rs:List Rf) (cs:List Int) (h:RcA rs cs):Pure cx 66 [.agg p.cells,qBu rs,ints cs] CdQ:=by
 refine qAB Tryz.func66 rfl rfl rfl ?_
 obtain⟨w,o,n,m,x,y,z⟩:=p
 have hl':(rs.map Rf.cells).length=rs.length:=List.length_map ..
 have hpos:=h.pos
 have hk:(w.toNat:Int).tmod ((rs.map Rf.cells).length:Nat)=((w.toNat % rs.length:Nat):Int):=by rw [hl'];rfl
 have hkl:w.toNat % rs.length<rs.length:=Nat.mod_lt _ (by omega)
 generalize w.toNat % rs.length=k at hk hkl
 have hcell:=qJP hkl
 have hkc:k<cs.length:=by have:=h.ok.eq;omega
 have qDA:=qS2 hkc
 have hrf:=h.ok.refs _ (qAK rf0 hkl)
 have hcd:=h.ok.nums _ (qAK 0 hkc)
 generalize rs.getD k rf0=rf at hcell hrf
 generalize cs.getD k 0=cd at qDA hcd
 obtain⟨nm,md,pl,rn⟩:=rf
 have hw:=w.toNat_lt
 have ho:=o.toNat_lt
 have hn:=n.toNat_lt
 have hm:=m.toNat_lt
 have eo:((o.toNat % 4:Nat):Int)=IntKind.i64.wrap ((o.toNat:Int).tmod 4):=by
  rw [show(o.toNat:Int).tmod 4=((o.toNat % 4:Nat):Int) from rfl];exact w6z
 have en:(n.toNat:Int)=IntKind.i64.wrap (n.toNat:Int):=w6z
 have hv0:=qCQ (Int.natCast_nonneg n.toNat) (show 0<cd by omega)
 have hv:=hv0
 have e8:(m.toNat:Int).tmod 8=((m.toNat % 8:Nat):Int):=rfl
 have f8:(o.toNat:Int).tmod 8=((o.toNat % 8:Nat):Int):=rfl
 have hok:=hrf.ok
 refine⟨(w.toNat:Int),w6z,?_⟩
 refine⟨by show ¬ (((rs.map Rf.cells).length:Nat):Int)=0;rw [hl'];omega,?_⟩
 generalize (w.toNat:Int).tmod ((rs.map Rf.cells).length:Nat)=kk at hk ⊢
 subst hk
 refine qAf qXR (by kernel_rfl) ?_
 refine⟨by decide,?_⟩
 refine⟨((o.toNat % 4:Nat):Int),eo,?_⟩
 refine⟨1+((o.toNat % 4:Nat):Int),w6z,?_⟩
 refine⟨_,⟨by omega,(⟨nm,md,pl,rn⟩:Rf).cells,hcell,rfl⟩,?_⟩
 refine⟨(n.toNat:Int),en,?_⟩
 refine⟨_,⟨by omega,i64 cd,qDA,rfl⟩,?_⟩
 refine⟨by show ¬ cd=0;omega,?_⟩
 generalize (n.toNat:Int).tmod cd=v at hv ⊢
 refine⟨⟨rfl,congrArg (fun z:Int=>AV.p (.int .i64 z)) en,rfl,rfl,congrArg (fun z:Int=>AV.p (.int .i64 z)) eo,rfl,trivial⟩,?_⟩
 refine⟨_,⟨by omega,(⟨nm,md,pl,rn⟩:Rf).cells,hcell,rfl⟩,?_⟩
 refine And.intro (fun h3=>?_) (fun h3=>?_)
 ·have h3:md=3:=h3
  refine qAf qXQ (by kernel_rfl) ?_
  refine⟨_,⟨by omega,(⟨nm,md,pl,rn⟩:Rf).cells,hcell,rfl⟩,?_⟩
  refine⟨(n.toNat:Int),en,?_⟩
  refine⟨_,⟨by omega,i64 cd,qDA,rfl⟩,?_⟩
  refine⟨by show ¬ cd=0;omega,?_⟩
  clear hv
  have hv:=hv0
  generalize (n.toNat:Int).tmod cd=v at hv ⊢
  refine⟨by decide,?_⟩
  refine⟨((o.toNat % 4:Nat):Int),eo,?_⟩
  refine⟨1+((o.toNat % 4:Nat):Int),w6z,?_⟩
  refine⟨by decide,((n.toNat / 8:Nat):Int),wrap_u8' (by omega),?_⟩
  refine⟨((n.toNat / 8:Nat):Int),w6z,?_⟩
  refine⟨by decide,?_⟩
  have hq:=qCQ (Int.natCast_nonneg (n.toNat / 8)) (show(0:Int)<4 by decide)
  generalize ((n.toNat / 8:Nat):Int).tmod 4=q at hq ⊢
  have hC1:∀ d,CdS (d+1) (.mk 6 q (1+((o.toNat % 4:Nat):Int)) v ⟨nm,md,pl,rn⟩ [] []) 1 18:=CdS.leaf (by decide) (by decide) (by decide) (by rw [qAS,if_neg (by decide),if_neg (by decide),if_pos rfl,hok,decide_eq_true h3,qCh hq.1 (by omega),qCh hv.1 (by omega),decide_eq_true (by omega),decide_eq_true (by omega)];rfl) hrf (by omega) (by omega) ⟨by decide,fun a ha=>by cases ha⟩
  refine⟨by decide,?_⟩
  by_cases m0:m.toNat % 8=0
  ·refine And.intro (fun _=>?_) (fun h=>absurd (show(m.toNat:Int).tmod 8=0 by rw [e8];omega) h)
   refine qAF (.agg [i64 7,i64 0,i64 0,i64 0, .str [],i64 0, .str [],i64 0, .nils, .lsts 10 [[i64 6,i64 q,i64 (1+((o.toNat % 4:Nat):Int)),i64 v, .str nm,i64 md, .str pl,i64 rn, .nils, .nils]]]) rfl ⟨_,rfl,_,_,rfl,rfl,_,_,rfl,rfl,_,_,rfl,rfl,_,_,rfl,rfl,_,_,rfl,rfl,_,_,rfl,rfl,_,_,rfl,rfl,_,_,rfl,rfl,_,_,rfl, .inl rfl,_,_,rfl,⟨_,rfl,Nat.le_refl _,rfl⟩,rfl⟩ ?_
   exact⟨_, .mk 7 0 0 0 rf0 [] [.mk 6 q (1+((o.toNat % 4:Nat):Int)) v ⟨nm,md,pl,rn⟩ [] []],2,rfl,qFf 7 (qLZ (qAm 6 q (1+((o.toNat % 4:Nat):Int)) v ⟨nm,md,pl,rn⟩)),by decide,(hC1 6).neg.le (by decide)⟩
  refine And.intro (fun h=>absurd (show(m.toNat:Int).tmod 8=0 from h) (by rw [e8];omega)) (fun _=>?_)
  by_cases m12:m.toNat % 8=1∨m.toNat % 8=2
  rotate_left
  ·refine And.intro (fun h=>absurd (show(m.toNat:Int).tmod 8=1 from h) (by rw [e8];omega)) (fun _=>?_)
   refine And.intro (fun h=>absurd (show(m.toNat:Int).tmod 8=2 from h) (by rw [e8];omega)) (fun _=>?_)
   refine qAF (.agg [i64 6,i64 q,i64 (1+((o.toNat % 4:Nat):Int)),i64 v, .str nm,i64 md, .str pl,i64 rn, .nils, .nils]) rfl rfl ?_
   exact⟨_, .mk 6 q (1+((o.toNat % 4:Nat):Int)) v ⟨nm,md,pl,rn⟩ [] [],1,rfl,qAm 6 q (1+((o.toNat % 4:Nat):Int)) v ⟨nm,md,pl,rn⟩,by decide,(hC1 7).le (by decide)⟩
  by_cases m1:m.toNat % 8=1
  ·refine And.intro (fun _=>?_) (fun h=>absurd (show(m.toNat:Int).tmod 8=1 by rw [e8];omega) h)
   refine qAf qOE (by kernel_rfl) ?_
   refine⟨_,qF3 w,?_⟩
   refine⟨by decide,_,qF4 n,?_⟩
   refine⟨⟨rfl,rfl,trivial⟩,?_⟩
   refine⟨⟨rfl,trivial⟩,?_⟩
   refine qAf qOD (by kernel_rfl) ?_
   refine⟨by decide,?_⟩
   have e2:((m.toNat % 2:Nat):Int)=IntKind.i64.wrap ((m.toNat:Int).tmod 2):=by
    rw [show(m.toNat:Int).tmod 2=((m.toNat % 2:Nat):Int) from rfl];exact w6z
   refine⟨((m.toNat % 2:Nat):Int),e2,?_⟩
   refine⟨8+((m.toNat % 2:Nat):Int),w6z,?_⟩
   refine(qDi ⟨UInt8.ofNat (w.toNat+1),o,UInt8.ofNat (n.toNat / 2),7,x,y,z⟩ rs cs h (by show 3≤(7:UInt8).toNat % 8;decide)).at fun r hr=>?_
   obtain⟨⟨ao,an,ar,av,af,as',aa⟩,rfl,hc2⟩:=hr
   refine⟨⟨rfl,congrArg (fun z:Int=>AV.p (.int .i64 z)) e2,rfl,trivial⟩,?_⟩
   refine⟨⟨congrArg (fun z:Int=>AV.p (.int .i64 z)) e2,rfl,trivial⟩,?_⟩
   refine qAF (.agg [i64 (8+((m.toNat % 2:Nat):Int)),i64 0,i64 0,i64 0, .str [],i64 0, .str [],i64 0, .nils, .lsts 10 [[i64 6,i64 q,i64 (1+((o.toNat % 4:Nat):Int)),i64 v, .str nm,i64 md, .str pl,i64 rn, .nils, .nils],(Cd.mk ao an ar av af as' aa).cells]]) rfl ⟨_,rfl,_,_,rfl,rfl,_,_,rfl,rfl,_,_,rfl,rfl,_,_,rfl,rfl,_,_,rfl,rfl,_,_,rfl,rfl,_,_,rfl,rfl,_,_,rfl,rfl,_,_,rfl, .inl rfl,_,_,rfl,⟨_,rfl,Nat.le_refl _,rfl⟩,rfl⟩ ?_
   exact⟨_, .mk (8+((m.toNat % 2:Nat):Int)) 0 0 0 rf0 [] [.mk 6 q (1+((o.toNat % 4:Nat):Int)) v ⟨nm,md,pl,rn⟩ [] [], .mk ao an ar av af as' aa],3,rfl,qFf _ (qGJ (qAm 6 q (1+((o.toNat % 4:Nat):Int)) v ⟨nm,md,pl,rn⟩) (NilD.refl _)),by decide,CdS.two (by omega) (hC1 6) (hc2 6)⟩
  ·refine And.intro (fun h=>absurd (show(m.toNat:Int).tmod 8=1 from h) (by rw [e8];omega)) (fun _=>?_)
   refine And.intro (fun _=>?_) (fun h=>absurd (show(m.toNat:Int).tmod 8=2 by rw [e8];omega) h)
   refine qAf qOE (by kernel_rfl) ?_
   refine⟨_,qF3 w,?_⟩
   refine⟨by decide,_,qF4 n,?_⟩
   refine⟨⟨rfl,rfl,trivial⟩,?_⟩
   refine⟨⟨rfl,trivial⟩,?_⟩
   refine qAf qOD (by kernel_rfl) ?_
   refine⟨by decide,?_⟩
   have e2:((m.toNat % 2:Nat):Int)=IntKind.i64.wrap ((m.toNat:Int).tmod 2):=by
    rw [show(m.toNat:Int).tmod 2=((m.toNat % 2:Nat):Int) from rfl];exact w6z
   refine⟨((m.toNat % 2:Nat):Int),e2,?_⟩
   refine⟨8+((m.toNat % 2:Nat):Int),w6z,?_⟩
   refine(qDi ⟨UInt8.ofNat (w.toNat+1),o,UInt8.ofNat (n.toNat / 2),7,x,y,z⟩ rs cs h (by show 3≤(7:UInt8).toNat % 8;decide)).at fun r hr=>?_
   obtain⟨⟨ao,an,ar,av,af,as',aa⟩,rfl,hc2⟩:=hr
   refine⟨⟨rfl,congrArg (fun z:Int=>AV.p (.int .i64 z)) e2,rfl,trivial⟩,?_⟩
   refine⟨⟨congrArg (fun z:Int=>AV.p (.int .i64 z)) e2,rfl,trivial⟩,?_⟩
   refine qAF (.agg [i64 (8+((m.toNat % 2:Nat):Int)),i64 0,i64 0,i64 0, .str [],i64 0, .str [],i64 0, .nils, .lsts 10 [[i64 6,i64 q,i64 (1+((o.toNat % 4:Nat):Int)),i64 v, .str nm,i64 md, .str pl,i64 rn, .nils, .nils],(Cd.mk ao an ar av af as' aa).cells]]) rfl ⟨_,rfl,_,_,rfl,rfl,_,_,rfl,rfl,_,_,rfl,rfl,_,_,rfl,rfl,_,_,rfl,rfl,_,_,rfl,rfl,_,_,rfl,rfl,_,_,rfl,rfl,_,_,rfl, .inl rfl,_,_,rfl,⟨_,rfl,Nat.le_refl _,rfl⟩,rfl⟩ ?_
   exact⟨_, .mk (8+((m.toNat % 2:Nat):Int)) 0 0 0 rf0 [] [.mk 6 q (1+((o.toNat % 4:Nat):Int)) v ⟨nm,md,pl,rn⟩ [] [], .mk ao an ar av af as' aa],3,rfl,qFf _ (qGJ (qAm 6 q (1+((o.toNat % 4:Nat):Int)) v ⟨nm,md,pl,rn⟩) (NilD.refl _)),by decide,CdS.two (by omega) (hC1 6) (hc2 6)⟩
 ·refine⟨by decide,?_⟩
  by_cases h6:5<o.toNat % 8
  rotate_left
  ·refine And.intro (fun h=>absurd (show(5:Int)<(o.toNat:Int).tmod 8 from h) (by rw [f8];omega)) (fun _=>?_)
   have hC2:∀ d,CdS (d+1) (.mk (1+((o.toNat % 4:Nat):Int)) v 0 0 ⟨nm,md,pl,rn⟩ [] []) 1 18:=CdS.leaf (by omega) (by omega) (by omega) (qHi (by omega) hok (qCh hv.1 (by omega))) hrf (by omega) (by decide) ⟨by decide,fun a ha=>by cases ha⟩
   refine⟨by decide,?_⟩
   by_cases m0:m.toNat % 8=0
   ·refine And.intro (fun _=>?_) (fun h=>absurd (show(m.toNat:Int).tmod 8=0 by rw [e8];omega) h)
    refine qAF (.agg [i64 7,i64 0,i64 0,i64 0, .str [],i64 0, .str [],i64 0, .nils, .lsts 10 [[i64 (1+((o.toNat % 4:Nat):Int)),i64 v,i64 0,i64 0, .str nm,i64 md, .str pl,i64 rn, .nils, .nils]]]) rfl ⟨_,rfl,_,_,rfl,rfl,_,_,rfl,rfl,_,_,rfl,rfl,_,_,rfl,rfl,_,_,rfl,rfl,_,_,rfl,rfl,_,_,rfl,rfl,_,_,rfl,rfl,_,_,rfl, .inl rfl,_,_,rfl,⟨_,rfl,Nat.le_refl _,rfl⟩,rfl⟩ ?_
    exact⟨_, .mk 7 0 0 0 rf0 [] [.mk (1+((o.toNat % 4:Nat):Int)) v 0 0 ⟨nm,md,pl,rn⟩ [] []],2,rfl,qFf 7 (qLZ (qAm (1+((o.toNat % 4:Nat):Int)) v 0 0 ⟨nm,md,pl,rn⟩)),by decide,(hC2 6).neg.le (by decide)⟩
   refine And.intro (fun h=>absurd (show(m.toNat:Int).tmod 8=0 from h) (by rw [e8];omega)) (fun _=>?_)
   by_cases m12:m.toNat % 8=1∨m.toNat % 8=2
   rotate_left
   ·refine And.intro (fun h=>absurd (show(m.toNat:Int).tmod 8=1 from h) (by rw [e8];omega)) (fun _=>?_)
    refine And.intro (fun h=>absurd (show(m.toNat:Int).tmod 8=2 from h) (by rw [e8];omega)) (fun _=>?_)
    refine qAF (.agg [i64 (1+((o.toNat % 4:Nat):Int)),i64 v,i64 0,i64 0, .str nm,i64 md, .str pl,i64 rn, .nils, .nils]) rfl rfl ?_
    exact⟨_, .mk (1+((o.toNat % 4:Nat):Int)) v 0 0 ⟨nm,md,pl,rn⟩ [] [],1,rfl,qAm (1+((o.toNat % 4:Nat):Int)) v 0 0 ⟨nm,md,pl,rn⟩,by decide,(hC2 7).le (by decide)⟩
   by_cases m1:m.toNat % 8=1
   ·refine And.intro (fun _=>?_) (fun h=>absurd (show(m.toNat:Int).tmod 8=1 by rw [e8];omega) h)
    refine qAf qOE (by kernel_rfl) ?_
    refine⟨_,qF3 w,?_⟩
    refine⟨by decide,_,qF4 n,?_⟩
    refine⟨⟨rfl,rfl,trivial⟩,?_⟩
    refine⟨⟨rfl,trivial⟩,?_⟩
    refine qAf qOD (by kernel_rfl) ?_
    refine⟨by decide,?_⟩
    have e2:((m.toNat % 2:Nat):Int)=IntKind.i64.wrap ((m.toNat:Int).tmod 2):=by
     rw [show(m.toNat:Int).tmod 2=((m.toNat % 2:Nat):Int) from rfl];exact w6z
    refine⟨((m.toNat % 2:Nat):Int),e2,?_⟩
    refine⟨8+((m.toNat % 2:Nat):Int),w6z,?_⟩
    refine(qDi ⟨UInt8.ofNat (w.toNat+1),o,UInt8.ofNat (n.toNat / 2),7,x,y,z⟩ rs cs h (by show 3≤(7:UInt8).toNat % 8;decide)).at fun r hr=>?_
    obtain⟨⟨ao,an,ar,av,af,as',aa⟩,rfl,hc2⟩:=hr
    refine⟨⟨rfl,congrArg (fun z:Int=>AV.p (.int .i64 z)) e2,rfl,trivial⟩,?_⟩
    refine⟨⟨congrArg (fun z:Int=>AV.p (.int .i64 z)) e2,rfl,trivial⟩,?_⟩
    refine qAF (.agg [i64 (8+((m.toNat % 2:Nat):Int)),i64 0,i64 0,i64 0, .str [],i64 0, .str [],i64 0, .nils, .lsts 10 [[i64 (1+((o.toNat % 4:Nat):Int)),i64 v,i64 0,i64 0, .str nm,i64 md, .str pl,i64 rn, .nils, .nils],(Cd.mk ao an ar av af as' aa).cells]]) rfl ⟨_,rfl,_,_,rfl,rfl,_,_,rfl,rfl,_,_,rfl,rfl,_,_,rfl,rfl,_,_,rfl,rfl,_,_,rfl,rfl,_,_,rfl,rfl,_,_,rfl,rfl,_,_,rfl, .inl rfl,_,_,rfl,⟨_,rfl,Nat.le_refl _,rfl⟩,rfl⟩ ?_
    exact⟨_, .mk (8+((m.toNat % 2:Nat):Int)) 0 0 0 rf0 [] [.mk (1+((o.toNat % 4:Nat):Int)) v 0 0 ⟨nm,md,pl,rn⟩ [] [], .mk ao an ar av af as' aa],3,rfl,qFf _ (qGJ (qAm (1+((o.toNat % 4:Nat):Int)) v 0 0 ⟨nm,md,pl,rn⟩) (NilD.refl _)),by decide,CdS.two (by omega) (hC2 6) (hc2 6)⟩
   ·refine And.intro (fun h=>absurd (show(m.toNat:Int).tmod 8=1 from h) (by rw [e8];omega)) (fun _=>?_)
    refine And.intro (fun _=>?_) (fun h=>absurd (show(m.toNat:Int).tmod 8=2 by rw [e8];omega) h)
    refine qAf qOE (by kernel_rfl) ?_
    refine⟨_,qF3 w,?_⟩
    refine⟨by decide,_,qF4 n,?_⟩
    refine⟨⟨rfl,rfl,trivial⟩,?_⟩
    refine⟨⟨rfl,trivial⟩,?_⟩
    refine qAf qOD (by kernel_rfl) ?_
    refine⟨by decide,?_⟩
    have e2:((m.toNat % 2:Nat):Int)=IntKind.i64.wrap ((m.toNat:Int).tmod 2):=by
     rw [show(m.toNat:Int).tmod 2=((m.toNat % 2:Nat):Int) from rfl];exact w6z
    refine⟨((m.toNat % 2:Nat):Int),e2,?_⟩
    refine⟨8+((m.toNat % 2:Nat):Int),w6z,?_⟩
    refine(qDi ⟨UInt8.ofNat (w.toNat+1),o,UInt8.ofNat (n.toNat / 2),7,x,y,z⟩ rs cs h (by show 3≤(7:UInt8).toNat % 8;decide)).at fun r hr=>?_
    obtain⟨⟨ao,an,ar,av,af,as',aa⟩,rfl,hc2⟩:=hr
    refine⟨⟨rfl,congrArg (fun z:Int=>AV.p (.int .i64 z)) e2,rfl,trivial⟩,?_⟩
    refine⟨⟨congrArg (fun z:Int=>AV.p (.int .i64 z)) e2,rfl,trivial⟩,?_⟩
    refine qAF (.agg [i64 (8+((m.toNat % 2:Nat):Int)),i64 0,i64 0,i64 0, .str [],i64 0, .str [],i64 0, .nils, .lsts 10 [[i64 (1+((o.toNat % 4:Nat):Int)),i64 v,i64 0,i64 0, .str nm,i64 md, .str pl,i64 rn, .nils, .nils],(Cd.mk ao an ar av af as' aa).cells]]) rfl ⟨_,rfl,_,_,rfl,rfl,_,_,rfl,rfl,_,_,rfl,rfl,_,_,rfl,rfl,_,_,rfl,rfl,_,_,rfl,rfl,_,_,rfl,rfl,_,_,rfl,rfl,_,_,rfl, .inl rfl,_,_,rfl,⟨_,rfl,Nat.le_refl _,rfl⟩,rfl⟩ ?_
    exact⟨_, .mk (8+((m.toNat % 2:Nat):Int)) 0 0 0 rf0 [] [.mk (1+((o.toNat % 4:Nat):Int)) v 0 0 ⟨nm,md,pl,rn⟩ [] [], .mk ao an ar av af as' aa],3,rfl,qFf _ (qGJ (qAm (1+((o.toNat % 4:Nat):Int)) v 0 0 ⟨nm,md,pl,rn⟩) (NilD.refl _)),by decide,CdS.two (by omega) (hC2 6) (hc2 6)⟩
  refine And.intro (fun _=>?_) (fun h=>absurd (show(5:Int)<(o.toNat:Int).tmod 8 by rw [f8];omega) h)
  refine qAf qXP (by kernel_rfl) ?_
  refine⟨(n.toNat:Int),en,?_⟩
  refine⟨by decide,?_⟩
  have hj:(n.toNat:Int).tmod 2=((n.toNat % 2:Nat):Int):=rfl
  have hj2:n.toNat % 2<2:=Nat.mod_lt _ (by decide)
  generalize n.toNat % 2=j at hj hj2
  generalize (n.toNat:Int).tmod 2=jj at hj ⊢
  subst hj
  have s01:=qVH j hj2
  refine⟨by show(0:Int)≤((j:Nat):Int)∧((j:Nat):Int)≤2;omega,?_⟩
  refine⟨⟨congrArg (fun z:Int=>AV.p (.int .i64 z)) en,rfl,trivial⟩,?_⟩
  refine⟨⟨congrArg (fun z:Int=>AV.p (.int .i64 z)) en,rfl,trivial⟩,?_⟩
  have hC3:∀ d,CdS (d+1) (.mk 5 0 0 0 ⟨nm,md,pl,rn⟩ (([0,1]:List Int).drop j) []) 1 18:=CdS.leaf (by decide) (by decide) (by decide) (qNE hok s01.1) hrf (by decide) (by decide) s01.2
  refine⟨by decide,?_⟩
  by_cases m0:m.toNat % 8=0
  ·refine And.intro (fun _=>?_) (fun h=>absurd (show(m.toNat:Int).tmod 8=0 by rw [e8];omega) h)
   refine qAF (.agg [i64 7,i64 0,i64 0,i64 0, .str [],i64 0, .str [],i64 0, .nils, .lsts 10 [[i64 5,i64 0,i64 0,i64 0, .str nm,i64 md, .str pl,i64 rn, .lst ((([0,1]:List Int).map i64).drop j), .nils]]]) rfl ⟨_,rfl,_,_,rfl,rfl,_,_,rfl,rfl,_,_,rfl,rfl,_,_,rfl,rfl,_,_,rfl,rfl,_,_,rfl,rfl,_,_,rfl,rfl,_,_,rfl,rfl,_,_,rfl, .inl rfl,_,_,rfl,⟨_,rfl,Nat.le_refl _,rfl⟩,rfl⟩ ?_
   exact⟨_, .mk 7 0 0 0 rf0 [] [.mk 5 0 0 0 ⟨nm,md,pl,rn⟩ (([0,1]:List Int).drop j) []],2,rfl,qFf 7 (qLZ (qC2 ⟨nm,md,pl,rn⟩ [0,1] j)),by decide,(hC3 6).neg.le (by decide)⟩
  refine And.intro (fun h=>absurd (show(m.toNat:Int).tmod 8=0 from h) (by rw [e8];omega)) (fun _=>?_)
  by_cases m12:m.toNat % 8=1∨m.toNat % 8=2
  rotate_left
  ·refine And.intro (fun h=>absurd (show(m.toNat:Int).tmod 8=1 from h) (by rw [e8];omega)) (fun _=>?_)
   refine And.intro (fun h=>absurd (show(m.toNat:Int).tmod 8=2 from h) (by rw [e8];omega)) (fun _=>?_)
   refine qAF (.agg [i64 5,i64 0,i64 0,i64 0, .str nm,i64 md, .str pl,i64 rn, .lst ((([0,1]:List Int).map i64).drop j), .nils]) rfl rfl ?_
   exact⟨_, .mk 5 0 0 0 ⟨nm,md,pl,rn⟩ (([0,1]:List Int).drop j) [],1,rfl,qC2 ⟨nm,md,pl,rn⟩ [0,1] j,by decide,(hC3 7).le (by decide)⟩
  by_cases m1:m.toNat % 8=1
  ·refine And.intro (fun _=>?_) (fun h=>absurd (show(m.toNat:Int).tmod 8=1 by rw [e8];omega) h)
   refine qAf qOE (by kernel_rfl) ?_
   refine⟨_,qF3 w,?_⟩
   refine⟨by decide,_,qF4 n,?_⟩
   refine⟨⟨rfl,rfl,trivial⟩,?_⟩
   refine⟨⟨rfl,trivial⟩,?_⟩
   refine qAf qOD (by kernel_rfl) ?_
   refine⟨by decide,?_⟩
   have e2:((m.toNat % 2:Nat):Int)=IntKind.i64.wrap ((m.toNat:Int).tmod 2):=by
    rw [show(m.toNat:Int).tmod 2=((m.toNat % 2:Nat):Int) from rfl];exact w6z
   refine⟨((m.toNat % 2:Nat):Int),e2,?_⟩
   refine⟨8+((m.toNat % 2:Nat):Int),w6z,?_⟩
   refine(qDi ⟨UInt8.ofNat (w.toNat+1),o,UInt8.ofNat (n.toNat / 2),7,x,y,z⟩ rs cs h (by show 3≤(7:UInt8).toNat % 8;decide)).at fun r hr=>?_
   obtain⟨⟨ao,an,ar,av,af,as',aa⟩,rfl,hc2⟩:=hr
   refine⟨⟨rfl,congrArg (fun z:Int=>AV.p (.int .i64 z)) e2,rfl,trivial⟩,?_⟩
   refine⟨⟨congrArg (fun z:Int=>AV.p (.int .i64 z)) e2,rfl,trivial⟩,?_⟩
   refine qAF (.agg [i64 (8+((m.toNat % 2:Nat):Int)),i64 0,i64 0,i64 0, .str [],i64 0, .str [],i64 0, .nils, .lsts 10 [[i64 5,i64 0,i64 0,i64 0, .str nm,i64 md, .str pl,i64 rn, .lst ((([0,1]:List Int).map i64).drop j), .nils],(Cd.mk ao an ar av af as' aa).cells]]) rfl ⟨_,rfl,_,_,rfl,rfl,_,_,rfl,rfl,_,_,rfl,rfl,_,_,rfl,rfl,_,_,rfl,rfl,_,_,rfl,rfl,_,_,rfl,rfl,_,_,rfl,rfl,_,_,rfl, .inl rfl,_,_,rfl,⟨_,rfl,Nat.le_refl _,rfl⟩,rfl⟩ ?_
   exact⟨_, .mk (8+((m.toNat % 2:Nat):Int)) 0 0 0 rf0 [] [.mk 5 0 0 0 ⟨nm,md,pl,rn⟩ (([0,1]:List Int).drop j) [], .mk ao an ar av af as' aa],3,rfl,qFf _ (qGJ (qC2 ⟨nm,md,pl,rn⟩ [0,1] j) (NilD.refl _)),by decide,CdS.two (by omega) (hC3 6) (hc2 6)⟩
  ·refine And.intro (fun h=>absurd (show(m.toNat:Int).tmod 8=1 from h) (by rw [e8];omega)) (fun _=>?_)
   refine And.intro (fun _=>?_) (fun h=>absurd (show(m.toNat:Int).tmod 8=2 by rw [e8];omega) h)
   refine qAf qOE (by kernel_rfl) ?_
   refine⟨_,qF3 w,?_⟩
   refine⟨by decide,_,qF4 n,?_⟩
   refine⟨⟨rfl,rfl,trivial⟩,?_⟩
   refine⟨⟨rfl,trivial⟩,?_⟩
   refine qAf qOD (by kernel_rfl) ?_
   refine⟨by decide,?_⟩
   have e2:((m.toNat % 2:Nat):Int)=IntKind.i64.wrap ((m.toNat:Int).tmod 2):=by
    rw [show(m.toNat:Int).tmod 2=((m.toNat % 2:Nat):Int) from rfl];exact w6z
   refine⟨((m.toNat % 2:Nat):Int),e2,?_⟩
   refine⟨8+((m.toNat % 2:Nat):Int),w6z,?_⟩
   refine(qDi ⟨UInt8.ofNat (w.toNat+1),o,UInt8.ofNat (n.toNat / 2),7,x,y,z⟩ rs cs h (by show 3≤(7:UInt8).toNat % 8;decide)).at fun r hr=>?_
   obtain⟨⟨ao,an,ar,av,af,as',aa⟩,rfl,hc2⟩:=hr
   refine⟨⟨rfl,congrArg (fun z:Int=>AV.p (.int .i64 z)) e2,rfl,trivial⟩,?_⟩
   refine⟨⟨congrArg (fun z:Int=>AV.p (.int .i64 z)) e2,rfl,trivial⟩,?_⟩
   refine qAF (.agg [i64 (8+((m.toNat % 2:Nat):Int)),i64 0,i64 0,i64 0, .str [],i64 0, .str [],i64 0, .nils, .lsts 10 [[i64 5,i64 0,i64 0,i64 0, .str nm,i64 md, .str pl,i64 rn, .lst ((([0,1]:List Int).map i64).drop j), .nils],(Cd.mk ao an ar av af as' aa).cells]]) rfl ⟨_,rfl,_,_,rfl,rfl,_,_,rfl,rfl,_,_,rfl,rfl,_,_,rfl,rfl,_,_,rfl,rfl,_,_,rfl,rfl,_,_,rfl,rfl,_,_,rfl,rfl,_,_,rfl, .inl rfl,_,_,rfl,⟨_,rfl,Nat.le_refl _,rfl⟩,rfl⟩ ?_
   exact⟨_, .mk (8+((m.toNat % 2:Nat):Int)) 0 0 0 rf0 [] [.mk 5 0 0 0 ⟨nm,md,pl,rn⟩ (([0,1]:List Int).drop j) [], .mk ao an ar av af as' aa],3,rfl,qFf _ (qGJ (qC2 ⟨nm,md,pl,rn⟩ [0,1] j) (NilD.refl _)),by decide,CdS.two (by omega) (hC3 6) (hc2 6)⟩
theorem qV7 (p:Pc) (rs:List Rf) (cs:List Int) (h:RcA rs cs):Pure cx 66 [.agg p.cells,qBu rs,ints cs] fun r=>∃ (c:Cd) (n:Nat),r=.ret [c.pv]∧n≤3∧CdS 8 c n 43:=
 (qUW p rs cs h).weak fun r hr=>by
  obtain⟨y,c,n,rfl,h1,h2⟩:=hr
  exact⟨.ret [c.pv],⟨_,rfl,_,_,rfl,h1,rfl⟩,c,n,rfl,h2⟩
theorem qNv {C : Cx} {rd : Bool} {n0 N : Nat} {all : List Oper} {σ : Sg} {ds : List AD} {H : Hp} {K : Sg → List AD → Hp → Prop} {X : List AP → Sg → List AD → Hp → Prop} {α : Type} (sl : α → List (Nat × AV)) (hp : α → Hp) (pr : α → Prop) (ot : OT)
    (h : (C.P.follows .mixedOrders && qCN N all (masks all []) && qGi all (masks all []) ot [] [] []) = true)
    (hv : vD C rd all σ (fun σ' ds' H' => ∃ x, pr x ∧ Ent C n0 N σ' ds' H' (sets (fun _ => .junk) (sl x)) ds (hp x)) X ot [] ds H) (hk : ∀ x, pr x → K (sets (fun _ => .junk) (sl x)) ds (hp x)) :
    ∃ ot, (C.P.follows .mixedOrders && qCN N all (masks all []) && qGi all (masks all []) ot [] [] []) = true ∧
    ((vD C rd all σ K X ot [] ds H) ∨
     ∃ (α : Type) (sl : α → List (Nat × AV)) (hp : α → Hp) (pr : α → Prop),
      vD C rd all σ (fun σ' ds' H' => ∃ x, pr x ∧ Ent C n0 N σ' ds' H' (sets (fun _ => .junk) (sl x)) ds (hp x)) X ot [] ds H ∧
      ∀ x, pr x → K (sets (fun _ => .junk) (sl x)) ds (hp x)) := ⟨_, h, .inr ⟨α, sl, hp, pr, hv, hk⟩⟩
abbrev qXf:OT:=(.pure 0 (.pure 1 (.pure 2 (.pure 3 (.pure 4 (.pure 5 (.pure 6 (.pure 8 (.pure 9 (.pure 10 (.pure 11 (.pure 12 (.pure 13 (.pure 14 (.pure 15 (.pure 16 (.pure 17 (.pure 18
 (.eff 7 [15,14,9] (.pure 19 (.eff 20 [15,14,9,4,1] (.eff 21 [] .fin .nil) .nil))
  (.eff 20 [15,14,9,4,1] (.eff 7 [15,14,9] (.pure 19 (.eff 21 [] .fin .nil)) .nil) .nil))))))))))))))))))))
def ksO (l:List Cs):AObj:=⟨qGx,false, .pus (l.map Cs.cells)⟩
def pc0:Pc:=⟨0,0,0,0,0,0,0⟩
theorem qVV {l:List Pc} {k:Nat} (h:k<l.length):(l.map Pc.cells)[k]?=some (l.getD k pc0).cells:=qEP pc0 h
structure GrS (k:Nat) (g:Int):Prop where
 ok:(k=0∧g=0)∨((k=2∨k=3)∧1≤g∧g≤12)
theorem qM2 {v:Int} (h:-999≤v∧v≤999):NuS [v]:=by
 have h1:qFy v=true:=by rw [qFy,decide_eq_true (by omega),decide_eq_true (by omega)];rfl
 refine⟨?_,?_⟩
 ·show(decide (1≤1) && decide (1≤8) && (qFy v && true))=true
  rw [h1];rfl
 ·show lw (qGM v++[])≤6
  rw [List.append_nil,qGM]
  have h1:=qIk v
  have h2:=qIk (-v)
  split <;> simp only [qBF,qLe,List.length_cons,List.length_nil] <;> omega
def CaQ (r:PEnd):Prop:=∃ (y:PV) (l:List Cs),r=.ret [y]∧NilD y (css l)∧RuS l
theorem qDd (out:List Cs) (l:List Int):NilD (.lsts 11 (out.map Cs.cells++[zc0++[.lst (l.map i64)]])) (css (out++[⟨cd0,l⟩])):=by
 simp only [css,NilD,List.map_append,List.map_cons,List.map_nil]
 refine⟨_,rfl,?_⟩
 induction out with
 | nil=>
  simp only [List.map_nil,List.nil_append,NilDLL]
  exact⟨_,_,rfl,qM5 l,rfl⟩
 | cons c out ih=>
  simp only [List.map_cons,List.cons_append,NilDLL]
  exact⟨_,_,rfl,NilDL.refl _,ih⟩
structure OutS (out:List Cs) (i:Nat):Prop where
 cs:∀ c∈out,CsS c
 len:out.length≤i
theorem OutS.snoc {out:List Cs} {i:Nat} {c:Cs} (h:OutS out i) (hc:CsS c):OutS (out++[c]) (i+1):=by
 refine⟨fun x hx=>?_,by rw [List.length_append];have:=h.len;simp only [List.length_cons,List.length_nil];omega⟩
 rcases List.mem_append.1 hx with hx | hx
 ·exact h.cs x hx
 ·rw [List.mem_singleton.1 hx];exact hc
theorem qSM (p:Pt) (rs:List Rf) (cs:List Int) (h:RcS rs cs) (k:Nat) (g:Int) (hg:GrS k g) (hp:p.cases.length≤9223372036854775807):Pure cx 40 [.agg p.cells,qBu rs,ints cs,i64 (k:Int),i64 g] CaQ:=by
 refine qAB Tryz.func40 rfl rfl rfl ?_
 obtain⟨kind,card,frm,modes,pl,ps,x,y,z⟩:=p
 have hps:(ps.map Pc.cells).length=ps.length:=List.length_map ..
 have hrs:(rs.map Rf.cells).length=rs.length:=List.length_map ..
 have hr2:=h.len
 simp only [] at hp
 refine⟨Nat × List Cs,fun x'=>[(1, .p (qBu rs)),(2, .p (ints cs)),(3, .p (i64 (k:Int))),(4, .p (i64 g)),(5, .ptr 0 0 0),(11, .sl 1 11 0 x'.2.length),(12, .p (i64 x'.1))],fun x'=>⟨2,[(1,ksO x'.2),(0,ptO ⟨kind,card,frm,modes,pl,ps,x,y,z⟩)]⟩,fun x'=>x'.1≤3∧OutS x'.2 x'.1,fun x'=>3 - x'.1,?_,?_⟩
 ·exact⟨(0,[]),⟨by decide,⟨fun c hc=>(by cases hc),Nat.le_refl _⟩⟩,qAC [] [] [(1,11)] rfl (sk) (sk) rfl⟩
 rintro⟨i,out⟩ ⟨k1,k2⟩
 simp only [] at k1 k2
 by_cases ha:i<ps.length∧i<3∧0<rs.length
 rotate_left
 ·by_cases hi:i<ps.length
  rotate_left
  ·refine And.intro (fun h=>absurd (show(i:Int)<((ps.map Pc.cells).length:Nat) from h) (by rw [hps];omega)) (fun _=>?_)
   refine⟨by show(0:Int)≤0∧(0:Int)<3;decide,?_⟩
   refine⟨.p (u8 x),qOP (by kernel_rfl) rfl,?_⟩
   refine⟨(x.toNat:Int),wrap_i64 (by omega) (by have:=x.toNat_lt;omega),?_⟩
   refine⟨by decide,?_⟩
   have hz:=qCQ (Int.natCast_nonneg x.toNat) (show(0:Int)<21 by decide)
   generalize (x.toNat:Int).tmod 21=zz at hz ⊢
   refine⟨zz - 10,w6z,?_⟩
   by_cases hg0:0<g
   ·refine And.intro (fun _=>?_) (fun h=>absurd hg0 h)
    obtain⟨hk,hg1,hg2⟩:(k=2∨k=3)∧1≤g∧g≤12:=by
     rcases hg.ok with h | h
     ·omega
     ·exact h
    refine(qFP x y z k g hk ⟨by omega,hg2⟩).at fun r hr=>?_
    obtain⟨l,rfl,hl⟩:=hr
    refine⟨by show 0+1≤1;omega,[zc0++[ints l]],rfl,?_⟩
    refine⟨by show 0+out.length≤(out.map Cs.cells).length;simp,out.map Cs.cells,qAD (by simp),by show(out.length+1) * 152≤140737488355328;have:=k2.len;omega,out.map Cs.cells++[zc0++[ints l]],rfl,?_⟩
    refine qAF (.lsts 11 (out.map Cs.cells++[zc0++[ints l]])) rfl ⟨_,rfl,by show 0+(out.length+1)≤(out.map Cs.cells++[zc0++[ints l]]).length;simp,qAD (by simp)⟩ ⟨_,out++[⟨cd0,l⟩],rfl,qDd out l,qF8 (by have:=k2.len;omega) k2.cs ⟨rfl,(hl.nu hk)⟩⟩
   ·refine And.intro (fun h=>absurd h hg0) (fun _=>?_)
    refine⟨by show 0+1≤1;omega,_,rfl, .inl ⟨[2],[zc0++[ints [zz - 10]]],rfl,⟨_,_,rfl,⟨_,_,rfl,rfl,_,_,rfl,rfl,_,_,rfl,rfl,_,_,rfl,rfl,_,_,rfl,rfl,_,_,rfl,rfl,_,_,rfl,rfl,_,_,rfl,rfl,_,_,rfl, .inl rfl,_,_,rfl, .inl rfl,_,_,rfl,⟨_,rfl,Nat.le_refl _,rfl⟩,rfl⟩,rfl⟩,?_⟩⟩
    refine⟨by show 0+out.length≤(out.map Cs.cells).length;simp,out.map Cs.cells,qAD (by simp),by show(out.length+1) * 152≤140737488355328;have:=k2.len;omega,out.map Cs.cells++[zc0++[ints [zz - 10]]],rfl,?_⟩
    refine qAF (.lsts 11 (out.map Cs.cells++[zc0++[ints [zz - 10]]])) rfl ⟨_,rfl,by show 0+(out.length+1)≤(out.map Cs.cells++[zc0++[ints [zz - 10]]]).length;simp,qAD (by simp)⟩ ⟨_,out++[⟨cd0,[zz - 10]⟩],rfl,qDd out [zz - 10],qF8 (by have:=k2.len;omega) k2.cs ⟨rfl,(qM2 (by omega))⟩⟩
  refine And.intro (fun _=>?_) (fun h=>absurd (show(i:Int)<((ps.map Pc.cells).length:Nat) by rw [hps];omega) h)
  by_cases hi3:i<3
  rotate_left
  ·refine And.intro (fun h=>absurd (show(i:Int)<3 from h) (by omega)) (fun _=>?_)
   refine⟨by show(0:Int)≤0∧(0:Int)<3;decide,?_⟩
   refine⟨.p (u8 x),qOP (by kernel_rfl) rfl,?_⟩
   refine⟨(x.toNat:Int),wrap_i64 (by omega) (by have:=x.toNat_lt;omega),?_⟩
   refine⟨by decide,?_⟩
   have hz:=qCQ (Int.natCast_nonneg x.toNat) (show(0:Int)<21 by decide)
   generalize (x.toNat:Int).tmod 21=zz at hz ⊢
   refine⟨zz - 10,w6z,?_⟩
   by_cases hg0:0<g
   ·refine And.intro (fun _=>?_) (fun h=>absurd hg0 h)
    obtain⟨hk,hg1,hg2⟩:(k=2∨k=3)∧1≤g∧g≤12:=by
     rcases hg.ok with h | h
     ·omega
     ·exact h
    refine(qFP x y z k g hk ⟨by omega,hg2⟩).at fun r hr=>?_
    obtain⟨l,rfl,hl⟩:=hr
    refine⟨by show 0+1≤1;omega,[zc0++[ints l]],rfl,?_⟩
    refine⟨by show 0+out.length≤(out.map Cs.cells).length;simp,out.map Cs.cells,qAD (by simp),by show(out.length+1) * 152≤140737488355328;have:=k2.len;omega,out.map Cs.cells++[zc0++[ints l]],rfl,?_⟩
    refine qAF (.lsts 11 (out.map Cs.cells++[zc0++[ints l]])) rfl ⟨_,rfl,by show 0+(out.length+1)≤(out.map Cs.cells++[zc0++[ints l]]).length;simp,qAD (by simp)⟩ ⟨_,out++[⟨cd0,l⟩],rfl,qDd out l,qF8 (by have:=k2.len;omega) k2.cs ⟨rfl,(hl.nu hk)⟩⟩
   ·refine And.intro (fun h=>absurd h hg0) (fun _=>?_)
    refine⟨by show 0+1≤1;omega,_,rfl, .inl ⟨[2],[zc0++[ints [zz - 10]]],rfl,⟨_,_,rfl,⟨_,_,rfl,rfl,_,_,rfl,rfl,_,_,rfl,rfl,_,_,rfl,rfl,_,_,rfl,rfl,_,_,rfl,rfl,_,_,rfl,rfl,_,_,rfl,rfl,_,_,rfl, .inl rfl,_,_,rfl, .inl rfl,_,_,rfl,⟨_,rfl,Nat.le_refl _,rfl⟩,rfl⟩,rfl⟩,?_⟩⟩
    refine⟨by show 0+out.length≤(out.map Cs.cells).length;simp,out.map Cs.cells,qAD (by simp),by show(out.length+1) * 152≤140737488355328;have:=k2.len;omega,out.map Cs.cells++[zc0++[ints [zz - 10]]],rfl,?_⟩
    refine qAF (.lsts 11 (out.map Cs.cells++[zc0++[ints [zz - 10]]])) rfl ⟨_,rfl,by show 0+(out.length+1)≤(out.map Cs.cells++[zc0++[ints [zz - 10]]]).length;simp,qAD (by simp)⟩ ⟨_,out++[⟨cd0,[zz - 10]⟩],rfl,qDd out [zz - 10],qF8 (by have:=k2.len;omega) k2.cs ⟨rfl,(qM2 (by omega))⟩⟩
  refine And.intro (fun _=>?_) (fun h=>absurd (show(i:Int)<3 by omega) h)
  refine And.intro (fun h=>absurd (show(0:Int)<((rs.map Rf.cells).length:Nat) from h) (by rw [hrs];omega)) (fun _=>?_)
  refine⟨by show(0:Int)≤0∧(0:Int)<3;decide,?_⟩
  refine⟨.p (u8 x),qOP (by kernel_rfl) rfl,?_⟩
  refine⟨(x.toNat:Int),wrap_i64 (by omega) (by have:=x.toNat_lt;omega),?_⟩
  refine⟨by decide,?_⟩
  have hz:=qCQ (Int.natCast_nonneg x.toNat) (show(0:Int)<21 by decide)
  generalize (x.toNat:Int).tmod 21=zz at hz ⊢
  refine⟨zz - 10,w6z,?_⟩
  by_cases hg0:0<g
  ·refine And.intro (fun _=>?_) (fun h=>absurd hg0 h)
   obtain⟨hk,hg1,hg2⟩:(k=2∨k=3)∧1≤g∧g≤12:=by
    rcases hg.ok with h | h
    ·omega
    ·exact h
   refine(qFP x y z k g hk ⟨by omega,hg2⟩).at fun r hr=>?_
   obtain⟨l,rfl,hl⟩:=hr
   refine⟨by show 0+1≤1;omega,[zc0++[ints l]],rfl,?_⟩
   refine⟨by show 0+out.length≤(out.map Cs.cells).length;simp,out.map Cs.cells,qAD (by simp),by show(out.length+1) * 152≤140737488355328;have:=k2.len;omega,out.map Cs.cells++[zc0++[ints l]],rfl,?_⟩
   refine qAF (.lsts 11 (out.map Cs.cells++[zc0++[ints l]])) rfl ⟨_,rfl,by show 0+(out.length+1)≤(out.map Cs.cells++[zc0++[ints l]]).length;simp,qAD (by simp)⟩ ⟨_,out++[⟨cd0,l⟩],rfl,qDd out l,qF8 (by have:=k2.len;omega) k2.cs ⟨rfl,(hl.nu hk)⟩⟩
  ·refine And.intro (fun h=>absurd h hg0) (fun _=>?_)
   refine⟨by show 0+1≤1;omega,_,rfl, .inl ⟨[2],[zc0++[ints [zz - 10]]],rfl,⟨_,_,rfl,⟨_,_,rfl,rfl,_,_,rfl,rfl,_,_,rfl,rfl,_,_,rfl,rfl,_,_,rfl,rfl,_,_,rfl,rfl,_,_,rfl,rfl,_,_,rfl,rfl,_,_,rfl, .inl rfl,_,_,rfl, .inl rfl,_,_,rfl,⟨_,rfl,Nat.le_refl _,rfl⟩,rfl⟩,rfl⟩,?_⟩⟩
   refine⟨by show 0+out.length≤(out.map Cs.cells).length;simp,out.map Cs.cells,qAD (by simp),by show(out.length+1) * 152≤140737488355328;have:=k2.len;omega,out.map Cs.cells++[zc0++[ints [zz - 10]]],rfl,?_⟩
   refine qAF (.lsts 11 (out.map Cs.cells++[zc0++[ints [zz - 10]]])) rfl ⟨_,rfl,by show 0+(out.length+1)≤(out.map Cs.cells++[zc0++[ints [zz - 10]]]).length;simp,qAD (by simp)⟩ ⟨_,out++[⟨cd0,[zz - 10]⟩],rfl,qDd out [zz - 10],qF8 (by have:=k2.len;omega) k2.cs ⟨rfl,(qM2 (by omega))⟩⟩
 obtain⟨hi,hi3,hr0⟩:=ha
 refine And.intro (fun _=>?_) (fun h=>absurd (show(i:Int)<((ps.map Pc.cells).length:Nat) by rw [hps];omega) h)
 refine And.intro (fun _=>?_) (fun h=>absurd (show(i:Int)<3 by omega) h)
 refine And.intro (fun _=>?_) (fun h=>absurd (show(0:Int)<((rs.map Rf.cells).length:Nat) by rw [hrs];omega) h)
 have hcell:=qVV hi
 generalize ps.getD i pc0=P at hcell
 have hcd:=qV7 P rs cs ⟨h,hr0⟩
 obtain⟨w,o,n,m,a,b,c⟩:=P
 have haL:=a.toNat_lt
 have hv:=qCQ (Int.natCast_nonneg a.toNat) (show(0:Int)<201 by decide)
 refine qNv (fun c:Cd=>[(1, .p (qBu rs)),(2, .p (ints cs)),(3, .p (i64 (k:Int))),(4, .p (i64 g)),(5, .ptr 0 0 0),(11, .sl 1 11 0 out.length),(12, .p (i64 (i:Int))),(13, .ptr 2 0 0)]) (fun c=>⟨3,[(2,⟨qGx,false, .bx ((c.cells++[ints [(a.toNat:Int).tmod 201 - 100]]).map .p)⟩),(1,ksO out),(0,ptO ⟨kind,card,frm,modes,pl,ps,x,y,z⟩)]⟩) (fun c=>∃ n,n≤3∧CdS 8 c n 43) qXf (by kernel_rfl) ?_ ?_
 ·refine⟨_,⟨by omega,(Pc.mk w o n m a b c).cells,hcell,rfl⟩,?_⟩
  refine⟨_,⟨by omega,(Pc.mk w o n m a b c).cells,hcell,rfl⟩,?_⟩
  refine⟨_,⟨by show(0:Int)≤0∧(0:Int)<3;decide,[u8 a],rfl,rfl⟩,?_⟩
  refine⟨(a.toNat:Int),w6z,?_⟩
  refine⟨by decide,?_⟩
  refine⟨(a.toNat:Int).tmod 201 - 100,w6z,?_⟩
  have ea:(a.toNat:Int)=IntKind.i64.wrap (a.toNat:Int):=w6z
  refine And.intro ?_ ?_
  ·refine hcd.at fun r hr=>?_
   obtain⟨⟨ao,an,ar,av,af,as',aa⟩,nn,rfl,hnn,hcc⟩:=hr
   refine⟨⟨congrArg (fun z:Int=>AV.p (.int .i64 z)) ea,rfl,rfl,trivial⟩,?_⟩
   refine⟨⟨congrArg (fun z:Int=>AV.p (.int .i64 z)) ea,rfl,rfl,rfl,rfl,trivial⟩,?_⟩
   exact⟨.mk ao an ar av af as' aa,⟨nn,hnn,hcc⟩,qAC [] [] [] rfl (sk) (sk) rfl⟩
  ·refine⟨⟨congrArg (fun z:Int=>AV.p (.int .i64 z)) ea,rfl,rfl,rfl,rfl,trivial⟩,?_⟩
   refine hcd.at fun r hr=>?_
   obtain⟨⟨ao,an,ar,av,af,as',aa⟩,nn,rfl,hnn,hcc⟩:=hr
   refine⟨⟨congrArg (fun z:Int=>AV.p (.int .i64 z)) ea,rfl,rfl,trivial⟩,?_⟩
   exact⟨.mk ao an ar av af as' aa,⟨nn,hnn,hcc⟩,qAC [] [] [] rfl (sk) (sk) rfl⟩
 ·rintro⟨ao,an,ar,av,af,as',aa⟩ ⟨nn,hnn,hcc⟩
  by_cases hg0:0<g
  ·refine And.intro (fun _=>?_) (fun h=>absurd hg0 h)
   obtain⟨hk,hg1,hg2⟩:(k=2∨k=3)∧1≤g∧g≤12:=by
    rcases hg.ok with h | h
    ·omega
    ·exact h
   refine⟨_,⟨by omega,(Pc.mk w o n m a b c).cells,hcell,rfl⟩,?_⟩
   refine(qFP a b c k g hk ⟨by omega,hg2⟩).at fun r hr=>?_
   obtain⟨l,rfl,hl⟩:=hr
   refine⟨by show 0+1≤1;omega,[(Cs.mk (Cd.mk ao an ar av af as' aa) l).cells],rfl,?_⟩
   refine⟨by show 0+out.length≤(out.map Cs.cells).length;simp,out.map Cs.cells,qAD (by simp),by show(out.length+1) * 152≤140737488355328;have:=k2.len;omega,(out++[Cs.mk (Cd.mk ao an ar av af as' aa) l]).map Cs.cells,by simp,?_⟩
   refine⟨((i+1:Nat):Int),by rw [Int.natCast_add];exact w6z,?_⟩
   exact⟨(i+1,out++[Cs.mk (Cd.mk ao an ar av af as' aa) l]),⟨by show i+1≤3;omega,k2.snoc ⟨⟨nn,hnn,hcc⟩,(hl.nu hk)⟩⟩,qAC [] [(1,4)] [] rfl ⟨rfl,rfl,rfl,rfl,⟨rfl,rfl⟩,congrArg (fun k:Nat=>AV.sl 4 11 0 k) (qAJ out _).symm,rfl,trivial⟩ (sk) rfl,by show 3 - (i+1)<3 - i;omega⟩
  ·refine And.intro (fun h=>absurd h hg0) (fun _=>?_)
   refine⟨by show 0+1≤1;omega,[(Cs.mk (Cd.mk ao an ar av af as' aa) [(a.toNat:Int).tmod 201 - 100]).cells],rfl,?_⟩
   refine⟨by show 0+out.length≤(out.map Cs.cells).length;simp,out.map Cs.cells,qAD (by simp),by show(out.length+1) * 152≤140737488355328;have:=k2.len;omega,(out++[Cs.mk (Cd.mk ao an ar av af as' aa) [(a.toNat:Int).tmod 201 - 100]]).map Cs.cells,by simp,?_⟩
   refine⟨((i+1:Nat):Int),by rw [Int.natCast_add];exact w6z,?_⟩
   exact⟨(i+1,out++[Cs.mk (Cd.mk ao an ar av af as' aa) [(a.toNat:Int).tmod 201 - 100]]),⟨by show i+1≤3;omega,k2.snoc ⟨⟨nn,hnn,hcc⟩,(qM2 (by omega))⟩⟩,qAC [] [(1,4)] [] rfl ⟨rfl,rfl,rfl,rfl,⟨rfl,rfl⟩,congrArg (fun k:Nat=>AV.sl 4 11 0 k) (qAJ out _).symm,rfl,trivial⟩ (sk) rfl,by show 3 - (i+1)<3 - i;omega⟩
theorem qG3 (p:Pt) (rs:List Rf) (cs:List Int) (h:RcS rs cs) (k:Nat) (g:Int) (hg:GrS k g) (hp:p.cases.length≤9223372036854775807):Pure cx 40 [.agg p.cells,qBu rs,ints cs,i64 (k:Int),i64 g] fun r=>∃ l,r=.ret [css l]∧RuS l:=
 (qSM p rs cs h k g hg hp).weak fun r hr=>by
  obtain⟨y,l,rfl,h1,h2⟩:=hr
  exact⟨.ret [css l],⟨_,rfl,_,_,rfl,h1,rfl⟩,l,rfl,h2⟩
structure Dp where
 grain:UInt8
 plate:UInt8
 nodes:List Pt
 choice:Pt
 gains:List Pt
 chooses:Bool
abbrev Dp.cells (d:Dp):List PV:=[u8 d.grain,u8 d.plate, .lsts 9 (d.nodes.map Pt.cells),u8 d.choice.kind,u8 d.choice.card,u8 d.choice.frm,u8 d.choice.modes, .bool d.choice.pl, .lsts 7 (d.choice.cases.map Pc.cells),u8 d.choice.x,u8 d.choice.y,u8 d.choice.z, .lsts 9 (d.gains.map Pt.cells), .bool d.chooses]
structure Dp.ok (d:Dp):Prop where
 nodes:d.nodes.length≤9223372036854775807
 gains:d.gains.length≤9223372036854775807
 ncases:∀ p∈d.nodes,p.cases.length≤9223372036854775807
 gcases:∀ p∈d.gains,p.cases.length≤9223372036854775807
def pt0:Pt:=⟨0,0,0,0,false,[],0,0,0⟩
theorem qPg {l:List Pt} {k:Nat} (h:k<l.length):(l.map Pt.cells)[k]?=some (l.getD k pt0).cells:=qEP pt0 h
abbrev TKn:TypeId:=100
abbrev qXp:TypeId:=24
def dpO (d:Dp):AObj:=⟨31,false, .bx (d.cells.map .p)⟩
def kwO (l:List Kn):AObj:=⟨TKn,false, .pus (l.map Kn.cells)⟩
def dyO (Y:List (List PV)):AObj:=⟨qRC,false, .pus Y⟩
def s1O (v:AV):AObj:=⟨qXp,false, .bx [v]⟩
theorem qGP (l:List Int):qLu (iO l):=⟨rfl,rfl,by
 show qD5 ((l.map i64).map .p)=true
 rw [qDg]
 induction l with
 | nil=>rfl
 | cons a l ih=>simp only [List.map_cons,qEy,ih,Bool.and_true];rfl⟩
theorem qEi (l:List Rf):qLu (qPO l):=⟨rfl,rfl,by
 show qD5 ((l.map Rf.cells).flatten.map .p)=true
 rw [qDg]
 induction l with
 | nil=>rfl
 | cons a l ih=>
  rw [List.map_cons,List.flatten_cons]
  simp only [Rf.cells,List.cons_append,List.nil_append,qEy,ih,Bool.and_true];rfl⟩
theorem qKP:∀ {a b:List (List PV)} {c d:List (List PV)},NilDLL a c→NilDLL b d→NilDLL (a++b) (c++d)
 | [],b,c,d,h,k=>by
  simp only [NilDLL] at h
  subst h;exact k
 | x::a,b,c,d,h,k=>by
  simp only [NilDLL,List.cons_append] at h ⊢
  obtain⟨z,zs,rfl,h1,h2⟩:=h
  exact⟨z,zs++d,rfl,h1,qKP h2 k⟩
theorem qPz {a b:List PV} (h:NilDL a b):NilDLL [a] [b]:=by
 simp only [NilDLL]
 exact⟨_,_,rfl,h,rfl⟩
structure PgS (Y:List (List PV)) (n k:Nat):Prop where
 ds:∃ ds:List De,NilDLL Y (ds.map De.cells)∧PrS ds k∧ds.length=n
theorem PgS.len {Y:List (List PV)} {n k:Nat} (h:PgS Y n k):Y.length=n:=by
 obtain⟨ds,h1,_,h3⟩:=h.ds
 have:=h1.len
 rw [List.length_map] at this
 omega
theorem PgS.snoc {Y:List (List PV)} {n k j:Nat} {c:List PV} {d:De} (h:PgS Y n k) (hc:NilDL c d.cells) (hd:DeS d j):PgS (Y++[c]) (n+1) (k+j):=by
 obtain⟨ds,h1,h2,h3⟩:=h.ds
 refine⟨ds++[d],?_,h2.snoc hd,by rw [List.length_append,h3];rfl⟩
 rw [List.map_append]
 exact qKP h1 (qPz hc)
theorem PgS.le {Y:List (List PV)} {n k k':Nat} (h:PgS Y n k) (hk:k≤k'):PgS Y n k':=by
 obtain⟨ds,h1,h2,h3⟩:=h.ds
 exact⟨ds,h1,h2.le hk,h3⟩
theorem qM7 {k n:Int} {nm pl:List UInt8} {a b a' b':PV} (h1:NilD a a') (h2:NilD b b'):NilDL [i64 k,i64 n, .str nm, .str pl,a,b] [i64 k,i64 n, .str nm, .str pl,a',b']:=by
 simp only [NilDL]
 exact⟨_,_,rfl,NilD.refl _,_,_,rfl,NilD.refl _,_,_,rfl,NilD.refl _,_,_,rfl,NilD.refl _,_,_,rfl,h1,_,_,rfl,h2,rfl⟩
theorem qId (s:Nat):NilD .nils (.lsts s []):=by
 simp only [NilD]
 exact .inr (.inr ⟨s,rfl⟩)
theorem qVU {g s:Int} (hg:0≤g∧g≤12) (hs:0≤s∧s≤2):PgS [[i64 1,i64 g, .str [], .str [], .nils, .nils],[i64 2,i64 s, .str [112], .str [], .nils, .nils]] 2 22:=by
 have h0:PgS [] 0 0:=⟨[],by simp only [NilDLL,List.map_nil],PrS.nil,rfl⟩
 have h1:=h0.snoc (d:=⟨1,g,[],[],[],[]⟩) (qM7 (qId 4) (qId 11)) (qSA (qCh hg.1 (by omega)))
 exact h1.snoc (d:=⟨2,s,[112],[],[],[]⟩) (qM7 (qId 4) (qId 11)) (qRw (qCh hs.1 (by omega)))
abbrev qXd:OT:=(.pure 0 (.pure 1 (.pure 2 (.pure 3 (.pure 4 (.pure 5 (.pure 6 (.pure 7 (.pure 8 (.pure 9 (.pure 10 (.pure 11 .fin))))))))))))
abbrev qVZ:OT:=(.pure 0 (.pure 1 (.pure 2 (.pure 3 (.pure 4 (.pure 5 (.pure 6 (.pure 7 (.pure 8 (.pure 9 (.pure 10 (.pure 11 (.pure 12 (.pure 13 (.eff 14 [1] (.pure 15 (.eff 16 [1] (.eff 17 [] (.pure 18 (.eff 19 [] .fin .nil)) .nil) .nil)) .nil)))))))))))))))
abbrev qVY:OT:=(.pure 0 (.pure 1 (.pure 2 (.pure 3 (.pure 4 (.pure 5 (.pure 6 (.pure 7 (.pure 8 (.eff 9 [] (.eff 10 [] (.pure 11 .fin) .nil) .nil))))))))))
abbrev qVX:OT:=(.pure 0 (.pure 1 (.pure 2 (.pure 3 (.pure 4 (.pure 5 (.pure 6 (.pure 7 (.pure 8 (.pure 9 (.eff 10 [1] (.pure 11 (.eff 12 [1] (.eff 13 [] (.pure 14 (.eff 15 [] .fin .nil)) .nil) .nil)) .nil)))))))))))
def PqQ (r:PEnd):Prop:=∃ (Y:List (List PV)) (n k:Nat),r=.ret [.agg [.lsts 6 Y]]∧PgS Y n k∧n≤30∧k≤1300
structure LkS (l:List Kn) (i:Nat):Prop where
 ok:∀ k∈l,KnS k
 len:l.length=i
theorem LkS.snoc {l:List Kn} {i:Nat} {k:Kn} (h:LkS l i) (hk:KnS k):LkS (l++[k]) (i+1):=by
 refine⟨fun x hx=>?_,by rw [List.length_append,h.len];rfl⟩
 rcases List.mem_append.1 hx with hx | hx
 ·exact h.ok x hx
 ·rw [List.mem_singleton.1 hx];exact hk
def nmI (i:Nat):List UInt8:=(([97,98,99,100]:List UInt8).drop i).take (i+1 - i)
theorem qVc:∀ i,i<4→qAp (nmI i)=true∧(nmI i).length=1:=by decide
theorem qOO {C:Cx} {g:FuncId} {pargs:List PV} {args:List AV} {H:Hp} {Q0 Q:AE→Hp→Prop} (h:Holds C g (pargs.map .p) ⟨0,[]⟩ Q0) (fs:List Nat) (hm:qA6 H.l fs=true) (ha:qCt (Res (marks H.l fs) 5) args pargs)
  (hQ:∀ e0 H0',Q0 e0 H0'→(qEx H0'.l && qQZ e0)=true∧qNV H0'.l∧∃ e H2,qRl (qBc 0 [] 0 H.next) e0=e∧(⟨H.next+H0'.next,qRk (qBc 0 [] 0 H.next) H0'.l++H.l⟩:Hp)=H2∧Q e H2):Holds C g args H Q:=
 h.lendN fs hm ha fun e0 H0 hq=>by
  obtain⟨h1,h2,e,H2,rfl,rfl,h3⟩:=hQ e0 H0 hq
  exact⟨h1,h2,h3⟩
theorem qN9 (d:Dp) (hd:d.ok):Pure cx 10 [.agg d.cells] PqQ:=by
 refine qAB Tryz.func10 rfl rfl rfl ?_
 obtain⟨gr,pt,ns,ch,gs,cz⟩:=d
 obtain⟨hd1,hd2,hd3,hd4⟩:=hd
 simp only [] at hd1 hd2 hd3 hd4
 have hns:(ns.map Pt.cells).length=ns.length:=List.length_map ..
 have hgs:(gs.map Pt.cells).length=gs.length:=List.length_map ..
 have hgr:=gr.toNat_lt
 have hpt:=pt.toNat_lt
 refine qAf qXd (by kernel_rfl) ?_
 refine⟨by decide,?_⟩
 refine⟨((gr.toNat % 12:Nat):Int),by show _=IntKind.i64.wrap ((gr.toNat:Int).tmod 12);rw [show(gr.toNat:Int).tmod 12=((gr.toNat % 12:Nat):Int) from rfl];exact w6z,?_⟩
 obtain⟨g,hge⟩:∃ g:Int,g=1+((gr.toNat % 12:Nat):Int):=⟨_,rfl⟩
 refine⟨g,by rw [hge];exact w6z,?_⟩
 refine⟨by decide,?_⟩
 refine⟨((pt.toNat % 2:Nat):Int),by show _=IntKind.i64.wrap ((pt.toNat:Int).tmod 2);rw [show(pt.toNat:Int).tmod 2=((pt.toNat % 2:Nat):Int) from rfl];exact w6z,?_⟩
 obtain⟨sz,hse⟩:∃ s:Int,s=1+((pt.toNat % 2:Nat):Int):=⟨_,rfl⟩
 refine⟨sz,by rw [hse];exact w6z,?_⟩
 have hg:1≤g∧g≤12:=by omega
 have hs:sz=1∨sz=2:=by omega
 clear hge hse
 have hp2:=qVU (g:=g) (s:=sz) (by omega) (by omega)
 refine⟨Nat × List (List PV) × List Kn,fun x=>[(1, .ptr 0 0 0),(2, .ptr 1 0 0),(3, .p (i64 g)),(4, .p (i64 sz)),(5, .ptr 3 0 0),(6, .sl 4 3 0 x.1),(7, .p (i64 x.1))],fun x=>⟨5,[(4,kwO x.2.2),(3,s1O (.sl 2 6 0 (2+x.1))),(2,dyO x.2.1),(1,s1O (.p .nils)),(0,dpO ⟨gr,pt,ns,ch,gs,cz⟩)]⟩,fun x=>x.1≤4∧PgS x.2.1 (2+x.1) (22+201 * x.1)∧LkS x.2.2 x.1,fun x=>4 - x.1,?_,?_⟩
 ·exact⟨(0,_,[]),⟨by show 0≤4;decide,hp2,⟨fun k hk=>(by cases hk),rfl⟩⟩,qAC [] [] [(4,3)] rfl (sk) (sk) rfl⟩
 rintro⟨i,Y,l⟩ ⟨k1,k2,k3⟩
 simp only [] at k1 k2 k3
 have hY:=k2.len
 have hL:=k3.len
 by_cases ha:i<ns.length∧i<4
 rotate_left
 ·cases cz
  ·by_cases hi:i<ns.length
   ·refine And.intro (fun _=>?_) (fun h=>absurd (show(i:Int)<((ns.map Pt.cells).length:Nat) by rw [hns];omega) h)
    refine And.intro (fun h=>absurd (show(i:Int)<4 from h) (by omega)) (fun _=>?_)
    exact qAF (.agg [.lsts 6 Y]) rfl ⟨_,rfl,_,_,rfl,⟨_,rfl,by show 0+(2+i)≤Y.length;omega,qAD (by omega)⟩,rfl⟩ ⟨_,_,_,rfl,k2,by omega,by omega⟩
   ·refine And.intro (fun h=>absurd (show(i:Int)<((ns.map Pt.cells).length:Nat) from h) (by rw [hns];omega)) (fun _=>?_)
    exact qAF (.agg [.lsts 6 Y]) rfl ⟨_,rfl,_,_,rfl,⟨_,rfl,by show 0+(2+i)≤Y.length;omega,qAD (by omega)⟩,rfl⟩ ⟨_,_,_,rfl,k2,by omega,by omega⟩
  ·by_cases hi:i<ns.length
   ·refine And.intro (fun _=>?_) (fun h=>absurd (show(i:Int)<((ns.map Pt.cells).length:Nat) by rw [hns];omega) h)
    refine And.intro (fun h=>absurd (show(i:Int)<4 from h) (by omega)) (fun _=>?_)
    refine qOO (pargs:=[.agg (ch).cells, .lsts 3 ((l).map Kn.cells), .bool false,i64 sz]) (qGE ch (l) (k3).ok (by have:=(k3).len;omega) false sz hs).holds [4] rfl ⟨_,_,rfl,rfl,_,_,rfl,⟨_,rfl,by show 0+(i)≤((l).map Kn.cells).length;rw [List.length_map];have:=(k3).len;omega,qAD (by rw [List.length_map];have:=(k3).len;omega)⟩,_,_,rfl,rfl,_,_,rfl,rfl,rfl⟩ fun e0 H0 hq=>?_
    obtain⟨rs,cs,rfl,rfl,hrc⟩:=hq
    refine⟨rfl,⟨qEi _,qGP _,trivial⟩,_,⟨7,(5,qPO rs)::(6,iO cs)::[(4,kwO l),(3,s1O (.sl 2 6 0 (2+i))),(2,dyO Y),(1,s1O (.p .nils)),(0,dpO ⟨gr,pt,ns,ch,gs,true⟩)]⟩,rfl,rfl,?_⟩
    refine⟨by show 0+1≤1;omega,_,rfl, .inl ⟨[5],[[i64 4,i64 2, .str [101], .str [],qBu rs, .nils]],rfl,⟨_,_,rfl,⟨_,_,rfl,rfl,_,_,rfl,rfl,_,_,rfl,rfl,_,_,rfl,rfl,_,_,rfl,⟨_,rfl,by show 0+rs.length≤(rs.map Rf.cells).length;simp,qAD (by simp)⟩,_,_,rfl,(by first | exact rfl | exact .inl rfl),rfl⟩,rfl⟩,?_⟩⟩
    refine⟨by show 0+(2+i)≤Y.length;omega,Y,qAD (by omega),by show(2+i+1) * 96≤140737488355328;omega,Y++[[i64 4,i64 2, .str [101], .str [],qBu rs, .nils]],rfl,?_⟩
    refine⟨by show 0+1≤1;omega,[((Kn.mk [101] 2 false)).cells],rfl,?_⟩
    refine⟨by show 0+i≤(l.map Kn.cells).length;rw [List.length_map];omega,l.map Kn.cells,qAD (by rw [List.length_map];omega),by show(i+1) * 32≤140737488355328;omega,(l++[(Kn.mk [101] 2 false)]).map Kn.cells,by simp,?_⟩
    have k4:=k2.snoc (d:=⟨4,2,[101],[],rs,[]⟩) (qM7 (NilD.refl _) (qId 11)) (qKm (n:=2) (nm:=[101]) (by decide) (by decide) (by decide) hrc.refs hrc.len)
    have k5:LkS (l++[Kn.mk [101] 2 false]) (i+1):=k3.snoc ⟨by show qAp [101]=true;decide,rfl, .inl rfl⟩
    clear k2 k3 hp2 ha hY hL
    generalize Y++[[i64 4,i64 2, .str [101], .str [],qBu rs, .nils]]=Y at k4 ⊢
    generalize l++[Kn.mk [101] 2 false]=l at k5 ⊢
    refine⟨Nat × List (List PV),fun x=>[(1, .ptr 0 0 0),(2, .ptr 1 0 0),(4, .p (i64 sz)),(5, .ptr 3 0 0),(6, .sl 4 3 0 (i+1)),(15, .p (i64 x.1))],fun x=>⟨5,[(4,kwO l),(3,s1O (.sl 2 6 0 (2+i+1+x.1))),(2,dyO x.2),(1,s1O (.p .nils)),(0,dpO ⟨gr,pt,ns,ch,gs,true⟩)]⟩,fun x=>x.1≤2∧PgS x.2 (2+i+1+x.1) (22+201 * i+33+192 * x.1),fun x=>2 - x.1,?_,?_⟩
    ·exact⟨(0,Y),⟨by show 0≤2;decide,k4⟩,qAC [] [(2,8),(4,10)] [] rfl (sk) (sk) rfl⟩
    rintro⟨j,Y⟩ ⟨j1,k2⟩
    simp only [] at j1 k2
    have hY:=k2.len
    by_cases hb:j<gs.length∧j<2
    rotate_left
    ·by_cases hj:j<gs.length
     ·refine And.intro (fun _=>?_) (fun h=>absurd (show(j:Int)<((gs.map Pt.cells).length:Nat) by rw [hgs];omega) h)
      refine And.intro (fun h=>absurd (show(j:Int)<2 from h) (by omega)) (fun _=>?_)
      exact qAF (.agg [.lsts 6 Y]) rfl ⟨_,rfl,_,_,rfl,⟨_,rfl,by show 0+(2+i+1+j)≤Y.length;omega,qAD (by omega)⟩,rfl⟩ ⟨_,_,_,rfl,k2,by omega,by omega⟩
     ·refine And.intro (fun h=>absurd (show(j:Int)<((gs.map Pt.cells).length:Nat) from h) (by rw [hgs];omega)) (fun _=>?_)
      exact qAF (.agg [.lsts 6 Y]) rfl ⟨_,rfl,_,_,rfl,⟨_,rfl,by show 0+(2+i+1+j)≤Y.length;omega,qAD (by omega)⟩,rfl⟩ ⟨_,_,_,rfl,k2,by omega,by omega⟩
    obtain⟨hj,hj2⟩:=hb
    have hcell:=qPg hj
    have hpc:=hd4 _ (qAK pt0 hj)
    generalize gs.getD j pt0=p at hcell hpc
    obtain⟨kind,card,frm,modes,pl,ps,x,y,z⟩:=p
    refine And.intro (fun _=>?_) (fun h=>absurd (show(j:Int)<((gs.map Pt.cells).length:Nat) by rw [hgs];omega) h)
    refine And.intro (fun _=>?_) (fun h=>absurd (show(j:Int)<2 by omega) h)
    refine⟨_,⟨by omega,(Pt.mk kind card frm modes pl ps x y z).cells,hcell,rfl⟩,?_⟩
    refine qOO (pargs:=[.agg ((Pt.mk kind card frm modes pl ps x y z)).cells, .lsts 3 ((l).map Kn.cells), .bool false,i64 sz]) (qGE (Pt.mk kind card frm modes pl ps x y z) (l) (k5).ok (by have:=(k5).len;omega) false sz hs).holds [4] rfl ⟨_,_,rfl,rfl,_,_,rfl,⟨_,rfl,by show 0+(i+1)≤((l).map Kn.cells).length;rw [List.length_map];have:=(k5).len;omega,qAD (by rw [List.length_map];have:=(k5).len;omega)⟩,_,_,rfl,rfl,_,_,rfl,rfl,rfl⟩ fun e0 H0 hq=>?_
    obtain⟨rs,cs,rfl,rfl,hrc⟩:=hq
    refine⟨rfl,⟨qEi _,qGP _,trivial⟩,_,⟨7,(5,qPO rs)::(6,iO cs)::[(4,kwO l),(3,s1O (.sl 2 6 0 (2+i+1+j))),(2,dyO Y),(1,s1O (.p .nils)),(0,dpO ⟨gr,pt,ns,ch,gs,true⟩)]⟩,rfl,rfl,?_⟩
    refine qAf qVX (by kernel_rfl) ?_
    refine⟨_,⟨by omega,(Pt.mk kind card frm modes pl ps x y z).cells,hcell,rfl⟩,?_⟩
    refine(qG3 _ rs cs hrc 0 0 ⟨.inl ⟨rfl,rfl⟩⟩ hpc).use [5,6] rfl ⟨_,_,rfl,rfl,_,_,rfl,⟨_,rfl,by show 0+rs.length≤(rs.map Rf.cells).length;simp,qAD (by simp)⟩,_,_,rfl,⟨_,rfl,by show 0+cs.length≤(cs.map i64).length;simp,qAD (by simp)⟩,_,_,rfl,rfl,_,_,rfl,rfl,rfl⟩ fun r hr=>?_
    obtain⟨L,rfl,hLs⟩:=hr
    refine⟨⟨rfl,trivial⟩,?_⟩
    refine⟨⟨rfl,trivial⟩,?_⟩
    refine⟨by show 0+1≤1;omega,_,rfl, .inl ⟨[],[[i64 5,i64 0, .str [], .str [],qBu rs,(css L)]],rfl,⟨_,_,rfl,⟨_,_,rfl,rfl,_,_,rfl,rfl,_,_,rfl,rfl,_,_,rfl,rfl,_,_,rfl,⟨_,rfl,by show 0+rs.length≤(rs.map Rf.cells).length;simp,qAD (by simp)⟩,_,_,rfl,(by first | exact rfl | exact .inl rfl),rfl⟩,rfl⟩,?_⟩⟩
    refine⟨by show 0+(2+i+1+j)≤Y.length;omega,Y,qAD (by omega),by show(2+i+1+j+1) * 96≤140737488355328;omega,Y++[[i64 5,i64 0, .str [], .str [],qBu rs,(css L)]],rfl,?_⟩
    refine⟨((j+1:Nat):Int),by rw [Int.natCast_add];exact w6z,?_⟩
    exact⟨(j+1,Y++[[i64 5,i64 0, .str [], .str [],qBu rs,css L]]),⟨by show j+1≤2;omega,(k2.snoc (d:=⟨5,0,[],[],rs,L⟩) (NilDL.refl _) (qQV hrc.refs hrc.len hLs)).le (by show 22+201 * i+33+192 * j+192≤22+201 * i+33+192 * (j+1);omega)⟩,qAC [] [(2,8)] [] rfl (sk) (sk) rfl,by show 2 - (j+1)<2 - j;omega⟩
   ·refine And.intro (fun h=>absurd (show(i:Int)<((ns.map Pt.cells).length:Nat) from h) (by rw [hns];omega)) (fun _=>?_)
    refine qOO (pargs:=[.agg (ch).cells, .lsts 3 ((l).map Kn.cells), .bool false,i64 sz]) (qGE ch (l) (k3).ok (by have:=(k3).len;omega) false sz hs).holds [4] rfl ⟨_,_,rfl,rfl,_,_,rfl,⟨_,rfl,by show 0+(i)≤((l).map Kn.cells).length;rw [List.length_map];have:=(k3).len;omega,qAD (by rw [List.length_map];have:=(k3).len;omega)⟩,_,_,rfl,rfl,_,_,rfl,rfl,rfl⟩ fun e0 H0 hq=>?_
    obtain⟨rs,cs,rfl,rfl,hrc⟩:=hq
    refine⟨rfl,⟨qEi _,qGP _,trivial⟩,_,⟨7,(5,qPO rs)::(6,iO cs)::[(4,kwO l),(3,s1O (.sl 2 6 0 (2+i))),(2,dyO Y),(1,s1O (.p .nils)),(0,dpO ⟨gr,pt,ns,ch,gs,true⟩)]⟩,rfl,rfl,?_⟩
    refine⟨by show 0+1≤1;omega,_,rfl, .inl ⟨[5],[[i64 4,i64 2, .str [101], .str [],qBu rs, .nils]],rfl,⟨_,_,rfl,⟨_,_,rfl,rfl,_,_,rfl,rfl,_,_,rfl,rfl,_,_,rfl,rfl,_,_,rfl,⟨_,rfl,by show 0+rs.length≤(rs.map Rf.cells).length;simp,qAD (by simp)⟩,_,_,rfl,(by first | exact rfl | exact .inl rfl),rfl⟩,rfl⟩,?_⟩⟩
    refine⟨by show 0+(2+i)≤Y.length;omega,Y,qAD (by omega),by show(2+i+1) * 96≤140737488355328;omega,Y++[[i64 4,i64 2, .str [101], .str [],qBu rs, .nils]],rfl,?_⟩
    refine⟨by show 0+1≤1;omega,[((Kn.mk [101] 2 false)).cells],rfl,?_⟩
    refine⟨by show 0+i≤(l.map Kn.cells).length;rw [List.length_map];omega,l.map Kn.cells,qAD (by rw [List.length_map];omega),by show(i+1) * 32≤140737488355328;omega,(l++[(Kn.mk [101] 2 false)]).map Kn.cells,by simp,?_⟩
    have k4:=k2.snoc (d:=⟨4,2,[101],[],rs,[]⟩) (qM7 (NilD.refl _) (qId 11)) (qKm (n:=2) (nm:=[101]) (by decide) (by decide) (by decide) hrc.refs hrc.len)
    have k5:LkS (l++[Kn.mk [101] 2 false]) (i+1):=k3.snoc ⟨by show qAp [101]=true;decide,rfl, .inl rfl⟩
    clear k2 k3 hp2 ha hY hL
    generalize Y++[[i64 4,i64 2, .str [101], .str [],qBu rs, .nils]]=Y at k4 ⊢
    generalize l++[Kn.mk [101] 2 false]=l at k5 ⊢
    refine⟨Nat × List (List PV),fun x=>[(1, .ptr 0 0 0),(2, .ptr 1 0 0),(4, .p (i64 sz)),(5, .ptr 3 0 0),(6, .sl 4 3 0 (i+1)),(15, .p (i64 x.1))],fun x=>⟨5,[(4,kwO l),(3,s1O (.sl 2 6 0 (2+i+1+x.1))),(2,dyO x.2),(1,s1O (.p .nils)),(0,dpO ⟨gr,pt,ns,ch,gs,true⟩)]⟩,fun x=>x.1≤2∧PgS x.2 (2+i+1+x.1) (22+201 * i+33+192 * x.1),fun x=>2 - x.1,?_,?_⟩
    ·exact⟨(0,Y),⟨by show 0≤2;decide,k4⟩,qAC [] [(2,8),(4,10)] [] rfl (sk) (sk) rfl⟩
    rintro⟨j,Y⟩ ⟨j1,k2⟩
    simp only [] at j1 k2
    have hY:=k2.len
    by_cases hb:j<gs.length∧j<2
    rotate_left
    ·by_cases hj:j<gs.length
     ·refine And.intro (fun _=>?_) (fun h=>absurd (show(j:Int)<((gs.map Pt.cells).length:Nat) by rw [hgs];omega) h)
      refine And.intro (fun h=>absurd (show(j:Int)<2 from h) (by omega)) (fun _=>?_)
      exact qAF (.agg [.lsts 6 Y]) rfl ⟨_,rfl,_,_,rfl,⟨_,rfl,by show 0+(2+i+1+j)≤Y.length;omega,qAD (by omega)⟩,rfl⟩ ⟨_,_,_,rfl,k2,by omega,by omega⟩
     ·refine And.intro (fun h=>absurd (show(j:Int)<((gs.map Pt.cells).length:Nat) from h) (by rw [hgs];omega)) (fun _=>?_)
      exact qAF (.agg [.lsts 6 Y]) rfl ⟨_,rfl,_,_,rfl,⟨_,rfl,by show 0+(2+i+1+j)≤Y.length;omega,qAD (by omega)⟩,rfl⟩ ⟨_,_,_,rfl,k2,by omega,by omega⟩
    obtain⟨hj,hj2⟩:=hb
    have hcell:=qPg hj
    have hpc:=hd4 _ (qAK pt0 hj)
    generalize gs.getD j pt0=p at hcell hpc
    obtain⟨kind,card,frm,modes,pl,ps,x,y,z⟩:=p
    refine And.intro (fun _=>?_) (fun h=>absurd (show(j:Int)<((gs.map Pt.cells).length:Nat) by rw [hgs];omega) h)
    refine And.intro (fun _=>?_) (fun h=>absurd (show(j:Int)<2 by omega) h)
    refine⟨_,⟨by omega,(Pt.mk kind card frm modes pl ps x y z).cells,hcell,rfl⟩,?_⟩
    refine qOO (pargs:=[.agg ((Pt.mk kind card frm modes pl ps x y z)).cells, .lsts 3 ((l).map Kn.cells), .bool false,i64 sz]) (qGE (Pt.mk kind card frm modes pl ps x y z) (l) (k5).ok (by have:=(k5).len;omega) false sz hs).holds [4] rfl ⟨_,_,rfl,rfl,_,_,rfl,⟨_,rfl,by show 0+(i+1)≤((l).map Kn.cells).length;rw [List.length_map];have:=(k5).len;omega,qAD (by rw [List.length_map];have:=(k5).len;omega)⟩,_,_,rfl,rfl,_,_,rfl,rfl,rfl⟩ fun e0 H0 hq=>?_
    obtain⟨rs,cs,rfl,rfl,hrc⟩:=hq
    refine⟨rfl,⟨qEi _,qGP _,trivial⟩,_,⟨7,(5,qPO rs)::(6,iO cs)::[(4,kwO l),(3,s1O (.sl 2 6 0 (2+i+1+j))),(2,dyO Y),(1,s1O (.p .nils)),(0,dpO ⟨gr,pt,ns,ch,gs,true⟩)]⟩,rfl,rfl,?_⟩
    refine qAf qVX (by kernel_rfl) ?_
    refine⟨_,⟨by omega,(Pt.mk kind card frm modes pl ps x y z).cells,hcell,rfl⟩,?_⟩
    refine(qG3 _ rs cs hrc 0 0 ⟨.inl ⟨rfl,rfl⟩⟩ hpc).use [5,6] rfl ⟨_,_,rfl,rfl,_,_,rfl,⟨_,rfl,by show 0+rs.length≤(rs.map Rf.cells).length;simp,qAD (by simp)⟩,_,_,rfl,⟨_,rfl,by show 0+cs.length≤(cs.map i64).length;simp,qAD (by simp)⟩,_,_,rfl,rfl,_,_,rfl,rfl,rfl⟩ fun r hr=>?_
    obtain⟨L,rfl,hLs⟩:=hr
    refine⟨⟨rfl,trivial⟩,?_⟩
    refine⟨⟨rfl,trivial⟩,?_⟩
    refine⟨by show 0+1≤1;omega,_,rfl, .inl ⟨[],[[i64 5,i64 0, .str [], .str [],qBu rs,(css L)]],rfl,⟨_,_,rfl,⟨_,_,rfl,rfl,_,_,rfl,rfl,_,_,rfl,rfl,_,_,rfl,rfl,_,_,rfl,⟨_,rfl,by show 0+rs.length≤(rs.map Rf.cells).length;simp,qAD (by simp)⟩,_,_,rfl,(by first | exact rfl | exact .inl rfl),rfl⟩,rfl⟩,?_⟩⟩
    refine⟨by show 0+(2+i+1+j)≤Y.length;omega,Y,qAD (by omega),by show(2+i+1+j+1) * 96≤140737488355328;omega,Y++[[i64 5,i64 0, .str [], .str [],qBu rs,(css L)]],rfl,?_⟩
    refine⟨((j+1:Nat):Int),by rw [Int.natCast_add];exact w6z,?_⟩
    exact⟨(j+1,Y++[[i64 5,i64 0, .str [], .str [],qBu rs,css L]]),⟨by show j+1≤2;omega,(k2.snoc (d:=⟨5,0,[],[],rs,L⟩) (NilDL.refl _) (qQV hrc.refs hrc.len hLs)).le (by show 22+201 * i+33+192 * j+192≤22+201 * i+33+192 * (j+1);omega)⟩,qAC [] [(2,8)] [] rfl (sk) (sk) rfl,by show 2 - (j+1)<2 - j;omega⟩
 obtain⟨hi,hi4⟩:=ha
 have hcell:=qPg hi
 have hpc:=hd3 _ (qAK pt0 hi)
 generalize ns.getD i pt0=p at hcell hpc
 obtain⟨kind,card,frm,modes,pl,ps,x,y,z⟩:=p
 have hcd:=card.toNat_lt
 have hnm:=qVc i hi4
 refine And.intro (fun _=>?_) (fun h=>absurd (show(i:Int)<((ns.map Pt.cells).length:Nat) by rw [hns];omega) h)
 refine And.intro (fun _=>?_) (fun h=>absurd (show(i:Int)<4 by omega) h)
 cases pl
 ·refine⟨_,⟨by omega,(Pt.mk kind card frm modes false ps x y z).cells,hcell,rfl⟩,?_⟩
  refine⟨by decide,?_⟩
  refine⟨((card.toNat % 2:Nat):Int),by show _=IntKind.i64.wrap ((card.toNat:Int).tmod 2);rw [show(card.toNat:Int).tmod 2=((card.toNat % 2:Nat):Int) from rfl];exact w6z,?_⟩
  obtain⟨kk,hkk⟩:∃ kk,kk=2+card.toNat % 2:=⟨_,rfl⟩
  refine⟨((kk:Nat):Int),by rw [hkk,Int.natCast_add];exact w6z,?_⟩
  refine qOO (pargs:=[.agg ((Pt.mk kind card frm modes false ps x y z)).cells, .lsts 3 ((l).map Kn.cells), .bool false,i64 sz]) (qGE (Pt.mk kind card frm modes false ps x y z) (l) (k3).ok (by have:=(k3).len;omega) false sz hs).holds [4] rfl ⟨_,_,rfl,rfl,_,_,rfl,⟨_,rfl,by show 0+(i)≤((l).map Kn.cells).length;rw [List.length_map];have:=(k3).len;omega,qAD (by rw [List.length_map];have:=(k3).len;omega)⟩,_,_,rfl,rfl,_,_,rfl,rfl,rfl⟩ fun e0 H0 hq=>?_
  obtain⟨rs,cs,rfl,rfl,hrc⟩:=hq
  refine⟨rfl,⟨qEi _,qGP _,trivial⟩,_,⟨8,(6,qPO rs)::(7,iO cs)::((5,ptO (Pt.mk kind card frm modes false ps x y z))::[(4,kwO l),(3,s1O (.sl 2 6 0 (2+i))),(2,dyO Y),(1,s1O (.p .nils)),(0,dpO ⟨gr,pt,ns,ch,gs,cz⟩)])⟩,rfl,rfl,?_⟩
  refine qAf qVZ (by kernel_rfl) ?_
  refine⟨((i+1:Nat):Int),by rw [Int.natCast_add];exact w6z,?_⟩
  refine⟨by show(0:Int)≤(i:Nat)∧((i:Nat):Int)≤((i+1:Nat):Int)∧((i+1:Nat):Int)≤4;omega,?_⟩
  refine(qG3 _ rs cs hrc kk g ⟨.inr ⟨by omega,hg⟩⟩ hpc).use [6,7] rfl ⟨_,_,rfl,rfl,_,_,rfl,⟨_,rfl,by show 0+rs.length≤(rs.map Rf.cells).length;simp,qAD (by simp)⟩,_,_,rfl,⟨_,rfl,by show 0+cs.length≤(cs.map i64).length;simp,qAD (by simp)⟩,_,_,rfl,rfl,_,_,rfl,rfl,rfl⟩ fun r hr=>?_
  obtain⟨L,rfl,hLs⟩:=hr
  refine⟨⟨rfl,trivial⟩,?_⟩
  refine⟨⟨rfl,trivial⟩,?_⟩
  refine⟨by show 0+1≤1;omega,_,rfl, .inl ⟨[],[[i64 3,i64 ((kk:Nat):Int), .str (nmI i), .str [],qBu rs,(css L)]],rfl,⟨_,_,rfl,⟨_,_,rfl,rfl,_,_,rfl,rfl,_,_,rfl,rfl,_,_,rfl,rfl,_,_,rfl,⟨_,rfl,by show 0+rs.length≤(rs.map Rf.cells).length;simp,qAD (by simp)⟩,_,_,rfl,(by first | exact rfl | exact .inl rfl),rfl⟩,rfl⟩,?_⟩⟩
  refine⟨by show 0+(2+i)≤Y.length;omega,Y,qAD (by omega),by show(2+i+1) * 96≤140737488355328;omega,Y++[[i64 3,i64 ((kk:Nat):Int), .str (nmI i), .str [],qBu rs,(css L)]],rfl,?_⟩
  refine qAf qVY (by kernel_rfl) ?_
  refine⟨((i+1:Nat):Int),by rw [Int.natCast_add];exact w6z,?_⟩
  refine⟨by show(0:Int)≤(i:Nat)∧((i:Nat):Int)≤((i+1:Nat):Int)∧((i+1:Nat):Int)≤4;omega,?_⟩
  refine⟨by show 0+1≤1;omega,[((Kn.mk (nmI i) ((kk:Nat):Int) false)).cells],rfl,?_⟩
  refine⟨by show 0+i≤(l.map Kn.cells).length;rw [List.length_map];omega,l.map Kn.cells,qAD (by rw [List.length_map];omega),by show(i+1) * 32≤140737488355328;omega,(l++[(Kn.mk (nmI i) ((kk:Nat):Int) false)]).map Kn.cells,by simp,?_⟩
  refine⟨((i+1:Nat):Int),by rw [Int.natCast_add];exact w6z,?_⟩
  exact⟨(i+1,Y++[[i64 3,i64 ((kk:Nat):Int), .str (nmI i), .str [],qBu rs,css L]],l++[Kn.mk (nmI i) ((kk:Nat):Int) false]),⟨by show i+1≤4;omega,(k2.snoc (d:=⟨3,((kk:Nat):Int),nmI i,[],rs,L⟩) (NilDL.refl _) (qPv (n:=((kk:Nat):Int)) (qCh (by omega) (by omega)) hnm.1 hnm.2 (.inl rfl) hrc.refs hrc.len hLs)).le (by show 22+201 * i+201≤22+201 * (i+1);omega),k3.snoc ⟨hnm.1,hnm.2,by show((kk:Nat):Int)=2∨((kk:Nat):Int)=3;omega⟩⟩,qAC [] [(2,9),(4,11)] [] rfl (sk) (sk) rfl,by show 4 - (i+1)<4 - i;omega⟩
 ·refine⟨_,⟨by omega,(Pt.mk kind card frm modes true ps x y z).cells,hcell,rfl⟩,?_⟩
  refine⟨by decide,?_⟩
  refine⟨((card.toNat % 2:Nat):Int),by show _=IntKind.i64.wrap ((card.toNat:Int).tmod 2);rw [show(card.toNat:Int).tmod 2=((card.toNat % 2:Nat):Int) from rfl];exact w6z,?_⟩
  refine⟨2+((card.toNat % 2:Nat):Int),w6z,?_⟩
  refine qOO (pargs:=[.agg ((Pt.mk kind card frm modes true ps x y z)).cells, .lsts 3 ((l).map Kn.cells), .bool true,i64 sz]) (qGE (Pt.mk kind card frm modes true ps x y z) (l) (k3).ok (by have:=(k3).len;omega) true sz hs).holds [4] rfl ⟨_,_,rfl,rfl,_,_,rfl,⟨_,rfl,by show 0+(i)≤((l).map Kn.cells).length;rw [List.length_map];have:=(k3).len;omega,qAD (by rw [List.length_map];have:=(k3).len;omega)⟩,_,_,rfl,rfl,_,_,rfl,rfl,rfl⟩ fun e0 H0 hq=>?_
  obtain⟨rs,cs,rfl,rfl,hrc⟩:=hq
  refine⟨rfl,⟨qEi _,qGP _,trivial⟩,_,⟨8,(6,qPO rs)::(7,iO cs)::((5,ptO (Pt.mk kind card frm modes true ps x y z))::[(4,kwO l),(3,s1O (.sl 2 6 0 (2+i))),(2,dyO Y),(1,s1O (.p .nils)),(0,dpO ⟨gr,pt,ns,ch,gs,cz⟩)])⟩,rfl,rfl,?_⟩
  refine qAf qVZ (by kernel_rfl) ?_
  refine⟨((i+1:Nat):Int),by rw [Int.natCast_add];exact w6z,?_⟩
  refine⟨by show(0:Int)≤(i:Nat)∧((i:Nat):Int)≤((i+1:Nat):Int)∧((i+1:Nat):Int)≤4;omega,?_⟩
  refine(qG3 _ rs cs hrc 2 g ⟨.inr ⟨by omega,hg⟩⟩ hpc).use [6,7] rfl ⟨_,_,rfl,rfl,_,_,rfl,⟨_,rfl,by show 0+rs.length≤(rs.map Rf.cells).length;simp,qAD (by simp)⟩,_,_,rfl,⟨_,rfl,by show 0+cs.length≤(cs.map i64).length;simp,qAD (by simp)⟩,_,_,rfl,rfl,_,_,rfl,rfl,rfl⟩ fun r hr=>?_
  obtain⟨L,rfl,hLs⟩:=hr
  refine⟨⟨rfl,trivial⟩,?_⟩
  refine⟨⟨rfl,trivial⟩,?_⟩
  refine⟨by show 0+1≤1;omega,_,rfl, .inl ⟨[],[[i64 3,i64 ((2:Nat):Int), .str (nmI i), .str [112],qBu rs,(css L)]],rfl,⟨_,_,rfl,⟨_,_,rfl,rfl,_,_,rfl,rfl,_,_,rfl,rfl,_,_,rfl,rfl,_,_,rfl,⟨_,rfl,by show 0+rs.length≤(rs.map Rf.cells).length;simp,qAD (by simp)⟩,_,_,rfl,(by first | exact rfl | exact .inl rfl),rfl⟩,rfl⟩,?_⟩⟩
  refine⟨by show 0+(2+i)≤Y.length;omega,Y,qAD (by omega),by show(2+i+1) * 96≤140737488355328;omega,Y++[[i64 3,i64 ((2:Nat):Int), .str (nmI i), .str [112],qBu rs,(css L)]],rfl,?_⟩
  refine qAf qVY (by kernel_rfl) ?_
  refine⟨((i+1:Nat):Int),by rw [Int.natCast_add];exact w6z,?_⟩
  refine⟨by show(0:Int)≤(i:Nat)∧((i:Nat):Int)≤((i+1:Nat):Int)∧((i+1:Nat):Int)≤4;omega,?_⟩
  refine⟨by show 0+1≤1;omega,[((Kn.mk (nmI i) ((2:Nat):Int) true)).cells],rfl,?_⟩
  refine⟨by show 0+i≤(l.map Kn.cells).length;rw [List.length_map];omega,l.map Kn.cells,qAD (by rw [List.length_map];omega),by show(i+1) * 32≤140737488355328;omega,(l++[(Kn.mk (nmI i) ((2:Nat):Int) true)]).map Kn.cells,by simp,?_⟩
  refine⟨((i+1:Nat):Int),by rw [Int.natCast_add];exact w6z,?_⟩
  exact⟨(i+1,Y++[[i64 3,i64 ((2:Nat):Int), .str (nmI i), .str [112],qBu rs,css L]],l++[Kn.mk (nmI i) ((2:Nat):Int) true]),⟨by show i+1≤4;omega,(k2.snoc (d:=⟨3,((2:Nat):Int),nmI i,[112],rs,L⟩) (NilDL.refl _) (qPv (n:=((2:Nat):Int)) (qCh (by omega) (by omega)) hnm.1 hnm.2 (.inr rfl) hrc.refs hrc.len hLs)).le (by show 22+201 * i+201≤22+201 * (i+1);omega),k3.snoc ⟨hnm.1,hnm.2,by show((2:Nat):Int)=2∨((2:Nat):Int)=3;omega⟩⟩,qAC [] [(2,9),(4,11)] [] rfl (sk) (sk) rfl,by show 4 - (i+1)<4 - i;omega⟩
theorem qPi (d:Dp) (hd:d.ok):Pure cx 10 [.agg d.cells] fun r=>∃ ds,r=.ret [qEo ds]∧DrP ds:=
 (qN9 d hd).weak fun r hr=>by
  obtain⟨Y,n,k,rfl,h1,h2,h3⟩:=hr
  obtain⟨ds,g1,g2,g3⟩:=h1.ds
  refine⟨.ret [qEo ds],⟨_,rfl,_,_,rfl,?_,rfl⟩,ds,rfl,g2.fin (by omega) h3⟩
  show NilD (.agg [.lsts 6 Y]) (.agg [.lsts 6 (ds.map De.cells)])
  simp only [NilD,NilDL]
  exact⟨_,rfl,_,_,rfl,⟨_,rfl,g1⟩,rfl⟩
structure Ed where
 place:UInt16
 cut:UInt16
 kind:UInt8
abbrev Ed.cells (E:Ed):List PV:=[.int .u16 (E.place.toNat:Nat), .int .u16 (E.cut.toNat:Nat),u8 E.kind]
abbrev Ed.pv (E:Ed):PV:=.agg E.cells
def someL:List (List UInt8):=[[],[32],[32,59,32],[32,44,32],[32,58,32],[32,123,32],[32,125,32],[32,40,32],[32,41,32],[32,91,32],[32,93,32],[32,61,32],[32,45,32],[32,43,32],[32,105,110,32],[32,110,111,116,32],[32,97,110,100,32],[32,111,114,32],[32,101,108,115,101,32],[32,97,108,108,32],[32,99,111,117,110,116,32],[32,120,32],[32,55,32],[32,63,32]]
theorem qNZ (E:Ed) (s:List UInt8) (hs:s.length≤100000):Pure cx 21 [E.pv, .str s] fun r=>∃ (a b:Nat) (w:List UInt8),a≤b∧w∈someL∧r=.ret [.str ((s.take a++w)++s.drop b)]:=by
 refine qAB Tryz.func21 rfl rfl rfl ?_
 have hk:E.kind.toNat<256:=E.kind.toNat_lt
 have ha:E.place.toNat<65536:=E.place.toNat_lt
 have hc:E.cut.toNat<65536:=E.cut.toNat_lt
 obtain⟨w,hw⟩:∃ w,w=someL.getD (E.kind.toNat % 24) []:=⟨_,rfl⟩
 have hmem:w∈someL:=by rw [hw];exact qAK [] (by show _<24;omega)
 have hwl:w.length≤14:=by
  have:∀ v∈someL,v.length≤14:=by decide
  rw [hw]
  exact this _ (qAK [] (by show _<24;omega))
 have e1:((E.kind.toNat:Nat):Int).tmod 24=((E.kind.toNat % 24:Nat):Int):=rfl
 refine⟨by decide,?_⟩
 refine⟨_,⟨⟨by show(0:Int)≤((E.kind.toNat:Nat):Int).tmod 24;rw [e1];omega,by show((E.kind.toNat:Nat):Int).tmod 24<24;rw [e1];omega⟩, .str w,qKY (by kernel_rfl) (by show(someL.map PV.str)[(((E.kind.toNat:Nat):Int).tmod 24).toNat * 1]?=_;rw [e1,hw,Int.toNat_natCast,Nat.mul_one];exact qTS (l:=someL) (by show _<24;omega)),rfl⟩,?_⟩
 refine⟨((E.place.toNat:Nat):Int),w6z,?_⟩
 refine⟨((s.length+1:Nat):Int),by rw [Int.natCast_add];exact w6z,?_⟩
 refine⟨by omega,?_⟩
 obtain⟨a,hA⟩:∃ a,a=E.place.toNat % (s.length+1):=⟨_,rfl⟩
 have hal:a<s.length+1:=by rw [hA];exact Nat.mod_lt _ (by omega)
 have e2:((E.place.toNat:Nat):Int).tmod ((s.length+1:Nat):Int)=(a:Nat):=by rw [hA];rfl
 have e3:((E.cut.toNat:Nat):Int).tmod 8=((E.cut.toNat % 8:Nat):Int):=rfl
 refine VDraw.seq rfl ?_
 refine⟨by show(0:Int)≤((E.place.toNat:Nat):Int).tmod ((s.length+1:Nat):Int)∧((E.place.toNat:Nat):Int).tmod ((s.length+1:Nat):Int)≤(s.length:Nat);rw [e2];omega,?_⟩
 have hm0:(((E.place.toNat:Nat):Int).tmod ((s.length+1:Nat):Int)).toNat=a:=by rw [e2];exact Int.toNat_natCast a
 refine⟨by show(s.take (((E.place.toNat:Nat):Int).tmod ((s.length+1:Nat):Int)).toNat).length+w.length≤9223372036854775807;rw [List.length_take];omega,?_⟩
 refine⟨by decide,?_⟩
 refine⟨((E.cut.toNat % 8:Nat):Int),by show _=IntKind.i64.wrap (((E.cut.toNat:Nat):Int).tmod 8);rw [e3];exact w6z,?_⟩
 refine⟨((a+E.cut.toNat % 8:Nat):Int),by show _=IntKind.i64.wrap (((E.place.toNat:Nat):Int).tmod ((s.length+1:Nat):Int)+((E.cut.toNat % 8:Nat):Int));rw [e2,← Int.natCast_add];exact w6z,?_⟩
 refine⟨by show(0:Int)≤(if ((a+E.cut.toNat % 8:Nat):Int)<(s.length:Nat) then((a+E.cut.toNat % 8:Nat):Int) else(s.length:Nat))∧(if ((a+E.cut.toNat % 8:Nat):Int)<(s.length:Nat) then((a+E.cut.toNat % 8:Nat):Int) else(s.length:Nat))≤(s.length:Nat);split <;> omega,?_⟩
 have hfin:∀ z:Int,(s.take (((E.place.toNat:Nat):Int).tmod ((s.length+1:Nat):Int)).toNat++w++s.drop z.toNat).length≤100000+100000+14:=fun z=>by
  rw [List.length_append,List.length_append,List.length_take,List.length_drop];omega
 refine⟨by have:=hfin (if ((a+E.cut.toNat % 8:Nat):Int)<(s.length:Nat) then((a+E.cut.toNat % 8:Nat):Int) else(s.length:Nat));rw [List.length_append] at this;exact Nat.le_trans this (by decide),?_⟩
 refine qAF _ rfl rfl ?_
 refine⟨a,(if ((a+E.cut.toNat % 8:Nat):Int)<(s.length:Nat) then((a+E.cut.toNat % 8:Nat):Int) else(s.length:Nat)).toNat,w,?_,hmem,?_⟩
 ·split <;> omega
 ·show PEnd.ret [.str ((s.take (((E.place.toNat:Nat):Int).tmod ((s.length+1:Nat):Int)).toNat++w)++s.drop (if ((a+E.cut.toNat % 8:Nat):Int)<(s.length:Nat) then((a+E.cut.toNat % 8:Nat):Int) else(s.length:Nat)).toNat)]=_
  rw [hm0]
theorem qNY {s w:List UInt8} {a b:Nat} (hw:w∈someL):((s.take a++w)++s.drop b).length≤2 * s.length+7:=by
 have:∀ v∈someL,v.length≤7:=by decide
 have:=this w hw
 rw [List.length_append,List.length_append,List.length_take,List.length_drop]
 omega
theorem qID:∀ (l c:Nat) (ds:List Dr),∀ w∈qDW l c ds,w.text.length≤20
 | _,_,[],w,h=>by simp [qDW] at h
 | l,c,d::r,w,h=>by
  simp only [qDW,List.mem_cons] at h
  rcases h with rfl | h
  ·have:=qMV d (qC9 d)
   show(qCj d (qC9 d)).length≤20
   omega
  ·exact qID _ _ r w h
theorem qR4 (l:List Wd):(qFF l).1.length≤8000:=by
 unfold qFF
 split
 ·simp
 ·split
  ·simp
  ·split
   ·simp
   ·split
    ·simp
    ·rename_i h
     split
     ·split
      ·dsimp only
       omega
      ·simp
     ·simp
abbrev otR:OT:=(.pure 0 (.pure 1 (.pure 2 (.pure 3 (.pure 4 (.pure 5 (.pure 6 (.pure 7 (.pure 8 (.pure 10 (.pure 11 (.pure 12 (.pure 15 (.pure 16 (.pure 17 (.pure 20 (.eff 9 [16,11,10,3,2] (.eff 13 [16,10,3,2] (.eff 14 [16,3,2] (.eff 18 [3,2] (.pure 19 .fin) .nil) .nil) .nil) .nil)))))))))))))))))
theorem qKL (raw:List UInt8) (l:List Dr) (d:Dp) (x y:Ed) (c:List UInt8) (hr:raw.length≤9223372036854775807) (hl:l.length≤9223372036854775807) (hd:d.ok) (hc:c.length≤9223372036854775807):Pure cx 4 [.str raw, .lsts 6 (l.map Dr.cells), .agg d.cells,x.pv,y.pv, .lst (c.map u8)] (·=.ret [.bool true]):=by
 refine qAB Tryz.func4 rfl rfl rfl ?_
 have hl':(l.map Dr.cells).length=l.length:=List.length_map ..
 obtain⟨k,hk⟩:∃ k,k=min l.length 40:=⟨_,rfl⟩
 have em:(if (40:Int)<((l.map Dr.cells).length:Nat) then(40:Int) else((l.map Dr.cells).length:Nat))=(k:Nat):=by
  rw [hl',hk];split <;> omega
 obtain⟨j,hj⟩:∃ j,j=min raw.length 200:=⟨_,rfl⟩
 have ej:(if (200:Int)<(raw.length:Nat) then(200:Int) else(raw.length:Nat))=(j:Nat):=by
  rw [hj];split <;> omega
 have hW:=qOm (l.take k)
 have ea:[PV.lsts 6 ((l.take k).map Dr.cells)]=[PV.lsts 6 ((l.map Dr.cells).take (if (40:Int)<((l.map Dr.cells).length:Nat) then(40:Int) else((l.map Dr.cells).length:Nat)).toNat)]:=by
  rw [em,List.map_take];rfl
 rw [ea] at hW
 have hJ:=qTl (qDW 1 1 ((l.take k).take 200)) fun w hw=>by have:=qID _ _ _ w hw;omega
 have hJl:=qR4 (qDW 1 1 ((l.take k).take 200))
 generalize qDW 1 1 ((l.take k).take 200)=ws at hW hJ hJl
 rw [qR5] at hJ
 generalize (qFF ws).1=words at hJ hJl
 generalize (qFF ws).2=we at hJ
 refine⟨by show(0:Int)≤(if (40:Int)<((l.map Dr.cells).length:Nat) then(40:Int) else((l.map Dr.cells).length:Nat))∧(if (40:Int)<((l.map Dr.cells).length:Nat) then(40:Int) else((l.map Dr.cells).length:Nat))≤((l.map Dr.cells).length:Nat);rw [em,hl'];omega,?_⟩
 refine hW.eq rfl ?_
 refine hJ.eq rfl ?_
 refine(qPi d hd).at fun r hr=>?_
 obtain⟨ds,rfl,hds⟩:=hr
 refine(qQv ds hds.valid).eq rfl ?_
 refine(qU2 c hc).at fun r hr=>?_
 obtain⟨cd,n,rfl,hs,hn⟩:=hr
 have hw:=qNu hs hn
 refine(qQv [qDl cd] hw.valid).eq rfl ?_
 have hsl:=hds.txt
 have htl:=hw.txt
 generalize qCA ds=s at hsl ⊢
 generalize qCA [qDl cd]=t at htl ⊢
 clear hds hw hs hn hW hJ
 refine qAf otR (by kernel_rfl) ?_
 refine⟨by show(0:Int)≤(if (200:Int)<(raw.length:Nat) then(200:Int) else(raw.length:Nat))∧(if (200:Int)<(raw.length:Nat) then(200:Int) else(raw.length:Nat))≤(raw.length:Nat);rw [ej];omega,?_⟩
 refine(qNZ x s (by omega)).at fun r hr=>?_
 obtain⟨a1,b1,w1,_,hw1,rfl⟩:=hr
 have l1:=qNY (s:=s) (a:=a1) (b:=b1) hw1
 generalize (s.take a1++w1)++s.drop b1=s1 at l1 ⊢
 refine⟨⟨rfl,rfl,rfl,rfl,rfl,trivial⟩,?_⟩
 refine(qNZ x s (by omega)).at fun r hr=>?_
 obtain⟨a2,b2,w2,_,hw2,rfl⟩:=hr
 have l2:=qNY (s:=s) (a:=a2) (b:=b2) hw2
 generalize (s.take a2++w2)++s.drop b2=s2 at l2 ⊢
 refine⟨⟨rfl,rfl,rfl,rfl,trivial⟩,?_⟩
 refine(qNZ y s2 (by omega)).at fun r hr=>?_
 obtain⟨a3,b3,w3,_,hw3,rfl⟩:=hr
 generalize (s2.take a3++w3)++s2.drop b3=s3
 refine⟨⟨rfl,rfl,rfl,trivial⟩,?_⟩
 refine(qNZ x t (by omega)).at fun r hr=>?_
 obtain⟨a4,b4,w4,_,hw4,rfl⟩:=hr
 generalize (t.take a4++w4)++t.drop b4=t1
 refine⟨⟨rfl,rfl,trivial⟩,?_⟩
 obtain⟨us,hus⟩:∃ us:List (List UInt8),us=[raw.take (if (200:Int)<(raw.length:Nat) then(200:Int) else(raw.length:Nat)).toNat,words,s,s1,s3,t,t1]:=⟨_,rfl⟩
 have hul:us.length=7:=by rw [hus];rfl
 refine⟨Nat,fun k=>[(62, .p (.agg (us.map .str))),(63, .p (i64 k))],fun _=>⟨0,[]⟩,fun k=>k≤7,fun k=>7 - k,?_,?_⟩
 ·refine⟨0,Nat.zero_le _,qAC [] [] [] rfl ?_ trivial rfl⟩
  rw [hus]
  exact⟨rfl,rfl,trivial⟩
 intro k hk
 clear hus
 (first | refine qAP (fun h1=>?_) (fun h1=>?_) | refine qAQ (fun h1=>?_) (fun h1=>?_) | refine qAR (fun h1=>?_) (fun h1=>?_))
 rotate_left
 ·refine works_c.eq rfl ?_
  exact qAF _ rfl rfl rfl
 have h1:(k:Int)<7:=h1
 have hcu:=qTS (l:=us) (k:=k) (by omega)
 generalize us.getD k []=u at hcu
 refine⟨_,⟨⟨by omega,by omega⟩, .str u,qKY (by kernel_rfl) (by show(us.map PV.str)[((k:Nat):Int).toNat * 1]?=_;rw [Int.toNat_natCast,Nat.mul_one];exact hcu),rfl⟩,?_⟩
 cases parS u with
 | no l c e h h1 h2 h3=>
  refine h1.eq rfl ?_
  refine h2.eq rfl ?_
  refine And.intro (fun _=>?_) (fun h=>absurd rfl h)
  refine And.intro (fun _=>?_) (fun h=>absurd rfl h)
  refine And.intro (fun _=>?_) (fun h=>absurd rfl h)
  refine h3.eq rfl ?_
  refine⟨((k+1:Nat):Int),by rw [Int.natCast_add];exact w6z,?_⟩
  exact⟨k+1,by show k+1≤7;omega,qAC [] [] [] rfl ⟨qPP _ _,rfl,trivial⟩ trivial rfl,by show 7 - (k+1)<7 - k;omega⟩
 | yes ds h h1 h2 h3=>
  refine h1.eq rfl ?_
  refine h2.eq rfl ?_
  refine And.intro (fun _=>?_) (fun h=>absurd rfl h)
  refine And.intro (fun _=>?_) (fun h=>absurd rfl h)
  refine And.intro (fun _=>?_) (fun h=>absurd rfl h)
  refine h3.eq rfl ?_
  refine⟨((k+1:Nat):Int),by rw [Int.natCast_add];exact w6z,?_⟩
  exact⟨k+1,by show k+1≤7;omega,qAC [] [] [] rfl ⟨qPP _ _,rfl,trivial⟩ trivial rfl,by show 7 - (k+1)<7 - k;omega⟩
end Go.Proofs.YtohfoaplnjcihaaGreatDoor
namespace Go.Proofs.YtohfoaplnjcihaaGreatDoor.Y
open Go
def partsOf (P:Program) (t:TypeId):Option (List (TypeId × Nat)):=
 match P.underlying t with
 | some (.struct fs)=>some (fs.toList.map fun f=>(f.type,f.offset))
 | some (.array k e)=>some ((List.range k).map fun i=>(e,i * P.cellsOf e))
 | _=>none
def qHE (P:Program):List (TypeId × Nat)→Nat→Option Nat
 | [],o=>some o
 | f::r,o=>if f.2=o then qHE P r (o+P.cellsOf f.1) else none
theorem qMU {P:Program}:∀ {l:List (TypeId × Nat)} {o n:Nat},qHE P l o=some n→o≤n
 | [],o,n,h=>by simp only [qHE,Option.some.injEq] at h;omega
 | f::r,o,n,h=>by
  simp only [qHE] at h
  split at h
  ·have:=qMU h;omega
  ·cases h
def basic:TypeDesc→Bool
 | .bool=>true
 | .int _=>true
 | .string=>true
 | _=>false
def qIH (P:Program):Nat→TypeId→Bool
 | 0,_=>false
 | n+1,t=>match partsOf P t with
  | some l=>decide (qHE P l 0=some (P.cellsOf t)) && l.all fun f=>qIH P n f.1
  | none=>match P.underlying t with
   | some (.slice e)=>decide (0<P.cellsOf e) && qIH P n e
   | some d=>basic d
   | none=>false
def qXH (P:Program) (p:TypeId→List PV→Prop):List (TypeId × Nat)→List PV→Prop
 | [],xs=>xs=[]
 | f::r,xs=>∃ ys zs,xs=ys++zs∧ys.length=P.cellsOf f.1∧p f.1 ys∧qXH P p r zs
def TyT (P:Program):Nat→TypeId→List PV→Prop
 | 0,_,_=>False
 | m+1,t,xs=>match partsOf P t with
  | some l=>qXH P (TyT P m) l xs
  | none=>match P.underlying t with
   | some .bool=>∃ b,xs=[.bool b]
   | some (.int k)=>∃ n,xs=[.int k n]∧(Lit.int k n).wf=true
   | some .string=>∃ s,xs=[.str s]∧s.length≤maxLen
   | some (.slice e)=>match Nat.beq (P.cellsOf e) 1 with
    | true=>∃ ys,xs=[.lst ys]∧ys.length≤maxLen∧∀ y∈ys,TyT P m e [y]
    | false=>∃ yss,xs=[.lsts (P.cellsOf e) yss]∧yss.length≤maxLen∧∀ ys∈yss,TyT P m e ys
   | _=>False
section
variable {H:Type} {enc:TypeId × Value→H} {P:Program} {W:World} {sp:Nat→Bool} {held:Bool}
theorem qGT {a:Addr} {n:Nat} {cs:List Value} (hn:0<n) (h:W.cells? 0 a n=some cs) :
  ∃ c t z,W.heap[a.block]?=some (.cells c t z)∧a.spot=none∧cs.length=n∧a.off+n≤c.toList.length∧cs=(c.toList.drop a.off).take n:=by
 unfold World.cells? at h
 rw [if_pos (Nat.zero_le _)] at h
 have hl:=mapM_some_length h
 rw [List.length_range] at hl
 have hg:∀ i,i<n→W.cell? (a.add i)=cs[i]?:=fun i hi=>mapM_some_get h i i (by simp [hi])
 have h0:=hg 0 hn
 have ha:a.add 0=a:=by simp [Addr.add]
 rw [ha,List.getElem?_eq_getElem (by omega)] at h0
 unfold World.cell? at h0
 split at h0
 ·rename_i c t z hb
  have hs:a.spot=none:=by
   cases hs:a.spot with
   | none=>rfl
   | some _=>simp [hs] at h0
  have hcell:∀ i,i<n→c[a.off+i]?=cs[i]?:=by
   intro i hi
   have:=hg i hi
   unfold World.cell? at this
   have hblk:(a.add i).block=a.block:=by unfold Addr.add;split <;> rfl
   have hsp:(a.add i).spot=none:=by unfold Addr.add;split <;> first | exact hs | rfl
   have hoff:(a.add i).off=a.off+i:=by unfold Addr.add;split <;> simp_all
   rw [hblk,hb] at this
   simp only [hsp,hoff] at this
   simpa using this
  have hlen:a.off+n≤c.toList.length:=by
   have:=hcell (n - 1) (by omega)
   rw [List.getElem?_eq_getElem (by omega)] at this
   have:=(Array.getElem?_eq_some_iff.1 this).1
   simp
   omega
  refine⟨c,t,z,hb,hs,hl,hlen,?_⟩
  refine List.ext_getElem? fun i=>?_
  by_cases hi:i<n
  ·rw [← hcell i hi,List.getElem?_take_of_lt hi,List.getElem?_drop]
   simp
  ·rw [List.getElem?_eq_none (by omega),List.getElem?_eq_none (by simp;omega)]
 ·cases h0
def qNs (fz:Fzn) (W:World):Prop:=∀ b c t z,W.heap[b]?=some (.cells c t z)→fz b=some c.toList
def Rd (P:Program) (fz:Fzn) (m:Nat) (t:TypeId) (cs:List Value):Prop:=∃ xs,VPL fz xs cs∧(∀ u∈cs,qBH u=true)∧TyT P m t xs
theorem qQY {fz:Fzn} {m:Nat} {cs:List Value}:∀ (l:List (TypeId × Nat)) (o:Nat),qHE P l o=some cs.length→(∀ f∈l,Rd P fz m f.1 ((cs.drop f.2).take (P.cellsOf f.1))) →
  ∃ xs,VPL fz xs (cs.drop o)∧(∀ u∈cs.drop o,qBH u=true)∧qXH P (TyT P m) l xs
 | [],o,ht,_=>by
  simp only [qHE,Option.some.injEq] at ht
  subst ht
  exact⟨[],by simp [VPL],by simp,rfl⟩
 | f::r,o,ht,hr=>by
  simp only [qHE] at ht
  split at ht
  ·rename_i ho
   have hle:=qMU ht
   obtain⟨ys,h1,h2,h3⟩:=hr f (by simp)
   obtain⟨zs,k1,k2,k3⟩:=qQY r (o+P.cellsOf f.1) ht fun g hg=>hr g (by simp [hg])
   rw [ho] at h1 h2
   have e:cs.drop o=(cs.drop o).take (P.cellsOf f.1)++cs.drop (o+P.cellsOf f.1):=by
    rw [← List.drop_drop,List.take_append_drop]
   refine⟨ys++zs,?_,?_,ys,zs,rfl,?_,h3,k3⟩
   ·rw [e];exact qEk h1 k1
   ·rw [e];intro u hu;rcases List.mem_append.1 hu with hu | hu
    ·exact h2 u hu
    ·exact k2 u hu
   ·rw [← qBA h1,List.length_take,List.length_drop];omega
  ·cases ht
theorem qIU {t:TypeId} {l:List (TypeId × Nat)} (hp:partsOf P t=some l) {n:Nat} {cs:List Value} {x:DataW H × List MemPlace} (h:DataW.trod enc P W 0 sp held n t cs=some x) :
  ∃ (xs:List (DataW H × List MemPlace)) (k:Nat),n=k+1∧x=(.agg (xs.map (·.1)),xs.flatMap (·.2))∧cs.length=P.cellsOf t∧xs.length=l.length ∧
   ∀ (i:Nat) (f:TypeId × Nat),l[i]?=some f→DataW.trod enc P W 0 sp held k f.1 ((cs.drop f.2).take (P.cellsOf f.1))=xs[i]?:=by
 unfold partsOf at hp
 split at hp
 ·rename_i fs hu
  injection hp with hp
  subst hp
  obtain⟨xs,k,h1,h2,h3,h4,h5⟩:=DataW.trod_struct hu h
  refine⟨xs,k,h1,h2,h3,by simpa using h4,fun i f hf=>?_⟩
  rw [List.getElem?_map,Option.map_eq_some_iff] at hf
  obtain⟨g,hg,rfl⟩:=hf
  exact h5 i g (by simpa using hg)
 ·rename_i k' e hu
  injection hp with hp
  subst hp
  obtain⟨xs,k,h1,h2,h3,h4,h5⟩:=DataW.trod_array hu h
  refine⟨xs,k,h1,h2,h3,by simpa using h4,fun i f hf=>?_⟩
  rw [List.getElem?_map,Option.map_eq_some_iff] at hf
  obtain⟨j,hj,rfl⟩:=hf
  have hi:=(List.getElem?_eq_some_iff.1 hj)
  obtain⟨hi,hj⟩:=hi
  simp at hi hj
  subst hj
  exact h5 i hi
 ·cases hp
theorem qKf {l:List (List PV)} (h:∀ cs∈l,cs.length=1):l.flatten.length=l.length∧∀ y∈l.flatten,[y]∈l:=by
 induction l with
 | nil=>simp
 | cons x r ih=>
  have hx:=h x (by simp)
  obtain⟨y,rfl⟩:∃ y,x=[y]:=by
   match x,hx with
   | [y],_=>exact⟨y,rfl⟩
  obtain⟨h1,h2⟩:=ih fun c hc=>h c (by simp [hc])
  refine⟨by simp [h1],fun z hz=>?_⟩
  simp at hz
  rcases hz with rfl | hz
  ·simp
  ·have:=h2 z (by simpa using hz)
   simp [this]
theorem qFU {fz:Fzn} (hfz:qNs fz W):∀ (m:Nat) (t:TypeId) (n:Nat) (cs:List Value) (x:DataW H × List MemPlace),qIH P m t=true→DataW.trod enc P W 0 sp held n t cs=some x→Rd P fz m t cs
 | 0,_,_,_,_,hs,_=>by simp [qIH] at hs
 | m+1,t,n,cs,x,hs,h=>by
  have ih:=qFU hfz m
  simp only [qIH] at hs
  cases hp:partsOf P t with
  | some l=>
   simp only [hp,Bool.and_eq_true,decide_eq_true_eq,List.all_eq_true] at hs
   obtain⟨xs,k,h1,h2,h3,h4,h5⟩:=qIU hp h
   obtain⟨ys,g1,g2,g3⟩:=qQY (fz:=fz) (m:=m) (cs:=cs) l 0 (by rw [h3];exact hs.1) fun f hf=>by
    obtain⟨i,hi,rfl⟩:=List.getElem_of_mem hf
    have:=h5 i _ (List.getElem?_eq_getElem hi)
    rw [List.getElem?_eq_getElem (by omega)] at this
    exact ih _ _ _ _ (hs.2 _ hf) this
   exact⟨ys,by simpa using g1,by simpa using g2,by simp only [TyT,hp];exact g3⟩
  | none=>
   simp only [hp] at hs
   cases hu:P.underlying t with
   | none=>simp [hu] at hs
   | some d=>
    simp only [hu] at hs
    cases d with
    | bool=>
     obtain⟨b,rfl,_⟩:=DataW.trod_bool hu h
     exact⟨[.bool b],by simp [VPL,VP],by simp [qBH],by simp [TyT,hp,hu]⟩
    | int k=>
     obtain⟨b,rfl,_,hw⟩:=DataW.trod_int hu h
     exact⟨[.int k b],by simp [VPL,VP],by simp [qBH],by simp [TyT,hp,hu,hw]⟩
    | string=>
     obtain⟨⟨⟨s⟩⟩,rfl,_,hw⟩:=DataW.trod_string hu h
     exact⟨[.str s],by simp [VPL,VP],by simp [qBH],by simp only [TyT,hp,hu];exact⟨s,rfl,hw⟩⟩
    | slice e=>
     simp only [Bool.and_eq_true,decide_eq_true_eq] at hs
     obtain⟨hs0,hse⟩:=hs
     have fin:∀ (v:Value) (len:Nat) (yss:List (List PV)),len≤maxLen→yss.length=len→(∀ ys∈yss,ys.length=P.cellsOf e∧TyT P m e ys)→qBH v=true →
       (yss=[]→∃ a c,v=.slice a 0 c)→(yss ≠ []→∃ b o c arr us,v=.slice (some ⟨b,o,none⟩) len c∧len≤c∧fz b=some arr∧qMJ fz (P.cellsOf e) yss us∧Seg arr o us)→Rd P fz (m+1) t [v]:=by
      intro v len yss hml hlen hty hpl hnil hcons
      by_cases h1:P.cellsOf e=1
      ·have hfl:=qKf (l:=yss) fun c hc=>by rw [(hty c hc).1,h1]
       refine⟨[.lst yss.flatten],?_,by simpa using hpl,?_⟩
       ·simp only [VPL]
        refine⟨v,[],rfl,?_,rfl⟩
        simp only [VP]
        by_cases hy:yss=[]
        ·exact .inl ⟨by simp [hy],hnil hy⟩
        ·obtain⟨b,o,c,arr,us,k1,k2,k3,k4,k5⟩:=hcons hy
         exact .inr ⟨b,o,c,arr,us,by rw [hfl.1,hlen];exact k1,by rw [hfl.1,hlen];exact k2,k3,(qBw.1 k4).1,k5⟩
       ·simp only [TyT,hp,hu,h1]
        exact⟨_,rfl,by rw [hfl.1,hlen];exact hml,fun y hy=>(hty _ (hfl.2 y hy)).2⟩
      ·refine⟨[.lsts (P.cellsOf e) yss],?_,by simpa using hpl,?_⟩
       ·simp only [VPL]
        refine⟨v,[],rfl,?_,rfl⟩
        simp only [VP]
        by_cases hy:yss=[]
        ·exact .inl ⟨hy,hnil hy⟩
        ·obtain⟨b,o,c,arr,us,k1,k2,k3,k4,k5⟩:=hcons hy
         exact .inr ⟨b,o,c,arr,us,by rw [hlen];exact k1,by rw [hlen];exact k2,k3,k4,k5⟩
       ·have hb:Nat.beq (P.cellsOf e) 1=false:=qFs h1
        simp only [TyT,hp,hu,hb]
        exact⟨_,rfl,by rw [hlen];exact hml,fun y hy=>(hty _ hy).2⟩
     rcases DataW.trod_slice hu h with ⟨rfl,_⟩ | ⟨a,len,cap,elems,rest,n',rfl,rfl,_,_,hlc,hcm,hel,hE,_,_⟩
     ·exact fin _ 0 [] (by simp [maxLen]) rfl (by simp) rfl (fun _=>⟨none,0,rfl⟩) (by simp)
     ·have hcs:∀ i,i<len→∃ cs',W.cells? 0 (a.add (i * P.cellsOf e)) (P.cellsOf e)=some cs'∧Rd P fz m e cs':=by
       intro i hi
       have:=hE i hi
       rw [List.getElem?_eq_getElem (by omega),Option.bind_eq_some_iff] at this
       obtain⟨cs',h1,h2⟩:=this
       exact⟨cs',h1,ih _ _ _ _ hse h2⟩
      by_cases hl0:len=0
      ·subst hl0
       exact fin _ 0 [] (by simp [maxLen]) rfl (by simp) rfl (fun _=>⟨_,_,rfl⟩) (by simp)
      ·obtain⟨cs0,c1,_⟩:=hcs 0 (by omega)
       have ha:a.add (0 * P.cellsOf e)=a:=by simp [Addr.add]
       rw [ha] at c1
       obtain⟨c,tt,z,hb,hsp,_,_,_⟩:=qGT hs0 c1
       have key:∀ k,k≤len→∃ yss us,yss.length=k∧qMJ fz (P.cellsOf e) yss us∧(∀ u∈us,qBH u=true)∧(∀ ys∈yss,ys.length=P.cellsOf e∧TyT P m e ys)∧(k ≠ 0→a.off+k * P.cellsOf e≤c.toList.length)∧us=(c.toList.drop a.off).take (k * P.cellsOf e):=by
        intro k
        induction k with
        | zero=>intro _;exact⟨[],[],rfl,by simp [qMJ],by simp,by simp,by simp,by simp⟩
        | succ k ihk=>
         intro hk
         obtain⟨yss,us,k1,k2,k3,k4,k5,k6⟩:=ihk (by omega)
         obtain⟨cs',d1,ys,d2,d3,d4⟩:=hcs k (by omega)
         obtain⟨c',tt',z',e1,e2,e3,e4,e5⟩:=qGT hs0 d1
         have hblk:(a.add (k * P.cellsOf e)).block=a.block:=by unfold Addr.add;split <;> rfl
         have hoff:(a.add (k * P.cellsOf e)).off=a.off+k * P.cellsOf e:=by unfold Addr.add;split <;> simp_all
         rw [hblk,hb] at e1
         simp only [Option.some.injEq,Obj.cells.injEq] at e1
         obtain⟨rfl,_,_⟩:=e1
         rw [hoff] at e4 e5
         have hys:ys.length=P.cellsOf e:=by rw [← qBA d2,e3]
         have hf:=qBw.1 k2
         refine⟨yss++[ys],us++cs',by simp [k1],qBw.2 ⟨?_,?_⟩,?_,?_,fun _=>by rw [Nat.succ_mul];omega,?_⟩
         ·simpa using qEk hf.1 d2
         ·intro q hq;rcases List.mem_append.1 hq with hq | hq
          ·exact hf.2 q hq
          ·simp at hq;subst hq;exact hys
         ·intro u hu;rcases List.mem_append.1 hu with hu | hu
          ·exact k3 u hu
          ·exact d3 u hu
         ·intro q hq;rcases List.mem_append.1 hq with hq | hq
          ·exact k4 q hq
          ·simp at hq;subst hq;exact⟨hys,d4⟩
         ·rw [k6,e5,Nat.succ_mul,List.take_add,List.drop_drop]
       obtain⟨yss,us,k1,k2,k3,k4,k5,k6⟩:=key len (Nat.le_refl _)
       have k5:=k5 hl0
       have hne:yss ≠ []:=by intro e;subst e;simp at k1;omega
       refine fin _ len yss (by omega) k1 k4 rfl (fun e=>absurd e hne) fun _=>⟨a.block,a.off,cap,c.toList,us,?_,hlc,hfz _ _ _ _ hb,k2,?_⟩
       ·obtain⟨ab,ao,asp⟩:=a;simp only [] at hsp;subst hsp;rfl
       ·refine⟨c.toList.take a.off,c.toList.drop (a.off+len * P.cellsOf e),?_,?_,k3⟩
        ·rw [k6,List.append_assoc,← List.drop_drop,List.take_append_drop,List.take_append_drop]
        ·rw [List.length_take];omega
    | _=>simp [basic] at hs
mutual
def qHr:DataW H→Option (List PV)
 | .lit (.bool b)=>some [.bool b]
 | .lit (.int k n)=>some [.int k n]
 | .lit (.string s)=>some [.str s]
 | .agg ps=>qKh ps
 | _=>none
def qKh:List (DataW H)→Option (List PV)
 | []=>some []
 | d::r=>match qHr d,qKh r with
  | some xs,some ys=>some (xs++ys)
  | _,_=>none
end
theorem qNT {fz:Fzn} {cs:List Value} {Q:DataW H→List Value→Prop} (hQ:∀ d us xs,Q d us→qHr d=some xs→VPL fz xs us∧∀ u∈us,qBH u=true):∀ (l:List (TypeId × Nat)) (ds:List (DataW H)) (o:Nat) (xs:List PV),qHE P l o=some cs.length→ds.length=l.length →
  (∀ (i:Nat) f d,l[i]?=some f→ds[i]?=some d→Q d ((cs.drop f.2).take (P.cellsOf f.1)))→qKh ds=some xs→VPL fz xs (cs.drop o)∧∀ u∈cs.drop o,qBH u=true
 | [],ds,o,xs,ht,hl,_,hd=>by
  simp only [qHE,Option.some.injEq] at ht
  subst ht
  obtain rfl:=List.eq_nil_of_length_eq_zero hl
  simp only [qKh,Option.some.injEq] at hd
  subst hd
  simp [VPL]
 | f::r,[],o,xs,ht,hl,_,hd=>by simp at hl
 | f::r,d::ds,o,xs,ht,hl,hr,hd=>by
  simp only [qHE] at ht
  split at ht
  ·rename_i ho
   simp only [qKh] at hd
   split at hd
   ·rename_i ys zs e1 e2
    injection hd with hd
    subst hd
    have h1:=hQ d _ ys (hr 0 f d rfl rfl) e1
    have h2:=qNT hQ r ds (o+P.cellsOf f.1) zs ht (by simpa using hl) (fun i g e hg he=>hr (i+1) g e hg he) e2
    rw [ho] at h1
    have e:cs.drop o=(cs.drop o).take (P.cellsOf f.1)++cs.drop (o+P.cellsOf f.1):=by
     rw [← List.drop_drop,List.take_append_drop]
    rw [e]
    refine⟨qEk h1.1 h2.1,fun u hu=>?_⟩
    rcases List.mem_append.1 hu with hu | hu
    ·exact h1.2 u hu
    ·exact h2.2 u hu
   ·cases hd
  ·cases ht
theorem qGl {fz:Fzn}:∀ (m:Nat) (t:TypeId) (n:Nat) (cs:List Value) (x:DataW H × List MemPlace) (xs:List PV),qIH P m t=true→DataW.trod enc P W 0 sp held n t cs=some x→qHr x.1=some xs→VPL fz xs cs∧∀ u∈cs,qBH u=true
 | 0,_,_,_,_,_,hs,_,_=>by simp [qIH] at hs
 | m+1,t,n,cs,x,xs,hs,h,hd=>by
  have ih:=qGl (fz:=fz) m
  simp only [qIH] at hs
  cases hp:partsOf P t with
  | some l=>
   simp only [hp,Bool.and_eq_true,decide_eq_true_eq,List.all_eq_true] at hs
   obtain⟨ys,k,h1,h2,h3,h4,h5⟩:=qIU hp h
   rw [h2] at hd
   simp only [qHr] at hd
   have:=qNT (fz:=fz) (P:=P) (cs:=cs) (Q:=fun d us=>∀ xs,qHr d=some xs→VPL fz xs us∧∀ u∈us,qBH u=true) (fun d us xs hq hx=>hq xs hx) l (ys.map (·.1)) 0 xs (by rw [h3];exact hs.1) (by simpa using h4) (fun i f d hf hd'=>by
    rw [List.getElem?_map,Option.map_eq_some_iff] at hd'
    obtain⟨y,hy,rfl⟩:=hd'
    have e:=h5 i f hf
    rw [hy] at e
    intro xs hx
    exact ih _ _ _ _ xs (hs.2 _ (List.mem_of_getElem? hf)) e hx) hd
   simpa using this
  | none=>
   simp only [hp] at hs
   cases hu:P.underlying t with
   | none=>simp [hu] at hs
   | some d=>
    simp only [hu] at hs
    cases d with
    | bool=>
     obtain⟨b,rfl,rfl⟩:=DataW.trod_bool hu h
     simp only [qHr,Option.some.injEq] at hd
     subst hd
     exact⟨by simp [VPL,VP],by simp [qBH]⟩
    | int k=>
     obtain⟨b,rfl,rfl,hw⟩:=DataW.trod_int hu h
     simp only [qHr,Option.some.injEq] at hd
     subst hd
     exact⟨by simp [VPL,VP],by simp [qBH]⟩
    | string=>
     obtain⟨⟨⟨s⟩⟩,rfl,rfl,hw⟩:=DataW.trod_string hu h
     simp only [qHr,Option.some.injEq] at hd
     subst hd
     exact⟨by simp [VPL,VP],by simp [qBH]⟩
    | slice e=>
     rcases DataW.trod_slice hu h with ⟨rfl,rfl⟩ | ⟨a,len,cap,elems,rest,n',rfl,rfl,rfl,_⟩
     ·simp [qHr] at hd
     ·simp [qHr] at hd
    | _=>simp [basic] at hs
end
end Go.Proofs.YtohfoaplnjcihaaGreatDoor.Y
namespace Go.Proofs.YtohfoaplnjcihaaGreatDoor.Y
open Go
theorem mapM_mono {α β:Type} {f g:α→Option β}:∀ {l:List α} {r:List β},(∀ x∈l,∀ y,f x=some y→g x=some y)→l.mapM f=some r→l.mapM g=some r
 | [],r,_,h=>by simpa using h
 | x::l,r,hfg,h=>by
  simp only [List.mapM_cons,Option.bind_eq_bind,Option.bind_eq_some_iff,Option.pure_def,Option.some.injEq] at h ⊢
  obtain⟨y,h1,ys,h2,h3⟩:=h
  exact⟨y,hfg x (by simp) y h1,ys,mapM_mono (fun z hz=>hfg z (by simp [hz])) h2,h3⟩
def Kept (W W':World):Prop:=∀ (b:Nat) (o:Obj),W.heap[b]?=some o→W'.heap[b]?=some o
section
variable {H:Type} {enc:TypeId × Value→H} {P:Program} {W W':World} {sp':Nat→Bool} {held:Bool}
theorem Kept.cell (hk:Kept W W') {a:Addr} {v:Value} (h:W.cell? a=some v):W'.cell? a=some v:=by
 unfold World.cell? at h ⊢
 split at h
 ·rename_i c t z hb
  rw [hk _ _ hb]
  exact h
 ·cases h
theorem Kept.cells (hk:Kept W W') {a:Addr} {n:Nat} {cs:List Value} (h:W.cells? 0 a n=some cs):W'.cells? 0 a n=some cs:=by
 unfold World.cells? at h ⊢
 rw [if_pos (Nat.zero_le _)] at h ⊢
 exact mapM_mono (fun _ _ _ hx=>hk.cell hx) h
theorem qJ8 (hk:Kept W W') (hsp:∀ b,b<W.heap.size→sp' b=true):∀ (m:Nat) (t:TypeId) (n:Nat) (cs:List Value) (x:DataW H × List MemPlace),qIH P m t=true→DataW.trod enc P W 0 (fun _=>true) held n t cs=some x→DataW.trod enc P W' 0 sp' held n t cs=some x
 | 0,_,_,_,_,hs,_=>by simp [qIH] at hs
 | m+1,t,0,cs,x,hs,h=>by simp [DataW.trod] at h
 | m+1,t,n+1,cs,x,hs,h=>by
  have ih:=qJ8 hk hsp m
  simp only [qIH] at hs
  cases hu:P.underlying t with
  | none=>
   have hp:partsOf P t=none:=by simp [partsOf,hu]
   simp [hp,hu] at hs
  | some d=>
   cases d with
   | struct fs=>
    have hp:partsOf P t=some (fs.toList.map fun f=>(f.type,f.offset)):=by simp [partsOf,hu]
    simp only [hp,Bool.and_eq_true,List.all_eq_true] at hs
    unfold DataW.trod at h ⊢
    rw [hu] at h ⊢
    simp only [] at h ⊢
    split at h
    ·rename_i hl
     rw [if_pos hl]
     rw [Option.map_eq_some_iff] at h ⊢
     obtain⟨xs,h1,h2⟩:=h
     exact⟨xs,mapM_mono (fun f hf y hy=>ih _ _ _ _ (hs.2 (f.type,f.offset) (List.mem_map_of_mem hf)) hy) h1,h2⟩
    ·cases h
   | array k e=>
    have hp:partsOf P t=some ((List.range k).map fun i=>(e,i * P.cellsOf e)):=by simp [partsOf,hu]
    simp only [hp,Bool.and_eq_true,List.all_eq_true] at hs
    unfold DataW.trod at h ⊢
    rw [hu] at h ⊢
    simp only [] at h ⊢
    split at h
    ·rename_i hl
     rw [if_pos hl]
     rw [Option.map_eq_some_iff] at h ⊢
     obtain⟨xs,h1,h2⟩:=h
     exact⟨xs,mapM_mono (fun i hi y hy=>ih _ _ _ _ (hs.2 (e,i * P.cellsOf e) (List.mem_map_of_mem hi)) hy) h1,h2⟩
    ·cases h
   | bool=>
    obtain⟨b,rfl,rfl⟩:=DataW.trod_bool hu h
    unfold DataW.trod;rw [hu]
   | int k=>
    obtain⟨b,rfl,rfl,hw⟩:=DataW.trod_int hu h
    unfold DataW.trod;rw [hu];simp [hw]
   | string=>
    obtain⟨s,rfl,rfl,hw⟩:=DataW.trod_string hu h
    unfold DataW.trod;rw [hu];simp [hw]
   | slice e=>
    have hp:partsOf P t=none:=by simp [partsOf,hu]
    simp only [hp,hu,Bool.and_eq_true,decide_eq_true_eq] at hs
    rcases DataW.trod_slice hu h with ⟨rfl,rfl⟩ | ⟨a,len,cap,_,_,_,_,rfl,_⟩
    ·unfold DataW.trod;rw [hu];rfl
    unfold DataW.trod at h ⊢
    rw [hu] at h ⊢
    simp only [if_true] at h ⊢
    split at h
    rotate_left
    ·cases h
    rename_i hc
    rw [if_pos hc]
    rw [Option.bind_eq_some_iff] at h ⊢
    obtain⟨elems,h1,h2⟩:=h
    rw [Option.map_eq_some_iff] at h2
    obtain⟨rest,h2,h3⟩:=h2
    have el:∀ i y,(W.cells? 0 (a.add (i * P.cellsOf e)) (P.cellsOf e)).bind (DataW.trod enc P W 0 (fun _=>true) held n e)=some y→(W'.cells? 0 (a.add (i * P.cellsOf e)) (P.cellsOf e)).bind (DataW.trod enc P W' 0 sp' held n e)=some y:=by
     intro i y hy
     rw [Option.bind_eq_some_iff] at hy ⊢
     obtain⟨cs',g1,g2⟩:=hy
     exact⟨cs',hk.cells g1,ih _ _ _ _ hs.2 g2⟩
    refine⟨elems,mapM_mono (fun i _ y hy=>el i y hy) h1,?_⟩
    rw [Option.map_eq_some_iff]
    refine⟨rest,?_,h3⟩
    by_cases hd:cap - len=0
    ·rw [hd] at h2 ⊢
     simp at h2
     subst h2
     cases sp' a.block <;> simp
    ·have hb:a.block<W.heap.size:=by
      have hl:=mapM_some_length h2
      rw [List.length_range] at hl
      have:=mapM_some_get h2 0 0 (by rw [List.getElem?_eq_getElem (by simp;omega)];simp)
      rw [List.getElem?_eq_getElem (by omega),Option.bind_eq_some_iff] at this
      obtain⟨cs',g1,_⟩:=this
      obtain⟨c,t',z,g3,_⟩:=qGT hs.1 g1
      have hblk:(a.add ((len+0) * P.cellsOf e)).block=a.block:=by unfold Addr.add;split <;> rfl
      rw [hblk] at g3
      exact(Array.getElem?_eq_some_iff.1 g3).1
     rw [if_pos (hsp _ hb)]
     exact mapM_mono (fun i _ y hy=>el (len+i) y hy) h2
   | _=>
    have hp:partsOf P t=none:=by simp [partsOf,hu]
    simp [hp,hu,basic] at hs
theorem qGb (hk:Kept W W') (hsp:∀ b,b<W.heap.size→sp' b=true) (m:Nat):∀ {ts:List TypeId} {vs:List Value} {ds:List (DataW H)} {ps:List MemPlace},ts.all (qIH P m)=true→DataW.TrodAll enc P W 0 (fun _=>true) held ts vs ds ps→DataW.TrodAll enc P W' 0 sp' held ts vs ds ps
 | [],[],[],ps,_,h=>h
 | t::ts,v::vs,d::ds,ps,hs,h=>by
  simp only [List.all_cons,Bool.and_eq_true] at hs
  obtain⟨p,q,⟨fuel,h1⟩,h2,h3⟩:=h
  exact⟨p,q,⟨fuel,qJ8 hk hsp m _ _ _ _ hs.1 h1⟩,qGb hk hsp m hs.2 h2,h3⟩
 | [],[],_::_,ps,_,h=>by simp [DataW.TrodAll] at h
 | [],_::_,_,ps,_,h=>by simp [DataW.TrodAll] at h
 | _::_,[],_,ps,_,h=>by simp [DataW.TrodAll] at h
 | _::_,_::_,[],ps,_,h=>by simp [DataW.TrodAll] at h
def qRN (P:Program) (m:Nat) (t:TypeId) (x:PV):Prop:=match partsOf P t with
 | some _=>∃ xs,x=.agg xs∧TyT P m t xs
 | none=>TyT P m t [x]
def qSU (P:Program) (m:Nat):List TypeId→List PV→Prop
 | [],xs=>xs=[]
 | t::ts,xs=>∃ x r,xs=x::r∧qRN P m t x∧qSU P m ts r
def qNS (W:World):Fzn:=fun b=>match W.heap[b]? with
 | some (.cells c _ _)=>some c.toList
 | _=>none
theorem qJg (W:World):qNs (qNS W) W:=fun b c t z h=>by simp [qNS,h]
theorem qQW {b:Nat} {arr:List Value} (h:qNS W b=some arr):∃ c t z,W.heap[b]?=some (.cells c t z)∧arr=c.toList:=by
 unfold qNS at h
 split at h
 ·rename_i c t z hb
  injection h with h
  exact⟨c,t,z,hb,h.symm⟩
 ·cases h
theorem qWF {m:Nat} {base:Nat} {t:TypeId} {v:Value} {d:DataW H} {ps:List MemPlace} (hs:qIH P m t=true) (hval:Value.okWide P W .any base t v) (h:DataW.Trod enc P W 0 (fun _=>true) true t v d ps):∃ x,VP (qNS W) x v∧qRN P m t x:=by
 obtain⟨fuel,h⟩:=h
 obtain⟨xs,h1,h2,h3⟩:=qFU (qJg W) m t fuel _ _ hs h
 unfold Value.okWide at hval
 cases hp:partsOf P t with
 | some l=>
  have:∃ cs,v=.agg cs:=by
   unfold partsOf at hp
   split at hp
   ·rename_i fs hu;simp only [hu] at hval;obtain⟨cs,h,_⟩:=hval;exact⟨cs,h⟩
   ·rename_i k e hu;simp only [hu] at hval;obtain⟨cs,h,_⟩:=hval;exact⟨cs,h⟩
   ·cases hp
  obtain⟨cs,rfl⟩:=this
  exact⟨.agg xs,by simp only [VP];exact⟨cs,rfl,h1⟩,by simp only [qRN,hp];exact⟨xs,rfl,h3⟩⟩
 | none=>
  have hv:v.cells=#[v]:=by
   cases m with
   | zero=>simp [qIH] at hs
   | succ m=>
    simp only [qIH,hp] at hs
    cases hu:P.underlying t with
    | none=>simp [hu] at hs
    | some d=>
     simp only [hu] at hs hval
     cases d with
     | struct fs=>simp [partsOf,hu] at hp
     | array k e=>simp [partsOf,hu] at hp
     | bool=>cases v <;> simp_all [Cell.okWide,Cell.ok,Value.cells]
     | int k=>cases v <;> simp_all [Cell.okWide,Cell.ok,Value.cells]
     | string=>cases v <;> simp_all [Cell.okWide,Cell.ok,Value.cells]
     | slice e=>cases v <;> simp_all [Cell.okWide,Cell.ok,Value.cells]
     | _=>simp [basic] at hs
  rw [hv] at h1
  obtain⟨x,rfl,h4⟩:∃ x,xs=[x]∧VP (qNS W) x v:=by
   match xs,h1 with
   | [],h1=>simp [VPL] at h1
   | x::r,h1=>
    simp only [VPL] at h1
    obtain⟨u,us,e,g1,g2⟩:=h1
    simp only [List.cons.injEq] at e
    obtain⟨rfl,rfl⟩:=e
    match r,g2 with
    | [],_=>exact⟨x,rfl,g1⟩
    | y::r,g2=>simp [VPL] at g2
  exact⟨x,h4,by simp only [qRN,hp];exact h3⟩
theorem qL9 {m base:Nat}:∀ {ts:List TypeId} {vs:List Value} {ds:List (DataW H)} {ps:List MemPlace},ts.all (qIH P m)=true→(∀ (j:Nat) t v,ts[j]?=some t→vs[j]?=some v→Value.okWide P W .any base t v)→DataW.TrodAll enc P W 0 (fun _=>true) true ts vs ds ps →
  ∃ xs,VPL (qNS W) xs vs∧qSU P m ts xs∧ds.length=ts.length
 | [],[],[],ps,_,_,_=>⟨[],by simp [VPL],rfl,rfl⟩
 | t::ts,v::vs,d::ds,ps,hs,hv,h=>by
  simp only [List.all_cons,Bool.and_eq_true] at hs
  obtain⟨p,q,h1,h2,h3⟩:=h
  obtain⟨x,g1,g2⟩:=qWF hs.1 (hv 0 t v rfl rfl) h1
  obtain⟨xs,k1,k2,k3⟩:=qL9 hs.2 (fun j t v ht hv'=>hv (j+1) t v ht hv') h2
  exact⟨x::xs,by simp only [VPL];exact⟨v,vs,rfl,g1,k1⟩,⟨x,xs,rfl,g2,k2⟩,by simp [k3]⟩
 | [],[],_::_,ps,_,_,h=>by simp [DataW.TrodAll] at h
 | [],_::_,_,ps,_,_,h=>by simp [DataW.TrodAll] at h
 | _::_,[],_,ps,_,_,h=>by simp [DataW.TrodAll] at h
 | _::_,_::_,[],ps,_,_,h=>by simp [DataW.TrodAll] at h
end
def qWT (P:Program) (m:Nat):List (Nat × List PV)→List (String × DataW Unit)→Prop
 | [],_=>True
 | (g,cs)::r,(n,d)::r'=>P.globalNamed n=some g∧(∃ t,(P.globals[g]?).map (·.type)=some t∧qIH P m t=true)∧qHr d=some cs∧qWT P m r r'
 | _::_,[]=>False
theorem qGn {P:Program} {m:Nat} {W:World}:∀ {gt:List (Nat × List PV)} {laid:List (String × DataW Unit)} {ps:List MemPlace},qWT P m gt laid→DataW.LaidVars P W laid ps→∀ g cs,qOR gt g=some cs→GlobV (qNS W) g cs
 | [],_,_,_,_,g,cs,h=>by simp [qOR] at h
 | (g',cs')::r,[],_,hg,_,g,cs,h=>by simp [qWT] at hg
 | (g',cs')::r,(n,d)::r',ps,hg,hl,g,cs,h=>by
  obtain⟨h1,⟨t,h2,h3⟩,h4,h5⟩:=hg
  obtain⟨g0,t0,cs0,fuel,p,q,k1,k2,k3,k4,k5,k6⟩:=hl
  rw [h1] at k1
  injection k1 with k1
  subst k1
  rw [h2] at k2
  injection k2 with k2
  subst k2
  simp only [qOR] at h
  split at h
  ·rename_i he
   have he:=Nat.eq_of_beq_eq_true he
   subst he
   injection h with h
   subst h
   obtain⟨g1,g2⟩:=qGl (fz:=qNS W) m t fuel _ _ _ h3 k4 h4
   have hb:∃ ty z,W.heap[g']?=some (.cells cs0 ty z):=by
    unfold World.var? at k3
    rw [h1] at k3
    simp only [Option.bind_some] at k3
    split at k3
    ·rename_i c ty z hb
     injection k3 with k3
     subst k3
     exact⟨ty,z,hb⟩
    ·cases k3
   obtain⟨ty,z,hb⟩:=hb
   exact⟨by simp only [VP];exact⟨g',0,cs0.toList,cs0.toList,rfl,qJg W _ _ _ _ hb,g1,[],[],by simp,rfl,g2⟩,cs0.toList,qJg W _ _ _ _ hb,qBA g1⟩
  ·exact qGn h5 k5 g cs h
section
variable {cx:Cx}
theorem qJu {H:Type} {enc:TypeId × Value→H} {W:World} {f:FuncId} {fn:Func} {c:Code} {m base:Nat} {args:Array Value} {ds:List (DataW H)} {ps:List MemPlace}
  (hf : cx.P.funcs[f]? = some fn) (hname : (fn.name == "runtime.NumGoroutine") = false) (hb : fn.body = some c) (hs : fn.params.toList.all (qIH cx.P m) = true)
  (hpure:∀ xs,qSU cx.P m fn.params.toList xs→Pure cx f xs (·=.ret [.bool true]))
  (hval:∀ (j:Nat) t v,fn.params[j]?=some t→args[j]?=some v→Value.okWide cx.P W .any base t v)
  (hA:DataW.TrodAll enc cx.P W 0 (fun _=>true) true fn.params.toList args.toList ds ps)
  (hglob:∀ g cs,qOR cx.gt g=some cs→GlobV (qNS W) g cs) :
  Calls cx.P f args W fun e W'=>e=.returned (.bool true)∧W'.os=W.os∧W'.output=W.output∧∀ k,k<W.heap.size→W'.heap[k]?=W.heap[k]?:=by
 obtain⟨xs,h1,h2,_⟩:=qL9 hs (fun j t v ht hv=>hval j t v (by simpa using ht) (by simpa using hv)) hA
 have hR:R cx ⟨fun _=>none,qNS W⟩ ⟨0,[]⟩ W:=by
  refine⟨hglob,fun _ _=>rfl,fun b arr hb=>?_,fun n o hn=>by simp [qAh] at hn,fun n o q hn=>by simp [qAh] at hn,fun n o m p q q' hn=>by simp [qAh] at hn⟩
  obtain⟨c,t,z,g1,rfl⟩:=qQW hb
  exact⟨t,z,g1⟩
 have key:∀ e w',Post cx ⟨fun _=>none,qNS W⟩ ⟨0,[]⟩ W (qNq (·=.ret [.bool true])) e w'→e=.returned (.bool true)∧w'.os=W.os∧w'.output=W.output∧∀ k,k<W.heap.size→w'.heap[k]?=W.heap[k]?:=by
  intro e w' hP
  obtain⟨r,Γ',hq,_,hE,_,hT,_⟩:=qFd hR hP
  subst hq
  obtain⟨v',rfl,hv⟩:=hE
  simp only [VR,VP] at hv
  subst hv
  exact⟨rfl,hT.os,hT.output,fun k hk=>hT.kept k hk qE7⟩
 have hrun:=qEG hf hname hb args W
 rcases hpure xs h2 ⟨fun _=>none,qNS W⟩ W args.toList hR (qBJ.2 h1) with ⟨_,h4⟩ | ⟨v',w',h4,_⟩
 ·exact h4.mono key
 ·rw [hrun] at h4
  injection h4 with h4
  cases h4
theorem qKJ {H:Type} {enc:TypeId × Value→H} {W W':World} {fn:Func} {s:ChangeSpec} {m:Nat} {bt:TypeId} {apart fresh handsOn:Bool} {args:Array Value} {ds gs:List (DataW H)} {before:List MemPlace}
  (hs:fn.params.toList.all (qIH cx.P m)=true) (hvars:s.vars=[]) (hres:fn.resultTypes=#[bt]) (hbt:cx.P.underlying bt=some .bool)
  (hfn:∀ ds:List (DataW H),ds.length=fn.params.toList.length→s.fn H ds={ results:=[.lit (.bool true)],args:=ds })
  (hW:DataW.Whole enc cx.P fn.params.toList s.vars apart W args.toList ds gs before) (hlen:ds.length=fn.params.toList.length)
  (hos:W'.os=W.os) (hout:W'.output=W.output) (hkept:∀ k,k<W.heap.size→W'.heap[k]?=W.heap[k]?) :
  s.post enc cx.P fn apart fresh handsOn false W args (.bool true) W':=by
 have hk:Kept W W':=fun b o hb=>by rw [hkept b (Array.getElem?_eq_some_iff.1 hb).1];exact hb
 have hW':=hW
 obtain⟨p,q,h1,h2,_,_,_⟩:=hW'
 rw [hvars] at h2
 obtain⟨rfl,rfl⟩:=Go.ChangeShapes.trodVars_none h2
 have e:s.fn H (ds++[])={ results:=[.lit (.bool true)],args:=ds }:=by rw [List.append_nil];exact hfn ds hlen
 refine⟨ds,[],before,[],p,[],hW,?_,?_,?_,?_,fun h=>by cases h⟩
 ·rw [e,hres]
  exact Go.ChangeShapes.trodAll_mk1 (Go.RowKit.shut_bool hbt true)
 ·rw [e]
  exact qGb hk (fun b hb=>by simpa using hb) m hs h1
 ·rw [e,hvars]
  rfl
 ·refine⟨hos,hout,fun i hi=>?_⟩
  rw [hkept i hi]
  have:=Array.getElem?_eq_getElem hi
  rw [this]
  cases W.heap[i] <;> simp
end
end Go.Proofs.YtohfoaplnjcihaaGreatDoor.Y
namespace Go.Proofs.YtohfoaplnjcihaaGreatDoor
open Go Y
set_option maxRecDepth 100000
set_option maxHeartbeats 4000000
theorem qDm {m:Nat} {xs:List PV} (h:TyT Tryz.prog (m+1) 5 xs):∃ b:UInt8,xs=[u8 b]:=by
 have hp:partsOf Tryz.prog 5=none:=by simp [partsOf,Tryz.underlying5]
 simp only [TyT,hp,Tryz.underlying5] at h
 obtain⟨n,rfl,hw⟩:=h
 have:=bounds_u8 hw
 refine⟨UInt8.ofNat n.toNat,?_⟩
 have e:((UInt8.ofNat n.toNat).toNat:Int)=n:=by
  simp
  omega
 rw [u8,e]
theorem qQD {α:Type} {f:α→PV} {P:α→Prop} {ys:List PV} (h:∀ y∈ys,∃ a,y=f a∧P a):∃ zs:List α,ys=zs.map f∧∀ z∈zs,P z:=by
 induction ys with
 | nil=>exact⟨[],rfl,by simp⟩
 | cons y r ih=>
  obtain⟨a,rfl,ha⟩:=h y (by simp)
  obtain⟨zs,rfl,hz⟩:=ih fun z hz=>h z (by simp [hz])
  exact⟨a::zs,rfl,fun z hm=>by rcases List.mem_cons.1 hm with rfl | hm;exact ha;exact hz z hm⟩
theorem qMT {m:Nat} {xs:List PV} (h:TyT Tryz.prog (m+2) 40 xs):∃ bs:List UInt8,xs=[.lst (bs.map u8)]∧bs.length≤9223372036854775807:=by
 have hp:partsOf Tryz.prog 40=none:=by simp [partsOf,Tryz.underlying40]
 have hc:Tryz.prog.cellsOf 5=1:=by kernel_rfl
 rw [TyT] at h
 simp only [hp,Tryz.underlying40,hc] at h
 obtain⟨ys,rfl,hl,hy⟩:=h
 obtain⟨bs,rfl,_⟩:=qQD (f:=u8) (P:=fun _=>True) fun y hy'=>by
  obtain⟨b,hb⟩:=qDm (hy y hy')
  simp at hb
  exact⟨b,hb,trivial⟩
 exact⟨bs,rfl,by rw [List.length_map] at hl;exact hl⟩
theorem qGL {α:Type} {f:α→List PV} {P:α→Prop} {ys:List (List PV)} (h:∀ y∈ys,∃ a,y=f a∧P a):∃ zs:List α,ys=zs.map f∧∀ z∈zs,P z:=by
 induction ys with
 | nil=>exact⟨[],rfl,by simp⟩
 | cons y r ih=>
  obtain⟨a,rfl,ha⟩:=h y (by simp)
  obtain⟨zs,rfl,hz⟩:=ih fun z hz=>h z (by simp [hz])
  exact⟨a::zs,rfl,fun z hm=>by rcases List.mem_cons.1 hm with rfl | hm;exact ha;exact hz z hm⟩
theorem qOu {m:Nat} {xs:List PV} (h:TyT Tryz.prog (m+1) 52 xs):∃ b:UInt16,xs=[.int .u16 (b.toNat:Int)]:=by
 have hp:partsOf Tryz.prog 52=none:=by simp [partsOf,Tryz.underlying52]
 simp only [TyT,hp,Tryz.underlying52] at h
 obtain⟨n,rfl,hw⟩:=h
 have:=bounds_u16 hw
 refine⟨UInt16.ofNat n.toNat,?_⟩
 have e:((UInt16.ofNat n.toNat).toNat:Int)=n:=by
  simp
  omega
 rw [e]
theorem qU8 {m:Nat} {xs:List PV} (h:TyT Tryz.prog (m+1) 9 xs):∃ s,xs=[.str s]∧s.length≤9223372036854775807:=by
 have hp:partsOf Tryz.prog 9=none:=by simp [partsOf,Tryz.underlying9]
 simp only [TyT,hp,Tryz.underlying9] at h
 obtain⟨n,rfl,hl⟩:=h
 exact⟨n,rfl,hl⟩
theorem qOx {m:Nat} {xs:List PV} (h:TyT Tryz.prog (m+1) 4 xs):∃ b,xs=[.bool b]:=by
 have hp:partsOf Tryz.prog 4=none:=by simp [partsOf,Tryz.underlying4]
 simp only [TyT,hp,Tryz.underlying4] at h
 exact h
theorem qHy {m:Nat} {t:TypeId} {x:PV} (hp:partsOf Tryz.prog t=none) (h:qRN Tryz.prog m t x):TyT Tryz.prog m t [x]:=by
 simpa only [qRN,hp] using h
theorem qOy {m:Nat} {xs:List PV} (h:TyT Tryz.prog (m+2) 27 xs):∃ a b c:UInt8,xs=[u8 a,u8 b,u8 c]:=by
 have hp:partsOf Tryz.prog 27=some [(5,0),(5,1),(5,2)]:=by kernel_rfl
 rw [TyT] at h
 simp only [hp] at h
 obtain⟨x1,_,rfl,_,h1,x2,_,rfl,_,h2,x3,_,rfl,_,h3,rfl⟩:=h
 obtain⟨a,rfl⟩:=qDm h1
 obtain⟨b,rfl⟩:=qDm h2
 obtain⟨c,rfl⟩:=qDm h3
 exact⟨a,b,c,rfl⟩
theorem qRT {m:Nat} {xs:List PV} (h:TyT Tryz.prog (m+3) 155 xs):∃ p:Pc,xs=p.cells:=by
 have hp:partsOf Tryz.prog 155=some [(5,0),(5,1),(5,2),(5,3),(27,4)]:=by kernel_rfl
 rw [TyT] at h
 simp only [hp] at h
 obtain⟨x1,_,rfl,_,h1,x2,_,rfl,_,h2,x3,_,rfl,_,h3,x4,_,rfl,_,h4,x5,_,rfl,_,h5,rfl⟩:=h
 obtain⟨a,rfl⟩:=qDm h1
 obtain⟨b,rfl⟩:=qDm h2
 obtain⟨c,rfl⟩:=qDm h3
 obtain⟨d,rfl⟩:=qDm h4
 obtain⟨x,y,z,rfl⟩:=qOy h5
 exact⟨⟨a,b,c,d,x,y,z⟩,rfl⟩
theorem qOv {m:Nat} {xs:List PV} (h:TyT Tryz.prog (m+4) 26 xs):∃ l:List Pc,xs=[.lsts 7 (l.map Pc.cells)]∧l.length≤9223372036854775807:=by
 have hp:partsOf Tryz.prog 26=none:=by simp [partsOf,Tryz.underlying26]
 have hc:Tryz.prog.cellsOf 155=7:=by kernel_rfl
 rw [TyT] at h
 simp only [hp,Tryz.underlying26,hc] at h
 obtain⟨ys,rfl,hn,hy⟩:=h
 obtain⟨l,rfl,_⟩:=qGL (f:=Pc.cells) (P:=fun _=>True) fun y hy'=>by
  obtain⟨p,hp⟩:=qRT (hy y hy')
  exact⟨p,hp,trivial⟩
 rw [List.length_map] at hn
 exact⟨l,rfl,hn⟩
theorem qOw {m:Nat} {xs:List PV} (h:TyT Tryz.prog (m+5) 29 xs):∃ p:Pt,xs=p.cells∧p.cases.length≤9223372036854775807:=by
 have hp:partsOf Tryz.prog 29=some [(5,0),(5,1),(5,2),(5,3),(4,4),(26,5),(27,6)]:=by kernel_rfl
 rw [TyT] at h
 simp only [hp] at h
 obtain⟨x1,_,rfl,_,h1,x2,_,rfl,_,h2,x3,_,rfl,_,h3,x4,_,rfl,_,h4,x5,_,rfl,_,h5,x6,_,rfl,_,h6,x7,_,rfl,_,h7,rfl⟩:=h
 obtain⟨a,rfl⟩:=qDm h1
 obtain⟨b,rfl⟩:=qDm h2
 obtain⟨c,rfl⟩:=qDm h3
 obtain⟨d,rfl⟩:=qDm h4
 obtain⟨g,rfl⟩:=qOx h5
 obtain⟨l,rfl,hl⟩:=qOv h6
 obtain⟨x,y,z,rfl⟩:=qOy h7
 exact⟨⟨a,b,c,d,g,l,x,y,z⟩,rfl,hl⟩
theorem qMS {m:Nat} {xs:List PV} (h:TyT Tryz.prog (m+6) 25 xs):∃ l:List Pt,xs=[.lsts 9 (l.map Pt.cells)]∧l.length≤9223372036854775807∧∀ p∈l,p.cases.length≤9223372036854775807:=by
 have hp:partsOf Tryz.prog 25=none:=by simp [partsOf,Tryz.underlying25]
 have hc:Tryz.prog.cellsOf 29=9:=by kernel_rfl
 rw [TyT] at h
 simp only [hp,Tryz.underlying25,hc] at h
 obtain⟨ys,rfl,hn,hy⟩:=h
 obtain⟨l,rfl,hl⟩:=qGL (f:=Pt.cells) (P:=fun p=>p.cases.length≤9223372036854775807) fun y hy'=>qOw (hy y hy')
 rw [List.length_map] at hn
 exact⟨l,rfl,hn,hl⟩
theorem qMA {m:Nat} {x:PV} (h:qRN Tryz.prog (m+7) 31 x):∃ d:Dp,x=.agg d.cells∧d.ok:=by
 have hp:partsOf Tryz.prog 31=some [(5,0),(5,1),(25,2),(29,3),(25,12),(4,13)]:=by kernel_rfl
 simp only [qRN,hp] at h
 obtain⟨xs,rfl,h⟩:=h
 rw [TyT] at h
 simp only [hp] at h
 obtain⟨x1,_,rfl,_,h1,x2,_,rfl,_,h2,x3,_,rfl,_,h3,x4,_,rfl,_,h4,x5,_,rfl,_,h5,x6,_,rfl,_,h6,rfl⟩:=h
 obtain⟨a,rfl⟩:=qDm h1
 obtain⟨b,rfl⟩:=qDm h2
 obtain⟨l,rfl,l1,l2⟩:=qMS h3
 obtain⟨c,rfl,_⟩:=qOw h4
 obtain⟨k,rfl,k1,k2⟩:=qMS h5
 obtain⟨g,rfl⟩:=qOx h6
 exact⟨⟨a,b,l,c,k,g⟩,rfl,l1,k1,l2,k2⟩
theorem qI0 {m:Nat} {x:PV} (h:qRN Tryz.prog (m+2) 54 x):∃ E:Ed,x=E.pv:=by
 have hp:partsOf Tryz.prog 54=some [(52,0),(52,1),(5,2)]:=by kernel_rfl
 simp only [qRN,hp] at h
 obtain⟨xs,rfl,h⟩:=h
 rw [TyT] at h
 simp only [hp] at h
 obtain⟨x1,_,rfl,_,h1,x2,_,rfl,_,h2,x3,_,rfl,_,h3,rfl⟩:=h
 obtain⟨a,rfl⟩:=qOu h1
 obtain⟨b,rfl⟩:=qOu h2
 obtain⟨c,rfl⟩:=qDm h3
 exact⟨⟨a,b,c⟩,rfl⟩
theorem qTR {m:Nat} {xs:List PV} (h:TyT Tryz.prog (m+3) 117 xs):∃ d:Dr,xs=d.cells:=by
 have hp:partsOf Tryz.prog 117=some [(5,0),(5,1),(40,2),(52,3),(5,4),(5,5)]:=by kernel_rfl
 rw [TyT] at h
 simp only [hp] at h
 obtain⟨x1,_,rfl,_,h1,x2,_,rfl,_,h2,x3,_,rfl,_,h3,x4,_,rfl,_,h4,x5,_,rfl,_,h5,x6,_,rfl,_,h6,rfl⟩:=h
 obtain⟨a,rfl⟩:=qDm h1
 obtain⟨b,rfl⟩:=qDm h2
 obtain⟨c,rfl,_⟩:=qMT h3
 obtain⟨d,rfl⟩:=qOu h4
 obtain⟨e,rfl⟩:=qDm h5
 obtain⟨f,rfl⟩:=qDm h6
 exact⟨⟨a,b,c,d,e,f⟩,rfl⟩
theorem qRU {m:Nat} {xs:List PV} (h:TyT Tryz.prog (m+4) 51 xs):∃ l:List Dr,xs=[.lsts 6 (l.map Dr.cells)]∧l.length≤9223372036854775807:=by
 have hp:partsOf Tryz.prog 51=none:=by simp [partsOf,Tryz.underlying51]
 have hc:Tryz.prog.cellsOf 117=6:=by kernel_rfl
 rw [TyT] at h
 simp only [hp,Tryz.underlying51,hc] at h
 obtain⟨ys,rfl,hn,hy⟩:=h
 obtain⟨l,rfl,_⟩:=qGL (f:=Dr.cells) (P:=fun _=>True) fun y hy'=>by
  obtain⟨d,hd⟩:=qTR (hy y hy')
  exact⟨d,hd,trivial⟩
 rw [List.length_map] at hn
 exact⟨l,rfl,hn⟩
theorem own:ownKnob Tryz.prog.godebug=none:=by kernel_rfl
abbrev qLl : List (String × DataW Unit) := [("math/bits.deBruijn32tab", Rows.laid_math_bits_deBruijn32tab), ("math/bits.deBruijn64tab", Rows.laid_math_bits_deBruijn64tab), ("internal/strconv.uint64pow10", Rows.laid_internal_strconv_uint64pow10), ("haruspex/lex.keys", Rows.laid_haruspex_lex_keys), ("haruspex/lex.marks", Rows.laid_haruspex_lex_marks)]
theorem qQh (os:Os) (args:Array Value):laidMetH Tryz.prog qLl ((World.laidAll Tryz.prog os qLl).forCall (fun _ _=>0) ⟨#[],args,[]⟩).memory:=by
 rw [MakeChecks.laidMetH_plain _ _ _ (by kernel_rfl)]
 exact laidMet_laidAll _ (by kernel_rfl) (by kernel_rfl)
abbrev gt3:List (Nat × List PV):=[(5,pow10L.map (.int .u64)),(0,keysL.map .str),(1,marksL.map .str)]
theorem qVt : qWT Tryz.prog 4 gt3 [("internal/strconv.uint64pow10", Rows.laid_internal_strconv_uint64pow10), ("haruspex/lex.keys", Rows.laid_haruspex_lex_keys), ("haruspex/lex.marks", Rows.laid_haruspex_lex_marks)] :=
 ⟨by kernel_rfl,⟨245,by kernel_rfl,by kernel_rfl⟩,rfl,by kernel_rfl,⟨226,by kernel_rfl,by kernel_rfl⟩,rfl,by kernel_rfl,⟨227,by kernel_rfl,by kernel_rfl⟩,rfl,trivial⟩
theorem qGN {k n:Nat} {o cs:List PV} {r:List (Nat × List PV)} (h:qOR ((k,o)::r) n=some cs):(k=n∧o=cs)∨(¬ k=n∧qOR r n=some cs):=by
 simp only [qOR] at h
 split at h
 ·rename_i e
  injection h with h
  exact .inl ⟨Nat.eq_of_beq_eq_true e,h⟩
 ·rename_i e
  exact .inr ⟨fun c=>by rw [c] at e;simp at e,h⟩
theorem qR9 {g:Nat} {cs:List PV} (h:qOR cx.gt g=some cs):qOR gt3 g=some cs:=by
 rcases qGN h with ⟨rfl,rfl⟩ | ⟨_,h⟩
 ·rfl
 ·rcases qGN h with ⟨rfl,rfl⟩ | ⟨_,h⟩
  ·rfl
  ·rcases qGN h with ⟨rfl,rfl⟩ | ⟨_,h⟩
   ·rfl
   ·cases h
theorem qSB {W:World} (h:laidMetH Tryz.prog qLl W):∀ g cs,qOR cx.gt g=some cs→GlobV (qNS W) g cs:=by
 rw [MakeChecks.laidMetH_plain _ _ _ (by kernel_rfl)] at h
 obtain⟨ps,h,_⟩:=h
 obtain⟨_,_,_,_,_,_,_,_,_,_,h,_⟩:=h
 obtain⟨_,_,_,_,_,_,_,_,_,_,h,_⟩:=h
 intro g cs hg
 exact qGn qVt h g cs (qR9 hg)
theorem qHX:∀ xs,qSU Tryz.prog 8 Tryz.f4.params.toList xs→Pure cx 4 xs (·=.ret [.bool true]):=by
 intro xs h
 rw [Tryz.params4] at h
 obtain⟨x0,_,rfl,h0,x1,_,rfl,h1,x2,_,rfl,h2,x3,_,rfl,h3,x4,_,rfl,h4,x5,_,rfl,h5,rfl⟩:=h
 obtain⟨v0,e0,g0⟩:=qU8 (qHy (by simp [partsOf,Tryz.underlying9]) h0)
 injection e0 with e0
 subst e0
 obtain⟨v1,e1,g1⟩:=qRU (qHy (by simp [partsOf,Tryz.underlying51]) h1)
 injection e1 with e1
 subst e1
 obtain⟨v2,rfl,g2⟩:=qMA h2
 obtain⟨v3,rfl⟩:=qI0 h3
 obtain⟨v4,rfl⟩:=qI0 h4
 obtain⟨v5,e5,g5⟩:=qMT (qHy (by simp [partsOf,Tryz.underlying40]) h5)
 injection e5 with e5
 subst e5
 exact qKL v0 v1 v2 v3 v4 v5 g0 g1 g2 g5
theorem qGF (os:Os) (started:os.Started) (H:Type) (enc:TypeId × Value→H) :
  ReturnsInHanded {} Tryz.checked os 4 .any (fun w args=>(Rows.parseReadsSpec.pre enc Tryz.prog Tryz.f4 [] false w args∧laidMetH Tryz.prog qLl w)∧sizedMet enc Tryz.prog Tryz.f4 (OpenSpec.ofChange Rows.parseReadsSpec) false w args)
   (Rows.parseReadsSpec.post enc Tryz.prog Tryz.f4 false true false false):=by
 refine returnsInHanded_of_change_and (C:=Tryz.checked) (X:=fun w _=>laidMetH Tryz.prog qLl w) (fun _ _ _ hh h=>h.of_heap hh) own started (by kernel_rfl) Tryz.func4
  (ChangeSpec.witness_shaped (enc:=enc) (C:=Tryz.checked) (os:=os) (X:=fun w _=>laidMetH Tryz.prog qLl w) false (World.laidAll Tryz.prog os qLl) #[.string ⟨#[]⟩, .slice none 0 0, .agg #[.int .u8 0, .int .u8 0, .slice none 0 0, .int .u8 0, .int .u8 0, .int .u8 0, .int .u8 0, .bool false, .slice none 0 0, .int .u8 0, .int .u8 0, .int .u8 0, .slice none 0 0, .bool false], .agg #[.int .u16 0, .int .u16 0, .int .u8 0], .agg #[.int .u16 0, .int .u16 0, .int .u8 0], .slice none 0 0] 8 (World.laidAll_os _ _ _) (World.shaped_of_ZipB (by kernel_rfl) (by kernel_rfl)) (by kernel_rfl) (by kernel_rfl) (by kernel_rfl) (qQh os _)) ?_
 intro W base args ds gs before hval hW _ _ hL _
 obtain⟨p,q,hA,hV,_⟩:=id hW
 have hs:Tryz.f4.params.toList.all (qIH Tryz.prog 8)=true:=by kernel_rfl
 obtain⟨_,_,_,hlen⟩:=qL9 hs (fun j t v ht hv=>hval j t v (by simpa using ht) (by simpa using hv)) hA
 refine(qJu (cx:=cx) Tryz.func4 (by kernel_rfl) rfl hs qHX hval hA (qSB hL)).mono fun e W' ⟨he,h1,h2,h3⟩=>?_
 subst he
 exact⟨_,rfl,qKJ (cx:=cx) (m:=8) hs rfl (by kernel_rfl) Tryz.underlying4 (fun ds h=>by
  rw [Tryz.params4] at h
  match ds,h with
  | [_,_,_,_,_,_],_=>rfl) hW hlen h1 h2 h3⟩
theorem qGs:Rows.ParseReadsSaid:=
 OpenClaim.holds_of_wide 4 Tryz.f4 rfl rfl rfl rfl rfl rfl rfl ⟨rfl,rfl,rfl,rfl,rfl⟩ rfl rfl rfl rfl rfl (by kernel_rfl) Tryz.func4 (by kernel_rfl)
  (of_decide_eq_true (by kernel_rfl)) (by unfold Func.isWrapper;first | (rw [if_pos (by decide +kernel)];kernel_rfl) | (rw [if_neg (by decide +kernel)];exact⟨rfl,rfl⟩))
  (fun os started H enc _=>qGF os started H enc)
theorem parseReads_card:Rows.ParseReadsCardSaid:=
 Claim7.holds_tied_plain_at .later [] [.data, .data, .data, .data, .data] true (true, "b46c99eb2204dd8b467615443c82243f622f25a7b7341c27729da0866b8561af") true
  qGs (fun _ h=>by cases h) (by kernel_rfl) (fun _ h=>by cases h) parseReads_row_tie rfl ⟨rfl,rfl⟩ (by kernel_rfl) rfl
  (fun f fn hf hfn=>by
   obtain rfl : f = 4 := Option.some.inj ((show Tryz.prog.funcNamed "haruspex/haruspexlaw38.ParseReads" = some 4 by kernel_rfl).symm.trans hf) |>.symm
   obtain rfl:fn=Tryz.f4:=(Option.some.inj (Tryz.func4.symm.trans hfn)).symm
   exact⟨by kernel_rfl,fun j t ht=>by
    have hall:(Tryz.f4.params.toList.all fun u=>!Tryz.prog.wantsStandIn u)=true:=by kernel_rfl
    exact(show Tryz.prog.wantsStandIn t=false by simpa using List.all_eq_true.1 hall t (by simpa using Array.mem_of_getElem? ht))⟩)
  (by kernel_rfl)
#print axioms parseReads_card
end Go.Proofs.YtohfoaplnjcihaaGreatDoor

/- ParseBack: the row and the card. Parsing the canonical text of a program gives the program;equal texts have equal programs. Conditions: those of the card. -/
import Derived.Test.YtohfoaplnjcihaaGreatDoorRows
import Derived.Lay
import Derived.Test.YtohfoaplnjcihaaGreatDoorCards
import Derived.Test.YtohfoaplnjcihaaGreatDoorTie
import Derived.SevenTiedAt
import Derived.Test.YtohfoaplnjcihaaGreatDoorQ5
namespace Go.Proofs.YtohfoaplnjcihaaGreatDoor
open Go Y
set_option maxRecDepth 100000
set_option maxHeartbeats 40000000
theorem qD4 (p:Pc) (rs:List Rf) (cs:List Int) (h:RcA rs cs) (hm3:3<=p.m.toNat % 8):Pure cx 66 [.agg p.cells,qB5 rs,ints cs] fun r=>∃ c:Cd,r=.ret [c.pv]/\∀ d,CdS (d+1) c 1 18:=
 (qPW p rs cs h hm3).weak fun r hr=>by
  obtain⟨y,c,rfl,h1,h2⟩:=hr
  exact⟨.ret [c.pv],⟨_,rfl,_,_,rfl,h1,rfl⟩,c,rfl,h2⟩
theorem qVd (p:Pc) (rs:List Rf) (cs:List Int) (h:RcA rs cs):Pure cx 66 [.agg p.cells,qB5 rs,ints cs] CdQ:=by
 refine qAC Tryz.func66 rfl rfl rfl ?_
 obtain⟨w,o,n,m,x,y,z⟩:=p
 have hl':(rs.map Rf.cells).length=rs.length:=List.length_map ..
 have hpos:=h.pos
 have hk:(w.toNat:Int).tmod ((rs.map Rf.cells).length:Nat)=((w.toNat % rs.length:Nat):Int):=by rw [hl'];rfl
 have hkl:w.toNat % rs.length<rs.length:=Nat.mod_lt _ (by omega)
 generalize w.toNat % rs.length=k at hk hkl
 have hcell:=qK8 hkl
 have hkc:k<cs.length:=by have:=h.ok.eq;omega
 have qDU:=qUB hkc
 have hrf:=h.ok.refs _ (qAL rf0 hkl)
 have hcd:=h.ok.nums _ (qAL 0 hkc)
 generalize rs.getD k rf0=rf at hcell hrf
 generalize cs.getD k 0=cd at qDU hcd
 obtain⟨nm,md,pl,rn⟩:=rf
 have hw:=w.toNat_lt
 have ho:=o.toNat_lt
 have hn:=n.toNat_lt
 have hm:=m.toNat_lt
 have eo:((o.toNat % 4:Nat):Int)=IntKind.i64.wrap ((o.toNat:Int).tmod 4):=by
  rw [show(o.toNat:Int).tmod 4=((o.toNat % 4:Nat):Int) from rfl];exact w6z
 have en:(n.toNat:Int)=IntKind.i64.wrap (n.toNat:Int):=w6z
 have hv0:=qCd (Int.natCast_nonneg n.toNat) (show 0<cd by omega)
 have hv:=hv0
 have e8:(m.toNat:Int).tmod 8=((m.toNat % 8:Nat):Int):=rfl
 have f8:(o.toNat:Int).tmod 8=((o.toNat % 8:Nat):Int):=rfl
 have hok:=hrf.ok
 refine⟨(w.toNat:Int),w6z,?_⟩
 refine⟨by show ¬ (((rs.map Rf.cells).length:Nat):Int)=0;rw [hl'];omega,?_⟩
 generalize (w.toNat:Int).tmod ((rs.map Rf.cells).length:Nat)=kk at hk ⊢
 subst hk
 refine qAf qYR (by kernel_rfl) ?_
 refine⟨by decide,?_⟩
 refine⟨((o.toNat % 4:Nat):Int),eo,?_⟩
 refine⟨1+((o.toNat % 4:Nat):Int),w6z,?_⟩
 refine⟨_,⟨by omega,(⟨nm,md,pl,rn⟩:Rf).cells,hcell,rfl⟩,?_⟩
 refine⟨(n.toNat:Int),en,?_⟩
 refine⟨_,⟨by omega,i64 cd,qDU,rfl⟩,?_⟩
 refine⟨by show ¬ cd=0;omega,?_⟩
 generalize (n.toNat:Int).tmod cd=v at hv ⊢
 refine⟨⟨rfl,congrArg (fun z:Int=>AV.p (.int .i64 z)) en,rfl,rfl,congrArg (fun z:Int=>AV.p (.int .i64 z)) eo,rfl,trivial⟩,?_⟩
 refine⟨_,⟨by omega,(⟨nm,md,pl,rn⟩:Rf).cells,hcell,rfl⟩,?_⟩
 refine And.intro (fun h3=>?_) (fun h3=>?_)
 ·have h3:md=3:=h3
  refine qAf qYQ (by kernel_rfl) ?_
  refine⟨_,⟨by omega,(⟨nm,md,pl,rn⟩:Rf).cells,hcell,rfl⟩,?_⟩
  refine⟨(n.toNat:Int),en,?_⟩
  refine⟨_,⟨by omega,i64 cd,qDU,rfl⟩,?_⟩
  refine⟨by show ¬ cd=0;omega,?_⟩
  clear hv
  have hv:=hv0
  generalize (n.toNat:Int).tmod cd=v at hv ⊢
  refine⟨by decide,?_⟩
  refine⟨((o.toNat % 4:Nat):Int),eo,?_⟩
  refine⟨1+((o.toNat % 4:Nat):Int),w6z,?_⟩
  refine⟨by decide,((n.toNat / 8:Nat):Int),wrap_u8' (by omega),?_⟩
  refine⟨((n.toNat / 8:Nat):Int),w6z,?_⟩
  refine⟨by decide,?_⟩
  have hq:=qCd (Int.natCast_nonneg (n.toNat / 8)) (show(0:Int)<4 by decide)
  generalize ((n.toNat / 8:Nat):Int).tmod 4=q at hq ⊢
  have hC1:∀ d,CdS (d+1) (.mk 6 q (1+((o.toNat % 4:Nat):Int)) v ⟨nm,md,pl,rn⟩ [] []) 1 18:=CdS.leaf (by decide) (by decide) (by decide) (by rw [qAQ,if_neg (by decide),if_neg (by decide),if_pos rfl,hok,decide_eq_true h3,qDc hq.1 (by omega),qDc hv.1 (by omega),decide_eq_true (by omega),decide_eq_true (by omega)];rfl) hrf (by omega) (by omega) ⟨by decide,fun a ha=>by cases ha⟩
  refine⟨by decide,?_⟩
  by_cases m0:m.toNat % 8=0
  ·refine And.intro (fun _=>?_) (fun h=>absurd (show(m.toNat:Int).tmod 8=0 by rw [e8];omega) h)
   refine qAG (.agg [i64 7,i64 0,i64 0,i64 0, .str [],i64 0, .str [],i64 0, .nils, .lsts 10 [[i64 6,i64 q,i64 (1+((o.toNat % 4:Nat):Int)),i64 v, .str nm,i64 md, .str pl,i64 rn, .nils, .nils]]]) rfl ⟨_,rfl,_,_,rfl,rfl,_,_,rfl,rfl,_,_,rfl,rfl,_,_,rfl,rfl,_,_,rfl,rfl,_,_,rfl,rfl,_,_,rfl,rfl,_,_,rfl,rfl,_,_,rfl, .inl rfl,_,_,rfl,⟨_,rfl,Nat.le_refl _,rfl⟩,rfl⟩ ?_
   exact⟨_, .mk 7 0 0 0 rf0 [] [.mk 6 q (1+((o.toNat % 4:Nat):Int)) v ⟨nm,md,pl,rn⟩ [] []],2,rfl,qGF 7 (qMY (qAr 6 q (1+((o.toNat % 4:Nat):Int)) v ⟨nm,md,pl,rn⟩)),by decide,(hC1 6).neg.le (by decide)⟩
  refine And.intro (fun h=>absurd (show(m.toNat:Int).tmod 8=0 from h) (by rw [e8];omega)) (fun _=>?_)
  by_cases m12:m.toNat % 8=1∨m.toNat % 8=2
  rotate_left
  ·refine And.intro (fun h=>absurd (show(m.toNat:Int).tmod 8=1 from h) (by rw [e8];omega)) (fun _=>?_)
   refine And.intro (fun h=>absurd (show(m.toNat:Int).tmod 8=2 from h) (by rw [e8];omega)) (fun _=>?_)
   refine qAG (.agg [i64 6,i64 q,i64 (1+((o.toNat % 4:Nat):Int)),i64 v, .str nm,i64 md, .str pl,i64 rn, .nils, .nils]) rfl rfl ?_
   exact⟨_, .mk 6 q (1+((o.toNat % 4:Nat):Int)) v ⟨nm,md,pl,rn⟩ [] [],1,rfl,qAr 6 q (1+((o.toNat % 4:Nat):Int)) v ⟨nm,md,pl,rn⟩,by decide,(hC1 7).le (by decide)⟩
  by_cases m1:m.toNat % 8=1
  ·refine And.intro (fun _=>?_) (fun h=>absurd (show(m.toNat:Int).tmod 8=1 by rw [e8];omega) h)
   refine qAf qPB (by kernel_rfl) ?_
   refine⟨_,qGd w,?_⟩
   refine⟨by decide,_,qGe n,?_⟩
   refine⟨⟨rfl,rfl,trivial⟩,?_⟩
   refine⟨⟨rfl,trivial⟩,?_⟩
   refine qAf qPA (by kernel_rfl) ?_
   refine⟨by decide,?_⟩
   have e2:((m.toNat % 2:Nat):Int)=IntKind.i64.wrap ((m.toNat:Int).tmod 2):=by
    rw [show(m.toNat:Int).tmod 2=((m.toNat % 2:Nat):Int) from rfl];exact w6z
   refine⟨((m.toNat % 2:Nat):Int),e2,?_⟩
   refine⟨8+((m.toNat % 2:Nat):Int),w6z,?_⟩
   refine(qD4 ⟨UInt8.ofNat (w.toNat+1),o,UInt8.ofNat (n.toNat / 2),7,x,y,z⟩ rs cs h (by show 3<=(7:UInt8).toNat % 8;decide)).at fun r hr=>?_
   obtain⟨⟨ao,an,ar,av,af,as',aa⟩,rfl,hc2⟩:=hr
   refine⟨⟨rfl,congrArg (fun z:Int=>AV.p (.int .i64 z)) e2,rfl,trivial⟩,?_⟩
   refine⟨⟨congrArg (fun z:Int=>AV.p (.int .i64 z)) e2,rfl,trivial⟩,?_⟩
   refine qAG (.agg [i64 (8+((m.toNat % 2:Nat):Int)),i64 0,i64 0,i64 0, .str [],i64 0, .str [],i64 0, .nils, .lsts 10 [[i64 6,i64 q,i64 (1+((o.toNat % 4:Nat):Int)),i64 v, .str nm,i64 md, .str pl,i64 rn, .nils, .nils],(Cd.mk ao an ar av af as' aa).cells]]) rfl ⟨_,rfl,_,_,rfl,rfl,_,_,rfl,rfl,_,_,rfl,rfl,_,_,rfl,rfl,_,_,rfl,rfl,_,_,rfl,rfl,_,_,rfl,rfl,_,_,rfl,rfl,_,_,rfl, .inl rfl,_,_,rfl,⟨_,rfl,Nat.le_refl _,rfl⟩,rfl⟩ ?_
   exact⟨_, .mk (8+((m.toNat % 2:Nat):Int)) 0 0 0 rf0 [] [.mk 6 q (1+((o.toNat % 4:Nat):Int)) v ⟨nm,md,pl,rn⟩ [] [], .mk ao an ar av af as' aa],3,rfl,qGF _ (qGs (qAr 6 q (1+((o.toNat % 4:Nat):Int)) v ⟨nm,md,pl,rn⟩) (NilD.refl _)),by decide,CdS.two (by omega) (hC1 6) (hc2 6)⟩
  ·refine And.intro (fun h=>absurd (show(m.toNat:Int).tmod 8=1 from h) (by rw [e8];omega)) (fun _=>?_)
   refine And.intro (fun _=>?_) (fun h=>absurd (show(m.toNat:Int).tmod 8=2 by rw [e8];omega) h)
   refine qAf qPB (by kernel_rfl) ?_
   refine⟨_,qGd w,?_⟩
   refine⟨by decide,_,qGe n,?_⟩
   refine⟨⟨rfl,rfl,trivial⟩,?_⟩
   refine⟨⟨rfl,trivial⟩,?_⟩
   refine qAf qPA (by kernel_rfl) ?_
   refine⟨by decide,?_⟩
   have e2:((m.toNat % 2:Nat):Int)=IntKind.i64.wrap ((m.toNat:Int).tmod 2):=by
    rw [show(m.toNat:Int).tmod 2=((m.toNat % 2:Nat):Int) from rfl];exact w6z
   refine⟨((m.toNat % 2:Nat):Int),e2,?_⟩
   refine⟨8+((m.toNat % 2:Nat):Int),w6z,?_⟩
   refine(qD4 ⟨UInt8.ofNat (w.toNat+1),o,UInt8.ofNat (n.toNat / 2),7,x,y,z⟩ rs cs h (by show 3<=(7:UInt8).toNat % 8;decide)).at fun r hr=>?_
   obtain⟨⟨ao,an,ar,av,af,as',aa⟩,rfl,hc2⟩:=hr
   refine⟨⟨rfl,congrArg (fun z:Int=>AV.p (.int .i64 z)) e2,rfl,trivial⟩,?_⟩
   refine⟨⟨congrArg (fun z:Int=>AV.p (.int .i64 z)) e2,rfl,trivial⟩,?_⟩
   refine qAG (.agg [i64 (8+((m.toNat % 2:Nat):Int)),i64 0,i64 0,i64 0, .str [],i64 0, .str [],i64 0, .nils, .lsts 10 [[i64 6,i64 q,i64 (1+((o.toNat % 4:Nat):Int)),i64 v, .str nm,i64 md, .str pl,i64 rn, .nils, .nils],(Cd.mk ao an ar av af as' aa).cells]]) rfl ⟨_,rfl,_,_,rfl,rfl,_,_,rfl,rfl,_,_,rfl,rfl,_,_,rfl,rfl,_,_,rfl,rfl,_,_,rfl,rfl,_,_,rfl,rfl,_,_,rfl,rfl,_,_,rfl, .inl rfl,_,_,rfl,⟨_,rfl,Nat.le_refl _,rfl⟩,rfl⟩ ?_
   exact⟨_, .mk (8+((m.toNat % 2:Nat):Int)) 0 0 0 rf0 [] [.mk 6 q (1+((o.toNat % 4:Nat):Int)) v ⟨nm,md,pl,rn⟩ [] [], .mk ao an ar av af as' aa],3,rfl,qGF _ (qGs (qAr 6 q (1+((o.toNat % 4:Nat):Int)) v ⟨nm,md,pl,rn⟩) (NilD.refl _)),by decide,CdS.two (by omega) (hC1 6) (hc2 6)⟩
 ·refine⟨by decide,?_⟩
  by_cases h6:5<o.toNat % 8
  rotate_left
  ·refine And.intro (fun h=>absurd (show(5:Int)<(o.toNat:Int).tmod 8 from h) (by rw [f8];omega)) (fun _=>?_)
   have hC2:∀ d,CdS (d+1) (.mk (1+((o.toNat % 4:Nat):Int)) v 0 0 ⟨nm,md,pl,rn⟩ [] []) 1 18:=CdS.leaf (by omega) (by omega) (by omega) (qIK (by omega) hok (qDc hv.1 (by omega))) hrf (by omega) (by decide) ⟨by decide,fun a ha=>by cases ha⟩
   refine⟨by decide,?_⟩
   by_cases m0:m.toNat % 8=0
   ·refine And.intro (fun _=>?_) (fun h=>absurd (show(m.toNat:Int).tmod 8=0 by rw [e8];omega) h)
    refine qAG (.agg [i64 7,i64 0,i64 0,i64 0, .str [],i64 0, .str [],i64 0, .nils, .lsts 10 [[i64 (1+((o.toNat % 4:Nat):Int)),i64 v,i64 0,i64 0, .str nm,i64 md, .str pl,i64 rn, .nils, .nils]]]) rfl ⟨_,rfl,_,_,rfl,rfl,_,_,rfl,rfl,_,_,rfl,rfl,_,_,rfl,rfl,_,_,rfl,rfl,_,_,rfl,rfl,_,_,rfl,rfl,_,_,rfl,rfl,_,_,rfl, .inl rfl,_,_,rfl,⟨_,rfl,Nat.le_refl _,rfl⟩,rfl⟩ ?_
    exact⟨_, .mk 7 0 0 0 rf0 [] [.mk (1+((o.toNat % 4:Nat):Int)) v 0 0 ⟨nm,md,pl,rn⟩ [] []],2,rfl,qGF 7 (qMY (qAr (1+((o.toNat % 4:Nat):Int)) v 0 0 ⟨nm,md,pl,rn⟩)),by decide,(hC2 6).neg.le (by decide)⟩
   refine And.intro (fun h=>absurd (show(m.toNat:Int).tmod 8=0 from h) (by rw [e8];omega)) (fun _=>?_)
   by_cases m12:m.toNat % 8=1∨m.toNat % 8=2
   rotate_left
   ·refine And.intro (fun h=>absurd (show(m.toNat:Int).tmod 8=1 from h) (by rw [e8];omega)) (fun _=>?_)
    refine And.intro (fun h=>absurd (show(m.toNat:Int).tmod 8=2 from h) (by rw [e8];omega)) (fun _=>?_)
    refine qAG (.agg [i64 (1+((o.toNat % 4:Nat):Int)),i64 v,i64 0,i64 0, .str nm,i64 md, .str pl,i64 rn, .nils, .nils]) rfl rfl ?_
    exact⟨_, .mk (1+((o.toNat % 4:Nat):Int)) v 0 0 ⟨nm,md,pl,rn⟩ [] [],1,rfl,qAr (1+((o.toNat % 4:Nat):Int)) v 0 0 ⟨nm,md,pl,rn⟩,by decide,(hC2 7).le (by decide)⟩
   by_cases m1:m.toNat % 8=1
   ·refine And.intro (fun _=>?_) (fun h=>absurd (show(m.toNat:Int).tmod 8=1 by rw [e8];omega) h)
    refine qAf qPB (by kernel_rfl) ?_
    refine⟨_,qGd w,?_⟩
    refine⟨by decide,_,qGe n,?_⟩
    refine⟨⟨rfl,rfl,trivial⟩,?_⟩
    refine⟨⟨rfl,trivial⟩,?_⟩
    refine qAf qPA (by kernel_rfl) ?_
    refine⟨by decide,?_⟩
    have e2:((m.toNat % 2:Nat):Int)=IntKind.i64.wrap ((m.toNat:Int).tmod 2):=by
     rw [show(m.toNat:Int).tmod 2=((m.toNat % 2:Nat):Int) from rfl];exact w6z
    refine⟨((m.toNat % 2:Nat):Int),e2,?_⟩
    refine⟨8+((m.toNat % 2:Nat):Int),w6z,?_⟩
    refine(qD4 ⟨UInt8.ofNat (w.toNat+1),o,UInt8.ofNat (n.toNat / 2),7,x,y,z⟩ rs cs h (by show 3<=(7:UInt8).toNat % 8;decide)).at fun r hr=>?_
    obtain⟨⟨ao,an,ar,av,af,as',aa⟩,rfl,hc2⟩:=hr
    refine⟨⟨rfl,congrArg (fun z:Int=>AV.p (.int .i64 z)) e2,rfl,trivial⟩,?_⟩
    refine⟨⟨congrArg (fun z:Int=>AV.p (.int .i64 z)) e2,rfl,trivial⟩,?_⟩
    refine qAG (.agg [i64 (8+((m.toNat % 2:Nat):Int)),i64 0,i64 0,i64 0, .str [],i64 0, .str [],i64 0, .nils, .lsts 10 [[i64 (1+((o.toNat % 4:Nat):Int)),i64 v,i64 0,i64 0, .str nm,i64 md, .str pl,i64 rn, .nils, .nils],(Cd.mk ao an ar av af as' aa).cells]]) rfl ⟨_,rfl,_,_,rfl,rfl,_,_,rfl,rfl,_,_,rfl,rfl,_,_,rfl,rfl,_,_,rfl,rfl,_,_,rfl,rfl,_,_,rfl,rfl,_,_,rfl,rfl,_,_,rfl, .inl rfl,_,_,rfl,⟨_,rfl,Nat.le_refl _,rfl⟩,rfl⟩ ?_
    exact⟨_, .mk (8+((m.toNat % 2:Nat):Int)) 0 0 0 rf0 [] [.mk (1+((o.toNat % 4:Nat):Int)) v 0 0 ⟨nm,md,pl,rn⟩ [] [], .mk ao an ar av af as' aa],3,rfl,qGF _ (qGs (qAr (1+((o.toNat % 4:Nat):Int)) v 0 0 ⟨nm,md,pl,rn⟩) (NilD.refl _)),by decide,CdS.two (by omega) (hC2 6) (hc2 6)⟩
   ·refine And.intro (fun h=>absurd (show(m.toNat:Int).tmod 8=1 from h) (by rw [e8];omega)) (fun _=>?_)
    refine And.intro (fun _=>?_) (fun h=>absurd (show(m.toNat:Int).tmod 8=2 by rw [e8];omega) h)
    refine qAf qPB (by kernel_rfl) ?_
    refine⟨_,qGd w,?_⟩
    refine⟨by decide,_,qGe n,?_⟩
    refine⟨⟨rfl,rfl,trivial⟩,?_⟩
    refine⟨⟨rfl,trivial⟩,?_⟩
    refine qAf qPA (by kernel_rfl) ?_
    refine⟨by decide,?_⟩
    have e2:((m.toNat % 2:Nat):Int)=IntKind.i64.wrap ((m.toNat:Int).tmod 2):=by
     rw [show(m.toNat:Int).tmod 2=((m.toNat % 2:Nat):Int) from rfl];exact w6z
    refine⟨((m.toNat % 2:Nat):Int),e2,?_⟩
    refine⟨8+((m.toNat % 2:Nat):Int),w6z,?_⟩
    refine(qD4 ⟨UInt8.ofNat (w.toNat+1),o,UInt8.ofNat (n.toNat / 2),7,x,y,z⟩ rs cs h (by show 3<=(7:UInt8).toNat % 8;decide)).at fun r hr=>?_
    obtain⟨⟨ao,an,ar,av,af,as',aa⟩,rfl,hc2⟩:=hr
    refine⟨⟨rfl,congrArg (fun z:Int=>AV.p (.int .i64 z)) e2,rfl,trivial⟩,?_⟩
    refine⟨⟨congrArg (fun z:Int=>AV.p (.int .i64 z)) e2,rfl,trivial⟩,?_⟩
    refine qAG (.agg [i64 (8+((m.toNat % 2:Nat):Int)),i64 0,i64 0,i64 0, .str [],i64 0, .str [],i64 0, .nils, .lsts 10 [[i64 (1+((o.toNat % 4:Nat):Int)),i64 v,i64 0,i64 0, .str nm,i64 md, .str pl,i64 rn, .nils, .nils],(Cd.mk ao an ar av af as' aa).cells]]) rfl ⟨_,rfl,_,_,rfl,rfl,_,_,rfl,rfl,_,_,rfl,rfl,_,_,rfl,rfl,_,_,rfl,rfl,_,_,rfl,rfl,_,_,rfl,rfl,_,_,rfl,rfl,_,_,rfl, .inl rfl,_,_,rfl,⟨_,rfl,Nat.le_refl _,rfl⟩,rfl⟩ ?_
    exact⟨_, .mk (8+((m.toNat % 2:Nat):Int)) 0 0 0 rf0 [] [.mk (1+((o.toNat % 4:Nat):Int)) v 0 0 ⟨nm,md,pl,rn⟩ [] [], .mk ao an ar av af as' aa],3,rfl,qGF _ (qGs (qAr (1+((o.toNat % 4:Nat):Int)) v 0 0 ⟨nm,md,pl,rn⟩) (NilD.refl _)),by decide,CdS.two (by omega) (hC2 6) (hc2 6)⟩
  refine And.intro (fun _=>?_) (fun h=>absurd (show(5:Int)<(o.toNat:Int).tmod 8 by rw [f8];omega) h)
  refine qAf qYP (by kernel_rfl) ?_
  refine⟨(n.toNat:Int),en,?_⟩
  refine⟨by decide,?_⟩
  have hj:(n.toNat:Int).tmod 2=((n.toNat % 2:Nat):Int):=rfl
  have hj2:n.toNat % 2<2:=Nat.mod_lt _ (by decide)
  generalize n.toNat % 2=j at hj hj2
  generalize (n.toNat:Int).tmod 2=jj at hj ⊢
  subst hj
  have s01:=qWO j hj2
  refine⟨by show(0:Int)<=((j:Nat):Int)/\((j:Nat):Int)<=2;omega,?_⟩
  refine⟨⟨congrArg (fun z:Int=>AV.p (.int .i64 z)) en,rfl,trivial⟩,?_⟩
  refine⟨⟨congrArg (fun z:Int=>AV.p (.int .i64 z)) en,rfl,trivial⟩,?_⟩
  have hC3:∀ d,CdS (d+1) (.mk 5 0 0 0 ⟨nm,md,pl,rn⟩ (([0,1]:List Int).drop j) []) 1 18:=CdS.leaf (by decide) (by decide) (by decide) (qOC hok s01.1) hrf (by decide) (by decide) s01.2
  refine⟨by decide,?_⟩
  by_cases m0:m.toNat % 8=0
  ·refine And.intro (fun _=>?_) (fun h=>absurd (show(m.toNat:Int).tmod 8=0 by rw [e8];omega) h)
   refine qAG (.agg [i64 7,i64 0,i64 0,i64 0, .str [],i64 0, .str [],i64 0, .nils, .lsts 10 [[i64 5,i64 0,i64 0,i64 0, .str nm,i64 md, .str pl,i64 rn, .lst ((([0,1]:List Int).map i64).drop j), .nils]]]) rfl ⟨_,rfl,_,_,rfl,rfl,_,_,rfl,rfl,_,_,rfl,rfl,_,_,rfl,rfl,_,_,rfl,rfl,_,_,rfl,rfl,_,_,rfl,rfl,_,_,rfl,rfl,_,_,rfl, .inl rfl,_,_,rfl,⟨_,rfl,Nat.le_refl _,rfl⟩,rfl⟩ ?_
   exact⟨_, .mk 7 0 0 0 rf0 [] [.mk 5 0 0 0 ⟨nm,md,pl,rn⟩ (([0,1]:List Int).drop j) []],2,rfl,qGF 7 (qMY (qDM ⟨nm,md,pl,rn⟩ [0,1] j)),by decide,(hC3 6).neg.le (by decide)⟩
  refine And.intro (fun h=>absurd (show(m.toNat:Int).tmod 8=0 from h) (by rw [e8];omega)) (fun _=>?_)
  by_cases m12:m.toNat % 8=1∨m.toNat % 8=2
  rotate_left
  ·refine And.intro (fun h=>absurd (show(m.toNat:Int).tmod 8=1 from h) (by rw [e8];omega)) (fun _=>?_)
   refine And.intro (fun h=>absurd (show(m.toNat:Int).tmod 8=2 from h) (by rw [e8];omega)) (fun _=>?_)
   refine qAG (.agg [i64 5,i64 0,i64 0,i64 0, .str nm,i64 md, .str pl,i64 rn, .lst ((([0,1]:List Int).map i64).drop j), .nils]) rfl rfl ?_
   exact⟨_, .mk 5 0 0 0 ⟨nm,md,pl,rn⟩ (([0,1]:List Int).drop j) [],1,rfl,qDM ⟨nm,md,pl,rn⟩ [0,1] j,by decide,(hC3 7).le (by decide)⟩
  by_cases m1:m.toNat % 8=1
  ·refine And.intro (fun _=>?_) (fun h=>absurd (show(m.toNat:Int).tmod 8=1 by rw [e8];omega) h)
   refine qAf qPB (by kernel_rfl) ?_
   refine⟨_,qGd w,?_⟩
   refine⟨by decide,_,qGe n,?_⟩
   refine⟨⟨rfl,rfl,trivial⟩,?_⟩
   refine⟨⟨rfl,trivial⟩,?_⟩
   refine qAf qPA (by kernel_rfl) ?_
   refine⟨by decide,?_⟩
   have e2:((m.toNat % 2:Nat):Int)=IntKind.i64.wrap ((m.toNat:Int).tmod 2):=by
    rw [show(m.toNat:Int).tmod 2=((m.toNat % 2:Nat):Int) from rfl];exact w6z
   refine⟨((m.toNat % 2:Nat):Int),e2,?_⟩
   refine⟨8+((m.toNat % 2:Nat):Int),w6z,?_⟩
   refine(qD4 ⟨UInt8.ofNat (w.toNat+1),o,UInt8.ofNat (n.toNat / 2),7,x,y,z⟩ rs cs h (by show 3<=(7:UInt8).toNat % 8;decide)).at fun r hr=>?_
   obtain⟨⟨ao,an,ar,av,af,as',aa⟩,rfl,hc2⟩:=hr
   refine⟨⟨rfl,congrArg (fun z:Int=>AV.p (.int .i64 z)) e2,rfl,trivial⟩,?_⟩
   refine⟨⟨congrArg (fun z:Int=>AV.p (.int .i64 z)) e2,rfl,trivial⟩,?_⟩
   refine qAG (.agg [i64 (8+((m.toNat % 2:Nat):Int)),i64 0,i64 0,i64 0, .str [],i64 0, .str [],i64 0, .nils, .lsts 10 [[i64 5,i64 0,i64 0,i64 0, .str nm,i64 md, .str pl,i64 rn, .lst ((([0,1]:List Int).map i64).drop j), .nils],(Cd.mk ao an ar av af as' aa).cells]]) rfl ⟨_,rfl,_,_,rfl,rfl,_,_,rfl,rfl,_,_,rfl,rfl,_,_,rfl,rfl,_,_,rfl,rfl,_,_,rfl,rfl,_,_,rfl,rfl,_,_,rfl,rfl,_,_,rfl, .inl rfl,_,_,rfl,⟨_,rfl,Nat.le_refl _,rfl⟩,rfl⟩ ?_
   exact⟨_, .mk (8+((m.toNat % 2:Nat):Int)) 0 0 0 rf0 [] [.mk 5 0 0 0 ⟨nm,md,pl,rn⟩ (([0,1]:List Int).drop j) [], .mk ao an ar av af as' aa],3,rfl,qGF _ (qGs (qDM ⟨nm,md,pl,rn⟩ [0,1] j) (NilD.refl _)),by decide,CdS.two (by omega) (hC3 6) (hc2 6)⟩
  ·refine And.intro (fun h=>absurd (show(m.toNat:Int).tmod 8=1 from h) (by rw [e8];omega)) (fun _=>?_)
   refine And.intro (fun _=>?_) (fun h=>absurd (show(m.toNat:Int).tmod 8=2 by rw [e8];omega) h)
   refine qAf qPB (by kernel_rfl) ?_
   refine⟨_,qGd w,?_⟩
   refine⟨by decide,_,qGe n,?_⟩
   refine⟨⟨rfl,rfl,trivial⟩,?_⟩
   refine⟨⟨rfl,trivial⟩,?_⟩
   refine qAf qPA (by kernel_rfl) ?_
   refine⟨by decide,?_⟩
   have e2:((m.toNat % 2:Nat):Int)=IntKind.i64.wrap ((m.toNat:Int).tmod 2):=by
    rw [show(m.toNat:Int).tmod 2=((m.toNat % 2:Nat):Int) from rfl];exact w6z
   refine⟨((m.toNat % 2:Nat):Int),e2,?_⟩
   refine⟨8+((m.toNat % 2:Nat):Int),w6z,?_⟩
   refine(qD4 ⟨UInt8.ofNat (w.toNat+1),o,UInt8.ofNat (n.toNat / 2),7,x,y,z⟩ rs cs h (by show 3<=(7:UInt8).toNat % 8;decide)).at fun r hr=>?_
   obtain⟨⟨ao,an,ar,av,af,as',aa⟩,rfl,hc2⟩:=hr
   refine⟨⟨rfl,congrArg (fun z:Int=>AV.p (.int .i64 z)) e2,rfl,trivial⟩,?_⟩
   refine⟨⟨congrArg (fun z:Int=>AV.p (.int .i64 z)) e2,rfl,trivial⟩,?_⟩
   refine qAG (.agg [i64 (8+((m.toNat % 2:Nat):Int)),i64 0,i64 0,i64 0, .str [],i64 0, .str [],i64 0, .nils, .lsts 10 [[i64 5,i64 0,i64 0,i64 0, .str nm,i64 md, .str pl,i64 rn, .lst ((([0,1]:List Int).map i64).drop j), .nils],(Cd.mk ao an ar av af as' aa).cells]]) rfl ⟨_,rfl,_,_,rfl,rfl,_,_,rfl,rfl,_,_,rfl,rfl,_,_,rfl,rfl,_,_,rfl,rfl,_,_,rfl,rfl,_,_,rfl,rfl,_,_,rfl,rfl,_,_,rfl, .inl rfl,_,_,rfl,⟨_,rfl,Nat.le_refl _,rfl⟩,rfl⟩ ?_
   exact⟨_, .mk (8+((m.toNat % 2:Nat):Int)) 0 0 0 rf0 [] [.mk 5 0 0 0 ⟨nm,md,pl,rn⟩ (([0,1]:List Int).drop j) [], .mk ao an ar av af as' aa],3,rfl,qGF _ (qGs (qDM ⟨nm,md,pl,rn⟩ [0,1] j) (NilD.refl _)),by decide,CdS.two (by omega) (hC3 6) (hc2 6)⟩
theorem qXA (p:Pc) (rs:List Rf) (cs:List Int) (h:RcA rs cs):Pure cx 66 [.agg p.cells,qB5 rs,ints cs] fun r=>∃ (c:Cd) (n:Nat),r=.ret [c.pv]/\n<=3/\CdS 8 c n 43:=
 (qVd p rs cs h).weak fun r hr=>by
  obtain⟨y,c,n,rfl,h1,h2⟩:=hr
  exact⟨.ret [c.pv],⟨_,rfl,_,_,rfl,h1,rfl⟩,c,n,rfl,h2⟩
theorem qIy {C : Cx} {rd : Bool} {n0 N : Nat} {all : List Oper} {σ : Sg} {ds : List AD} {H : Hp} {K : Sg -> List AD -> Hp -> Prop} {X : List AP -> Sg -> List AD -> Hp -> Prop} {α : Type} (sl : α -> List (Nat × AV)) (hp : α -> Hp) (pr : α -> Prop) (ot : OT)
    (h : (C.P.follows .mixedOrders && qB9 N all (masks all []) && qGZ all (masks all []) ot [] [] []) = true)
    (hv : vD C rd all σ (fun σ' ds' H' => ∃ x, pr x /\ Ent C n0 N σ' ds' H' (sets (fun _ => .junk) (sl x)) ds (hp x)) X ot [] ds H) (hk : ∀ x, pr x -> K (sets (fun _ => .junk) (sl x)) ds (hp x)) :
    ∃ ot, (C.P.follows .mixedOrders && qB9 N all (masks all []) && qGZ all (masks all []) ot [] [] []) = true /\
    ((vD C rd all σ K X ot [] ds H) ∨
     ∃ (α : Type) (sl : α -> List (Nat × AV)) (hp : α -> Hp) (pr : α -> Prop),
      vD C rd all σ (fun σ' ds' H' => ∃ x, pr x /\ Ent C n0 N σ' ds' H' (sets (fun _ => .junk) (sl x)) ds (hp x)) X ot [] ds H /\
      ∀ x, pr x -> K (sets (fun _ => .junk) (sl x)) ds (hp x)) := ⟨_, h, .inr ⟨α, sl, hp, pr, hv, hk⟩⟩
abbrev qYf:OT:=(.pure 0 (.pure 1 (.pure 2 (.pure 3 (.pure 4 (.pure 5 (.pure 6 (.pure 8 (.pure 9 (.pure 10 (.pure 11 (.pure 12 (.pure 13 (.pure 14 (.pure 15 (.pure 16 (.pure 17 (.pure 18
 (.eff 7 [15,14,9] (.pure 19 (.eff 20 [15,14,9,4,1] (.eff 21 [] .fin .nil) .nil))
  (.eff 20 [15,14,9,4,1] (.eff 7 [15,14,9] (.pure 19 (.eff 21 [] .fin .nil)) .nil) .nil))))))))))))))))))))
def ksO (l:List Cs):AObj:=⟨qHB,false, .pus (l.map Cs.cells)⟩
def pc0:Pc:=⟨0,0,0,0,0,0,0⟩
theorem qWc {l:List Pc} {k:Nat} (h:k<l.length):(l.map Pc.cells)[k]?=some (l.getD k pc0).cells:=qDz pc0 h
structure GrS (k:Nat) (g:Int):Prop where
 ok:(k=0/\g=0)∨((k=2∨k=3)/\1<=g/\g<=12)
theorem qNx {v:Int} (h:-999<=v/\v<=999):NuS [v]:=by
 have h1:qGW v=true:=by rw [qGW,decide_eq_true (by omega),decide_eq_true (by omega)];rfl
 refine⟨?_,?_⟩
 ·show(decide (1<=1) && decide (1<=8) && (qGW v && true))=true
  rw [h1];rfl
 ·show lw (qHc v++[])<=6
  rw [List.append_nil,qHc]
  have h1:=qJY v
  have h2:=qJY (-v)
  split <;> simp only [qBE,qMd,List.length_cons,List.length_nil] <;> omega
def CaQ (r:PEnd):Prop:=∃ (y:PV) (l:List Cs),r=.ret [y]/\NilD y (css l)/\RuS l
theorem qDy (out:List Cs) (l:List Int):NilD (.lsts 11 (out.map Cs.cells++[zc0++[.lst (l.map i64)]])) (css (out++[⟨cd0,l⟩])):=by
 simp only [css,NilD,List.map_append,List.map_cons,List.map_nil]
 refine⟨_,rfl,?_⟩
 induction out with
 | nil=>
  simp only [List.map_nil,List.nil_append,NilDLL]
  exact⟨_,_,rfl,qN1 l,rfl⟩
 | cons c out ih=>
  simp only [List.map_cons,List.cons_append,NilDLL]
  exact⟨_,_,rfl,NilDL.refl _,ih⟩
structure OutS (out:List Cs) (i:Nat):Prop where
 cs:∀ c∈out,CsS c
 len:out.length<=i
theorem OutS.snoc {out:List Cs} {i:Nat} {c:Cs} (h:OutS out i) (hc:CsS c):OutS (out++[c]) (i+1):=by
 refine⟨fun x hx=>?_,by rw [List.length_append];have:=h.len;simp only [List.length_cons,List.length_nil];omega⟩
 rcases List.mem_append.1 hx with hx | hx
 ·exact h.cs x hx
 ·rw [List.mem_singleton.1 hx];exact hc
theorem qTP (p:Pt) (rs:List Rf) (cs:List Int) (h:RcS rs cs) (k:Nat) (g:Int) (hg:GrS k g) (hp:p.cases.length<=9223372036854775807):Pure cx 40 [.agg p.cells,qB5 rs,ints cs,i64 (k:Int),i64 g] CaQ:=by
 refine qAC Tryz.func40 rfl rfl rfl ?_
 obtain⟨kind,card,frm,modes,pl,ps,x,y,z⟩:=p
 have hps:(ps.map Pc.cells).length=ps.length:=List.length_map ..
 have hrs:(rs.map Rf.cells).length=rs.length:=List.length_map ..
 have hr2:=h.len
 simp only [] at hp
 refine⟨Nat × List Cs,fun x'=>[(1, .p (qB5 rs)),(2, .p (ints cs)),(3, .p (i64 (k:Int))),(4, .p (i64 g)),(5, .ptr 0 0 0),(11, .sl 1 11 0 x'.2.length),(12, .p (i64 x'.1))],fun x'=>⟨2,[(1,ksO x'.2),(0,ptO ⟨kind,card,frm,modes,pl,ps,x,y,z⟩)]⟩,fun x'=>x'.1<=3/\OutS x'.2 x'.1,fun x'=>3 - x'.1,?_,?_⟩
 ·exact⟨(0,[]),⟨by decide,⟨fun c hc=>(by cases hc),Nat.le_refl _⟩⟩,qAB [] [] [(1,11)] rfl (sk) (sk) rfl⟩
 rintro⟨i,out⟩ ⟨k1,k2⟩
 simp only [] at k1 k2
 by_cases ha:i<ps.length/\i<3/\0<rs.length
 rotate_left
 ·by_cases hi:i<ps.length
  rotate_left
  ·refine And.intro (fun h=>absurd (show(i:Int)<((ps.map Pc.cells).length:Nat) from h) (by rw [hps];omega)) (fun _=>?_)
   refine⟨by show(0:Int)<=0/\(0:Int)<3;decide,?_⟩
   refine⟨.p (u8 x),qPL (by kernel_rfl) rfl,?_⟩
   refine⟨(x.toNat:Int),wrap_i64 (by omega) (by have:=x.toNat_lt;omega),?_⟩
   refine⟨by decide,?_⟩
   have hz:=qCd (Int.natCast_nonneg x.toNat) (show(0:Int)<21 by decide)
   generalize (x.toNat:Int).tmod 21=zz at hz ⊢
   refine⟨zz - 10,w6z,?_⟩
   by_cases hg0:0<g
   ·refine And.intro (fun _=>?_) (fun h=>absurd hg0 h)
    obtain⟨hk,hg1,hg2⟩:(k=2∨k=3)/\1<=g/\g<=12:=by
     rcases hg.ok with h | h
     ·omega
     ·exact h
    refine(qFz x y z k g hk ⟨by omega,hg2⟩).at fun r hr=>?_
    obtain⟨l,rfl,hl⟩:=hr
    refine⟨by show 0+1<=1;omega,[zc0++[ints l]],rfl,?_⟩
    refine⟨by show 0+out.length<=(out.map Cs.cells).length;simp,out.map Cs.cells,qAD (by simp),by show(out.length+1) * 152<=140737488355328;have:=k2.len;omega,out.map Cs.cells++[zc0++[ints l]],rfl,?_⟩
    refine qAG (.lsts 11 (out.map Cs.cells++[zc0++[ints l]])) rfl ⟨_,rfl,by show 0+(out.length+1)<=(out.map Cs.cells++[zc0++[ints l]]).length;simp,qAD (by simp)⟩ ⟨_,out++[⟨cd0,l⟩],rfl,qDy out l,qGj (by have:=k2.len;omega) k2.cs ⟨rfl,(hl.nu hk)⟩⟩
   ·refine And.intro (fun h=>absurd h hg0) (fun _=>?_)
    refine⟨by show 0+1<=1;omega,_,rfl, .inl ⟨[2],[zc0++[ints [zz - 10]]],rfl,⟨_,_,rfl,⟨_,_,rfl,rfl,_,_,rfl,rfl,_,_,rfl,rfl,_,_,rfl,rfl,_,_,rfl,rfl,_,_,rfl,rfl,_,_,rfl,rfl,_,_,rfl,rfl,_,_,rfl, .inl rfl,_,_,rfl, .inl rfl,_,_,rfl,⟨_,rfl,Nat.le_refl _,rfl⟩,rfl⟩,rfl⟩,?_⟩⟩
    refine⟨by show 0+out.length<=(out.map Cs.cells).length;simp,out.map Cs.cells,qAD (by simp),by show(out.length+1) * 152<=140737488355328;have:=k2.len;omega,out.map Cs.cells++[zc0++[ints [zz - 10]]],rfl,?_⟩
    refine qAG (.lsts 11 (out.map Cs.cells++[zc0++[ints [zz - 10]]])) rfl ⟨_,rfl,by show 0+(out.length+1)<=(out.map Cs.cells++[zc0++[ints [zz - 10]]]).length;simp,qAD (by simp)⟩ ⟨_,out++[⟨cd0,[zz - 10]⟩],rfl,qDy out [zz - 10],qGj (by have:=k2.len;omega) k2.cs ⟨rfl,(qNx (by omega))⟩⟩
  refine And.intro (fun _=>?_) (fun h=>absurd (show(i:Int)<((ps.map Pc.cells).length:Nat) by rw [hps];omega) h)
  by_cases hi3:i<3
  rotate_left
  ·refine And.intro (fun h=>absurd (show(i:Int)<3 from h) (by omega)) (fun _=>?_)
   refine⟨by show(0:Int)<=0/\(0:Int)<3;decide,?_⟩
   refine⟨.p (u8 x),qPL (by kernel_rfl) rfl,?_⟩
   refine⟨(x.toNat:Int),wrap_i64 (by omega) (by have:=x.toNat_lt;omega),?_⟩
   refine⟨by decide,?_⟩
   have hz:=qCd (Int.natCast_nonneg x.toNat) (show(0:Int)<21 by decide)
   generalize (x.toNat:Int).tmod 21=zz at hz ⊢
   refine⟨zz - 10,w6z,?_⟩
   by_cases hg0:0<g
   ·refine And.intro (fun _=>?_) (fun h=>absurd hg0 h)
    obtain⟨hk,hg1,hg2⟩:(k=2∨k=3)/\1<=g/\g<=12:=by
     rcases hg.ok with h | h
     ·omega
     ·exact h
    refine(qFz x y z k g hk ⟨by omega,hg2⟩).at fun r hr=>?_
    obtain⟨l,rfl,hl⟩:=hr
    refine⟨by show 0+1<=1;omega,[zc0++[ints l]],rfl,?_⟩
    refine⟨by show 0+out.length<=(out.map Cs.cells).length;simp,out.map Cs.cells,qAD (by simp),by show(out.length+1) * 152<=140737488355328;have:=k2.len;omega,out.map Cs.cells++[zc0++[ints l]],rfl,?_⟩
    refine qAG (.lsts 11 (out.map Cs.cells++[zc0++[ints l]])) rfl ⟨_,rfl,by show 0+(out.length+1)<=(out.map Cs.cells++[zc0++[ints l]]).length;simp,qAD (by simp)⟩ ⟨_,out++[⟨cd0,l⟩],rfl,qDy out l,qGj (by have:=k2.len;omega) k2.cs ⟨rfl,(hl.nu hk)⟩⟩
   ·refine And.intro (fun h=>absurd h hg0) (fun _=>?_)
    refine⟨by show 0+1<=1;omega,_,rfl, .inl ⟨[2],[zc0++[ints [zz - 10]]],rfl,⟨_,_,rfl,⟨_,_,rfl,rfl,_,_,rfl,rfl,_,_,rfl,rfl,_,_,rfl,rfl,_,_,rfl,rfl,_,_,rfl,rfl,_,_,rfl,rfl,_,_,rfl,rfl,_,_,rfl, .inl rfl,_,_,rfl, .inl rfl,_,_,rfl,⟨_,rfl,Nat.le_refl _,rfl⟩,rfl⟩,rfl⟩,?_⟩⟩
    refine⟨by show 0+out.length<=(out.map Cs.cells).length;simp,out.map Cs.cells,qAD (by simp),by show(out.length+1) * 152<=140737488355328;have:=k2.len;omega,out.map Cs.cells++[zc0++[ints [zz - 10]]],rfl,?_⟩
    refine qAG (.lsts 11 (out.map Cs.cells++[zc0++[ints [zz - 10]]])) rfl ⟨_,rfl,by show 0+(out.length+1)<=(out.map Cs.cells++[zc0++[ints [zz - 10]]]).length;simp,qAD (by simp)⟩ ⟨_,out++[⟨cd0,[zz - 10]⟩],rfl,qDy out [zz - 10],qGj (by have:=k2.len;omega) k2.cs ⟨rfl,(qNx (by omega))⟩⟩
  refine And.intro (fun _=>?_) (fun h=>absurd (show(i:Int)<3 by omega) h)
  refine And.intro (fun h=>absurd (show(0:Int)<((rs.map Rf.cells).length:Nat) from h) (by rw [hrs];omega)) (fun _=>?_)
  refine⟨by show(0:Int)<=0/\(0:Int)<3;decide,?_⟩
  refine⟨.p (u8 x),qPL (by kernel_rfl) rfl,?_⟩
  refine⟨(x.toNat:Int),wrap_i64 (by omega) (by have:=x.toNat_lt;omega),?_⟩
  refine⟨by decide,?_⟩
  have hz:=qCd (Int.natCast_nonneg x.toNat) (show(0:Int)<21 by decide)
  generalize (x.toNat:Int).tmod 21=zz at hz ⊢
  refine⟨zz - 10,w6z,?_⟩
  by_cases hg0:0<g
  ·refine And.intro (fun _=>?_) (fun h=>absurd hg0 h)
   obtain⟨hk,hg1,hg2⟩:(k=2∨k=3)/\1<=g/\g<=12:=by
    rcases hg.ok with h | h
    ·omega
    ·exact h
   refine(qFz x y z k g hk ⟨by omega,hg2⟩).at fun r hr=>?_
   obtain⟨l,rfl,hl⟩:=hr
   refine⟨by show 0+1<=1;omega,[zc0++[ints l]],rfl,?_⟩
   refine⟨by show 0+out.length<=(out.map Cs.cells).length;simp,out.map Cs.cells,qAD (by simp),by show(out.length+1) * 152<=140737488355328;have:=k2.len;omega,out.map Cs.cells++[zc0++[ints l]],rfl,?_⟩
   refine qAG (.lsts 11 (out.map Cs.cells++[zc0++[ints l]])) rfl ⟨_,rfl,by show 0+(out.length+1)<=(out.map Cs.cells++[zc0++[ints l]]).length;simp,qAD (by simp)⟩ ⟨_,out++[⟨cd0,l⟩],rfl,qDy out l,qGj (by have:=k2.len;omega) k2.cs ⟨rfl,(hl.nu hk)⟩⟩
  ·refine And.intro (fun h=>absurd h hg0) (fun _=>?_)
   refine⟨by show 0+1<=1;omega,_,rfl, .inl ⟨[2],[zc0++[ints [zz - 10]]],rfl,⟨_,_,rfl,⟨_,_,rfl,rfl,_,_,rfl,rfl,_,_,rfl,rfl,_,_,rfl,rfl,_,_,rfl,rfl,_,_,rfl,rfl,_,_,rfl,rfl,_,_,rfl,rfl,_,_,rfl, .inl rfl,_,_,rfl, .inl rfl,_,_,rfl,⟨_,rfl,Nat.le_refl _,rfl⟩,rfl⟩,rfl⟩,?_⟩⟩
   refine⟨by show 0+out.length<=(out.map Cs.cells).length;simp,out.map Cs.cells,qAD (by simp),by show(out.length+1) * 152<=140737488355328;have:=k2.len;omega,out.map Cs.cells++[zc0++[ints [zz - 10]]],rfl,?_⟩
   refine qAG (.lsts 11 (out.map Cs.cells++[zc0++[ints [zz - 10]]])) rfl ⟨_,rfl,by show 0+(out.length+1)<=(out.map Cs.cells++[zc0++[ints [zz - 10]]]).length;simp,qAD (by simp)⟩ ⟨_,out++[⟨cd0,[zz - 10]⟩],rfl,qDy out [zz - 10],qGj (by have:=k2.len;omega) k2.cs ⟨rfl,(qNx (by omega))⟩⟩
 obtain⟨hi,hi3,hr0⟩:=ha
 refine And.intro (fun _=>?_) (fun h=>absurd (show(i:Int)<((ps.map Pc.cells).length:Nat) by rw [hps];omega) h)
 refine And.intro (fun _=>?_) (fun h=>absurd (show(i:Int)<3 by omega) h)
 refine And.intro (fun _=>?_) (fun h=>absurd (show(0:Int)<((rs.map Rf.cells).length:Nat) by rw [hrs];omega) h)
 have hcell:=qWc hi
 generalize ps.getD i pc0=P at hcell
 have hcd:=qXA P rs cs ⟨h,hr0⟩
 obtain⟨w,o,n,m,a,b,c⟩:=P
 have haL:=a.toNat_lt
 have hv:=qCd (Int.natCast_nonneg a.toNat) (show(0:Int)<201 by decide)
 refine qIy (fun c:Cd=>[(1, .p (qB5 rs)),(2, .p (ints cs)),(3, .p (i64 (k:Int))),(4, .p (i64 g)),(5, .ptr 0 0 0),(11, .sl 1 11 0 out.length),(12, .p (i64 (i:Int))),(13, .ptr 2 0 0)]) (fun c=>⟨3,[(2,⟨qHB,false, .bx ((c.cells++[ints [(a.toNat:Int).tmod 201 - 100]]).map .p)⟩),(1,ksO out),(0,ptO ⟨kind,card,frm,modes,pl,ps,x,y,z⟩)]⟩) (fun c=>∃ n,n<=3/\CdS 8 c n 43) qYf (by kernel_rfl) ?_ ?_
 ·refine⟨_,⟨by omega,(Pc.mk w o n m a b c).cells,hcell,rfl⟩,?_⟩
  refine⟨_,⟨by omega,(Pc.mk w o n m a b c).cells,hcell,rfl⟩,?_⟩
  refine⟨_,⟨by show(0:Int)<=0/\(0:Int)<3;decide,[u8 a],rfl,rfl⟩,?_⟩
  refine⟨(a.toNat:Int),w6z,?_⟩
  refine⟨by decide,?_⟩
  refine⟨(a.toNat:Int).tmod 201 - 100,w6z,?_⟩
  have ea:(a.toNat:Int)=IntKind.i64.wrap (a.toNat:Int):=w6z
  refine And.intro ?_ ?_
  ·refine hcd.at fun r hr=>?_
   obtain⟨⟨ao,an,ar,av,af,as',aa⟩,nn,rfl,hnn,hcc⟩:=hr
   refine⟨⟨congrArg (fun z:Int=>AV.p (.int .i64 z)) ea,rfl,rfl,trivial⟩,?_⟩
   refine⟨⟨congrArg (fun z:Int=>AV.p (.int .i64 z)) ea,rfl,rfl,rfl,rfl,trivial⟩,?_⟩
   exact⟨.mk ao an ar av af as' aa,⟨nn,hnn,hcc⟩,qAB [] [] [] rfl (sk) (sk) rfl⟩
  ·refine⟨⟨congrArg (fun z:Int=>AV.p (.int .i64 z)) ea,rfl,rfl,rfl,rfl,trivial⟩,?_⟩
   refine hcd.at fun r hr=>?_
   obtain⟨⟨ao,an,ar,av,af,as',aa⟩,nn,rfl,hnn,hcc⟩:=hr
   refine⟨⟨congrArg (fun z:Int=>AV.p (.int .i64 z)) ea,rfl,rfl,trivial⟩,?_⟩
   exact⟨.mk ao an ar av af as' aa,⟨nn,hnn,hcc⟩,qAB [] [] [] rfl (sk) (sk) rfl⟩
 ·rintro⟨ao,an,ar,av,af,as',aa⟩ ⟨nn,hnn,hcc⟩
  by_cases hg0:0<g
  ·refine And.intro (fun _=>?_) (fun h=>absurd hg0 h)
   obtain⟨hk,hg1,hg2⟩:(k=2∨k=3)/\1<=g/\g<=12:=by
    rcases hg.ok with h | h
    ·omega
    ·exact h
   refine⟨_,⟨by omega,(Pc.mk w o n m a b c).cells,hcell,rfl⟩,?_⟩
   refine(qFz a b c k g hk ⟨by omega,hg2⟩).at fun r hr=>?_
   obtain⟨l,rfl,hl⟩:=hr
   refine⟨by show 0+1<=1;omega,[(Cs.mk (Cd.mk ao an ar av af as' aa) l).cells],rfl,?_⟩
   refine⟨by show 0+out.length<=(out.map Cs.cells).length;simp,out.map Cs.cells,qAD (by simp),by show(out.length+1) * 152<=140737488355328;have:=k2.len;omega,(out++[Cs.mk (Cd.mk ao an ar av af as' aa) l]).map Cs.cells,by simp,?_⟩
   refine⟨((i+1:Nat):Int),by rw [Int.natCast_add];exact w6z,?_⟩
   exact⟨(i+1,out++[Cs.mk (Cd.mk ao an ar av af as' aa) l]),⟨by show i+1<=3;omega,k2.snoc ⟨⟨nn,hnn,hcc⟩,(hl.nu hk)⟩⟩,qAB [] [(1,4)] [] rfl ⟨rfl,rfl,rfl,rfl,⟨rfl,rfl⟩,congrArg (fun k:Nat=>AV.sl 4 11 0 k) (qAK out _).symm,rfl,trivial⟩ (sk) rfl,by show 3 - (i+1)<3 - i;omega⟩
  ·refine And.intro (fun h=>absurd h hg0) (fun _=>?_)
   refine⟨by show 0+1<=1;omega,[(Cs.mk (Cd.mk ao an ar av af as' aa) [(a.toNat:Int).tmod 201 - 100]).cells],rfl,?_⟩
   refine⟨by show 0+out.length<=(out.map Cs.cells).length;simp,out.map Cs.cells,qAD (by simp),by show(out.length+1) * 152<=140737488355328;have:=k2.len;omega,(out++[Cs.mk (Cd.mk ao an ar av af as' aa) [(a.toNat:Int).tmod 201 - 100]]).map Cs.cells,by simp,?_⟩
   refine⟨((i+1:Nat):Int),by rw [Int.natCast_add];exact w6z,?_⟩
   exact⟨(i+1,out++[Cs.mk (Cd.mk ao an ar av af as' aa) [(a.toNat:Int).tmod 201 - 100]]),⟨by show i+1<=3;omega,k2.snoc ⟨⟨nn,hnn,hcc⟩,(qNx (by omega))⟩⟩,qAB [] [(1,4)] [] rfl ⟨rfl,rfl,rfl,rfl,⟨rfl,rfl⟩,congrArg (fun k:Nat=>AV.sl 4 11 0 k) (qAK out _).symm,rfl,trivial⟩ (sk) rfl,by show 3 - (i+1)<3 - i;omega⟩
theorem qHZ (p:Pt) (rs:List Rf) (cs:List Int) (h:RcS rs cs) (k:Nat) (g:Int) (hg:GrS k g) (hp:p.cases.length<=9223372036854775807):Pure cx 40 [.agg p.cells,qB5 rs,ints cs,i64 (k:Int),i64 g] fun r=>∃ l,r=.ret [css l]/\RuS l:=
 (qTP p rs cs h k g hg hp).weak fun r hr=>by
  obtain⟨y,l,rfl,h1,h2⟩:=hr
  exact⟨.ret [css l],⟨_,rfl,_,_,rfl,h1,rfl⟩,l,rfl,h2⟩
structure Dp where
 grain:UInt8
 plate:UInt8
 nodes:List Pt
 choice:Pt
 gains:List Pt
 chooses:Bool
abbrev Dp.cells (d:Dp):List PV:=[u8 d.grain,u8 d.plate, .lsts 9 (d.nodes.map Pt.cells),u8 d.choice.kind,u8 d.choice.card,u8 d.choice.frm,u8 d.choice.modes, .bool d.choice.pl, .lsts 7 (d.choice.cases.map Pc.cells),u8 d.choice.x,u8 d.choice.y,u8 d.choice.z, .lsts 9 (d.gains.map Pt.cells), .bool d.chooses]
structure Dp.ok (d:Dp):Prop where
 nodes:d.nodes.length<=9223372036854775807
 gains:d.gains.length<=9223372036854775807
 ncases:∀ p∈d.nodes,p.cases.length<=9223372036854775807
 gcases:∀ p∈d.gains,p.cases.length<=9223372036854775807
def pt0:Pt:=⟨0,0,0,0,false,[],0,0,0⟩
theorem qQc {l:List Pt} {k:Nat} (h:k<l.length):(l.map Pt.cells)[k]?=some (l.getD k pt0).cells:=qDz pt0 h
abbrev TKn:TypeId:=100
abbrev qYs:TypeId:=24
def dpO (d:Dp):AObj:=⟨31,false, .bx (d.cells.map .p)⟩
def kwO (l:List Kn):AObj:=⟨TKn,false, .pus (l.map Kn.cells)⟩
def dyO (Y:List (List PV)):AObj:=⟨qNL,false, .pus Y⟩
def s1O (v:AV):AObj:=⟨qYs,false, .bx [v]⟩
theorem qGx (l:List Int):qMy (iO l):=⟨rfl,rfl,by
 show qET ((l.map i64).map .p)=true
 rw [qD2]
 induction l with
 | nil=>rfl
 | cons a l ih=>simp only [List.map_cons,qFR,ih,Bool.and_true];rfl⟩
theorem qFD (l:List Rf):qMy (qPi l):=⟨rfl,rfl,by
 show qET ((l.map Rf.cells).flatten.map .p)=true
 rw [qD2]
 induction l with
 | nil=>rfl
 | cons a l ih=>
  rw [List.map_cons,List.flatten_cons]
  simp only [Rf.cells,List.cons_append,List.nil_append,qFR,ih,Bool.and_true];rfl⟩
theorem qLI:∀ {a b:List (List PV)} {c d:List (List PV)},NilDLL a c->NilDLL b d->NilDLL (a++b) (c++d)
 | [],b,c,d,h,k=>by
  simp only [NilDLL] at h
  subst h;exact k
 | x::a,b,c,d,h,k=>by
  simp only [NilDLL,List.cons_append] at h ⊢
  obtain⟨z,zs,rfl,h1,h2⟩:=h
  exact⟨z,zs++d,rfl,h1,qLI h2 k⟩
theorem qQz {a b:List PV} (h:NilDL a b):NilDLL [a] [b]:=by
 simp only [NilDLL]
 exact⟨_,_,rfl,h,rfl⟩
structure PgS (Y:List (List PV)) (n k:Nat):Prop where
 ds:∃ ds:List De,NilDLL Y (ds.map De.cells)/\PrS ds k/\ds.length=n
theorem PgS.len {Y:List (List PV)} {n k:Nat} (h:PgS Y n k):Y.length=n:=by
 obtain⟨ds,h1,_,h3⟩:=h.ds
 have:=h1.len
 rw [List.length_map] at this
 omega
theorem PgS.snoc {Y:List (List PV)} {n k j:Nat} {c:List PV} {d:De} (h:PgS Y n k) (hc:NilDL c d.cells) (hd:DeS d j):PgS (Y++[c]) (n+1) (k+j):=by
 obtain⟨ds,h1,h2,h3⟩:=h.ds
 refine⟨ds++[d],?_,h2.snoc hd,by rw [List.length_append,h3];rfl⟩
 rw [List.map_append]
 exact qLI h1 (qQz hc)
theorem PgS.le {Y:List (List PV)} {n k k':Nat} (h:PgS Y n k) (hk:k<=k'):PgS Y n k':=by
 obtain⟨ds,h1,h2,h3⟩:=h.ds
 exact⟨ds,h1,h2.le hk,h3⟩
theorem qN3 {k n:Int} {nm pl:List UInt8} {a b a' b':PV} (h1:NilD a a') (h2:NilD b b'):NilDL [i64 k,i64 n, .str nm, .str pl,a,b] [i64 k,i64 n, .str nm, .str pl,a',b']:=by
 simp only [NilDL]
 exact⟨_,_,rfl,NilD.refl _,_,_,rfl,NilD.refl _,_,_,rfl,NilD.refl _,_,_,rfl,NilD.refl _,_,_,rfl,h1,_,_,rfl,h2,rfl⟩
theorem qJQ (s:Nat):NilD .nils (.lsts s []):=by
 simp only [NilD]
 exact .inr (.inr ⟨s,rfl⟩)
theorem qWb {g s:Int} (hg:0<=g/\g<=12) (hs:0<=s/\s<=2):PgS [[i64 1,i64 g, .str [], .str [], .nils, .nils],[i64 2,i64 s, .str [112], .str [], .nils, .nils]] 2 22:=by
 have h0:PgS [] 0 0:=⟨[],by simp only [NilDLL,List.map_nil],PrS.nil,rfl⟩
 have h1:=h0.snoc (d:=⟨1,g,[],[],[],[]⟩) (qN3 (qJQ 4) (qJQ 11)) (qTB (qDc hg.1 (by omega)))
 exact h1.snoc (d:=⟨2,s,[112],[],[],[]⟩) (qN3 (qJQ 4) (qJQ 11)) (qSx (qDc hs.1 (by omega)))
abbrev qYd:OT:=(.pure 0 (.pure 1 (.pure 2 (.pure 3 (.pure 4 (.pure 5 (.pure 6 (.pure 7 (.pure 8 (.pure 9 (.pure 10 (.pure 11 .fin))))))))))))
abbrev qWg:OT:=(.pure 0 (.pure 1 (.pure 2 (.pure 3 (.pure 4 (.pure 5 (.pure 6 (.pure 7 (.pure 8 (.pure 9 (.pure 10 (.pure 11 (.pure 12 (.pure 13 (.eff 14 [1] (.pure 15 (.eff 16 [1] (.eff 17 [] (.pure 18 (.eff 19 [] .fin .nil)) .nil) .nil)) .nil)))))))))))))))
abbrev qWf:OT:=(.pure 0 (.pure 1 (.pure 2 (.pure 3 (.pure 4 (.pure 5 (.pure 6 (.pure 7 (.pure 8 (.eff 9 [] (.eff 10 [] (.pure 11 .fin) .nil) .nil))))))))))
abbrev qWe:OT:=(.pure 0 (.pure 1 (.pure 2 (.pure 3 (.pure 4 (.pure 5 (.pure 6 (.pure 7 (.pure 8 (.pure 9 (.eff 10 [1] (.pure 11 (.eff 12 [1] (.eff 13 [] (.pure 14 (.eff 15 [] .fin .nil)) .nil) .nil)) .nil)))))))))))
def PqQ (r:PEnd):Prop:=∃ (Y:List (List PV)) (n k:Nat),r=.ret [.agg [.lsts 6 Y]]/\PgS Y n k/\n<=30/\k<=1300
structure LkS (l:List Kn) (i:Nat):Prop where
 ok:∀ k∈l,KnS k
 len:l.length=i
theorem LkS.snoc {l:List Kn} {i:Nat} {k:Kn} (h:LkS l i) (hk:KnS k):LkS (l++[k]) (i+1):=by
 refine⟨fun x hx=>?_,by rw [List.length_append,h.len];rfl⟩
 rcases List.mem_append.1 hx with hx | hx
 ·exact h.ok x hx
 ·rw [List.mem_singleton.1 hx];exact hk
def nmI (i:Nat):List UInt8:=(([97,98,99,100]:List UInt8).drop i).take (i+1 - i)
theorem qWj:∀ i,i<4->qAj (nmI i)=true/\(nmI i).length=1:=by decide
theorem qPK {C:Cx} {g:FuncId} {pargs:List PV} {args:List AV} {H:Hp} {Q0 Q:AE->Hp->Prop} (h:Holds C g (pargs.map .p) ⟨0,[]⟩ Q0) (fs:List Nat) (hm:qA5 H.l fs=true) (ha:qCW (Res (marks H.l fs) 5) args pargs)
  (hQ:∀ e0 H0',Q0 e0 H0'->(qFP H0'.l && qRZ e0)=true/\qOU H0'.l/\∃ e H2,qSk (qBk 0 [] 0 H.next) e0=e/\(⟨H.next+H0'.next,qSj (qBk 0 [] 0 H.next) H0'.l++H.l⟩:Hp)=H2/\Q e H2):Holds C g args H Q:=
 h.lendN fs hm ha fun e0 H0 hq=>by
  obtain⟨h1,h2,e,H2,rfl,rfl,h3⟩:=hQ e0 H0 hq
  exact⟨h1,h2,h3⟩
theorem qO6 (d:Dp) (hd:d.ok):Pure cx 10 [.agg d.cells] PqQ:=by
 refine qAC Tryz.func10 rfl rfl rfl ?_
 obtain⟨gr,pt,ns,ch,gs,cz⟩:=d
 obtain⟨hd1,hd2,hd3,hd4⟩:=hd
 simp only [] at hd1 hd2 hd3 hd4
 have hns:(ns.map Pt.cells).length=ns.length:=List.length_map ..
 have hgs:(gs.map Pt.cells).length=gs.length:=List.length_map ..
 have hgr:=gr.toNat_lt
 have hpt:=pt.toNat_lt
 refine qAf qYd (by kernel_rfl) ?_
 refine⟨by decide,?_⟩
 refine⟨((gr.toNat % 12:Nat):Int),by show _=IntKind.i64.wrap ((gr.toNat:Int).tmod 12);rw [show(gr.toNat:Int).tmod 12=((gr.toNat % 12:Nat):Int) from rfl];exact w6z,?_⟩
 obtain⟨g,hge⟩:∃ g:Int,g=1+((gr.toNat % 12:Nat):Int):=⟨_,rfl⟩
 refine⟨g,by rw [hge];exact w6z,?_⟩
 refine⟨by decide,?_⟩
 refine⟨((pt.toNat % 2:Nat):Int),by show _=IntKind.i64.wrap ((pt.toNat:Int).tmod 2);rw [show(pt.toNat:Int).tmod 2=((pt.toNat % 2:Nat):Int) from rfl];exact w6z,?_⟩
 obtain⟨sz,hse⟩:∃ s:Int,s=1+((pt.toNat % 2:Nat):Int):=⟨_,rfl⟩
 refine⟨sz,by rw [hse];exact w6z,?_⟩
 have hg:1<=g/\g<=12:=by omega
 have hs:sz=1∨sz=2:=by omega
 clear hge hse
 have hp2:=qWb (g:=g) (s:=sz) (by omega) (by omega)
 refine⟨Nat × List (List PV) × List Kn,fun x=>[(1, .ptr 0 0 0),(2, .ptr 1 0 0),(3, .p (i64 g)),(4, .p (i64 sz)),(5, .ptr 3 0 0),(6, .sl 4 3 0 x.1),(7, .p (i64 x.1))],fun x=>⟨5,[(4,kwO x.2.2),(3,s1O (.sl 2 6 0 (2+x.1))),(2,dyO x.2.1),(1,s1O (.p .nils)),(0,dpO ⟨gr,pt,ns,ch,gs,cz⟩)]⟩,fun x=>x.1<=4/\PgS x.2.1 (2+x.1) (22+201 * x.1)/\LkS x.2.2 x.1,fun x=>4 - x.1,?_,?_⟩
 ·exact⟨(0,_,[]),⟨by show 0<=4;decide,hp2,⟨fun k hk=>(by cases hk),rfl⟩⟩,qAB [] [] [(4,3)] rfl (sk) (sk) rfl⟩
 rintro⟨i,Y,l⟩ ⟨k1,k2,k3⟩
 simp only [] at k1 k2 k3
 have hY:=k2.len
 have hL:=k3.len
 by_cases ha:i<ns.length/\i<4
 rotate_left
 ·cases cz
  ·by_cases hi:i<ns.length
   ·refine And.intro (fun _=>?_) (fun h=>absurd (show(i:Int)<((ns.map Pt.cells).length:Nat) by rw [hns];omega) h)
    refine And.intro (fun h=>absurd (show(i:Int)<4 from h) (by omega)) (fun _=>?_)
    exact qAG (.agg [.lsts 6 Y]) rfl ⟨_,rfl,_,_,rfl,⟨_,rfl,by show 0+(2+i)<=Y.length;omega,qAD (by omega)⟩,rfl⟩ ⟨_,_,_,rfl,k2,by omega,by omega⟩
   ·refine And.intro (fun h=>absurd (show(i:Int)<((ns.map Pt.cells).length:Nat) from h) (by rw [hns];omega)) (fun _=>?_)
    exact qAG (.agg [.lsts 6 Y]) rfl ⟨_,rfl,_,_,rfl,⟨_,rfl,by show 0+(2+i)<=Y.length;omega,qAD (by omega)⟩,rfl⟩ ⟨_,_,_,rfl,k2,by omega,by omega⟩
  ·by_cases hi:i<ns.length
   ·refine And.intro (fun _=>?_) (fun h=>absurd (show(i:Int)<((ns.map Pt.cells).length:Nat) by rw [hns];omega) h)
    refine And.intro (fun h=>absurd (show(i:Int)<4 from h) (by omega)) (fun _=>?_)
    refine qPK (pargs:=[.agg (ch).cells, .lsts 3 ((l).map Kn.cells), .bool false,i64 sz]) (qGo ch (l) (k3).ok (by have:=(k3).len;omega) false sz hs).holds [4] rfl ⟨_,_,rfl,rfl,_,_,rfl,⟨_,rfl,by show 0+(i)<=((l).map Kn.cells).length;rw [List.length_map];have:=(k3).len;omega,qAD (by rw [List.length_map];have:=(k3).len;omega)⟩,_,_,rfl,rfl,_,_,rfl,rfl,rfl⟩ fun e0 H0 hq=>?_
    obtain⟨rs,cs,rfl,rfl,hrc⟩:=hq
    refine⟨rfl,⟨qFD _,qGx _,trivial⟩,_,⟨7,(5,qPi rs)::(6,iO cs)::[(4,kwO l),(3,s1O (.sl 2 6 0 (2+i))),(2,dyO Y),(1,s1O (.p .nils)),(0,dpO ⟨gr,pt,ns,ch,gs,true⟩)]⟩,rfl,rfl,?_⟩
    refine⟨by show 0+1<=1;omega,_,rfl, .inl ⟨[5],[[i64 4,i64 2, .str [101], .str [],qB5 rs, .nils]],rfl,⟨_,_,rfl,⟨_,_,rfl,rfl,_,_,rfl,rfl,_,_,rfl,rfl,_,_,rfl,rfl,_,_,rfl,⟨_,rfl,by show 0+rs.length<=(rs.map Rf.cells).length;simp,qAD (by simp)⟩,_,_,rfl,(by first | exact rfl | exact .inl rfl),rfl⟩,rfl⟩,?_⟩⟩
    refine⟨by show 0+(2+i)<=Y.length;omega,Y,qAD (by omega),by show(2+i+1) * 96<=140737488355328;omega,Y++[[i64 4,i64 2, .str [101], .str [],qB5 rs, .nils]],rfl,?_⟩
    refine⟨by show 0+1<=1;omega,[((Kn.mk [101] 2 false)).cells],rfl,?_⟩
    refine⟨by show 0+i<=(l.map Kn.cells).length;rw [List.length_map];omega,l.map Kn.cells,qAD (by rw [List.length_map];omega),by show(i+1) * 32<=140737488355328;omega,(l++[(Kn.mk [101] 2 false)]).map Kn.cells,by simp,?_⟩
    have k4:=k2.snoc (d:=⟨4,2,[101],[],rs,[]⟩) (qN3 (NilD.refl _) (qJQ 11)) (qLh (n:=2) (nm:=[101]) (by decide) (by decide) (by decide) hrc.refs hrc.len)
    have k5:LkS (l++[Kn.mk [101] 2 false]) (i+1):=k3.snoc ⟨by show qAj [101]=true;decide,rfl, .inl rfl⟩
    clear k2 k3 hp2 ha hY hL
    generalize Y++[[i64 4,i64 2, .str [101], .str [],qB5 rs, .nils]]=Y at k4 ⊢
    generalize l++[Kn.mk [101] 2 false]=l at k5 ⊢
    refine⟨Nat × List (List PV),fun x=>[(1, .ptr 0 0 0),(2, .ptr 1 0 0),(4, .p (i64 sz)),(5, .ptr 3 0 0),(6, .sl 4 3 0 (i+1)),(15, .p (i64 x.1))],fun x=>⟨5,[(4,kwO l),(3,s1O (.sl 2 6 0 (2+i+1+x.1))),(2,dyO x.2),(1,s1O (.p .nils)),(0,dpO ⟨gr,pt,ns,ch,gs,true⟩)]⟩,fun x=>x.1<=2/\PgS x.2 (2+i+1+x.1) (22+201 * i+33+192 * x.1),fun x=>2 - x.1,?_,?_⟩
    ·exact⟨(0,Y),⟨by show 0<=2;decide,k4⟩,qAB [] [(2,8),(4,10)] [] rfl (sk) (sk) rfl⟩
    rintro⟨j,Y⟩ ⟨j1,k2⟩
    simp only [] at j1 k2
    have hY:=k2.len
    by_cases hb:j<gs.length/\j<2
    rotate_left
    ·by_cases hj:j<gs.length
     ·refine And.intro (fun _=>?_) (fun h=>absurd (show(j:Int)<((gs.map Pt.cells).length:Nat) by rw [hgs];omega) h)
      refine And.intro (fun h=>absurd (show(j:Int)<2 from h) (by omega)) (fun _=>?_)
      exact qAG (.agg [.lsts 6 Y]) rfl ⟨_,rfl,_,_,rfl,⟨_,rfl,by show 0+(2+i+1+j)<=Y.length;omega,qAD (by omega)⟩,rfl⟩ ⟨_,_,_,rfl,k2,by omega,by omega⟩
     ·refine And.intro (fun h=>absurd (show(j:Int)<((gs.map Pt.cells).length:Nat) from h) (by rw [hgs];omega)) (fun _=>?_)
      exact qAG (.agg [.lsts 6 Y]) rfl ⟨_,rfl,_,_,rfl,⟨_,rfl,by show 0+(2+i+1+j)<=Y.length;omega,qAD (by omega)⟩,rfl⟩ ⟨_,_,_,rfl,k2,by omega,by omega⟩
    obtain⟨hj,hj2⟩:=hb
    have hcell:=qQc hj
    have hpc:=hd4 _ (qAL pt0 hj)
    generalize gs.getD j pt0=p at hcell hpc
    obtain⟨kind,card,frm,modes,pl,ps,x,y,z⟩:=p
    refine And.intro (fun _=>?_) (fun h=>absurd (show(j:Int)<((gs.map Pt.cells).length:Nat) by rw [hgs];omega) h)
    refine And.intro (fun _=>?_) (fun h=>absurd (show(j:Int)<2 by omega) h)
    refine⟨_,⟨by omega,(Pt.mk kind card frm modes pl ps x y z).cells,hcell,rfl⟩,?_⟩
    refine qPK (pargs:=[.agg ((Pt.mk kind card frm modes pl ps x y z)).cells, .lsts 3 ((l).map Kn.cells), .bool false,i64 sz]) (qGo (Pt.mk kind card frm modes pl ps x y z) (l) (k5).ok (by have:=(k5).len;omega) false sz hs).holds [4] rfl ⟨_,_,rfl,rfl,_,_,rfl,⟨_,rfl,by show 0+(i+1)<=((l).map Kn.cells).length;rw [List.length_map];have:=(k5).len;omega,qAD (by rw [List.length_map];have:=(k5).len;omega)⟩,_,_,rfl,rfl,_,_,rfl,rfl,rfl⟩ fun e0 H0 hq=>?_
    obtain⟨rs,cs,rfl,rfl,hrc⟩:=hq
    refine⟨rfl,⟨qFD _,qGx _,trivial⟩,_,⟨7,(5,qPi rs)::(6,iO cs)::[(4,kwO l),(3,s1O (.sl 2 6 0 (2+i+1+j))),(2,dyO Y),(1,s1O (.p .nils)),(0,dpO ⟨gr,pt,ns,ch,gs,true⟩)]⟩,rfl,rfl,?_⟩
    refine qAf qWe (by kernel_rfl) ?_
    refine⟨_,⟨by omega,(Pt.mk kind card frm modes pl ps x y z).cells,hcell,rfl⟩,?_⟩
    refine(qHZ _ rs cs hrc 0 0 ⟨.inl ⟨rfl,rfl⟩⟩ hpc).use [5,6] rfl ⟨_,_,rfl,rfl,_,_,rfl,⟨_,rfl,by show 0+rs.length<=(rs.map Rf.cells).length;simp,qAD (by simp)⟩,_,_,rfl,⟨_,rfl,by show 0+cs.length<=(cs.map i64).length;simp,qAD (by simp)⟩,_,_,rfl,rfl,_,_,rfl,rfl,rfl⟩ fun r hr=>?_
    obtain⟨L,rfl,hLs⟩:=hr
    refine⟨⟨rfl,trivial⟩,?_⟩
    refine⟨⟨rfl,trivial⟩,?_⟩
    refine⟨by show 0+1<=1;omega,_,rfl, .inl ⟨[],[[i64 5,i64 0, .str [], .str [],qB5 rs,(css L)]],rfl,⟨_,_,rfl,⟨_,_,rfl,rfl,_,_,rfl,rfl,_,_,rfl,rfl,_,_,rfl,rfl,_,_,rfl,⟨_,rfl,by show 0+rs.length<=(rs.map Rf.cells).length;simp,qAD (by simp)⟩,_,_,rfl,(by first | exact rfl | exact .inl rfl),rfl⟩,rfl⟩,?_⟩⟩
    refine⟨by show 0+(2+i+1+j)<=Y.length;omega,Y,qAD (by omega),by show(2+i+1+j+1) * 96<=140737488355328;omega,Y++[[i64 5,i64 0, .str [], .str [],qB5 rs,(css L)]],rfl,?_⟩
    refine⟨((j+1:Nat):Int),by rw [Int.natCast_add];exact w6z,?_⟩
    exact⟨(j+1,Y++[[i64 5,i64 0, .str [], .str [],qB5 rs,css L]]),⟨by show j+1<=2;omega,(k2.snoc (d:=⟨5,0,[],[],rs,L⟩) (NilDL.refl _) (qRU hrc.refs hrc.len hLs)).le (by show 22+201 * i+33+192 * j+192<=22+201 * i+33+192 * (j+1);omega)⟩,qAB [] [(2,8)] [] rfl (sk) (sk) rfl,by show 2 - (j+1)<2 - j;omega⟩
   ·refine And.intro (fun h=>absurd (show(i:Int)<((ns.map Pt.cells).length:Nat) from h) (by rw [hns];omega)) (fun _=>?_)
    refine qPK (pargs:=[.agg (ch).cells, .lsts 3 ((l).map Kn.cells), .bool false,i64 sz]) (qGo ch (l) (k3).ok (by have:=(k3).len;omega) false sz hs).holds [4] rfl ⟨_,_,rfl,rfl,_,_,rfl,⟨_,rfl,by show 0+(i)<=((l).map Kn.cells).length;rw [List.length_map];have:=(k3).len;omega,qAD (by rw [List.length_map];have:=(k3).len;omega)⟩,_,_,rfl,rfl,_,_,rfl,rfl,rfl⟩ fun e0 H0 hq=>?_
    obtain⟨rs,cs,rfl,rfl,hrc⟩:=hq
    refine⟨rfl,⟨qFD _,qGx _,trivial⟩,_,⟨7,(5,qPi rs)::(6,iO cs)::[(4,kwO l),(3,s1O (.sl 2 6 0 (2+i))),(2,dyO Y),(1,s1O (.p .nils)),(0,dpO ⟨gr,pt,ns,ch,gs,true⟩)]⟩,rfl,rfl,?_⟩
    refine⟨by show 0+1<=1;omega,_,rfl, .inl ⟨[5],[[i64 4,i64 2, .str [101], .str [],qB5 rs, .nils]],rfl,⟨_,_,rfl,⟨_,_,rfl,rfl,_,_,rfl,rfl,_,_,rfl,rfl,_,_,rfl,rfl,_,_,rfl,⟨_,rfl,by show 0+rs.length<=(rs.map Rf.cells).length;simp,qAD (by simp)⟩,_,_,rfl,(by first | exact rfl | exact .inl rfl),rfl⟩,rfl⟩,?_⟩⟩
    refine⟨by show 0+(2+i)<=Y.length;omega,Y,qAD (by omega),by show(2+i+1) * 96<=140737488355328;omega,Y++[[i64 4,i64 2, .str [101], .str [],qB5 rs, .nils]],rfl,?_⟩
    refine⟨by show 0+1<=1;omega,[((Kn.mk [101] 2 false)).cells],rfl,?_⟩
    refine⟨by show 0+i<=(l.map Kn.cells).length;rw [List.length_map];omega,l.map Kn.cells,qAD (by rw [List.length_map];omega),by show(i+1) * 32<=140737488355328;omega,(l++[(Kn.mk [101] 2 false)]).map Kn.cells,by simp,?_⟩
    have k4:=k2.snoc (d:=⟨4,2,[101],[],rs,[]⟩) (qN3 (NilD.refl _) (qJQ 11)) (qLh (n:=2) (nm:=[101]) (by decide) (by decide) (by decide) hrc.refs hrc.len)
    have k5:LkS (l++[Kn.mk [101] 2 false]) (i+1):=k3.snoc ⟨by show qAj [101]=true;decide,rfl, .inl rfl⟩
    clear k2 k3 hp2 ha hY hL
    generalize Y++[[i64 4,i64 2, .str [101], .str [],qB5 rs, .nils]]=Y at k4 ⊢
    generalize l++[Kn.mk [101] 2 false]=l at k5 ⊢
    refine⟨Nat × List (List PV),fun x=>[(1, .ptr 0 0 0),(2, .ptr 1 0 0),(4, .p (i64 sz)),(5, .ptr 3 0 0),(6, .sl 4 3 0 (i+1)),(15, .p (i64 x.1))],fun x=>⟨5,[(4,kwO l),(3,s1O (.sl 2 6 0 (2+i+1+x.1))),(2,dyO x.2),(1,s1O (.p .nils)),(0,dpO ⟨gr,pt,ns,ch,gs,true⟩)]⟩,fun x=>x.1<=2/\PgS x.2 (2+i+1+x.1) (22+201 * i+33+192 * x.1),fun x=>2 - x.1,?_,?_⟩
    ·exact⟨(0,Y),⟨by show 0<=2;decide,k4⟩,qAB [] [(2,8),(4,10)] [] rfl (sk) (sk) rfl⟩
    rintro⟨j,Y⟩ ⟨j1,k2⟩
    simp only [] at j1 k2
    have hY:=k2.len
    by_cases hb:j<gs.length/\j<2
    rotate_left
    ·by_cases hj:j<gs.length
     ·refine And.intro (fun _=>?_) (fun h=>absurd (show(j:Int)<((gs.map Pt.cells).length:Nat) by rw [hgs];omega) h)
      refine And.intro (fun h=>absurd (show(j:Int)<2 from h) (by omega)) (fun _=>?_)
      exact qAG (.agg [.lsts 6 Y]) rfl ⟨_,rfl,_,_,rfl,⟨_,rfl,by show 0+(2+i+1+j)<=Y.length;omega,qAD (by omega)⟩,rfl⟩ ⟨_,_,_,rfl,k2,by omega,by omega⟩
     ·refine And.intro (fun h=>absurd (show(j:Int)<((gs.map Pt.cells).length:Nat) from h) (by rw [hgs];omega)) (fun _=>?_)
      exact qAG (.agg [.lsts 6 Y]) rfl ⟨_,rfl,_,_,rfl,⟨_,rfl,by show 0+(2+i+1+j)<=Y.length;omega,qAD (by omega)⟩,rfl⟩ ⟨_,_,_,rfl,k2,by omega,by omega⟩
    obtain⟨hj,hj2⟩:=hb
    have hcell:=qQc hj
    have hpc:=hd4 _ (qAL pt0 hj)
    generalize gs.getD j pt0=p at hcell hpc
    obtain⟨kind,card,frm,modes,pl,ps,x,y,z⟩:=p
    refine And.intro (fun _=>?_) (fun h=>absurd (show(j:Int)<((gs.map Pt.cells).length:Nat) by rw [hgs];omega) h)
    refine And.intro (fun _=>?_) (fun h=>absurd (show(j:Int)<2 by omega) h)
    refine⟨_,⟨by omega,(Pt.mk kind card frm modes pl ps x y z).cells,hcell,rfl⟩,?_⟩
    refine qPK (pargs:=[.agg ((Pt.mk kind card frm modes pl ps x y z)).cells, .lsts 3 ((l).map Kn.cells), .bool false,i64 sz]) (qGo (Pt.mk kind card frm modes pl ps x y z) (l) (k5).ok (by have:=(k5).len;omega) false sz hs).holds [4] rfl ⟨_,_,rfl,rfl,_,_,rfl,⟨_,rfl,by show 0+(i+1)<=((l).map Kn.cells).length;rw [List.length_map];have:=(k5).len;omega,qAD (by rw [List.length_map];have:=(k5).len;omega)⟩,_,_,rfl,rfl,_,_,rfl,rfl,rfl⟩ fun e0 H0 hq=>?_
    obtain⟨rs,cs,rfl,rfl,hrc⟩:=hq
    refine⟨rfl,⟨qFD _,qGx _,trivial⟩,_,⟨7,(5,qPi rs)::(6,iO cs)::[(4,kwO l),(3,s1O (.sl 2 6 0 (2+i+1+j))),(2,dyO Y),(1,s1O (.p .nils)),(0,dpO ⟨gr,pt,ns,ch,gs,true⟩)]⟩,rfl,rfl,?_⟩
    refine qAf qWe (by kernel_rfl) ?_
    refine⟨_,⟨by omega,(Pt.mk kind card frm modes pl ps x y z).cells,hcell,rfl⟩,?_⟩
    refine(qHZ _ rs cs hrc 0 0 ⟨.inl ⟨rfl,rfl⟩⟩ hpc).use [5,6] rfl ⟨_,_,rfl,rfl,_,_,rfl,⟨_,rfl,by show 0+rs.length<=(rs.map Rf.cells).length;simp,qAD (by simp)⟩,_,_,rfl,⟨_,rfl,by show 0+cs.length<=(cs.map i64).length;simp,qAD (by simp)⟩,_,_,rfl,rfl,_,_,rfl,rfl,rfl⟩ fun r hr=>?_
    obtain⟨L,rfl,hLs⟩:=hr
    refine⟨⟨rfl,trivial⟩,?_⟩
    refine⟨⟨rfl,trivial⟩,?_⟩
    refine⟨by show 0+1<=1;omega,_,rfl, .inl ⟨[],[[i64 5,i64 0, .str [], .str [],qB5 rs,(css L)]],rfl,⟨_,_,rfl,⟨_,_,rfl,rfl,_,_,rfl,rfl,_,_,rfl,rfl,_,_,rfl,rfl,_,_,rfl,⟨_,rfl,by show 0+rs.length<=(rs.map Rf.cells).length;simp,qAD (by simp)⟩,_,_,rfl,(by first | exact rfl | exact .inl rfl),rfl⟩,rfl⟩,?_⟩⟩
    refine⟨by show 0+(2+i+1+j)<=Y.length;omega,Y,qAD (by omega),by show(2+i+1+j+1) * 96<=140737488355328;omega,Y++[[i64 5,i64 0, .str [], .str [],qB5 rs,(css L)]],rfl,?_⟩
    refine⟨((j+1:Nat):Int),by rw [Int.natCast_add];exact w6z,?_⟩
    exact⟨(j+1,Y++[[i64 5,i64 0, .str [], .str [],qB5 rs,css L]]),⟨by show j+1<=2;omega,(k2.snoc (d:=⟨5,0,[],[],rs,L⟩) (NilDL.refl _) (qRU hrc.refs hrc.len hLs)).le (by show 22+201 * i+33+192 * j+192<=22+201 * i+33+192 * (j+1);omega)⟩,qAB [] [(2,8)] [] rfl (sk) (sk) rfl,by show 2 - (j+1)<2 - j;omega⟩
 obtain⟨hi,hi4⟩:=ha
 have hcell:=qQc hi
 have hpc:=hd3 _ (qAL pt0 hi)
 generalize ns.getD i pt0=p at hcell hpc
 obtain⟨kind,card,frm,modes,pl,ps,x,y,z⟩:=p
 have hcd:=card.toNat_lt
 have hnm:=qWj i hi4
 refine And.intro (fun _=>?_) (fun h=>absurd (show(i:Int)<((ns.map Pt.cells).length:Nat) by rw [hns];omega) h)
 refine And.intro (fun _=>?_) (fun h=>absurd (show(i:Int)<4 by omega) h)
 cases pl
 ·refine⟨_,⟨by omega,(Pt.mk kind card frm modes false ps x y z).cells,hcell,rfl⟩,?_⟩
  refine⟨by decide,?_⟩
  refine⟨((card.toNat % 2:Nat):Int),by show _=IntKind.i64.wrap ((card.toNat:Int).tmod 2);rw [show(card.toNat:Int).tmod 2=((card.toNat % 2:Nat):Int) from rfl];exact w6z,?_⟩
  obtain⟨kk,hkk⟩:∃ kk,kk=2+card.toNat % 2:=⟨_,rfl⟩
  refine⟨((kk:Nat):Int),by rw [hkk,Int.natCast_add];exact w6z,?_⟩
  refine qPK (pargs:=[.agg ((Pt.mk kind card frm modes false ps x y z)).cells, .lsts 3 ((l).map Kn.cells), .bool false,i64 sz]) (qGo (Pt.mk kind card frm modes false ps x y z) (l) (k3).ok (by have:=(k3).len;omega) false sz hs).holds [4] rfl ⟨_,_,rfl,rfl,_,_,rfl,⟨_,rfl,by show 0+(i)<=((l).map Kn.cells).length;rw [List.length_map];have:=(k3).len;omega,qAD (by rw [List.length_map];have:=(k3).len;omega)⟩,_,_,rfl,rfl,_,_,rfl,rfl,rfl⟩ fun e0 H0 hq=>?_
  obtain⟨rs,cs,rfl,rfl,hrc⟩:=hq
  refine⟨rfl,⟨qFD _,qGx _,trivial⟩,_,⟨8,(6,qPi rs)::(7,iO cs)::((5,ptO (Pt.mk kind card frm modes false ps x y z))::[(4,kwO l),(3,s1O (.sl 2 6 0 (2+i))),(2,dyO Y),(1,s1O (.p .nils)),(0,dpO ⟨gr,pt,ns,ch,gs,cz⟩)])⟩,rfl,rfl,?_⟩
  refine qAf qWg (by kernel_rfl) ?_
  refine⟨((i+1:Nat):Int),by rw [Int.natCast_add];exact w6z,?_⟩
  refine⟨by show(0:Int)<=(i:Nat)/\((i:Nat):Int)<=((i+1:Nat):Int)/\((i+1:Nat):Int)<=4;omega,?_⟩
  refine(qHZ _ rs cs hrc kk g ⟨.inr ⟨by omega,hg⟩⟩ hpc).use [6,7] rfl ⟨_,_,rfl,rfl,_,_,rfl,⟨_,rfl,by show 0+rs.length<=(rs.map Rf.cells).length;simp,qAD (by simp)⟩,_,_,rfl,⟨_,rfl,by show 0+cs.length<=(cs.map i64).length;simp,qAD (by simp)⟩,_,_,rfl,rfl,_,_,rfl,rfl,rfl⟩ fun r hr=>?_
  obtain⟨L,rfl,hLs⟩:=hr
  refine⟨⟨rfl,trivial⟩,?_⟩
  refine⟨⟨rfl,trivial⟩,?_⟩
  refine⟨by show 0+1<=1;omega,_,rfl, .inl ⟨[],[[i64 3,i64 ((kk:Nat):Int), .str (nmI i), .str [],qB5 rs,(css L)]],rfl,⟨_,_,rfl,⟨_,_,rfl,rfl,_,_,rfl,rfl,_,_,rfl,rfl,_,_,rfl,rfl,_,_,rfl,⟨_,rfl,by show 0+rs.length<=(rs.map Rf.cells).length;simp,qAD (by simp)⟩,_,_,rfl,(by first | exact rfl | exact .inl rfl),rfl⟩,rfl⟩,?_⟩⟩
  refine⟨by show 0+(2+i)<=Y.length;omega,Y,qAD (by omega),by show(2+i+1) * 96<=140737488355328;omega,Y++[[i64 3,i64 ((kk:Nat):Int), .str (nmI i), .str [],qB5 rs,(css L)]],rfl,?_⟩
  refine qAf qWf (by kernel_rfl) ?_
  refine⟨((i+1:Nat):Int),by rw [Int.natCast_add];exact w6z,?_⟩
  refine⟨by show(0:Int)<=(i:Nat)/\((i:Nat):Int)<=((i+1:Nat):Int)/\((i+1:Nat):Int)<=4;omega,?_⟩
  refine⟨by show 0+1<=1;omega,[((Kn.mk (nmI i) ((kk:Nat):Int) false)).cells],rfl,?_⟩
  refine⟨by show 0+i<=(l.map Kn.cells).length;rw [List.length_map];omega,l.map Kn.cells,qAD (by rw [List.length_map];omega),by show(i+1) * 32<=140737488355328;omega,(l++[(Kn.mk (nmI i) ((kk:Nat):Int) false)]).map Kn.cells,by simp,?_⟩
  refine⟨((i+1:Nat):Int),by rw [Int.natCast_add];exact w6z,?_⟩
  exact⟨(i+1,Y++[[i64 3,i64 ((kk:Nat):Int), .str (nmI i), .str [],qB5 rs,css L]],l++[Kn.mk (nmI i) ((kk:Nat):Int) false]),⟨by show i+1<=4;omega,(k2.snoc (d:=⟨3,((kk:Nat):Int),nmI i,[],rs,L⟩) (NilDL.refl _) (qQv (n:=((kk:Nat):Int)) (qDc (by omega) (by omega)) hnm.1 hnm.2 (.inl rfl) hrc.refs hrc.len hLs)).le (by show 22+201 * i+201<=22+201 * (i+1);omega),k3.snoc ⟨hnm.1,hnm.2,by show((kk:Nat):Int)=2∨((kk:Nat):Int)=3;omega⟩⟩,qAB [] [(2,9),(4,11)] [] rfl (sk) (sk) rfl,by show 4 - (i+1)<4 - i;omega⟩
 ·refine⟨_,⟨by omega,(Pt.mk kind card frm modes true ps x y z).cells,hcell,rfl⟩,?_⟩
  refine⟨by decide,?_⟩
  refine⟨((card.toNat % 2:Nat):Int),by show _=IntKind.i64.wrap ((card.toNat:Int).tmod 2);rw [show(card.toNat:Int).tmod 2=((card.toNat % 2:Nat):Int) from rfl];exact w6z,?_⟩
  refine⟨2+((card.toNat % 2:Nat):Int),w6z,?_⟩
  refine qPK (pargs:=[.agg ((Pt.mk kind card frm modes true ps x y z)).cells, .lsts 3 ((l).map Kn.cells), .bool true,i64 sz]) (qGo (Pt.mk kind card frm modes true ps x y z) (l) (k3).ok (by have:=(k3).len;omega) true sz hs).holds [4] rfl ⟨_,_,rfl,rfl,_,_,rfl,⟨_,rfl,by show 0+(i)<=((l).map Kn.cells).length;rw [List.length_map];have:=(k3).len;omega,qAD (by rw [List.length_map];have:=(k3).len;omega)⟩,_,_,rfl,rfl,_,_,rfl,rfl,rfl⟩ fun e0 H0 hq=>?_
  obtain⟨rs,cs,rfl,rfl,hrc⟩:=hq
  refine⟨rfl,⟨qFD _,qGx _,trivial⟩,_,⟨8,(6,qPi rs)::(7,iO cs)::((5,ptO (Pt.mk kind card frm modes true ps x y z))::[(4,kwO l),(3,s1O (.sl 2 6 0 (2+i))),(2,dyO Y),(1,s1O (.p .nils)),(0,dpO ⟨gr,pt,ns,ch,gs,cz⟩)])⟩,rfl,rfl,?_⟩
  refine qAf qWg (by kernel_rfl) ?_
  refine⟨((i+1:Nat):Int),by rw [Int.natCast_add];exact w6z,?_⟩
  refine⟨by show(0:Int)<=(i:Nat)/\((i:Nat):Int)<=((i+1:Nat):Int)/\((i+1:Nat):Int)<=4;omega,?_⟩
  refine(qHZ _ rs cs hrc 2 g ⟨.inr ⟨by omega,hg⟩⟩ hpc).use [6,7] rfl ⟨_,_,rfl,rfl,_,_,rfl,⟨_,rfl,by show 0+rs.length<=(rs.map Rf.cells).length;simp,qAD (by simp)⟩,_,_,rfl,⟨_,rfl,by show 0+cs.length<=(cs.map i64).length;simp,qAD (by simp)⟩,_,_,rfl,rfl,_,_,rfl,rfl,rfl⟩ fun r hr=>?_
  obtain⟨L,rfl,hLs⟩:=hr
  refine⟨⟨rfl,trivial⟩,?_⟩
  refine⟨⟨rfl,trivial⟩,?_⟩
  refine⟨by show 0+1<=1;omega,_,rfl, .inl ⟨[],[[i64 3,i64 ((2:Nat):Int), .str (nmI i), .str [112],qB5 rs,(css L)]],rfl,⟨_,_,rfl,⟨_,_,rfl,rfl,_,_,rfl,rfl,_,_,rfl,rfl,_,_,rfl,rfl,_,_,rfl,⟨_,rfl,by show 0+rs.length<=(rs.map Rf.cells).length;simp,qAD (by simp)⟩,_,_,rfl,(by first | exact rfl | exact .inl rfl),rfl⟩,rfl⟩,?_⟩⟩
  refine⟨by show 0+(2+i)<=Y.length;omega,Y,qAD (by omega),by show(2+i+1) * 96<=140737488355328;omega,Y++[[i64 3,i64 ((2:Nat):Int), .str (nmI i), .str [112],qB5 rs,(css L)]],rfl,?_⟩
  refine qAf qWf (by kernel_rfl) ?_
  refine⟨((i+1:Nat):Int),by rw [Int.natCast_add];exact w6z,?_⟩
  refine⟨by show(0:Int)<=(i:Nat)/\((i:Nat):Int)<=((i+1:Nat):Int)/\((i+1:Nat):Int)<=4;omega,?_⟩
  refine⟨by show 0+1<=1;omega,[((Kn.mk (nmI i) ((2:Nat):Int) true)).cells],rfl,?_⟩
  refine⟨by show 0+i<=(l.map Kn.cells).length;rw [List.length_map];omega,l.map Kn.cells,qAD (by rw [List.length_map];omega),by show(i+1) * 32<=140737488355328;omega,(l++[(Kn.mk (nmI i) ((2:Nat):Int) true)]).map Kn.cells,by simp,?_⟩
  refine⟨((i+1:Nat):Int),by rw [Int.natCast_add];exact w6z,?_⟩
  exact⟨(i+1,Y++[[i64 3,i64 ((2:Nat):Int), .str (nmI i), .str [112],qB5 rs,css L]],l++[Kn.mk (nmI i) ((2:Nat):Int) true]),⟨by show i+1<=4;omega,(k2.snoc (d:=⟨3,((2:Nat):Int),nmI i,[112],rs,L⟩) (NilDL.refl _) (qQv (n:=((2:Nat):Int)) (qDc (by omega) (by omega)) hnm.1 hnm.2 (.inr rfl) hrc.refs hrc.len hLs)).le (by show 22+201 * i+201<=22+201 * (i+1);omega),k3.snoc ⟨hnm.1,hnm.2,by show((2:Nat):Int)=2∨((2:Nat):Int)=3;omega⟩⟩,qAB [] [(2,9),(4,11)] [] rfl (sk) (sk) rfl,by show 4 - (i+1)<4 - i;omega⟩
theorem qLB (d:Dp) (hd:d.ok):Pure cx 10 [.agg d.cells] fun r=>∃ ds,r=.ret [qCn ds]/\DrP ds:=
 (qO6 d hd).weak fun r hr=>by
  obtain⟨Y,n,k,rfl,h1,h2,h3⟩:=hr
  obtain⟨ds,g1,g2,g3⟩:=h1.ds
  refine⟨.ret [qCn ds],⟨_,rfl,_,_,rfl,?_,rfl⟩,ds,rfl,g2.fin (by omega) h3⟩
  show NilD (.agg [.lsts 6 Y]) (.agg [.lsts 6 (ds.map De.cells)])
  simp only [NilD,NilDL]
  exact⟨_,rfl,_,_,rfl,⟨_,rfl,g1⟩,rfl⟩
structure SdP (d:De) (k:Nat):Prop where
 big:BigD d
 refs:d.refs.length<=k
 cases:d.cases.length<=k
 nums:∀ c∈d.cases,c.nums.length<=k
structure SzP (ds:List De) (k:Nat):Prop where
 len:ds.length<=k
 decl:∀ d∈ds,SdP d k
def BnQ (k:Nat) (r:PEnd):Prop:=∃ ds,r=.ret [qCn ds]/\SzP ds (k+40)
def beO (b:Be):AObj:=⟨39,false, .bx (b.cells.map .p)⟩
def qXR (d:De):List AV:=[.p (i64 d.kind), .p (i64 d.n), .p (.str d.name), .p (.str d.plate), .sl 4 4 0 d.refs.length, .sl 5 11 0 d.cases.length]
def dyQ (ds:List De) (a:Nat) (d:De):AObj:=⟨qNL,false, .mxs ((qCY (ds.map De.cells)).set a (qXR d))⟩
def dsO (ds:List De):AObj:=⟨qNL,false, .pus (ds.map De.cells)⟩
abbrev bdH (b:Be) (ds:List De) (a:Nat) (d:De):Hp:=⟨6,[(5,ksO d.cases),(4,qPi d.refs),(3,dyQ ds a d),(2,s1O (.p .nils)),(1,s1O (.sl 3 6 0 ds.length)),(0,beO b)]⟩
abbrev qYh:OT:=(.pure 0 (.pure 1 (.pure 2 (.pure 3 (.pure 4 (.pure 5 (.pure 6 (.pure 7 (.pure 8 (.pure 9 (.pure 10 .fin)))))))))))
abbrev qUy:OT:=(.pure 14 (.pure 15 (.eff 16 [] (.pure 17 (.pure 18 (.eff 19 [] .fin .nil))) .nil)))
abbrev qYg:OT:=(.pure 0 (.pure 1 (.pure 3 (.pure 4 (.pure 5 (.pure 6 (.pure 9 (.pure 10 (.pure 11 (.pure 12
 (.eff 2 [12,6] (.eff 7 [12] (.eff 8 [12,6] (.eff 13 [] qUy .nil) .nil) (.eff 8 [12,6] (.eff 7 [12] (.eff 13 [] qUy .nil) .nil) .nil))
  (.eff 8 [12,6] (.eff 2 [12,6] (.eff 7 [12] (.eff 13 [] qUy .nil) .nil) .nil) .nil))))))))))))
theorem qDt {f:AV->PV->Prop}:∀ {a:List (List AV)} {b:List (List PV)} {i:Nat} {x:List AV} {y:List PV},qCz f a b->qCW f x y->qCz f (a.set i x) (b.set i y)
 | [],b,i,x,y,h,_=>by simp only [qCz] at h;subst h;simp [qCz]
 | v::a,b,i,x,y,h,k=>by
  simp only [qCz] at h
  obtain⟨z,zs,rfl,h1,h2⟩:=h
  cases i with
  | zero=>exact⟨_,_,rfl,k,h2⟩
  | succ i=>exact⟨_,_,rfl,h1,qDt h2 k⟩
theorem qTo {ρ:Nat->Nat} {ni:List (Nat × Nat)} {L:List (Nat × AObj)}:∀ xs:List PV,qFu ρ ni L (xs.map .p) (xs.map .p)
 | []=>rfl
 | x::xs=>⟨_,_,rfl,by simp only [See];exact qEX _ _,qTo xs⟩
theorem qME {ρ:Nat->Nat} {ni:List (Nat × Nat)} {L:List (Nat × AObj)}:∀ xss:List (List PV),qHC ρ ni L (qCY xss) (qCY xss)
 | []=>rfl
 | x::xss=>⟨_,_,rfl,qTo x,qME xss⟩
theorem qHs {ρ:Nat->Nat} {ni:List (Nat × Nat)} {L:List (Nat × AObj)}:∀ {a b:List (List AV)} {i:Nat} {x y:List AV},qHC ρ ni L a b->qFu ρ ni L x y->qHC ρ ni L (a.set i x) (b.set i y)
 | a,[],i,x,y,h,_=>by simp only [qHC] at h;subst h;simp [qHC]
 | a,v::b,i,x,y,h,k=>by
  simp only [qHC] at h
  obtain⟨z,zs,rfl,h1,h2⟩:=h
  cases i with
  | zero=>exact⟨_,_,rfl,k,h2⟩
  | succ i=>exact⟨_,_,rfl,h1,qHs h2 k⟩
theorem qXi {ni:List (Nat × Nat)} {L:List (Nat × AObj)} {ρ:Nat->Nat} {R:List (List PV)} {i j s t m1 m2:Nat} {d:De} (hij:i=j) (h1:m1=d.refs.length) (h2:m2=d.cases.length) (hs:See ρ ni L (.sl s 4 0 d.refs.length) (.sl 4 4 0 d.refs.length)) (ht:See ρ ni L (.sl t 11 0 d.cases.length) (.sl 5 11 0 d.cases.length)):qHC ρ ni L ((qCY R).set i [.p (i64 d.kind), .p (i64 d.n), .p (.str d.name), .p (.str d.plate), .sl s 4 0 m1, .sl t 11 0 m2]) ((qCY R).set j (qXR d)):=by
 subst hij h1 h2
 exact qHs (qME _) ⟨_,_,rfl,rfl,_,_,rfl,rfl,_,_,rfl,rfl,_,_,rfl,rfl,_,_,rfl,hs,_,_,rfl,ht,rfl⟩
theorem qXQ {ni:List (Nat × Nat)} {L:List (Nat × AObj)} {ρ:Nat->Nat} {R:List (List PV)} {i j s t m1 m2:Nat} {d:De} {x:List AV} (hij:i=j) (h1:m1=d.refs.length) (h2:m2=d.cases.length) (hs:See ρ ni L (.sl s 4 0 d.refs.length) (.sl 4 4 0 d.refs.length)) (ht:See ρ ni L (.sl t 11 0 d.cases.length) (.sl 5 11 0 d.cases.length)):qHC ρ ni L (((qCY R).set i x).set i [.p (i64 d.kind), .p (i64 d.n), .p (.str d.name), .p (.str d.plate), .sl s 4 0 m1, .sl t 11 0 m2]) ((qCY R).set j (qXR d)):=by
 subst hij h1 h2
 rw [List.set_set]
 exact qHs (qME _) ⟨_,_,rfl,rfl,_,_,rfl,rfl,_,_,rfl,rfl,_,_,rfl,rfl,_,_,rfl,hs,_,_,rfl,ht,rfl⟩
theorem qWQ (L:List (Nat × AObj)) (d:Nat) (x:PV):Res L (d+1) (.p x) x:=by
 cases x with
 | nils=>exact .inl rfl
 | agg cs=>
  cases cs with
  | nil=>rfl
  | cons a r=>
   cases a with
   | nils=>exact⟨_,rfl,qFj _⟩
   | _=>rfl
 | _=>rfl
theorem qGk (L:List (Nat × AObj)) (d:Nat):∀ xs:List PV,qCW (Res L (d+1)) (xs.map .p) xs
 | []=>rfl
 | x::xs=>⟨_,_,rfl,qWQ L d x,qGk L d xs⟩
theorem qD9 (L:List (Nat × AObj)) (d:Nat):∀ xs:List (List PV),qCz (Res L (d+1)) (qCY xs) xs
 | []=>rfl
 | x::xs=>⟨_,_,rfl,qGk L d x,qD9 L d xs⟩
abbrev qQo:OT:=.eff 10 [] (.pure 11 (.pure 12 (.eff 13 [] .fin .nil))) .nil
abbrev qXn:OT:=(.pure 0 (.pure 2 (.pure 3 (.pure 4 (.pure 5 (.pure 7 (.pure 8 (.eff 1 [8,5] (.eff 6 [8] (.eff 9 [5] qQo .nil) (.eff 9 [5] (.eff 6 [8] qQo .nil) .nil)) (.eff 9 [5] (.eff 1 [8,5] (.eff 6 [8] qQo .nil) .nil) .nil)))))))))
theorem qEk {f:AV->PV->Prop}:∀ {a c:List AV} {b d:List PV},qCW f a b->qCW f c d->qCW f (a++c) (b++d)
 | [],c,b,d,h,k=>by simp only [qCW] at h;subst h;exact k
 | v::a,c,b,d,h,k=>by
  simp only [qCW] at h
  obtain⟨z,zs,rfl,h1,h2⟩:=h
  exact⟨z,zs++d,rfl,h1,qEk h2 k⟩
theorem qLm {c:Cs} {l:List Cs} (hc:qC1 c.cond) (hn:c.nums.length<=5000) (hl:BigL l) (hk:l.length<=5000):BigL (c::l):=by
 refine⟨by show l.length+1<=_;omega,fun x hx=>?_,fun x hx=>?_⟩
 ·rcases List.mem_cons.1 hx with rfl | hx
  ·exact hc
  ·exact hl.cond x hx
 ·rcases List.mem_cons.1 hx with rfl | hx
  ·omega
  ·exact hl.nums x hx
theorem qHh {c:Cs} {l:List Cs} {i:Nat} (hc:qC1 c.cond) (hn:c.nums.length<=2000) (hl:BigL l):BigL (l.set i c):=by
 refine⟨by rw [List.length_set];exact hl.len,fun x hx=>?_,fun x hx=>?_⟩
 ·rcases List.mem_or_eq_of_mem_set hx with hx | rfl
  ·exact hl.cond x hx
  ·exact hc
 ·rcases List.mem_or_eq_of_mem_set hx with hx | rfl
  ·exact hl.nums x hx
  ·omega
theorem qFe {L:List (Nat × AObj)} {d n s m:Nat} {t:TypeId} {xss:List (List PV)} (h:qAk L n=some ⟨t,true, .pus xss⟩) (hm:m=xss.length):Res L (d+1) (.sl n s 0 m) (.lsts s xss):=by
 simp only [Res]
 rw [h]
 exact⟨_,rfl,by rw [hm];omega,qAD hm.symm⟩
theorem qSf {L:List (Nat × AObj)} {d n s off m:Nat} {t:TypeId} {xss ys:List (List PV)} (h:qAk L n=some ⟨t,true, .pus xss⟩) (h1:off+m<=xss.length) (h2:ys=(xss.drop off).take m):Res L (d+1) (.sl n s off m) (.lsts s ys):=by
 simp only [Res]
 rw [h]
 exact⟨_,rfl,h1,h2⟩
theorem qQN {L:List (Nat × AObj)} {d n s m:Nat} {t:TypeId} {yss xss:List (List PV)} (h:qAk L n=some ⟨t,true, .pus yss⟩) (he:yss=xss) (hm:m=xss.length):Res L (d+1) (.sl n s 0 m) (.lsts s xss):=by
 subst he
 exact qFe h hm
theorem qJ8 {L:List (Nat × AObj)} {d n s m:Nat} {t:TypeId} {vss:List (List AV)} {xss:List (List PV)} (h:qAk L n=some ⟨t,true, .mxs vss⟩) (hr:qCz (Res L d) vss xss) (hm:vss.length=m):Res L (d+1) (.sl n s 0 m) (.lsts s xss):=by
 simp only [Res]
 rw [h]
 exact⟨_,rfl,by rw [hm];omega,by rw [<- qAD hm];exact hr⟩
theorem qCo {L:List (Nat × AObj)} {dd a:Nat} {ds:List De} {d':De} {row:List AV} {M:List (List AV)} (hM:M=(qCY (ds.map De.cells)).set a row) (h:qCW (Res L (dd+1)) row d'.cells):qCz (Res L (dd+1)) ((M.drop 0).take ds.length) ((ds.set a d').map De.cells):=by
 have hml:M.length=ds.length:=by rw [hM,List.length_set,qBY,List.length_map]
 rw [<- qAD hml,hM,List.map_set]
 exact qDt (qD9 _ _ _) h
theorem qUg {L:List (Nat × AObj)} {dd a:Nat} {ds:List De} {d':De} {row:List AV} (h:qCW (Res L (dd+1)) row d'.cells):qCz (Res L (dd+1)) ((qCY (ds.map De.cells)).set a row) ((ds.set a d').map De.cells):=by
 rw [List.map_set]
 exact qDt (qD9 _ _ _) h
theorem set_self {α:Type} (d:α):∀ (l:List α) (i:Nat),l.set i (l.getD i d)=l
 | [],_=>rfl
 | x::l,0=>rfl
 | x::l,i+1=>by show x::l.set i (l.getD i d)=_;rw [set_self d l i]
theorem qCu {a:Nat} {ds:List De} {row:List AV} {M:List (List AV)} (hM:M=(qCY (ds.map De.cells)).set a row):0+ds.length<=M.length:=by
 rw [hM,List.length_set,qBY,List.length_map];omega
theorem SdP.mono {d:De} {k m:Nat} (h:SdP d k) (hm:k<=m):SdP d m:=⟨h.big,Nat.le_trans h.refs hm,Nat.le_trans h.cases hm,fun c hc=>Nat.le_trans (h.nums c hc) hm⟩
theorem qCx {ds:List De} {k a:Nat} {d':De} (h:SzP ds k) (h':SdP d' (k+40)):BnQ k (.ret [qCn (ds.set a d')]):=by
 refine⟨_,rfl,by rw [List.length_set];have:=h.len;omega,fun x hx=>?_⟩
 rcases List.mem_or_eq_of_mem_set hx with hx | hx
 ·exact(h.decl x hx).mono (by omega)
 ·rw [hx];exact h'
def ndB:List (Nat × AObj)->Bool
 | []=>true
 | (n,_)::r=>(match qAk r n with
  | none=>true
  | some _=>false) && ndB r
theorem ndB_nodup:∀ {l:List (Nat × AObj)},ndB l=true->(l.map (·.1)).Nodup
 | [],_=>List.nodup_nil
 | (n,o)::r,h=>by
  rw [ndB,Bool.and_eq_true] at h
  rw [List.map_cons,List.nodup_cons]
  refine⟨fun hm=>?_,ndB_nodup h.2⟩
  obtain⟨⟨m,o'⟩,h1,rfl⟩:=List.mem_map.1 hm
  have:=qEG (ndB_nodup h.2) h1
  have h1:=h.1
  rw [this] at h1
  cases h1
theorem endN {Q:PEnd->Prop} {v:AV} {H':Hp} (x:PV) (hd:ndB H'.l=true) (h:Res (qLs H'.l) 5 v x) (hq:Q (.ret [x])):qNN Q (.returned v) H':=qYU x (ndB_nodup hd) h hq
theorem qTT (b:Be) (hb:b.ok) (ds:List De) (k:Nat) (hk:k<=1000) (h:SzP ds k):Pure cx 11 [.agg b.cells,qCn ds] (BnQ k):=by
 refine qAC Tryz.func11 rfl rfl rfl ?_
 obtain⟨what,place,cse,n,nm,rf,⟨ao,an,ar,av,af,as',aa⟩⟩:=b
 have hl:=h.len
 have hlm:(ds.map De.cells).length=ds.length:=List.length_map ..
 refine⟨by show 0+0<=0;omega,[],rfl,by show(0+(ds.map De.cells).length) * 96<=140737488355328;omega,ds.map De.cells,rfl,?_⟩
 by_cases h0:ds=[]
 ·subst h0
  refine And.intro (fun _=>?_) (fun h=>absurd rfl h)
  refine qAG (.agg [.lsts 6 []]) rfl ⟨_,rfl,_,_,rfl,⟨_,rfl,Nat.le_refl _,rfl⟩,rfl⟩ ⟨[],rfl,by show 0<=k+40;omega,fun d hd=>by cases hd⟩
 have hpos:0<ds.length:=by
  cases ds with
  | nil=>exact absurd rfl h0
  | cons a r=>simp
 refine And.intro (fun h=>absurd (show((0+(ds.map De.cells).length:Nat):Int)=0 from h) (by rw [hlm];omega)) (fun _=>?_)
 have hp:=place.toNat_lt
 refine qAf qYh (by kernel_rfl) ?_
 refine⟨(place.toNat:Int),w6z,?_⟩
 refine⟨by show ¬ ((0+(ds.map De.cells).length:Nat):Int)=0;rw [hlm];omega,?_⟩
 have hm:(place.toNat:Int).tmod ((0+(ds.map De.cells).length:Nat):Int)=((place.toNat % ds.length:Nat):Int):=by rw [Nat.zero_add,hlm];rfl
 have ha:place.toNat % ds.length<ds.length:=Nat.mod_lt _ hpos
 generalize place.toNat % ds.length=a at hm ha
 generalize (place.toNat:Int).tmod ((0+(ds.map De.cells).length:Nat):Int)=aa' at hm ⊢
 subst hm
 refine⟨by show(0:Int)<=(a:Nat)/\((a:Nat):Int)<((0+(ds.map De.cells).length:Nat):Int);rw [hlm];omega,?_⟩
 obtain⟨d,hd⟩:∃ d,d=ds.getD a de0:=⟨_,rfl⟩
 have hdm:d∈ds:=by rw [hd];exact qAL de0 ha
 have hS:=h.decl d hdm
 have hrl:=hS.refs
 have hcl:=hS.cases
 have hcell:(ds.map De.cells)[0+((a:Nat):Int).toNat]?=some d.cells:=by rw [Int.toNat_natCast,Nat.zero_add,hd];exact qJj ha
 have hia:0+((a:Nat):Int).toNat=a:=by rw [Int.toNat_natCast,Nat.zero_add]
 have hlen:0+((a:Nat):Int).toNat<(qCY (ds.map De.cells)).length:=by rw [qBY,List.length_map,Int.toNat_natCast];omega
 refine qIy (fun _:Unit=>[(2, .ptr 0 0 0),(3, .ptr 1 0 0),(4, .ptr 2 0 0),(5, .ptr 3 a 0)]) (fun _=>bdH ⟨what,place,cse,n,nm,rf, .mk ao an ar av af as' aa⟩ ds a d) (fun _=>True) qYg (by kernel_rfl) ?_ ?_
 ·refine⟨_,⟨d.cells,qB5 d.refs,hcell,rfl,rfl⟩,?_⟩
  refine⟨_,⟨d.cells,css d.cases,hcell,rfl,rfl⟩,?_⟩
  refine And.intro ?_ ?_
  ·refine⟨⟨⟨d.cells,_,hcell,rfl,rfl⟩,⟨d.cells,_,hcell,rfl,rfl⟩,trivial⟩,?_⟩
   refine And.intro ?_ ?_
   ·refine⟨by show 0+0<=0;omega,[],rfl,by show(0+(d.refs.map Rf.cells).length) * 48<=140737488355328;rw [List.length_map];omega,d.refs.map Rf.cells,rfl,?_⟩
    refine⟨⟨⟨d.cells,_,hcell,rfl,rfl⟩,trivial⟩,?_⟩
    refine⟨⟨⟨d.cells,_,hcell,rfl,rfl⟩,⟨d.cells,_,hcell,rfl,rfl⟩,trivial⟩,?_⟩
    refine⟨by show 0+0<=0;omega,[],rfl,by show(0+(d.cases.map Cs.cells).length) * 152<=140737488355328;rw [List.length_map];omega,d.cases.map Cs.cells,rfl,?_⟩
    refine⟨d.cells,hcell,by show 0+4+1<=6;omega,?_⟩
    refine⟨_,List.getElem?_set_self hlen,by show 0+5+1<=6;omega,?_⟩
    refine⟨(),trivial,qAB [] [(3,4),(4,6),(5,8)] [] rfl ⟨⟨rfl,rfl⟩,⟨rfl,rfl⟩,⟨rfl,rfl⟩,⟨rfl,congrArg (fun z=>AV.ptr 4 z 0) hia⟩,trivial⟩ ⟨⟨_,rfl,rfl,rfl,rfl⟩,⟨_,rfl,rfl,rfl,rfl⟩,⟨_,rfl,rfl,rfl,_,rfl,?_⟩,⟨_,rfl,rfl,rfl,sk⟩,⟨_,rfl,rfl,rfl,_,rfl,_,_,rfl,congrArg (fun z=>AV.sl 4 6 0 z) (by show 0+(ds.map De.cells).length=_;rw [hlm,Nat.zero_add]),rfl⟩,⟨_,rfl,rfl,rfl,sk⟩,trivial⟩ rfl⟩
    exact qXQ (R:=ds.map De.cells) (d:=d) (s:=6) (t:=8) hia (by rw [List.length_map,Nat.zero_add]) (by rw [List.length_map,Nat.zero_add]) rfl rfl
   ·refine⟨⟨⟨d.cells,_,hcell,rfl,rfl⟩,⟨d.cells,_,hcell,rfl,rfl⟩,trivial⟩,?_⟩
    refine⟨by show 0+0<=0;omega,[],rfl,by show(0+(d.refs.map Rf.cells).length) * 48<=140737488355328;rw [List.length_map];omega,d.refs.map Rf.cells,rfl,?_⟩
    refine⟨⟨⟨d.cells,_,hcell,rfl,rfl⟩,trivial⟩,?_⟩
    refine⟨by show 0+0<=0;omega,[],rfl,by show(0+(d.cases.map Cs.cells).length) * 152<=140737488355328;rw [List.length_map];omega,d.cases.map Cs.cells,rfl,?_⟩
    refine⟨d.cells,hcell,by show 0+4+1<=6;omega,?_⟩
    refine⟨_,List.getElem?_set_self hlen,by show 0+5+1<=6;omega,?_⟩
    refine⟨(),trivial,qAB [] [(3,4),(4,7),(5,8)] [] rfl ⟨⟨rfl,rfl⟩,⟨rfl,rfl⟩,⟨rfl,rfl⟩,⟨rfl,congrArg (fun z=>AV.ptr 4 z 0) hia⟩,trivial⟩ ⟨⟨_,rfl,rfl,rfl,rfl⟩,⟨_,rfl,rfl,rfl,rfl⟩,⟨_,rfl,rfl,rfl,_,rfl,?_⟩,⟨_,rfl,rfl,rfl,sk⟩,⟨_,rfl,rfl,rfl,_,rfl,_,_,rfl,congrArg (fun z=>AV.sl 4 6 0 z) (by show 0+(ds.map De.cells).length=_;rw [hlm,Nat.zero_add]),rfl⟩,⟨_,rfl,rfl,rfl,sk⟩,trivial⟩ rfl⟩
    exact qXQ (R:=ds.map De.cells) (d:=d) (s:=7) (t:=8) hia (by rw [List.length_map,Nat.zero_add]) (by rw [List.length_map,Nat.zero_add]) rfl rfl
  ·refine⟨⟨⟨d.cells,_,hcell,rfl,rfl⟩,⟨d.cells,_,hcell,rfl,rfl⟩,trivial⟩,?_⟩
   refine⟨⟨⟨d.cells,_,hcell,rfl,rfl⟩,⟨d.cells,_,hcell,rfl,rfl⟩,trivial⟩,?_⟩
   refine⟨by show 0+0<=0;omega,[],rfl,by show(0+(d.refs.map Rf.cells).length) * 48<=140737488355328;rw [List.length_map];omega,d.refs.map Rf.cells,rfl,?_⟩
   refine⟨⟨⟨d.cells,_,hcell,rfl,rfl⟩,trivial⟩,?_⟩
   refine⟨by show 0+0<=0;omega,[],rfl,by show(0+(d.cases.map Cs.cells).length) * 152<=140737488355328;rw [List.length_map];omega,d.cases.map Cs.cells,rfl,?_⟩
   refine⟨d.cells,hcell,by show 0+4+1<=6;omega,?_⟩
   refine⟨_,List.getElem?_set_self hlen,by show 0+5+1<=6;omega,?_⟩
   refine⟨(),trivial,qAB [] [(3,4),(4,7),(5,8)] [] rfl ⟨⟨rfl,rfl⟩,⟨rfl,rfl⟩,⟨rfl,rfl⟩,⟨rfl,congrArg (fun z=>AV.ptr 4 z 0) hia⟩,trivial⟩ ⟨⟨_,rfl,rfl,rfl,rfl⟩,⟨_,rfl,rfl,rfl,rfl⟩,⟨_,rfl,rfl,rfl,_,rfl,?_⟩,⟨_,rfl,rfl,rfl,sk⟩,⟨_,rfl,rfl,rfl,_,rfl,_,_,rfl,congrArg (fun z=>AV.sl 4 6 0 z) (by show 0+(ds.map De.cells).length=_;rw [hlm,Nat.zero_add]),rfl⟩,⟨_,rfl,rfl,rfl,sk⟩,trivial⟩ rfl⟩
   exact qXQ (R:=ds.map De.cells) (d:=d) (s:=7) (t:=8) hia (by rw [List.length_map,Nat.zero_add]) (by rw [List.length_map,Nat.zero_add]) rfl rfl
 intro _ _
 refine⟨by show(0:Int)<=(if (12:Int)<((nm.length:Nat):Int) then(12:Int) else((nm.length:Nat):Int))/\(if (12:Int)<((nm.length:Nat):Int) then(12:Int) else((nm.length:Nat):Int))<=((nm.length:Nat):Int);split <;> omega,?_⟩
 refine⟨by decide,?_⟩
 have hw:=what.toNat_lt
 have hcs:=cse.toNat_lt
 have hnt:(nm.take (if (12:Int)<((nm.length:Nat):Int) then(12:Int) else((nm.length:Nat):Int)).toNat).length<=nm.length:=by rw [List.length_take];omega
 have hrr:∀ {L:List (Nat × AObj)} {dd:Nat},qAk L 4=some ⟨qTV,true, .pus (d.refs.map Rf.cells)⟩->Res L (dd+1) (.sl 4 4 0 d.refs.length) (qB5 d.refs):=fun h=>qFe h (by rw [List.length_map])
 have hkk:∀ {L:List (Nat × AObj)} {dd:Nat},qAk L 5=some ⟨qHB,true, .pus (d.cases.map Cs.cells)⟩->Res L (dd+1) (.sl 5 11 0 d.cases.length) (css d.cases):=fun h=>qFe h (by rw [List.length_map])
 have hB:=hS.big
 have hS':=hS.mono (show k<=k+40 by omega)
 have hst:∀ x:List AV,((qCY (ds.map De.cells)).set a x)[a]?=some x:=fun x=>List.getElem?_set_self (by rw [hia] at hlen;exact hlen)
 refine And.intro (fun _=>?_) (fun _=>?_)
 ·refine⟨_,hst _,by show 0+0+1<=6;omega,?_⟩
  refine endN (qCn (ds.set a ⟨n,d.n,d.name,d.plate,d.refs,d.cases⟩)) rfl ⟨_,rfl,_,_,rfl,⟨_,rfl,qCu (List.set_set ..),qCo (List.set_set ..) ⟨_,_,rfl,rfl,_,_,rfl,rfl,_,_,rfl,rfl,_,_,rfl,rfl,_,_,rfl,hrr rfl,_,_,rfl,hkk rfl,rfl⟩⟩,rfl⟩ (qCx h ?_)
  exact⟨⟨hB.name,hB.plate,hB.len,hB.refs,hB.cases⟩,hS'.refs,hS'.cases,hS'.nums⟩
 refine And.intro (fun _=>?_) (fun _=>?_)
 ·refine⟨_,hst _,by show 0+1+1<=6;omega,?_⟩
  refine endN (qCn (ds.set a ⟨d.kind,n,d.name,d.plate,d.refs,d.cases⟩)) rfl ⟨_,rfl,_,_,rfl,⟨_,rfl,qCu (List.set_set ..),qCo (List.set_set ..) ⟨_,_,rfl,rfl,_,_,rfl,rfl,_,_,rfl,rfl,_,_,rfl,rfl,_,_,rfl,hrr rfl,_,_,rfl,hkk rfl,rfl⟩⟩,rfl⟩ (qCx h ?_)
  exact⟨⟨hB.name,hB.plate,hB.len,hB.refs,hB.cases⟩,hS'.refs,hS'.cases,hS'.nums⟩
 refine And.intro (fun _=>?_) (fun _=>?_)
 ·refine⟨_,hst _,by show 0+2+1<=6;omega,?_⟩
  refine endN (qCn (ds.set a ⟨d.kind,d.n,nm.take (if (12:Int)<((nm.length:Nat):Int) then(12:Int) else((nm.length:Nat):Int)).toNat,d.plate,d.refs,d.cases⟩)) rfl ⟨_,rfl,_,_,rfl,⟨_,rfl,qCu (List.set_set ..),qCo (List.set_set ..) ⟨_,_,rfl,rfl,_,_,rfl,rfl,_,_,rfl,rfl,_,_,rfl,rfl,_,_,rfl,hrr rfl,_,_,rfl,hkk rfl,rfl⟩⟩,rfl⟩ (qCx h ?_)
  exact⟨⟨Nat.le_trans hnt hb.name,hB.plate,hB.len,hB.refs,hB.cases⟩,hS'.refs,hS'.cases,hS'.nums⟩
 refine And.intro (fun _=>?_) (fun _=>?_)
 ·refine⟨_,hst _,by show 0+3+1<=6;omega,?_⟩
  refine endN (qCn (ds.set a ⟨d.kind,d.n,d.name,nm.take (if (12:Int)<((nm.length:Nat):Int) then(12:Int) else((nm.length:Nat):Int)).toNat,d.refs,d.cases⟩)) rfl ⟨_,rfl,_,_,rfl,⟨_,rfl,qCu (List.set_set ..),qCo (List.set_set ..) ⟨_,_,rfl,rfl,_,_,rfl,rfl,_,_,rfl,rfl,_,_,rfl,rfl,_,_,rfl,hrr rfl,_,_,rfl,hkk rfl,rfl⟩⟩,rfl⟩ (qCx h ?_)
  exact⟨⟨hB.name,Nat.le_trans hnt hb.name,hB.len,hB.refs,hB.cases⟩,hS'.refs,hS'.cases,hS'.nums⟩
 refine And.intro (fun _=>?_) (fun _=>?_)
 ·refine VDraw.seq rfl ?_
  refine⟨_,⟨_,hst _,rfl⟩,?_⟩
  refine⟨⟨⟨_,hst _,rfl⟩,sk⟩,?_⟩
  refine⟨by show 0+1<=1;omega,[rf.cells],rfl,?_⟩
  refine⟨by show 0+d.refs.length<=(d.refs.map Rf.cells).length;rw [List.length_map];omega,d.refs.map Rf.cells,qAD (by rw [List.length_map]),by show(d.refs.length+1) * 48<=140737488355328;omega,(d.refs++[rf]).map Rf.cells,by rw [List.map_append];rfl,?_⟩
  refine⟨_,hst _,by show 0+4+1<=6;omega,?_⟩
  refine endN (qCn (ds.set a ⟨d.kind,d.n,d.name,d.plate,d.refs++[rf],d.cases⟩)) rfl ⟨_,rfl,_,_,rfl,⟨_,rfl,qCu (List.set_set ..),qCo (List.set_set ..) ⟨_,_,rfl,rfl,_,_,rfl,rfl,_,_,rfl,rfl,_,_,rfl,rfl,_,_,rfl,(qFe (xss:=(d.refs++[rf]).map Rf.cells) rfl (by show d.refs.length+1=_;rw [List.length_map,List.length_append];rfl)),_,_,rfl,hkk rfl,rfl⟩⟩,rfl⟩ (qCx h ?_)
  refine⟨⟨hB.name,hB.plate,by show(d.refs++[_]).length<=_;rw [List.length_append];show d.refs.length+1<=_;omega,fun r hr=>?_,hB.cases⟩,by show(d.refs++[_]).length<=_;rw [List.length_append];show d.refs.length+1<=_;omega,hS'.cases,hS'.nums⟩
  rcases List.mem_append.1 hr with hr | hr
  ·exact hB.refs r hr
  ·rw [List.mem_singleton.1 hr];exact hb.ref
 refine And.intro (fun _=>?_) (fun _=>?_)
 ·refine⟨_,⟨_,hst _,rfl⟩,?_⟩
  refine And.intro (fun hp1=>?_) (fun hp1=>?_)
  ·refine VDraw.seq rfl ?_
   refine⟨_,⟨_,hst _,rfl⟩,?_⟩
   refine⟨(cse.toNat:Int),w6z,?_⟩
   refine⟨_,⟨_,hst _,rfl⟩,?_⟩
   have hp1:0<d.refs.length:=by have:(0:Int)<((d.refs.length:Nat):Int):=hp1;omega
   refine⟨by show ¬ ((d.refs.length:Nat):Int)=0;omega,?_⟩
   have hj:cse.toNat % d.refs.length<d.refs.length:=Nat.mod_lt _ hp1
   have hjm:(cse.toNat:Int).tmod ((d.refs.length:Nat):Int)=((cse.toNat % d.refs.length:Nat):Int):=rfl
   refine⟨by show(0:Int)<=((cse.toNat % d.refs.length:Nat):Int)/\((cse.toNat % d.refs.length:Nat):Int)<((d.refs.length:Nat):Int);omega,?_⟩
   have hjx:0+((cse.toNat:Int).tmod ((d.refs.length:Nat):Int)).toNat=cse.toNat % d.refs.length:=by rw [hjm,Int.toNat_natCast,Nat.zero_add]
   refine⟨(d.refs.getD (cse.toNat % d.refs.length) rf0).cells,by rw [hjx];exact qK8 hj,by show 0+4<=4;omega,?_⟩
   refine endN (qCn (ds.set a ⟨d.kind,d.n,d.name,d.plate,d.refs.set (cse.toNat % d.refs.length) rf,d.cases⟩)) rfl ⟨_,rfl,_,_,rfl,⟨_,rfl,qCu rfl,qCo rfl ⟨_,_,rfl,rfl,_,_,rfl,rfl,_,_,rfl,rfl,_,_,rfl,rfl,_,_,rfl,(qQN (xss:=(d.refs.set (cse.toNat % d.refs.length) rf).map Rf.cells) rfl (by rw [List.map_set,<- hjx];rfl) (by rw [List.length_map,List.length_set])),_,_,rfl,hkk rfl,rfl⟩⟩,rfl⟩ (qCx h ?_)
   refine⟨⟨hB.name,hB.plate,by show(d.refs.set _ _).length<=_;rw [List.length_set];exact hB.len,fun r hr=>?_,hB.cases⟩,by show(d.refs.set _ _).length<=_;rw [List.length_set];exact hS'.refs,hS'.cases,hS'.nums⟩
   rcases List.mem_or_eq_of_mem_set hr with hr | hr
   ·exact hB.refs r hr
   ·rw [hr];exact hb.ref
  refine endN (qCn (ds.set a d)) rfl ⟨_,rfl,_,_,rfl,⟨_,rfl,qCu rfl,qCo rfl ⟨_,_,rfl,rfl,_,_,rfl,rfl,_,_,rfl,rfl,_,_,rfl,rfl,_,_,rfl,hrr rfl,_,_,rfl,hkk rfl,rfl⟩⟩,rfl⟩ (qCx h hS')
 have hkl:(d.cases.map Cs.cells).length=d.cases.length:=List.length_map ..
 refine And.intro (fun _=>?_) (fun _=>?_)
 ·refine VDraw.seq rfl ?_
  refine⟨_,⟨_,hst _,rfl⟩,?_⟩
  refine⟨⟨⟨_,hst _,rfl⟩,sk⟩,?_⟩
  refine⟨⟨⟨_,hst _,rfl⟩,sk⟩,?_⟩
  refine⟨by show 0+d.cases.length<=(d.cases.map Cs.cells).length;omega,d.cases.map Cs.cells,qAD hkl,?_⟩
  refine⟨by show 0+1<=1;omega,[(Cd.mk ao an ar av af as' aa).cells.map .p++[.sl 6 1 0 1]],rfl,by show(1+d.cases.length) * 152<=140737488355328;omega,[(Cd.mk ao an ar av af as' aa).cells.map .p++[.sl 6 1 0 1]]++qCY (d.cases.map Cs.cells),rfl,?_⟩
  refine⟨_,hst _,by show 0+5+1<=6;omega,?_⟩
  refine endN (qCn (ds.set a ⟨d.kind,d.n,d.name,d.plate,d.refs,⟨.mk ao an ar av af as' aa,[1]⟩::d.cases⟩)) rfl ⟨_,rfl,_,_,rfl,⟨_,rfl,qCu (List.set_set ..),qCo (List.set_set ..) ⟨_,_,rfl,rfl,_,_,rfl,rfl,_,_,rfl,rfl,_,_,rfl,rfl,_,_,rfl,hrr rfl,_,_,rfl,(qJ8 (xss:=(⟨.mk ao an ar av af as' aa,[1]⟩::d.cases).map Cs.cells) rfl ?_ (by rw [List.length_append,qBY,hkl];rfl)),rfl⟩⟩,rfl⟩ (qCx h ?_)
  ·exact⟨_,_,rfl,qEk (qGk _ _ _) ⟨_,_,rfl,⟨_,rfl,by show 0+1<=1;omega,rfl⟩,rfl⟩,qD9 _ _ _⟩
  ·refine⟨⟨hB.name,hB.plate,hB.len,hB.refs,qLm hb.cond (by show 1<=5000;omega) hB.cases (by omega)⟩,hS'.refs,by show d.cases.length+1<=_;omega,fun c hc=>?_⟩
   rcases List.mem_cons.1 hc with rfl | hc
   ·show 1<=_;omega
   ·exact hS'.nums c hc
 refine And.intro (fun _=>?_) (fun _=>?_)
 ·refine⟨_,⟨_,hst _,rfl⟩,?_⟩
  refine And.intro (fun hp1=>?_) (fun hp1=>?_)
  ·have hp1:0<d.cases.length:=by have:(0:Int)<((d.cases.length:Nat):Int):=hp1;omega
   have hj:cse.toNat % d.cases.length<d.cases.length:=Nat.mod_lt _ hp1
   have hjm:(cse.toNat:Int).tmod ((d.cases.length:Nat):Int)=((cse.toNat % d.cases.length:Nat):Int):=rfl
   have hjx:0+((cse.toNat:Int).tmod ((d.cases.length:Nat):Int)).toNat=cse.toNat % d.cases.length:=by rw [hjm,Int.toNat_natCast,Nat.zero_add]
   obtain⟨c,hc⟩:∃ c,c=d.cases.getD (cse.toNat % d.cases.length) cs0:=⟨_,rfl⟩
   have hcm:c∈d.cases:=by rw [hc];exact qAL cs0 hj
   obtain⟨⟨c1,c2,c3,c4,c5,c6,c7⟩,nu⟩:=c
   have hnu:=hS.nums _ hcm
   refine VDraw.seq rfl ?_
   refine⟨_,⟨_,hst _,rfl⟩,?_⟩
   refine⟨(cse.toNat:Int),w6z,?_⟩
   refine⟨_,⟨_,hst _,rfl⟩,?_⟩
   refine⟨by show ¬ ((d.cases.length:Nat):Int)=0;omega,?_⟩
   refine⟨by show(0:Int)<=((cse.toNat % d.cases.length:Nat):Int)/\((cse.toNat % d.cases.length:Nat):Int)<((d.cases.length:Nat):Int);omega,?_⟩
   refine⟨(⟨.mk c1 c2 c3 c4 c5 c6 c7,nu⟩:Cs).cells,by rw [hjx,hc];exact qMG hj,by show 0+0+10<=11;omega,?_⟩
   refine endN (qCn (ds.set a ⟨d.kind,d.n,d.name,d.plate,d.refs,d.cases.set (cse.toNat % d.cases.length) ⟨.mk ao an ar av af as' aa,nu⟩⟩)) rfl ⟨_,rfl,_,_,rfl,⟨_,rfl,qCu rfl,qCo rfl ⟨_,_,rfl,rfl,_,_,rfl,rfl,_,_,rfl,rfl,_,_,rfl,rfl,_,_,rfl,hrr rfl,_,_,rfl,(qQN (xss:=(d.cases.set (cse.toNat % d.cases.length) ⟨.mk ao an ar av af as' aa,nu⟩).map Cs.cells) rfl (by rw [List.map_set,<- hjx];rfl) (by rw [List.length_map,List.length_set])),rfl⟩⟩,rfl⟩ (qCx h ?_)
   refine⟨⟨hB.name,hB.plate,hB.len,hB.refs,qHh hb.cond (Nat.le_trans hnu (by omega)) hB.cases⟩,hS'.refs,by show(d.cases.set _ _).length<=_;rw [List.length_set];exact hS'.cases,fun x hx=>?_⟩
   rcases List.mem_or_eq_of_mem_set hx with hx | rfl
   ·exact hS'.nums x hx
   ·exact Nat.le_trans hnu (by omega)
  refine endN (qCn (ds.set a d)) rfl ⟨_,rfl,_,_,rfl,⟨_,rfl,qCu rfl,qCo rfl ⟨_,_,rfl,rfl,_,_,rfl,rfl,_,_,rfl,rfl,_,_,rfl,rfl,_,_,rfl,hrr rfl,_,_,rfl,hkk rfl,rfl⟩⟩,rfl⟩ (qCx h hS')
 refine And.intro (fun _=>?_) (fun _=>?_)
 ·refine⟨_,⟨_,hst _,rfl⟩,?_⟩
  refine And.intro (fun hp1=>?_) (fun hp1=>?_)
  ·have hp1:0<d.cases.length:=by have:(0:Int)<((d.cases.length:Nat):Int):=hp1;omega
   have hj:cse.toNat % d.cases.length<d.cases.length:=Nat.mod_lt _ hp1
   have hjm:(cse.toNat:Int).tmod ((d.cases.length:Nat):Int)=((cse.toNat % d.cases.length:Nat):Int):=rfl
   have hjx:0+((cse.toNat:Int).tmod ((d.cases.length:Nat):Int)).toNat=cse.toNat % d.cases.length:=by rw [hjm,Int.toNat_natCast,Nat.zero_add]
   obtain⟨c,hc⟩:∃ c,c=d.cases.getD (cse.toNat % d.cases.length) cs0:=⟨_,rfl⟩
   have hcm:c∈d.cases:=by rw [hc];exact qAL cs0 hj
   obtain⟨⟨c1,c2,c3,c4,c5,c6,c7⟩,nu⟩:=c
   have hnu:nu.length<=k:=hS.nums _ hcm
   have hget:(d.cases.map Cs.cells)[0+((cse.toNat:Int).tmod ((d.cases.length:Nat):Int)).toNat]?=some (⟨.mk c1 c2 c3 c4 c5 c6 c7,nu⟩:Cs).cells:=by rw [hjx,hc];exact qMG hj
   refine VDraw.seq rfl ?_
   refine⟨_,⟨_,hst _,rfl⟩,?_⟩
   refine⟨(cse.toNat:Int),w6z,?_⟩
   refine⟨_,⟨_,hst _,rfl⟩,?_⟩
   refine⟨by show ¬ ((d.cases.length:Nat):Int)=0;omega,?_⟩
   refine⟨by show(0:Int)<=((cse.toNat % d.cases.length:Nat):Int)/\((cse.toNat % d.cases.length:Nat):Int)<((d.cases.length:Nat):Int);omega,?_⟩
   refine qAf qXn (by kernel_rfl) ?_
   refine⟨_,⟨(⟨.mk c1 c2 c3 c4 c5 c6 c7,nu⟩:Cs).cells,ints nu,hget,rfl,rfl⟩,?_⟩
   refine And.intro ?_ ?_
   ·refine⟨⟨sk,⟨_,_,hget,rfl,rfl⟩,trivial⟩,?_⟩
    refine And.intro ?_ ?_
    ·refine⟨by show 0+0<=0;omega,[],rfl,by show(0+(nu.map i64).length) * 8<=140737488355328;rw [List.length_map];omega,nu.map i64,rfl,?_⟩
     refine⟨⟨sk,trivial⟩,?_⟩
     refine⟨⟨⟨_,_,hget,rfl,rfl⟩,trivial⟩,?_⟩
     refine⟨by show 0+1<=1;omega,[i64 n],rfl,?_⟩
     refine⟨by show 0+(0+(nu.map i64).length)<=(nu.map i64).length;omega,nu.map i64,qAD (by omega),by show(0+(nu.map i64).length+1) * 8<=140737488355328;rw [List.length_map];omega,(nu++[n]).map i64,by rw [List.map_append];rfl,?_⟩
     refine⟨(⟨.mk c1 c2 c3 c4 c5 c6 c7,nu⟩:Cs).cells,hget,by show 0+10+1<=11;omega,?_⟩
     refine endN (qCn (ds.set a ⟨d.kind,d.n,d.name,d.plate,d.refs,d.cases.set (cse.toNat % d.cases.length) ⟨.mk c1 c2 c3 c4 c5 c6 c7,nu++[n]⟩⟩)) rfl ⟨_,rfl,_,_,rfl,⟨_,rfl,qCu rfl,qCo rfl ⟨_,_,rfl,rfl,_,_,rfl,rfl,_,_,rfl,rfl,_,_,rfl,rfl,_,_,rfl,hrr rfl,_,_,rfl,(qJ8 (xss:=(d.cases.set (cse.toNat % d.cases.length) ⟨.mk c1 c2 c3 c4 c5 c6 c7,nu++[n]⟩).map Cs.cells) rfl ?_ (by rw [List.length_set,qBY,hkl])),rfl⟩⟩,rfl⟩ (qCx h ?_)
     ·rw [hjx,List.map_set]
      exact qDt (qD9 _ _ _) (qEk (qGk _ _ (Cd.mk c1 c2 c3 c4 c5 c6 c7).cells) ⟨_,_,rfl,⟨_,rfl,by show 0+(0+(nu.map i64).length+1)<=((nu++[n]).map i64).length;simp,qAD (by simp)⟩,rfl⟩)
     refine⟨⟨hB.name,hB.plate,hB.len,hB.refs,qHh (show qC1 (Cd.mk c1 c2 c3 c4 c5 c6 c7) from hB.cases.cond _ hcm) (by show(nu++[n]).length<=_;rw [List.length_append];show nu.length+1<=_;omega) hB.cases⟩,hS'.refs,by show(d.cases.set _ _).length<=_;rw [List.length_set];exact hS'.cases,fun x hx=>?_⟩
     rcases List.mem_or_eq_of_mem_set hx with hx | rfl
     ·exact hS'.nums x hx
     ·show(nu++[n]).length<=_
      rw [List.length_append];show nu.length+1<=_;omega
    ·refine⟨⟨⟨_,_,hget,rfl,rfl⟩,trivial⟩,?_⟩
     refine⟨by show 0+0<=0;omega,[],rfl,by show(0+(nu.map i64).length) * 8<=140737488355328;rw [List.length_map];omega,nu.map i64,rfl,?_⟩
     refine⟨⟨sk,trivial⟩,?_⟩
     refine⟨by show 0+1<=1;omega,[i64 n],rfl,?_⟩
     refine⟨by show 0+(0+(nu.map i64).length)<=(nu.map i64).length;omega,nu.map i64,qAD (by omega),by show(0+(nu.map i64).length+1) * 8<=140737488355328;rw [List.length_map];omega,(nu++[n]).map i64,by rw [List.map_append];rfl,?_⟩
     refine⟨(⟨.mk c1 c2 c3 c4 c5 c6 c7,nu⟩:Cs).cells,hget,by show 0+10+1<=11;omega,?_⟩
     refine endN (qCn (ds.set a ⟨d.kind,d.n,d.name,d.plate,d.refs,d.cases.set (cse.toNat % d.cases.length) ⟨.mk c1 c2 c3 c4 c5 c6 c7,nu++[n]⟩⟩)) rfl ⟨_,rfl,_,_,rfl,⟨_,rfl,qCu rfl,qCo rfl ⟨_,_,rfl,rfl,_,_,rfl,rfl,_,_,rfl,rfl,_,_,rfl,rfl,_,_,rfl,hrr rfl,_,_,rfl,(qJ8 (xss:=(d.cases.set (cse.toNat % d.cases.length) ⟨.mk c1 c2 c3 c4 c5 c6 c7,nu++[n]⟩).map Cs.cells) rfl ?_ (by rw [List.length_set,qBY,hkl])),rfl⟩⟩,rfl⟩ (qCx h ?_)
     ·rw [hjx,List.map_set]
      exact qDt (qD9 _ _ _) (qEk (qGk _ _ (Cd.mk c1 c2 c3 c4 c5 c6 c7).cells) ⟨_,_,rfl,⟨_,rfl,by show 0+(0+(nu.map i64).length+1)<=((nu++[n]).map i64).length;simp,qAD (by simp)⟩,rfl⟩)
     refine⟨⟨hB.name,hB.plate,hB.len,hB.refs,qHh (show qC1 (Cd.mk c1 c2 c3 c4 c5 c6 c7) from hB.cases.cond _ hcm) (by show(nu++[n]).length<=_;rw [List.length_append];show nu.length+1<=_;omega) hB.cases⟩,hS'.refs,by show(d.cases.set _ _).length<=_;rw [List.length_set];exact hS'.cases,fun x hx=>?_⟩
     rcases List.mem_or_eq_of_mem_set hx with hx | rfl
     ·exact hS'.nums x hx
     ·show(nu++[n]).length<=_
      rw [List.length_append];show nu.length+1<=_;omega
   ·refine⟨⟨⟨_,_,hget,rfl,rfl⟩,trivial⟩,?_⟩
    refine⟨⟨sk,⟨_,_,hget,rfl,rfl⟩,trivial⟩,?_⟩
    refine⟨by show 0+0<=0;omega,[],rfl,by show(0+(nu.map i64).length) * 8<=140737488355328;rw [List.length_map];omega,nu.map i64,rfl,?_⟩
    refine⟨⟨sk,trivial⟩,?_⟩
    refine⟨by show 0+1<=1;omega,[i64 n],rfl,?_⟩
    refine⟨by show 0+(0+(nu.map i64).length)<=(nu.map i64).length;omega,nu.map i64,qAD (by omega),by show(0+(nu.map i64).length+1) * 8<=140737488355328;rw [List.length_map];omega,(nu++[n]).map i64,by rw [List.map_append];rfl,?_⟩
    refine⟨(⟨.mk c1 c2 c3 c4 c5 c6 c7,nu⟩:Cs).cells,hget,by show 0+10+1<=11;omega,?_⟩
    refine endN (qCn (ds.set a ⟨d.kind,d.n,d.name,d.plate,d.refs,d.cases.set (cse.toNat % d.cases.length) ⟨.mk c1 c2 c3 c4 c5 c6 c7,nu++[n]⟩⟩)) rfl ⟨_,rfl,_,_,rfl,⟨_,rfl,qCu rfl,qCo rfl ⟨_,_,rfl,rfl,_,_,rfl,rfl,_,_,rfl,rfl,_,_,rfl,rfl,_,_,rfl,hrr rfl,_,_,rfl,(qJ8 (xss:=(d.cases.set (cse.toNat % d.cases.length) ⟨.mk c1 c2 c3 c4 c5 c6 c7,nu++[n]⟩).map Cs.cells) rfl ?_ (by rw [List.length_set,qBY,hkl])),rfl⟩⟩,rfl⟩ (qCx h ?_)
    ·rw [hjx,List.map_set]
     exact qDt (qD9 _ _ _) (qEk (qGk _ _ (Cd.mk c1 c2 c3 c4 c5 c6 c7).cells) ⟨_,_,rfl,⟨_,rfl,by show 0+(0+(nu.map i64).length+1)<=((nu++[n]).map i64).length;simp,qAD (by simp)⟩,rfl⟩)
    refine⟨⟨hB.name,hB.plate,hB.len,hB.refs,qHh (show qC1 (Cd.mk c1 c2 c3 c4 c5 c6 c7) from hB.cases.cond _ hcm) (by show(nu++[n]).length<=_;rw [List.length_append];show nu.length+1<=_;omega) hB.cases⟩,hS'.refs,by show(d.cases.set _ _).length<=_;rw [List.length_set];exact hS'.cases,fun x hx=>?_⟩
    rcases List.mem_or_eq_of_mem_set hx with hx | rfl
    ·exact hS'.nums x hx
    ·show(nu++[n]).length<=_
     rw [List.length_append];show nu.length+1<=_;omega
  refine endN (qCn (ds.set a d)) rfl ⟨_,rfl,_,_,rfl,⟨_,rfl,qCu rfl,qCo rfl ⟨_,_,rfl,rfl,_,_,rfl,rfl,_,_,rfl,rfl,_,_,rfl,rfl,_,_,rfl,hrr rfl,_,_,rfl,hkk rfl,rfl⟩⟩,rfl⟩ (qCx h hS')
 refine And.intro (fun _=>?_) (fun _=>?_)
 ·refine VDraw.seq rfl ?_
  refine⟨_,⟨_,hst _,rfl⟩,?_⟩
  refine⟨_,⟨_,hst _,rfl⟩,?_⟩
  obtain⟨m,hm⟩:∃ m:Nat,(if (1:Int)<((d.cases.length:Nat):Int) then(1:Int) else((d.cases.length:Nat):Int))=(m:Int)/\m<=d.cases.length:=by
   split
   ·exact⟨1,rfl,by omega⟩
   ·exact⟨_,rfl,Nat.le_refl _⟩
  refine⟨by show(0:Int)<=(if (1:Int)<((d.cases.length:Nat):Int) then(1:Int) else((d.cases.length:Nat):Int))/\(if (1:Int)<((d.cases.length:Nat):Int) then(1:Int) else((d.cases.length:Nat):Int))<=((d.cases.length:Nat):Int);rw [hm.1];omega,?_⟩
  refine⟨_,hst _,by show 0+5+1<=6;omega,?_⟩
  refine endN (qCn (ds.set a ⟨d.kind,d.n,d.name,d.plate,d.refs,d.cases.drop m⟩)) rfl ⟨_,rfl,_,_,rfl,⟨_,rfl,qCu (List.set_set ..),qCo (List.set_set ..) ⟨_,_,rfl,rfl,_,_,rfl,rfl,_,_,rfl,rfl,_,_,rfl,rfl,_,_,rfl,hrr rfl,_,_,rfl,(qSf rfl ?_ ?_),rfl⟩⟩,rfl⟩ (qCx h ?_)
  ·show 0+(if (1:Int)<((d.cases.length:Nat):Int) then(1:Int) else((d.cases.length:Nat):Int)).toNat+(d.cases.length - (if (1:Int)<((d.cases.length:Nat):Int) then(1:Int) else((d.cases.length:Nat):Int)).toNat)<=(d.cases.map Cs.cells).length
   rw [hm.1,hkl,Int.toNat_natCast];have:=hm.2;omega
  ·show(d.cases.drop m).map Cs.cells=List.take (d.cases.length - (if (1:Int)<((d.cases.length:Nat):Int) then(1:Int) else((d.cases.length:Nat):Int)).toNat) (List.drop (0+(if (1:Int)<((d.cases.length:Nat):Int) then(1:Int) else((d.cases.length:Nat):Int)).toNat) (d.cases.map Cs.cells))
   rw [hm.1,Int.toNat_natCast,Nat.zero_add,List.map_drop,List.take_of_length_le (by rw [List.length_drop,hkl];exact Nat.le_refl _)]
  ·refine⟨⟨hB.name,hB.plate,hB.len,hB.refs,⟨by rw [List.length_drop];have:=hB.cases.len;omega,fun x hx=>hB.cases.cond x (List.mem_of_mem_drop hx),fun x hx=>hB.cases.nums x (List.mem_of_mem_drop hx)⟩⟩,hS'.refs,by show(d.cases.drop m).length<=_;rw [List.length_drop];omega,fun x hx=>hS'.nums x (List.mem_of_mem_drop hx)⟩
 have hself:ds.set a d=ds:=by rw [hd];exact set_self de0 ds a
 refine And.intro (fun _=>?_) (fun _=>?_)
 ·refine⟨Nat,fun i=>[(2, .ptr 0 0 0),(3, .ptr 1 0 0),(4, .ptr 2 0 0),(8, .p (i64 i))],fun i=>⟨4,[(3,dsO (ds++List.replicate i (ds.getD 0 de0))),(2,s1O (.p .nils)),(1,s1O (.sl 3 6 0 (ds.length+i))),(0,beO ⟨what,place,cse,n,nm,rf, .mk ao an ar av af as' aa⟩)]⟩,fun i=>i<=32,fun i=>32 - i,?_,?_⟩
  ·refine⟨0,by omega,qAB [4,5] [] [] rfl (sk) ⟨⟨_,rfl,rfl,rfl,?_⟩,sk⟩ rfl⟩
   show qCz _ ((qCY (ds.map De.cells)).set a (qXR d)) ((ds++[]).map De.cells)
   rw [List.append_nil]
   conv=>arg 3;rw [<- hself]
   exact qUg ⟨_,_,rfl,rfl,_,_,rfl,rfl,_,_,rfl,rfl,_,_,rfl,rfl,_,_,rfl,hrr rfl,_,_,rfl,hkk rfl,rfl⟩
  intro i hi
  have hil:(ds++List.replicate i (ds.getD 0 de0)).length=ds.length+i:=by rw [List.length_append,List.length_replicate]
  have him:((ds++List.replicate i (ds.getD 0 de0)).map De.cells).length=ds.length+i:=by rw [List.length_map,hil]
  refine⟨by decide,?_⟩
  refine And.intro (fun h1=>?_) (fun h1=>?_)
  ·have h1:((i:Nat):Int)<n.tmod 32:=h1
   have h2:n.tmod 32<32:=Int.tmod_lt_of_pos n (by decide)
   refine VDraw.seq rfl ?_
   refine⟨by show(0:Int)<=0/\(0:Int)<((ds.length+i:Nat):Int);omega,?_⟩
   have hg0:((ds++List.replicate i (ds.getD 0 de0)).map De.cells)[0+Int.toNat 0]?=some (ds.getD 0 de0).cells:=by
    cases ds with
    | nil=>exact absurd rfl h0
    | cons x r=>rfl
   refine⟨_,⟨(ds.getD 0 de0).cells,(ds.getD 0 de0).pv,hg0,rfl,rfl⟩,?_⟩
   refine⟨sk,?_⟩
   refine⟨by show 0+1<=1;omega,[(ds.getD 0 de0).cells],rfl,?_⟩
   refine⟨by show 0+(ds.length+i)<=((ds++List.replicate i (ds.getD 0 de0)).map De.cells).length;omega,(ds++List.replicate i (ds.getD 0 de0)).map De.cells,qAD him,by show(ds.length+i+1) * 96<=140737488355328;omega,(ds++List.replicate (i+1) (ds.getD 0 de0)).map De.cells,by rw [List.replicate_succ',<- List.append_assoc,List.map_append (l₁:=ds++List.replicate i (ds.getD 0 de0))];rfl,?_⟩
   refine⟨_,w6z,?_⟩
   exact⟨i+1,by omega,qAB [] [(3,5)] [] rfl (sk) (sk) rfl,by show 32 - (i+1)<32 - i;omega⟩
  ·refine endN (qCn (ds++List.replicate i (ds.getD 0 de0))) rfl ⟨_,rfl,_,_,rfl,qFe rfl him.symm,rfl⟩ ⟨_,rfl,by rw [hil];omega,fun x hx=>?_⟩
   rcases List.mem_append.1 hx with hx | hx
   ·exact(h.decl x hx).mono (by omega)
   ·rw [(List.mem_replicate.1 hx).2];exact(h.decl _ (qAL de0 hpos)).mono (by omega)
 have hst2:∀ x y:List AV,(((qCY (ds.map De.cells)).set a y).set a x)[a]?=some x:=fun x y=>by rw [List.set_set];exact hst x
 refine⟨Nat × List Cs,fun x=>[(2, .ptr 0 0 0),(3, .ptr 1 0 0),(4, .ptr 2 0 0),(5, .ptr 3 a 0),(9, .p (i64 (x.1:Nat)))],fun x=>bdH ⟨what,place,cse,n,nm,rf, .mk ao an ar av af as' aa⟩ ds a ⟨d.kind,d.n,d.name,d.plate,d.refs,x.2⟩,fun x=>x.1<=13/\SdP ⟨d.kind,d.n,d.name,d.plate,d.refs,x.2⟩ (k+x.1),fun x=>13 - x.1,?_,?_⟩
 ·exact⟨(0,d.cases),⟨by show 0<=13;omega,hS⟩,qAB [] [] [] rfl (sk) ⟨⟨_,rfl,rfl,rfl,rfl⟩,⟨_,rfl,rfl,rfl,rfl⟩,⟨_,rfl,rfl,rfl,_,rfl,qXi (R:=ds.map De.cells) (d:=d) (m1:=d.refs.length) (m2:=d.cases.length) rfl rfl rfl rfl rfl⟩,sk⟩ rfl⟩
 rintro⟨i,ks⟩ ⟨hi,hD⟩
 have hi:i<=13:=hi
 have hDc:ks.length<=k+i:=hD.cases
 refine⟨by decide,?_⟩
 refine And.intro (fun h1=>?_) (fun h1=>?_)
 ·have h1:((i:Nat):Int)<n.tmod 13:=h1
  have h2:n.tmod 13<13:=Int.tmod_lt_of_pos n (by decide)
  refine⟨_,⟨_,hst _,rfl⟩,?_⟩
  refine And.intro (fun h3=>?_) (fun h3=>?_)
  ·have h3:(0:Int)<((ks.length:Nat):Int):=h3
   obtain⟨c0,kr,rfl⟩:∃ c0 kr,ks=c0::kr:=by
    cases ks with
    | nil=>exact absurd h3 (by decide)
    | cons c r=>exact⟨c,r,rfl⟩
   obtain⟨⟨c1,c2,c3,c4,c5,c6,c7⟩,nu⟩:=c0
   have hcl:kr.length+1<=k+i:=hDc
   have hkm:(((⟨.mk c1 c2 c3 c4 c5 c6 c7,nu⟩:Cs)::kr).map Cs.cells).length=kr.length+1:=List.length_map ..
   refine VDraw.seq rfl ?_
   refine⟨_,⟨_,hst _,rfl⟩,?_⟩
   refine⟨by show(0:Int)<=0/\(0:Int)<((kr.length+1:Nat):Int);omega,?_⟩
   refine⟨_,⟨(⟨.mk c1 c2 c3 c4 c5 c6 c7,nu⟩:Cs).cells,(⟨.mk c1 c2 c3 c4 c5 c6 c7,nu⟩:Cs).pv,rfl,rfl,rfl⟩,?_⟩
   refine⟨_,⟨_,hst _,rfl⟩,?_⟩
   refine⟨⟨⟨_,hst _,rfl⟩,trivial⟩,?_⟩
   refine⟨by show 0+(kr.length+1)<=(((⟨.mk c1 c2 c3 c4 c5 c6 c7,nu⟩:Cs)::kr).map Cs.cells).length;omega,((⟨.mk c1 c2 c3 c4 c5 c6 c7,nu⟩:Cs)::kr).map Cs.cells,qAD hkm,?_⟩
   refine⟨by show 0+1<=1;omega,[(⟨.mk c1 c2 c3 c4 c5 c6 c7,nu⟩:Cs).cells],rfl,by show(1+(kr.length+1)) * 152<=140737488355328;omega,((⟨.mk c1 c2 c3 c4 c5 c6 c7,nu⟩:Cs)::⟨.mk c1 c2 c3 c4 c5 c6 c7,nu⟩::kr).map Cs.cells,rfl,?_⟩
   refine⟨_,hst _,by show 0+5+1<=6;omega,?_⟩
   refine VDraw.seq rfl ?_
   refine⟨_,⟨_,hst2 _ _,rfl⟩,?_⟩
   refine⟨⟨⟨_,hst2 _ _,rfl⟩,trivial⟩,?_⟩
   refine(qTd [cse] (by show 1<=9223372036854775807;omega)).use [8] rfl ⟨_,_,rfl,⟨_,rfl,Nat.le_refl _,rfl⟩,rfl⟩ fun r hr=>?_
   obtain⟨⟨e1,e2,e3,e4,e5,e6,e7⟩,m,rfl,hsm,_⟩:=hr
   refine⟨⟨⟨_,hst2 _ _,rfl⟩,trivial⟩,?_⟩
   refine⟨by show(0:Int)<=0/\(0:Int)<((1+(kr.length+1):Nat):Int);omega,?_⟩
   refine⟨(⟨.mk c1 c2 c3 c4 c5 c6 c7,nu⟩:Cs).cells,rfl,by show 0+0+10<=11;omega,?_⟩
   refine⟨_,w6z,?_⟩
   refine⟨(i+1,⟨.mk e1 e2 e3 e4 e5 e6 e7,nu⟩::⟨.mk c1 c2 c3 c4 c5 c6 c7,nu⟩::kr),⟨by show i+1<=13;omega,?_⟩,qAB [] [(5,7)] [] rfl (sk) ⟨⟨_,rfl,rfl,rfl,rfl⟩,⟨_,rfl,rfl,rfl,rfl⟩,⟨_,rfl,rfl,rfl,_,rfl,qXQ (R:=ds.map De.cells) (d:=⟨d.kind,d.n,d.name,d.plate,d.refs,⟨.mk e1 e2 e3 e4 e5 e6 e7,nu⟩::⟨.mk c1 c2 c3 c4 c5 c6 c7,nu⟩::kr⟩) (s:=4) (t:=7) (m1:=d.refs.length) (m2:=1+(kr.length+1)) rfl rfl (by show 1+(kr.length+1)=kr.length+1+1;omega) rfl rfl⟩,sk⟩ rfl,by show 13 - (i+1)<13 - i;omega⟩
   have hn0:nu.length<=k+i:=hD.nums _ (List.mem_cons_self ..)
   refine⟨⟨hB.name,hB.plate,hB.len,hB.refs,qLm hsm.big (by show nu.length<=5000;omega) hD.big.cases (by show kr.length+1<=5000;omega)⟩,by show d.refs.length<=_;omega,by show kr.length+1+1<=k+(i+1);omega,fun x hx=>?_⟩
   rcases List.mem_cons.1 hx with rfl | hx
   ·show nu.length<=k+(i+1);omega
   ·exact Nat.le_trans (hD.nums x hx) (by show k+i<=k+(i+1);omega)
  ·refine endN (qCn (ds.set a ⟨d.kind,d.n,d.name,d.plate,d.refs,ks⟩)) rfl ⟨_,rfl,_,_,rfl,⟨_,rfl,qCu rfl,qCo rfl ⟨_,_,rfl,rfl,_,_,rfl,rfl,_,_,rfl,rfl,_,_,rfl,rfl,_,_,rfl,hrr rfl,_,_,rfl,qFe rfl (by rw [List.length_map]),rfl⟩⟩,rfl⟩ (qCx h (hD.mono (by omega)))
 ·refine endN (qCn (ds.set a ⟨d.kind,d.n,d.name,d.plate,d.refs,ks⟩)) rfl ⟨_,rfl,_,_,rfl,⟨_,rfl,qCu rfl,qCo rfl ⟨_,_,rfl,rfl,_,_,rfl,rfl,_,_,rfl,rfl,_,_,rfl,rfl,_,_,rfl,hrr rfl,_,_,rfl,qFe rfl (by rw [List.length_map]),rfl⟩⟩,rfl⟩ (qCx h (hD.mono (by omega)))
theorem qMm {d:De} (h:qAt d=true):d.cases.length<=12:=by
 have hc:∀ l:List Cs,qBM l=true->l.length<=12:=fun l h=>by
  simp only [qBM,Bool.and_eq_true,decide_eq_true_eq] at h
  exact h.1.2
 unfold qAt at h
 split at h
 ·simp only [Bool.and_eq_true,decide_eq_true_eq] at h;omega
 ·split at h
  ·simp only [Bool.and_eq_true,decide_eq_true_eq] at h;omega
  ·split at h
   ·simp only [Bool.and_eq_true] at h;exact hc _ h.2
   ·split at h
    ·simp only [Bool.and_eq_true,decide_eq_true_eq] at h;omega
    ·split at h
     ·simp only [Bool.and_eq_true] at h;exact hc _ h.2
     ·cases h
theorem qIY:∀ {l:List Cs},qBj l=true->∀ c∈l,c.nums.length<=8
 | [],_,c,hc=>by cases hc
 | [x],h,c,hc=>by
  simp only [qBj,Bool.and_eq_true] at h
  have h:=h.1
  simp only [qCX,Bool.and_eq_true,decide_eq_true_eq] at h
  rw [List.mem_singleton.1 hc];exact h.1.2
 | x::y::r,h,c,hc=>by
  simp only [qBj,Bool.and_eq_true] at h
  obtain⟨⟨h1,_⟩,h2⟩:=h
  rcases List.mem_cons.1 hc with rfl | hc
  ·simp only [qCX,Bool.and_eq_true,decide_eq_true_eq] at h1
   exact h1.1.2
  ·exact qIY (l:=y::r) h2 c hc
theorem qPM {d:De} (h:qAt d=true):∀ c∈d.cases,c.nums.length<=8:=by
 have hc:qBM d.cases=true->∀ c∈d.cases,c.nums.length<=8:=fun h=>by
  simp only [qBM,Bool.and_eq_true] at h
  exact qIY h.2
 have h0:d.cases.length=0->∀ c∈d.cases,c.nums.length<=8:=fun h c hc=>by
  rw [List.eq_nil_of_length_eq_zero h] at hc;cases hc
 unfold qAt at h
 split at h
 ·simp only [Bool.and_eq_true,decide_eq_true_eq] at h;exact h0 h.2
 ·split at h
  ·simp only [Bool.and_eq_true,decide_eq_true_eq] at h;exact h0 h.2
  ·split at h
   ·simp only [Bool.and_eq_true] at h;exact hc h.2
   ·split at h
    ·simp only [Bool.and_eq_true,decide_eq_true_eq] at h;exact h0 h.2
    ·split at h
     ·simp only [Bool.and_eq_true] at h;exact hc h.2
     ·cases h
theorem qSQ {ds:List De} (hb:BigP ds) (hv:qBH ds=true):SzP ds 40:=by
 simp only [qBH,Bool.and_eq_true,decide_eq_true_eq] at hv
 refine⟨by have:=hv.1;omega,fun d hd=>?_⟩
 have h:=List.all_eq_true.1 hv.2 d hd
 simp only [qBa,Bool.and_eq_true,decide_eq_true_eq] at h
 exact⟨hb.decl d hd,by have:=h.1.1.2;omega,by have:=qMm h.2;omega,fun c hc=>by have:=qPM h.2 c hc;omega⟩
theorem SzP.bigP {ds:List De} {k:Nat} (h:SzP ds k) (hk:k<=1000):BigP ds:=⟨by have:=h.len;omega,fun d hd=>(h.decl d hd).big⟩
theorem qT7 {P:Program} {t:TypeId} {cs:List PV} {f:Nat} {v:PV} (h:qKl P t=some (some 1)) (hv:cs[f]?=some v):qIo P t cs f=some (.agg [v]):=by
 unfold qIo
 rw [h]
 have:qKT cs f 1=some [v]:=by
  induction cs generalizing f with
  | nil=>simp at hv
  | cons x r ih=>
   cases f with
   | zero=>simp at hv;subst hv;cases r <;> rfl
   | succ f=>exact ih (by simpa using hv)
 simp only [this]
set_option maxHeartbeats 4000000
def bcO (acc:List UInt8):AObj:=⟨5,false, .pu (acc.map ub)⟩
def bcB (n:Nat) (acc:List UInt8):AObj:=⟨TB,false, .bx [.ptr 0 0 0, .sl n 1 0 acc.length]⟩
theorem qQP (s:List UInt8) (c:UInt8) (new:List UInt8) (hs:s.length<=8000) (hn:new.length<=100) (hne:new ≠ [c]) (h2:1<=new.length) :
  Pure cx 65 [.str s, .str [c], .str new,i64 (-1)] (·=.ret [.str (qDu c new s)]):=by
 refine qAC Tryz.func65 rfl rfl rfl ?_
 refine And.intro (fun h=>absurd (show [c]=new from h).symm hne) (fun _=>?_)
 refine And.intro (fun h=>absurd (show(-1:Int)=0 from h) (by decide)) (fun _=>?_)
 have hcl:s.count c<=s.length:=List.count_le_length
 refine(qL9 s c).eq rfl ?_
 refine And.intro (fun h=>?_) (fun h=>?_)
 ·have h:((s.count c:Nat):Int)=0:=h
  refine qAG _ rfl rfl ?_
  rw [qHW (fun hm=>by have:=List.count_pos_iff.2 hm;omega)]
 ·have h:¬ ((s.count c:Nat):Int)=0:=h
  refine And.intro (fun _=>?_) (fun h=>absurd (show(-1:Int)<0 by decide) h)
  have hmul:s.count c * (new.length - 1)<=8000 * 100:=Nat.mul_le_mul (by omega) (by omega)
  refine⟨(new.length:Int) - 1,w6z,?_⟩
  have em:((s.count c:Nat):Int) * ((new.length:Int) - 1)=((s.count c * (new.length - 1):Nat):Int):=by
   rw [Int.natCast_mul,Int.natCast_sub (by omega)]
   rfl
  refine⟨((s.count c * (new.length - 1):Nat):Int),by rw [<- em];exact wrap_i64 (by rw [em];omega) (by rw [em];omega),?_⟩
  refine⟨((s.length+s.count c * (new.length - 1):Nat):Int),by rw [Int.natCast_add];exact w6z,?_⟩
  obtain⟨N,hN⟩:∃ N,N=s.count c:=⟨_,rfl⟩
  rw [<- hN] at hcl h hmul em ⊢
  refine(qVI false (s.length+N * (new.length - 1)) (by omega) (by omega)).useE [] [] rfl ⟨⟨_,rfl,rfl,rfl,_,rfl,_,_,rfl,rfl,_,_,rfl,(.inl rfl),rfl⟩,trivial⟩ ⟨_,_,rfl,⟨rfl,rfl⟩,_,_,rfl,rfl,rfl⟩ ?_
  refine And.intro (fun _=>?_) (fun h=>absurd (show(0:Int)<1 by decide) h)
  refine⟨Nat × Nat × List UInt8,fun x=>[(0,vS s),(1,vS [c]),(2,vS new),(10, .ptr 0 0 0),(11, .p (i64 x.2.1)),(52, .p (i64 N)),(53, .p (i64 x.1))],fun x=>⟨2,[(1,bcO x.2.2),(0,bcB 1 x.2.2)]⟩,
   fun x=>x.1<=N/\x.2.1<=s.length/\(s.drop x.2.1).count c=N - x.1/\x.2.2=qDu c new (s.take x.2.1),fun x=>N - x.1,?_,?_⟩
  ·exact⟨(0,0,[]),⟨by simp,by simp,by simp [hN],by simp [qDu]⟩,qAB [] [] [] rfl (sk) (sk) rfl⟩
  ·rintro⟨k,j,acc⟩ ⟨g1,g2,g3,g4⟩
   simp only [] at g1 g2 g3 g4
   have hal:acc.length<=8000 * 101:=by
    rw [g4]
    refine Nat.le_trans (qSh _ _ _) (Nat.mul_le_mul ?_ (by omega))
    rw [List.length_take];omega
   refine And.intro (fun h1=>?_) (fun h1=>?_)
   ·have h1:(k:Int)<(N:Int):=h1
    have hm:c∈s.drop j:=List.count_pos_iff.1 (by omega)
    obtain⟨e1,e2,e3⟩:=qNG hm
    rw [List.length_drop] at e3
    refine⟨by show(0:Int)<=j/\(j:Int)<=(s.length:Nat);omega,?_⟩
    have hI:=qL8 (s.drop j) c
    rw [qMr.1 hm] at hI
    refine hI.eq rfl ?_
    refine⟨((j+ahead c (s.drop j):Nat):Int),by rw [Int.natCast_add];exact w6z,?_⟩
    refine⟨by show(0:Int)<=j/\(j:Int)<=((j+ahead c (s.drop j):Nat):Int)/\((j+ahead c (s.drop j):Nat):Int)<=(s.length:Nat);omega,?_⟩
    obtain⟨p,hp⟩:∃ p,p=ahead c (s.drop j):=⟨_,rfl⟩
    rw [<- hp] at e1 e2 e3 ⊢
    have esub:sub s (some ((j:Nat):Int)) (some ((j+p:Nat):Int))=(s.drop j).take p:=by
     show(s.drop ((j:Int)).toNat).take (((j+p:Nat):Int).toNat - ((j:Int)).toNat)=_
     rw [show((j+p:Nat):Int).toNat - ((j:Int)).toNat=p by omega]
     rfl
    have hW:=qD7 true acc (sub s (some ((j:Nat):Int)) (some ((j+p:Nat):Int))) (by omega) (by rw [esub,List.length_take,List.length_drop];omega)
    refine hW.useE [] [] rfl ⟨⟨_,rfl,rfl,rfl,rfl⟩,⟨_,rfl,rfl,rfl,_,rfl,_,_,rfl,⟨rfl,rfl⟩,_,_,rfl,rfl,rfl⟩,trivial⟩ ⟨_,_,rfl,⟨rfl,rfl⟩,_,_,rfl,rfl,rfl⟩ ?_
    refine(qD7 true (acc++sub s (some ((j:Nat):Int)) (some ((j+p:Nat):Int))) new (by rw [esub];simp;omega) (by omega)).useE [] [(1,2)] rfl ⟨⟨_,rfl,rfl,rfl,rfl⟩,⟨_,rfl,rfl,rfl,_,rfl,_,_,rfl,⟨rfl,rfl⟩,_,_,rfl,rfl,rfl⟩,trivial⟩ ⟨_,_,rfl,⟨rfl,rfl⟩,_,_,rfl,rfl,rfl⟩ ?_
    refine⟨((j+p:Nat):Int)+1,w6z,?_⟩
    refine⟨(k:Int)+1,w6z,?_⟩
    refine⟨(k+1,j+p+1,acc++sub s (some ((j:Nat):Int)) (some ((j+p:Nat):Int))++new),⟨by simp only [];omega,by simp only [];omega,?_,?_⟩,qAB [] [(1,3)] [] rfl (sk) (sk) rfl,by simp only [];omega⟩
    ·simp only []
     have e4:(s.drop j).count c=1+(s.drop (j+p+1)).count c:=by
      rw [e1,List.count_append,List.count_eq_zero.2 e2,List.count_cons_self,List.drop_drop]
      rw [show j+(p+1)=j+p+1 by omega]
      omega
     omega
    ·simp only []
     rw [esub,g4]
     have e5:s.take (j+p+1)=s.take j++((s.drop j).take p++[c]):=by
      rw [show j+p+1=j+(p+1) by omega,List.take_add]
      congr 1
      conv=>lhs;rw [e1]
      have hpl:((s.drop j).take p).length=p:=by rw [List.length_take,List.length_drop];omega
      rw [List.take_append,hpl,List.take_of_length_le (by omega),show p+1 - p=1 by omega]
      rfl
     rw [e5,qDI,qDI,qHW e2]
     simp [qDu]
   ·have h1:¬ (k:Int)<(N:Int):=h1
    refine⟨by show(0:Int)<=j/\(j:Int)<=(s.length:Nat);omega,?_⟩
    have hz:c ∉ s.drop j:=fun hm=>by have:=List.count_pos_iff.2 hm;omega
    refine(qD7 true acc (s.drop j) (by omega) (by rw [List.length_drop];omega)).useE [] [] rfl ⟨⟨_,rfl,rfl,rfl,rfl⟩,⟨_,rfl,rfl,rfl,_,rfl,_,_,rfl,⟨rfl,rfl⟩,_,_,rfl,rfl,rfl⟩,trivial⟩ ⟨_,_,rfl,⟨rfl,rfl⟩,_,_,rfl,rfl,rfl⟩ ?_
    have er:acc++s.drop j=qDu c new s:=by
     conv=>rhs;rw [<- List.take_append_drop j s,qDI,qHW hz]
     rw [g4]
    refine(qSU true (acc++s.drop j) ?_ ?_).useE [] [(1,2)] rfl ⟨⟨_,rfl,rfl,rfl,rfl⟩,⟨_,rfl,rfl,rfl,_,rfl,_,_,rfl,⟨rfl,rfl⟩,_,_,rfl,rfl,rfl⟩,trivial⟩ ⟨_,_,rfl,⟨rfl,rfl⟩,rfl⟩ ?_
    ·rw [er]
     exact qUh (by intro e;rw [e] at hcl;simp at hcl;omega) (by intro e;rw [e] at h2;simp at h2)
    ·rw [List.length_append,List.length_drop];omega
    ·refine qAG _ rfl rfl ?_
     rw [er]
theorem qDY (s:List UInt8) (c:UInt8) (new:List UInt8) (hs:s.length<=8000) (hn:new.length<=100) (hne:new ≠ [c]) (h2:1<=new.length) :
  Pure cx 38 [.str s, .str [c], .str new] (·=.ret [.str (qDu c new s)]):=by
 refine qAC Tryz.func38 rfl rfl rfl ?_
 refine(qQP s c new hs hn hne h2).eq rfl ?_
 exact qAG _ rfl rfl rfl
set_option maxHeartbeats 40000000
structure Ed where
 place:UInt16
 cut:UInt16
 kind:UInt8
abbrev Ed.cells (E:Ed):List PV:=[.int .u16 (E.place.toNat:Nat), .int .u16 (E.cut.toNat:Nat),u8 E.kind]
abbrev Ed.pv (E:Ed):PV:=.agg E.cells
theorem qL5 {C : Cx} {rd : Bool} {n0 N : Nat} {all : List Oper} {σ : Sg} {ds : List AD} {H : Hp} {K : Sg -> List AD -> Hp -> Prop} {X : List AP -> Sg -> List AD -> Hp -> Prop} {α : Type} (sl : α -> List (Nat × AV)) (hp : α -> Hp) (pr : α -> Prop)
    (h : (C.P.follows .mixedOrders && qB9 N all (masks all []) && qGZ all (masks all []) (qPZ C.P (masks all []) all all.length [] []) [] [] []) = true)
    (hv : vD C rd all σ (fun σ' ds' H' => ∃ x, pr x /\ Ent C n0 N σ' ds' H' (sets (fun _ => .junk) (sl x)) ds (hp x)) X (qPZ C.P (masks all []) all all.length [] []) [] ds H) (hk : ∀ x, pr x -> K (sets (fun _ => .junk) (sl x)) ds (hp x)) :
    ∃ ot, (C.P.follows .mixedOrders && qB9 N all (masks all []) && qGZ all (masks all []) ot [] [] []) = true /\
    ((vD C rd all σ K X ot [] ds H) ∨
     ∃ (α : Type) (sl : α -> List (Nat × AV)) (hp : α -> Hp) (pr : α -> Prop),
      vD C rd all σ (fun σ' ds' H' => ∃ x, pr x /\ Ent C n0 N σ' ds' H' (sets (fun _ => .junk) (sl x)) ds (hp x)) X ot [] ds H /\
      ∀ x, pr x -> K (sets (fun _ => .junk) (sl x)) ds (hp x)) := ⟨_, h, .inr ⟨α, sl, hp, pr, hv, hk⟩⟩
inductive TxS (ds:List De):Prop
 | no (s:List UInt8) (h:txtV ds=[.str s,i64 3]):TxS ds
 | yes (h:txtV ds=[.str (qBF ds),i64 0]) (hl:(qBF ds).length<=8000) (hc:qGa ds<=1500):TxS ds
theorem txS {ds:List De} (hv:qBH ds=true):TxS ds:=by
 by_cases h:(qBF ds).length<=8000/\qGa ds<=1500
 ·exact .yes (by rw [txtV,if_pos hv,if_pos h]) h.1 h.2
 ·exact .no [] (by rw [txtV,if_pos hv,if_neg h])
abbrev qYO:OT:=(.pure 0 (.pure 1 (.pure 2 (.pure 5 (.eff 3 [1,0] (.pure 4 .fin) .nil)))))
def bkH (P Q:List De):Hp:=⟨2,[(1,s1O (.p (des Q))),(0,s1O (.p (des P)))]⟩
theorem qMV (d c:Dp) (b:Be) (l:List UInt8) (hd:d.ok) (hc:c.ok) (hb:b.ok) (hl:l.length<=9223372036854775807):Pure cx 9 [.agg d.cells, .agg c.cells, .agg b.cells, .lst (l.map u8)] (·=.ret [.bool true]):=by
 refine qAC Tryz.func9 rfl rfl rfl ?_
 obtain⟨bw,bp,bc,bn,bm,bf,⟨ba,bb,bd,be,bg,bh,bi⟩⟩:=b
 refine works_c.eq rfl ?_
 refine qL5 (α:=List De × List De) (fun x=>[(3, .p (.lst (l.map u8))),(6, .ptr 0 0 0),(9, .ptr 1 0 0),(10, .ptr 2 0 0)]) (fun x=>⟨3,[(2,s1O (.p (des x.2))),(1,s1O (.p (des x.1))),(0,beO ⟨bw,bp,bc,bn,bm,bf, .mk ba bb bd be bg bh bi⟩)]⟩) (fun x=>DrP x.1/\DrP x.2) rfl ?_ ?_
 ·repeat' first
   | exact⟨(ps,qs),⟨hps,hqs⟩,qAB [] [(0,2),(1,3),(2,4)] [] rfl ⟨rfl,⟨rfl,rfl⟩,⟨rfl,rfl⟩,⟨rfl,rfl⟩,trivial⟩ (sk) rfl⟩
   | exact⟨(ps,qs),⟨hps,hqs⟩,qAB [] [(0,2),(1,4),(2,3)] [] rfl ⟨rfl,⟨rfl,rfl⟩,⟨rfl,rfl⟩,⟨rfl,rfl⟩,trivial⟩ (sk) rfl⟩
   | refine And.intro ?_ ?_
   | (refine(qLB d hd).at fun r hr=>?_;obtain⟨ps,rfl,hps⟩:=hr)
   | (refine(qLB c hc).at fun r hr=>?_;obtain⟨qs,rfl,hqs⟩:=hr)
  all_goals (exact sk)
 rintro⟨ps,qs⟩ ⟨hps,hqs⟩
 have hps:DrP ps:=hps
 have hqs:DrP qs:=hqs
 have hdz:=qSQ hps.big hps.valid
 refine(qTT ⟨bw,bp,bc,bn,bm,bf, .mk ba bb bd be bg bh bi⟩ hb ps 40 (by omega) hdz).at fun r hr1=>?_
 obtain⟨d1,rfl,z1⟩:=hr1
 have hd1:=z1.bigP (by omega)
 have hC:=qKK d1 hd1
 rw [qTO] at hC
 by_cases hv:qBH d1=true
 ·rw [if_pos hv] at hC
  refine hC.eq rfl ?_
  refine And.intro (fun _=>?_) (fun h=>absurd rfl h)
  refine qAf qYO (by kernel_rfl) ?_
  refine(qTb l hl).at fun r hr=>?_
  obtain⟨cw,nw,rfl,hsw,hnw⟩:=hr
  have hw:=qIx hsw hnw
  refine⟨sk,?_⟩
  have hall:∀ u∈[d1,qs,[qDh cw]],BigP u/\qBH u=true:=fun u hu=>by
   simp only [List.mem_cons,List.not_mem_nil,or_false] at hu
   rcases hu with rfl | rfl | rfl
   ·exact⟨hd1,hv⟩
   ·exact⟨hqs.big,hqs.valid⟩
   ·exact⟨hw.big,hw.valid⟩
  obtain⟨us,hus⟩:∃ us:List (List De),us=[d1,qs,[qDh cw]]:=⟨_,rfl⟩
  have hul:us.length=3:=by rw [hus];rfl
  rw [<- hus] at hall
  refine⟨Nat,fun k=>[(9, .ptr 0 0 0),(10, .ptr 1 0 0),(39, .p (.agg (us.map des))),(40, .p (i64 (k:Nat)))],fun _=>bkH d1 qs,fun k=>k<=3,fun k=>3 - k,?_,?_⟩
  ·refine⟨0,Nat.zero_le _,qAB [] [(0,1),(1,2)] [] rfl ?_ (sk) rfl⟩
   rw [hus]
   exact⟨⟨rfl,rfl⟩,⟨rfl,rfl⟩,rfl,rfl,trivial⟩
  intro k hk
  clear hus
  refine QAD (fun h1=>?_) (fun h1=>?_)
  rotate_left
  ·have hT1:=qFg d1 hd1
   have hT2:=qFg qs hqs.big
   cases txS hv with
   | no s1 e1=>
    rw [e1] at hT1
    cases txS hqs.valid with
    | no s2 e2=>
     rw [e2] at hT2
     refine hT1.eq rfl ?_
     refine hT2.eq rfl ?_
     refine And.intro (fun h=>absurd (show(3:Int)=0 from h) (by decide)) (fun _=>?_)
     exact qAG _ rfl rfl rfl
    | yes e2 l2 c2=>
     rw [e2] at hT2
     refine hT1.eq rfl ?_
     refine hT2.eq rfl ?_
     refine And.intro (fun h=>absurd (show(3:Int)=0 from h) (by decide)) (fun _=>?_)
     exact qAG _ rfl rfl rfl
   | yes e1 l1 c1=>
    rw [e1] at hT1
    cases txS hqs.valid with
    | no s2 e2=>
     rw [e2] at hT2
     refine hT1.eq rfl ?_
     refine hT2.eq rfl ?_
     refine And.intro (fun _=>?_) (fun h=>absurd rfl h)
     refine And.intro (fun h=>absurd (show(3:Int)=0 from h) (by decide)) (fun _=>?_)
     exact qAG _ rfl rfl rfl
    | yes e2 l2 c2=>
     have hS:=qHt d1 qs hd1 hqs.big
     have hin:=qNV hv hqs.valid l1 l2 c1 c2
     rw [e2] at hT2
     refine hT1.eq rfl ?_
     refine hT2.eq rfl ?_
     refine And.intro (fun _=>?_) (fun h=>absurd rfl h)
     refine And.intro (fun _=>?_) (fun h=>absurd rfl h)
     refine And.intro (fun h=>?_) (fun h=>?_)
     ·have h:qBF d1=qBF qs:=h
      rw [qPk (hin.1 h)] at hS
      refine hS.eq rfl ?_
      refine And.intro (fun _=>?_) (fun h=>absurd rfl h)
      exact qAG _ rfl rfl rfl
     ·have h:¬ qBF d1=qBF qs:=h
      rw [qG4 (fun e=>h (hin.2 e))] at hS
      refine hS.eq rfl ?_
      refine And.intro (fun _=>?_) (fun h=>absurd rfl h)
      exact qAG _ rfl rfl rfl
  have h1:(k:Int)<3:=h1
  have hcu:(us.map des)[k]?=some (des (us.getD k [])):=qDz (f:=des) [] (by omega)
  obtain⟨hbu,hvu⟩:=hall _ (qAL [] (show k<us.length by omega))
  generalize us.getD k []=u at hcu hbu hvu
  refine⟨_,⟨⟨by omega,by omega⟩, .agg [des u],qT7 (by kernel_rfl) (by show(us.map des)[((k:Nat):Int).toNat * 1]?=_;rw [Int.toNat_natCast,Nat.mul_one];exact hcu),rfl⟩,?_⟩
  have hT:=qFg u hbu
  cases txS hvu with
  | no s1 e1=>
   rw [e1] at hT
   refine hT.eq rfl ?_
   refine And.intro (fun h=>absurd (show(3:Int)=0 from h) (by decide)) (fun _=>?_)
   refine And.intro (fun _=>?_) (fun h=>absurd rfl h)
   refine⟨((k+1:Nat):Int),by rw [Int.natCast_add];exact w6z,?_⟩
   exact⟨k+1,by omega,qAB [] [] [] rfl ⟨⟨rfl,rfl⟩,⟨rfl,rfl⟩,qEX _ _,rfl,trivial⟩ (sk) rfl,by show 3 - (k+1)<3 - k;omega⟩
  | yes e1 l1 c1=>
   rw [e1] at hT
   refine hT.eq rfl ?_
   refine And.intro (fun _=>?_) (fun h=>absurd rfl h)
   have hR1:=qDY (qBF u) 10 [32] l1 (by decide) (by decide) (by decide)
   have hR2:=qDY (qBF u) 10 qVe l1 (by decide) (by decide) (by decide)
   rw [qK6 _ hvu] at hR1 hR2
   refine hR1.eq rfl ?_
   refine hR2.eq rfl ?_
   have hin:∀ v∈[qBF u,qD8 [32] u,qD8 qVe u],v.length<=8000->qDn v=.inr u:=fun v hv' hlv=>by
    simp only [List.mem_cons,List.not_mem_nil,or_false] at hv'
    rcases hv' with rfl | rfl | rfl
    ·exact qCr (e:=[10]) qOR hvu hlv c1
    ·exact qCr qRS hvu hlv c1
    ·exact qCr qRT hvu hlv c1
   obtain⟨vs,hvs⟩:∃ vs:List (List UInt8),vs=[qBF u,qD8 [32] u,qD8 qVe u]:=⟨_,rfl⟩
   have hvl:vs.length=3:=by rw [hvs];rfl
   rw [<- hvs] at hin
   refine⟨Nat,fun j=>[(9, .ptr 0 0 0),(10, .ptr 1 0 0),(13, .ptr 2 0 0),(39, .p (.agg (us.map des))),(40, .p (i64 (k:Nat))),(57, .p (.agg (vs.map .str))),(58, .p (i64 (j:Nat)))],fun _=>⟨3,[(2,s1O (.p (des u))),(1,s1O (.p (des qs))),(0,s1O (.p (des d1)))]⟩,fun j=>j<=3,fun j=>3 - j,?_,?_⟩
   ·refine⟨0,Nat.zero_le _,qAB [] [] [] rfl ?_ (sk) rfl⟩
    rw [hvs]
    exact⟨⟨rfl,rfl⟩,⟨rfl,rfl⟩,⟨rfl,rfl⟩,qEX _ _,rfl,rfl,rfl,trivial⟩
   intro j hj
   clear hvs
   refine QAD (fun m1=>?_) (fun m1=>?_)
   rotate_left
   ·refine⟨((k+1:Nat):Int),by rw [Int.natCast_add];exact w6z,?_⟩
    exact⟨k+1,by omega,qAB [] [] [] rfl ⟨⟨rfl,rfl⟩,⟨rfl,rfl⟩,qEX _ _,rfl,trivial⟩ (sk) rfl,by show 3 - (k+1)<3 - k;omega⟩
   have m1:(j:Int)<3:=m1
   have hcv:=qUY (l:=vs) (k:=j) (by omega)
   have hiv:=hin _ (qAL [] (show j<vs.length by omega))
   generalize vs.getD j []=v at hcv hiv
   refine⟨_,⟨⟨by omega,by omega⟩, .str v,qOE (by kernel_rfl) (by show(vs.map PV.str)[((j:Nat):Int).toNat * 1]?=_;rw [Int.toNat_natCast,Nat.mul_one];exact hcv),rfl⟩,?_⟩
   refine QAD (fun m2=>?_) (fun m2=>?_)
   ·have m2:((v.length:Nat):Int)<=8000:=m2
    refine(qEm (hiv (by omega))).eq rfl ?_
    refine⟨((j+1:Nat):Int),by rw [Int.natCast_add];exact w6z,?_⟩
    exact⟨j+1,by omega,qAB [] [] [] rfl ⟨⟨rfl,rfl⟩,⟨rfl,rfl⟩,⟨rfl,rfl⟩,qEX _ _,rfl,qEX _ _,rfl,trivial⟩ (sk) rfl,by show 3 - (j+1)<3 - j;omega⟩
   ·refine⟨((j+1:Nat):Int),by rw [Int.natCast_add];exact w6z,?_⟩
    exact⟨j+1,by omega,qAB [] [] [] rfl ⟨⟨rfl,rfl⟩,⟨rfl,rfl⟩,⟨rfl,rfl⟩,qEX _ _,rfl,qEX _ _,rfl,trivial⟩ (sk) rfl,by show 3 - (j+1)<3 - j;omega⟩
 ·rw [if_neg hv] at hC
  refine hC.eq rfl ?_
  refine And.intro (fun h=>absurd (show(380:Int)=0 from h) (by decide)) (fun _=>?_)
  refine qAf qYO (by kernel_rfl) ?_
  refine(qTb l hl).at fun r hr=>?_
  obtain⟨cw,nw,rfl,hsw,hnw⟩:=hr
  have hw:=qIx hsw hnw
  refine⟨sk,?_⟩
  have hall:∀ u∈[ps,qs,[qDh cw]],BigP u/\qBH u=true:=fun u hu=>by
   simp only [List.mem_cons,List.not_mem_nil,or_false] at hu
   rcases hu with rfl | rfl | rfl
   ·exact⟨hps.big,hps.valid⟩
   ·exact⟨hqs.big,hqs.valid⟩
   ·exact⟨hw.big,hw.valid⟩
  obtain⟨us,hus⟩:∃ us:List (List De),us=[ps,qs,[qDh cw]]:=⟨_,rfl⟩
  have hul:us.length=3:=by rw [hus];rfl
  rw [<- hus] at hall
  refine⟨Nat,fun k=>[(9, .ptr 0 0 0),(10, .ptr 1 0 0),(39, .p (.agg (us.map des))),(40, .p (i64 (k:Nat)))],fun _=>bkH ps qs,fun k=>k<=3,fun k=>3 - k,?_,?_⟩
  ·refine⟨0,Nat.zero_le _,qAB [] [(0,1),(1,2)] [] rfl ?_ (sk) rfl⟩
   rw [hus]
   exact⟨⟨rfl,rfl⟩,⟨rfl,rfl⟩,rfl,rfl,trivial⟩
  intro k hk
  clear hus
  refine QAD (fun h1=>?_) (fun h1=>?_)
  rotate_left
  ·have hT1:=qFg ps hps.big
   have hT2:=qFg qs hqs.big
   cases txS hps.valid with
   | no s1 e1=>
    rw [e1] at hT1
    cases txS hqs.valid with
    | no s2 e2=>
     rw [e2] at hT2
     refine hT1.eq rfl ?_
     refine hT2.eq rfl ?_
     refine And.intro (fun h=>absurd (show(3:Int)=0 from h) (by decide)) (fun _=>?_)
     exact qAG _ rfl rfl rfl
    | yes e2 l2 c2=>
     rw [e2] at hT2
     refine hT1.eq rfl ?_
     refine hT2.eq rfl ?_
     refine And.intro (fun h=>absurd (show(3:Int)=0 from h) (by decide)) (fun _=>?_)
     exact qAG _ rfl rfl rfl
   | yes e1 l1 c1=>
    rw [e1] at hT1
    cases txS hqs.valid with
    | no s2 e2=>
     rw [e2] at hT2
     refine hT1.eq rfl ?_
     refine hT2.eq rfl ?_
     refine And.intro (fun _=>?_) (fun h=>absurd rfl h)
     refine And.intro (fun h=>absurd (show(3:Int)=0 from h) (by decide)) (fun _=>?_)
     exact qAG _ rfl rfl rfl
    | yes e2 l2 c2=>
     have hS:=qHt ps qs hps.big hqs.big
     have hin:=qNV hps.valid hqs.valid l1 l2 c1 c2
     rw [e2] at hT2
     refine hT1.eq rfl ?_
     refine hT2.eq rfl ?_
     refine And.intro (fun _=>?_) (fun h=>absurd rfl h)
     refine And.intro (fun _=>?_) (fun h=>absurd rfl h)
     refine And.intro (fun h=>?_) (fun h=>?_)
     ·have h:qBF ps=qBF qs:=h
      rw [qPk (hin.1 h)] at hS
      refine hS.eq rfl ?_
      refine And.intro (fun _=>?_) (fun h=>absurd rfl h)
      exact qAG _ rfl rfl rfl
     ·have h:¬ qBF ps=qBF qs:=h
      rw [qG4 (fun e=>h (hin.2 e))] at hS
      refine hS.eq rfl ?_
      refine And.intro (fun _=>?_) (fun h=>absurd rfl h)
      exact qAG _ rfl rfl rfl
  have h1:(k:Int)<3:=h1
  have hcu:(us.map des)[k]?=some (des (us.getD k [])):=qDz (f:=des) [] (by omega)
  obtain⟨hbu,hvu⟩:=hall _ (qAL [] (show k<us.length by omega))
  generalize us.getD k []=u at hcu hbu hvu
  refine⟨_,⟨⟨by omega,by omega⟩, .agg [des u],qT7 (by kernel_rfl) (by show(us.map des)[((k:Nat):Int).toNat * 1]?=_;rw [Int.toNat_natCast,Nat.mul_one];exact hcu),rfl⟩,?_⟩
  have hT:=qFg u hbu
  cases txS hvu with
  | no s1 e1=>
   rw [e1] at hT
   refine hT.eq rfl ?_
   refine And.intro (fun h=>absurd (show(3:Int)=0 from h) (by decide)) (fun _=>?_)
   refine And.intro (fun _=>?_) (fun h=>absurd rfl h)
   refine⟨((k+1:Nat):Int),by rw [Int.natCast_add];exact w6z,?_⟩
   exact⟨k+1,by omega,qAB [] [] [] rfl ⟨⟨rfl,rfl⟩,⟨rfl,rfl⟩,qEX _ _,rfl,trivial⟩ (sk) rfl,by show 3 - (k+1)<3 - k;omega⟩
  | yes e1 l1 c1=>
   rw [e1] at hT
   refine hT.eq rfl ?_
   refine And.intro (fun _=>?_) (fun h=>absurd rfl h)
   have hR1:=qDY (qBF u) 10 [32] l1 (by decide) (by decide) (by decide)
   have hR2:=qDY (qBF u) 10 qVe l1 (by decide) (by decide) (by decide)
   rw [qK6 _ hvu] at hR1 hR2
   refine hR1.eq rfl ?_
   refine hR2.eq rfl ?_
   have hin:∀ v∈[qBF u,qD8 [32] u,qD8 qVe u],v.length<=8000->qDn v=.inr u:=fun v hv' hlv=>by
    simp only [List.mem_cons,List.not_mem_nil,or_false] at hv'
    rcases hv' with rfl | rfl | rfl
    ·exact qCr (e:=[10]) qOR hvu hlv c1
    ·exact qCr qRS hvu hlv c1
    ·exact qCr qRT hvu hlv c1
   obtain⟨vs,hvs⟩:∃ vs:List (List UInt8),vs=[qBF u,qD8 [32] u,qD8 qVe u]:=⟨_,rfl⟩
   have hvl:vs.length=3:=by rw [hvs];rfl
   rw [<- hvs] at hin
   refine⟨Nat,fun j=>[(9, .ptr 0 0 0),(10, .ptr 1 0 0),(13, .ptr 2 0 0),(39, .p (.agg (us.map des))),(40, .p (i64 (k:Nat))),(57, .p (.agg (vs.map .str))),(58, .p (i64 (j:Nat)))],fun _=>⟨3,[(2,s1O (.p (des u))),(1,s1O (.p (des qs))),(0,s1O (.p (des ps)))]⟩,fun j=>j<=3,fun j=>3 - j,?_,?_⟩
   ·refine⟨0,Nat.zero_le _,qAB [] [] [] rfl ?_ (sk) rfl⟩
    rw [hvs]
    exact⟨⟨rfl,rfl⟩,⟨rfl,rfl⟩,⟨rfl,rfl⟩,qEX _ _,rfl,rfl,rfl,trivial⟩
   intro j hj
   clear hvs
   refine QAD (fun m1=>?_) (fun m1=>?_)
   rotate_left
   ·refine⟨((k+1:Nat):Int),by rw [Int.natCast_add];exact w6z,?_⟩
    exact⟨k+1,by omega,qAB [] [] [] rfl ⟨⟨rfl,rfl⟩,⟨rfl,rfl⟩,qEX _ _,rfl,trivial⟩ (sk) rfl,by show 3 - (k+1)<3 - k;omega⟩
   have m1:(j:Int)<3:=m1
   have hcv:=qUY (l:=vs) (k:=j) (by omega)
   have hiv:=hin _ (qAL [] (show j<vs.length by omega))
   generalize vs.getD j []=v at hcv hiv
   refine⟨_,⟨⟨by omega,by omega⟩, .str v,qOE (by kernel_rfl) (by show(vs.map PV.str)[((j:Nat):Int).toNat * 1]?=_;rw [Int.toNat_natCast,Nat.mul_one];exact hcv),rfl⟩,?_⟩
   refine QAD (fun m2=>?_) (fun m2=>?_)
   ·have m2:((v.length:Nat):Int)<=8000:=m2
    refine(qEm (hiv (by omega))).eq rfl ?_
    refine⟨((j+1:Nat):Int),by rw [Int.natCast_add];exact w6z,?_⟩
    exact⟨j+1,by omega,qAB [] [] [] rfl ⟨⟨rfl,rfl⟩,⟨rfl,rfl⟩,⟨rfl,rfl⟩,qEX _ _,rfl,qEX _ _,rfl,trivial⟩ (sk) rfl,by show 3 - (j+1)<3 - j;omega⟩
   ·refine⟨((j+1:Nat):Int),by rw [Int.natCast_add];exact w6z,?_⟩
    exact⟨j+1,by omega,qAB [] [] [] rfl ⟨⟨rfl,rfl⟩,⟨rfl,rfl⟩,⟨rfl,rfl⟩,qEX _ _,rfl,qEX _ _,rfl,trivial⟩ (sk) rfl,by show 3 - (j+1)<3 - j;omega⟩
set_option maxHeartbeats 4000000
theorem qPx {m:Nat} {xs:List PV} (h:TyT Tryz.prog (m+2) 27 xs):∃ a b c:UInt8,xs=[u8 a,u8 b,u8 c]:=by
 have hp:partsOf Tryz.prog 27=some [(5,0),(5,1),(5,2)]:=by kernel_rfl
 rw [TyT] at h
 simp only [hp] at h
 obtain⟨x1,_,rfl,_,h1,x2,_,rfl,_,h2,x3,_,rfl,_,h3,rfl⟩:=h
 obtain⟨a,rfl⟩:=qFU h1
 obtain⟨b,rfl⟩:=qFU h2
 obtain⟨c,rfl⟩:=qFU h3
 exact⟨a,b,c,rfl⟩
theorem qSR {m:Nat} {xs:List PV} (h:TyT Tryz.prog (m+3) 155 xs):∃ p:Pc,xs=p.cells:=by
 have hp:partsOf Tryz.prog 155=some [(5,0),(5,1),(5,2),(5,3),(27,4)]:=by kernel_rfl
 rw [TyT] at h
 simp only [hp] at h
 obtain⟨x1,_,rfl,_,h1,x2,_,rfl,_,h2,x3,_,rfl,_,h3,x4,_,rfl,_,h4,x5,_,rfl,_,h5,rfl⟩:=h
 obtain⟨a,rfl⟩:=qFU h1
 obtain⟨b,rfl⟩:=qFU h2
 obtain⟨c,rfl⟩:=qFU h3
 obtain⟨d,rfl⟩:=qFU h4
 obtain⟨x,y,z,rfl⟩:=qPx h5
 exact⟨⟨a,b,c,d,x,y,z⟩,rfl⟩
theorem qPu {m:Nat} {xs:List PV} (h:TyT Tryz.prog (m+4) 26 xs):∃ l:List Pc,xs=[.lsts 7 (l.map Pc.cells)]/\l.length<=9223372036854775807:=by
 have hp:partsOf Tryz.prog 26=none:=by simp [partsOf,Tryz.underlying26]
 have hc:Tryz.prog.cellsOf 155=7:=by kernel_rfl
 rw [TyT] at h
 simp only [hp,Tryz.underlying26,hc] at h
 obtain⟨ys,rfl,hn,hy⟩:=h
 obtain⟨l,rfl,_⟩:=qGu (f:=Pc.cells) (P:=fun _=>True) fun y hy'=>by
  obtain⟨p,hp⟩:=qSR (hy y hy')
  exact⟨p,hp,trivial⟩
 rw [List.length_map] at hn
 exact⟨l,rfl,hn⟩
theorem qPv {m:Nat} {xs:List PV} (h:TyT Tryz.prog (m+5) 29 xs):∃ p:Pt,xs=p.cells/\p.cases.length<=9223372036854775807:=by
 have hp:partsOf Tryz.prog 29=some [(5,0),(5,1),(5,2),(5,3),(4,4),(26,5),(27,6)]:=by kernel_rfl
 rw [TyT] at h
 simp only [hp] at h
 obtain⟨x1,_,rfl,_,h1,x2,_,rfl,_,h2,x3,_,rfl,_,h3,x4,_,rfl,_,h4,x5,_,rfl,_,h5,x6,_,rfl,_,h6,x7,_,rfl,_,h7,rfl⟩:=h
 obtain⟨a,rfl⟩:=qFU h1
 obtain⟨b,rfl⟩:=qFU h2
 obtain⟨c,rfl⟩:=qFU h3
 obtain⟨d,rfl⟩:=qFU h4
 obtain⟨g,rfl⟩:=qPw h5
 obtain⟨l,rfl,hl⟩:=qPu h6
 obtain⟨x,y,z,rfl⟩:=qPx h7
 exact⟨⟨a,b,c,d,g,l,x,y,z⟩,rfl,hl⟩
theorem qNT {m:Nat} {xs:List PV} (h:TyT Tryz.prog (m+6) 25 xs):∃ l:List Pt,xs=[.lsts 9 (l.map Pt.cells)]/\l.length<=9223372036854775807/\∀ p∈l,p.cases.length<=9223372036854775807:=by
 have hp:partsOf Tryz.prog 25=none:=by simp [partsOf,Tryz.underlying25]
 have hc:Tryz.prog.cellsOf 29=9:=by kernel_rfl
 rw [TyT] at h
 simp only [hp,Tryz.underlying25,hc] at h
 obtain⟨ys,rfl,hn,hy⟩:=h
 obtain⟨l,rfl,hl⟩:=qGu (f:=Pt.cells) (P:=fun p=>p.cases.length<=9223372036854775807) fun y hy'=>qPv (hy y hy')
 rw [List.length_map] at hn
 exact⟨l,rfl,hn,hl⟩
theorem qIa {m:Nat} {x:PV} (h:qPg Tryz.prog (m+7) 31 x):∃ d:Dp,x=.agg d.cells/\d.ok:=by
 have hp:partsOf Tryz.prog 31=some [(5,0),(5,1),(25,2),(29,3),(25,12),(4,13)]:=by kernel_rfl
 simp only [qPg,hp] at h
 obtain⟨xs,rfl,h⟩:=h
 rw [TyT] at h
 simp only [hp] at h
 obtain⟨x1,_,rfl,_,h1,x2,_,rfl,_,h2,x3,_,rfl,_,h3,x4,_,rfl,_,h4,x5,_,rfl,_,h5,x6,_,rfl,_,h6,rfl⟩:=h
 obtain⟨a,rfl⟩:=qFU h1
 obtain⟨b,rfl⟩:=qFU h2
 obtain⟨l,rfl,l1,l2⟩:=qNT h3
 obtain⟨c,rfl,_⟩:=qPv h4
 obtain⟨k,rfl,k1,k2⟩:=qNT h5
 obtain⟨g,rfl⟩:=qPw h6
 exact⟨⟨a,b,l,c,k,g⟩,rfl,l1,k1,l2,k2⟩
theorem own:ownKnob Tryz.prog.godebug=none:=by kernel_rfl
abbrev gt3:List (Nat × List PV):=[(5,pow10L.map (.int .u64)),(0,keysL.map .str),(1,marksL.map .str)]
theorem qFB {k n:Nat} {o cs:List PV} {r:List (Nat × List PV)} (h:qPO ((k,o)::r) n=some cs):(k=n/\o=cs)∨(¬ k=n/\qPO r n=some cs):=by
 simp only [qPO] at h
 split at h
 ·rename_i e
  injection h with h
  exact .inl ⟨Nat.eq_of_beq_eq_true e,h⟩
 ·rename_i e
  exact .inr ⟨fun c=>by rw [c] at e;simp at e,h⟩
theorem qTA {g:Nat} {cs:List PV} (h:qPO cx.gt g=some cs):qPO gt3 g=some cs:=by
 rcases qFB h with ⟨rfl,rfl⟩ | ⟨_,h⟩
 ·rfl
 ·rcases qFB h with ⟨rfl,rfl⟩ | ⟨_,h⟩
  ·rfl
  ·rcases qFB h with ⟨rfl,rfl⟩ | ⟨_,h⟩
   ·rfl
   ·cases h
abbrev qMk : List (String × DataW Unit) := [("math/bits.deBruijn32tab", Rows.laid_math_bits_deBruijn32tab), ("math/bits.deBruijn64tab", Rows.laid_math_bits_deBruijn64tab), ("internal/strconv.uint64pow10", Rows.laid_internal_strconv_uint64pow10), ("unicode/utf8.acceptRanges", Rows.laid_unicode_utf8_acceptRanges), ("haruspex/lex.keys", Rows.laid_haruspex_lex_keys), ("haruspex/lex.marks", Rows.laid_haruspex_lex_marks), ("unicode/utf8.first", Rows.laid_unicode_utf8_first)]
theorem qRh (os:Os) (args:Array Value):laidMetH Tryz.prog qMk ((World.laidAll Tryz.prog os qMk).forCall (fun _ _=>0) ⟨#[],args,[]⟩).memory:=by
 rw [MakeChecks.laidMetH_plain _ _ _ (by kernel_rfl)]
 exact laidMet_laidAll _ (by kernel_rfl) (by kernel_rfl)
abbrev qYl:List (Nat × List PV):=[(5,pow10L.map (.int .u64))]
abbrev qYk:List (Nat × List PV):=[(0,keysL.map .str),(1,marksL.map .str)]
theorem qVH (r : List (String × DataW Unit)) : qWw Tryz.prog 4 qYl (("internal/strconv.uint64pow10", Rows.laid_internal_strconv_uint64pow10) :: r) := ⟨by kernel_rfl, ⟨245, by kernel_rfl, by kernel_rfl⟩, rfl, trivial⟩
theorem qVG (r : List (String × DataW Unit)) : qWw Tryz.prog 4 qYk (("haruspex/lex.keys", Rows.laid_haruspex_lex_keys) :: ("haruspex/lex.marks", Rows.laid_haruspex_lex_marks) :: r) := ⟨by kernel_rfl, ⟨226, by kernel_rfl, by kernel_rfl⟩, rfl, by kernel_rfl, ⟨227, by kernel_rfl, by kernel_rfl⟩, rfl, trivial⟩
theorem qTC {W:World} (h:laidMetH Tryz.prog qMk W):∀ g cs,qPO cx.gt g=some cs->GlobV (qOS W) g cs:=by
 rw [MakeChecks.laidMetH_plain _ _ _ (by kernel_rfl)] at h
 obtain⟨ps,h,_⟩:=h
 obtain⟨_,_,_,_,_,_,_,_,_,_,h,_⟩:=h
 obtain⟨_,_,_,_,_,_,_,_,_,_,h,_⟩:=h
 have h1:=h
 obtain⟨_,_,_,_,_,_,_,_,_,_,h,_⟩:=h
 obtain⟨_,_,_,_,_,_,_,_,_,_,h,_⟩:=h
 intro g cs hg
 rcases qFB (qTA hg) with ⟨rfl,rfl⟩ | ⟨_,hg2⟩
 ·exact qEr (qVH _) h1 _ _ rfl
 ·exact qEr (qVG _) h g cs hg2
abbrev qGE:List TypeId:=[24,22,80,3,9,77,33,78,89,37,34,35,31,5,25,29,4,26,155,27,39,40]
theorem qCy:qEM Tryz.prog qGE=true:=by kernel_rfl
theorem qIm:∀ xs,qTY Tryz.prog Tryz.f9.params.toList xs->Pure cx 9 xs (·=.ret [.bool true]):=by
 intro xs h
 rw [Tryz.params9] at h
 obtain⟨x0,_,rfl,⟨m0,h0⟩,x1,_,rfl,⟨m1,h1⟩,x2,_,rfl,⟨m2,h2⟩,x3,_,rfl,⟨m3,h3⟩,rfl⟩:=h
 have h0:=qIf h0 10
 obtain⟨v0,rfl,g0⟩:=qIa h0
 have h1:=qIf h1 10
 obtain⟨v1,rfl,g1⟩:=qIa h1
 have h2:=qIf h2 10
 obtain⟨v2,rfl,g2⟩:=qPY h2
 have h3:=qIf h3 10
 obtain⟨v3,e3,g3⟩:=qSS (qR1 (by simp [partsOf,Tryz.underlying40]) h3)
 injection e3 with e3
 subst e3
 exact qMV v0 v1 v2 v3 g0 g1 g2 g3
theorem qHS (os:Os) (started:os.Started) (H:Type) (enc:TypeId × Value->H) :
  ReturnsInHanded {} Tryz.checked os 9 .any (fun w args=>(Rows.parseBackSpec.pre enc Tryz.prog Tryz.f9 [] false w args/\laidMetH Tryz.prog qMk w)/\sizedMet enc Tryz.prog Tryz.f9 (OpenSpec.ofChange Rows.parseBackSpec) false w args)
   (Rows.parseBackSpec.post enc Tryz.prog Tryz.f9 false true false false):=by
 refine returnsInHanded_of_change_and (C:=Tryz.checked) (X:=fun w _=>laidMetH Tryz.prog qMk w) (fun _ _ _ hh h=>h.of_heap hh) own started (by kernel_rfl) Tryz.func9
  (ChangeSpec.witness_shaped (enc:=enc) (C:=Tryz.checked) (os:=os) (X:=fun w _=>laidMetH Tryz.prog qMk w) false (World.laidAll Tryz.prog os qMk) #[.agg #[.int .u8 0, .int .u8 0, .slice none 0 0, .int .u8 0, .int .u8 0, .int .u8 0, .int .u8 0, .bool false, .slice none 0 0, .int .u8 0, .int .u8 0, .int .u8 0, .slice none 0 0, .bool false], .agg #[.int .u8 0, .int .u8 0, .slice none 0 0, .int .u8 0, .int .u8 0, .int .u8 0, .int .u8 0, .bool false, .slice none 0 0, .int .u8 0, .int .u8 0, .int .u8 0, .slice none 0 0, .bool false], .agg #[.int .u8 0, .int .u8 0, .int .u8 0, .int .i64 0, .string ⟨#[]⟩, .string ⟨#[]⟩, .int .i64 0, .string ⟨#[]⟩, .int .i64 0, .int .i64 0, .int .i64 0, .int .i64 0, .int .i64 0, .string ⟨#[]⟩, .int .i64 0, .string ⟨#[]⟩, .int .i64 0, .slice none 0 0, .slice none 0 0], .slice none 0 0] 8 (World.laidAll_os _ _ _) (World.shaped_of_ZipB (by kernel_rfl) (by kernel_rfl)) (by kernel_rfl) (by kernel_rfl) (by kernel_rfl) (qRh os _)) ?_
 intro W base args ds gs before hval hW _ _ hL _
 obtain⟨p,q,hA,hV,_⟩:=id hW
 have hs:Tryz.f9.params.toList.all (fun t=>qBm t qGE)=true:=by kernel_rfl
 obtain⟨_,_,_,hlen⟩:=qKk qCy hs (fun j t v ht hv=>hval j t v (by simpa using ht) (by simpa using hv)) hA
 refine(qIu (cx:=cx) qCy Tryz.func9 (by kernel_rfl) rfl hs qIm hval hA (qTC hL)).mono fun e W' ⟨he,h1,h2,h3⟩=>?_
 subst he
 exact⟨_,rfl,qKE (cx:=cx) qCy hs rfl (by kernel_rfl) Tryz.underlying4 (fun ds h=>by
  rw [Tryz.params9] at h
  match ds,h with
  | [_,_,_,_],_=>rfl) hW hlen h1 h2 h3⟩
theorem qH8:Rows.ParseBackSaid:=
 OpenClaim.holds_of_wide 9 Tryz.f9 rfl rfl rfl rfl rfl rfl rfl ⟨rfl,rfl,rfl,rfl,rfl⟩ rfl rfl rfl rfl rfl (by kernel_rfl) Tryz.func9 (by kernel_rfl)
  (of_decide_eq_true (by kernel_rfl)) (by unfold Func.isWrapper;first | (rw [if_pos (by decide +kernel)];kernel_rfl) | (rw [if_neg (by decide +kernel)];exact⟨rfl,rfl⟩))
  (fun os started H enc _=>qHS os started H enc)
theorem parseBack_card:Rows.ParseBackCardSaid:=
 Claim7.holds_tied_plain_at .later [] [.data, .data, .data, .data, .data, .data, .pinned] true (true, "b46c99eb2204dd8b467615443c82243f622f25a7b7341c27729da0866b8561af") true
  qH8 (fun _ h=>by cases h) (by kernel_rfl) (fun _ h=>by cases h) parseBack_row_tie rfl ⟨rfl,rfl⟩ (by kernel_rfl) rfl
  (fun f fn hf hfn=>by
   obtain rfl : f = 9 := Option.some.inj ((show Tryz.prog.funcNamed "haruspex/haruspexlaw38.ParseBack" = some 9 by kernel_rfl).symm.trans hf) |>.symm
   obtain rfl:fn=Tryz.f9:=(Option.some.inj (Tryz.func9.symm.trans hfn)).symm
   exact⟨by kernel_rfl,fun j t ht=>by
    have hall:(Tryz.f9.params.toList.all fun u=>!Tryz.prog.wantsStandIn u)=true:=by kernel_rfl
    exact(show Tryz.prog.wantsStandIn t=false by simpa using List.all_eq_true.1 hall t (by simpa using Array.mem_of_getElem? ht))⟩)
  (by kernel_rfl)
#print axioms parseBack_card
end Go.Proofs.YtohfoaplnjcihaaGreatDoor

/- Part 5 of the proof: Vd Ve Ra Rb Rc Rd Vf Vg Jg Jh Ji Jj Jk Jl Gb Gc Gd Gf Gg Gh Ge Gi Ej Ea Eb Ec Ed -/
import Derived.Test.YtohfoaplnjcihaaGreatDoorQ4
namespace Go.Proofs.YtohfoaplnjcihaaGreatDoor
open Go Y
set_option maxRecDepth 100000
set_option maxHeartbeats 4000000
theorem qGN {k:Nat} {c:Cd} (h:lvl c.op<k):qAW k c=tLP::(qAj c++[tRP]):=if_pos h
def qX9 (d:Nat):Prop:=∀ (c:Cd),(∃ l k,qAp d c l=some k)->∀ (st:Wst) (L:Nat),L<=2->st.sz+wt (qAW (L+1) c)<=100000000->HoldsG cx 115 [.ptr 0 0 0, .p c.pv, .p (i64 L)] (wH true st) (WQ (puts st (qAW (L+1) c)))
abbrev ccO (c:Cd):AObj:=cO (c.cells.map .p)
theorem qPG {d:Nat} (ih:qX9 d):qX9 (d+1):=by
 intro c ⟨l,k,hv⟩ st L hL hb
 cases qJV hv with
 | leaf op n rel val r s h7 h8 h9 hl=>
  have hX:qAW (L+1) (.mk op n rel val r s [])=[]++qCF op n rel val r s:=by
   rw [qC9 (by show ¬ lvl op<L+1;rw [qSn h7 h8 h9];omega),qB5 h7 h8 h9];rfl
  rw [hX] at hb ⊢
  refine qAA Tryz.func115 rfl rfl rfl ?_
  refine And.intro (fun h=>absurd h h9) (fun _=>?_)
  refine And.intro (fun h=>absurd h h8) (fun _=>?_)
  refine And.intro (fun h=>absurd (show(2:Int)<(L:Nat) from h) (by omega)) (fun _=>?_)
  refine And.intro (fun h=>absurd h h9) (fun _=>?_)
  refine And.intro (fun h=>absurd h h8) (fun _=>?_)
  refine And.intro (fun h=>absurd h h7) (fun _=>?_)
  refine(qV1 (puts st []) op n rel val r s hl hb).holds.useT [] [] rfl (sk) (sk) fun e0 H0 hq=>?_
  unfold WQ at hq
  rw [<- qAE] at hq
  obtain⟨rfl,rfl⟩:=hq
  refine⟨rfl,_,⟨4,((3,bO (puts st ([]++qCF op n rel val r s)).s)::(0,wO 3 (puts st ([]++qCF op n rel val r s)))::[(2,ccO _)])⟩,rfl,rfl,?_⟩
  exact⟨[],[(2,3)],[], .returned und,wH' (puts st ([]++qCF op n rel val r s)),rfl,sk,sk,rfl,rfl⟩
 | neg a pa=>
  obtain⟨A,hA⟩:∃ A,A=qAW 3 a:=⟨_,rfl⟩
  have hX:qAW (L+1) (.mk 7 0 0 0 rf0 [] [a])=([]++[qHF])++A:=by
   rw [qC9 (by show ¬ lvl 7<L+1;have:lvl 7=3:=rfl;omega),qDI,hA];rfl
  rw [hX] at hb ⊢
  have ha:=fun s h=>ih a pa s 2 (by omega) h
  have ha:∀ s:Wst,s.sz+wt A<=100000000->HoldsG cx 115 [.ptr 0 0 0, .p a.pv, .p (i64 (2:Nat))] (wH true s) (WQ (puts s A)):=fun s h=>by rw [hA] at h ⊢;exact ha s h
  clear hA hX hv pa
  obtain⟨ao,an,ar,av,af,at',aa⟩:=a
  refine qAA Tryz.func115 rfl rfl rfl ?_
  refine And.intro (fun h=>absurd (show(7:Int)=9 from h) (by decide)) (fun _=>?_)
  refine And.intro (fun h=>absurd (show(7:Int)=8 from h) (by decide)) (fun _=>?_)
  refine And.intro (fun h=>absurd (show(2:Int)<(L:Nat) from h) (by omega)) (fun _=>?_)
  refine And.intro (fun h=>absurd (show(7:Int)=9 from h) (by decide)) (fun _=>?_)
  refine And.intro (fun h=>absurd (show(7:Int)=8 from h) (by decide)) (fun _=>?_)
  refine And.intro (fun _=>?_) (fun h=>absurd rfl h)
  refine(qA2 true (puts st ([])) ([qHF]) (by simp) (by have hz:=qAI ([]) st;simp only [qAM,wt] at hb hz ⊢;omega)).holds.useT [] [(2,3)] rfl (sk) (sk) fun e0 H0 hq=>?_
  rw [<- qAE] at hq
  obtain⟨rfl,rfl⟩:=hq
  refine⟨rfl,_,⟨5,((4,bO (puts st ([]++[qHF])).s)::(0,wO 4 (puts st ([]++[qHF])))::[(2,ccO _)])⟩,rfl,rfl,?_⟩
  refine⟨_,⟨by decide,_,rfl,rfl⟩,?_⟩
  refine(ha (puts st ([]++[qHF])) (by have hz:=qAI ([]++[qHF]) st;simp only [qAM,wt] at hb hz ⊢;omega)).holds.useT [] [(1,4)] rfl (sk) (sk) fun e0 H0 hq=>?_
  unfold WQ at hq
  rw [<- qAE] at hq
  obtain⟨rfl,rfl⟩:=hq
  refine⟨rfl,_,⟨6,((5,bO (puts st (([]++[qHF])++A)).s)::(0,wO 5 (puts st (([]++[qHF])++A)))::[(2,ccO _)])⟩,rfl,rfl,?_⟩
  exact⟨[],[(2,5)],[], .returned und,wH' (puts st (([]++[qHF])++A)),rfl,sk,sk,rfl,rfl⟩
 | conj a b pa pb=>
  have ha:=fun s h=>ih a pa s 1 (by omega) h
  have hc:=fun s h=>ih b pb s 2 (by omega) h
  obtain⟨A,hA⟩:∃ A,A=qAW 2 a:=⟨_,rfl⟩
  obtain⟨B,hB⟩:∃ B,B=qAW 3 b:=⟨_,rfl⟩
  have ha:∀ s:Wst,s.sz+wt A<=100000000->HoldsG cx 115 [.ptr 0 0 0, .p a.pv, .p (i64 (1:Nat))] (wH true s) (WQ (puts s A)):=fun s h=>by rw [hA] at h ⊢;exact ha s h
  have hc:∀ s:Wst,s.sz+wt B<=100000000->HoldsG cx 115 [.ptr 0 0 0, .p b.pv, .p (i64 (2:Nat))] (wH true s) (WQ (puts s B)):=fun s h=>by rw [hB] at h ⊢;exact hc s h
  have hC:qAj (.mk 8 0 0 0 rf0 [] [a,b])=A++qDj::B:=by rw [qCe,hA,hB]
  by_cases hp:1<L
  ·have hX:qAW (L+1) (.mk 8 0 0 0 rf0 [] [a,b])=(((([]++[tLP])++A)++[qDj])++B)++[tRP]:=by
    rw [qGN (show lvl 8<L+1 by have:lvl 8=2:=rfl;omega),hC];simp
   rw [hX] at hb
   clear hA hB hC pa pb hv
   generalize qAW (L+1) (.mk 8 0 0 0 rf0 [] [a,b])=X at hX ⊢
   obtain⟨ao,an,ar,av,af,at',aa⟩:=a
   obtain⟨bo,bn,br,bv,bf,bt,ba⟩:=b
   refine qAA Tryz.func115 rfl rfl rfl ?_
   refine And.intro (fun h=>absurd (show(8:Int)=9 from h) (by decide)) (fun _=>?_)
   refine And.intro (fun _=>?_) (fun h=>absurd rfl h)
   refine And.intro (fun _=>?_) (fun h=>absurd (show(1:Int)<(L:Nat) by omega) h)
   refine(qA2 true (puts st ([])) ([tLP]) (by simp) (by have hz:=qAI ([]) st;simp only [qAM,wt] at hb hz ⊢;omega)).holds.useT [] [(2,3)] rfl (sk) (sk) fun e0 H0 hq=>?_
   rw [<- qAE] at hq
   obtain⟨rfl,rfl⟩:=hq
   refine⟨rfl,_,⟨5,((4,bO (puts st ([]++[tLP])).s)::(0,wO 4 (puts st ([]++[tLP])))::[(2,ccO _)])⟩,rfl,rfl,?_⟩
   refine And.intro (fun h=>absurd (show(8:Int)=9 from h) (by decide)) (fun _=>?_)
   refine And.intro (fun _=>?_) (fun h=>absurd rfl h)
   refine⟨_,⟨by decide,_,rfl,rfl⟩,?_⟩
   refine(ha (puts st ([]++[tLP])) (by have hz:=qAI ([]++[tLP]) st;simp only [qAM,wt] at hb hz ⊢;omega)).holds.useT [] [(1,4)] rfl (sk) (sk) fun e0 H0 hq=>?_
   unfold WQ at hq
   rw [<- qAE] at hq
   obtain⟨rfl,rfl⟩:=hq
   refine⟨rfl,_,⟨7,((6,bO (puts st (([]++[tLP])++A)).s)::(0,wO 6 (puts st (([]++[tLP])++A)))::[(5,sU [tRP]),(2,ccO _)])⟩,rfl,rfl,?_⟩
   refine(qA2 true (puts st (([]++[tLP])++A)) ([qDj]) (by simp) (by have hz:=qAI (([]++[tLP])++A) st;simp only [qAM,wt] at hb hz ⊢;omega)).holds.useT [] [(1,6),(2,7)] rfl (sk) (sk) fun e0 H0 hq=>?_
   rw [<- qAE] at hq
   obtain⟨rfl,rfl⟩:=hq
   refine⟨rfl,_,⟨9,((8,bO (puts st (([]++[tLP])++A++[qDj])).s)::(0,wO 8 (puts st (([]++[tLP])++A++[qDj])))::[(5,sU [tRP]),(2,ccO _)])⟩,rfl,rfl,?_⟩
   refine⟨_,⟨by decide,_,rfl,rfl⟩,?_⟩
   refine(hc (puts st ((([]++[tLP])++A)++[qDj])) (by have hz:=qAI ((([]++[tLP])++A)++[qDj]) st;simp only [qAM,wt] at hb hz ⊢;omega)).holds.useT [] [(1,8)] rfl (sk) (sk) fun e0 H0 hq=>?_
   unfold WQ at hq
   rw [<- qAE] at hq
   obtain⟨rfl,rfl⟩:=hq
   refine⟨rfl,_,⟨10,((9,bO (puts st (((([]++[tLP])++A)++[qDj])++B)).s)::(0,wO 9 (puts st (((([]++[tLP])++A)++[qDj])++B)))::[(5,sU [tRP]),(2,ccO _)])⟩,rfl,rfl,?_⟩
   refine(qTf true (puts st (((([]++[tLP])++A)++[qDj])++B)) [tRP] (by simp) (by have hz:=qAI (((([]++[tLP])++A)++[qDj])++B) st;simp only [qAM,wt] at hb hz ⊢;omega)).useT [] [(1,9),(2,5)] rfl (sk) (sk) fun e0 H0 hq=>?_
   rw [<- qAE] at hq
   obtain⟨rfl,rfl⟩:=hq
   refine⟨rfl,_,⟨11,((10,bO (puts st ((((([]++[tLP])++A)++[qDj])++B)++[tRP])).s)::(0,wO 10 (puts st ((((([]++[tLP])++A)++[qDj])++B)++[tRP])))::[(2,ccO _)])⟩,rfl,rfl,?_⟩
   exact⟨[],[(2,10)],[], .returned und,wH' (puts st ((((([]++[tLP])++A)++[qDj])++B)++[tRP])),rfl,sk,sk,rfl,by rw [hX]⟩
  ·have hX:qAW (L+1) (.mk 8 0 0 0 rf0 [] [a,b])=(([]++A)++[qDj])++B:=by
    rw [qC9 (by show ¬ lvl 8<L+1;have:lvl 8=2:=rfl;omega),hC];simp
   rw [hX] at hb
   clear hA hB hC pa pb hv
   generalize qAW (L+1) (.mk 8 0 0 0 rf0 [] [a,b])=X at hX ⊢
   obtain⟨ao,an,ar,av,af,at',aa⟩:=a
   obtain⟨bo,bn,br,bv,bf,bt,ba⟩:=b
   refine qAA Tryz.func115 rfl rfl rfl ?_
   refine And.intro (fun h=>absurd (show(8:Int)=9 from h) (by decide)) (fun _=>?_)
   refine And.intro (fun _=>?_) (fun h=>absurd rfl h)
   refine And.intro (fun h=>absurd (show(1:Int)<(L:Nat) from h) (by omega)) (fun _=>?_)
   refine And.intro (fun h=>absurd (show(8:Int)=9 from h) (by decide)) (fun _=>?_)
   refine And.intro (fun _=>?_) (fun h=>absurd rfl h)
   refine⟨_,⟨by decide,_,rfl,rfl⟩,?_⟩
   refine(ha (puts st []) (by show st.sz+wt A<=100000000;simp only [qAM,wt] at hb ⊢;omega)).holds.useT [] [] rfl (sk) (sk) fun e0 H0 hq=>?_
   unfold WQ at hq
   rw [<- qAE] at hq
   obtain⟨rfl,rfl⟩:=hq
   refine⟨rfl,_,⟨4,((3,bO (puts st ([]++A)).s)::(0,wO 3 (puts st ([]++A)))::[(2,ccO _)])⟩,rfl,rfl,?_⟩
   refine(qA2 true (puts st ([]++A)) ([qDj]) (by simp) (by have hz:=qAI ([]++A) st;simp only [qAM,wt] at hb hz ⊢;omega)).holds.useT [] [(1,3),(2,4)] rfl (sk) (sk) fun e0 H0 hq=>?_
   rw [<- qAE] at hq
   obtain⟨rfl,rfl⟩:=hq
   refine⟨rfl,_,⟨6,((5,bO (puts st ([]++A++[qDj])).s)::(0,wO 5 (puts st ([]++A++[qDj])))::[(2,ccO _)])⟩,rfl,rfl,?_⟩
   refine⟨_,⟨by decide,_,rfl,rfl⟩,?_⟩
   refine(hc (puts st (([]++A)++[qDj])) (by have hz:=qAI (([]++A)++[qDj]) st;simp only [qAM,wt] at hb hz ⊢;omega)).holds.useT [] [(1,5)] rfl (sk) (sk) fun e0 H0 hq=>?_
   unfold WQ at hq
   rw [<- qAE] at hq
   obtain⟨rfl,rfl⟩:=hq
   refine⟨rfl,_,⟨7,((6,bO (puts st ((([]++A)++[qDj])++B)).s)::(0,wO 6 (puts st ((([]++A)++[qDj])++B)))::[(2,ccO _)])⟩,rfl,rfl,?_⟩
   exact⟨[],[(2,6)],[], .returned und,wH' (puts st ((([]++A)++[qDj])++B)),rfl,sk,sk,rfl,by rw [hX]⟩
 | disj a b pa pb=>
  have ha:=fun s h=>ih a pa s 0 (by omega) h
  have hc:=fun s h=>ih b pb s 1 (by omega) h
  obtain⟨A,hA⟩:∃ A,A=qAW 1 a:=⟨_,rfl⟩
  obtain⟨B,hB⟩:∃ B,B=qAW 2 b:=⟨_,rfl⟩
  have ha:∀ s:Wst,s.sz+wt A<=100000000->HoldsG cx 115 [.ptr 0 0 0, .p a.pv, .p (i64 (0:Nat))] (wH true s) (WQ (puts s A)):=fun s h=>by rw [hA] at h ⊢;exact ha s h
  have hc:∀ s:Wst,s.sz+wt B<=100000000->HoldsG cx 115 [.ptr 0 0 0, .p b.pv, .p (i64 (1:Nat))] (wH true s) (WQ (puts s B)):=fun s h=>by rw [hB] at h ⊢;exact hc s h
  have hC:qAj (.mk 9 0 0 0 rf0 [] [a,b])=A++tOr::B:=by rw [qCd,hA,hB]
  by_cases hp:0<L
  ·have hX:qAW (L+1) (.mk 9 0 0 0 rf0 [] [a,b])=(((([]++[tLP])++A)++[tOr])++B)++[tRP]:=by
    rw [qGN (show lvl 9<L+1 by have:lvl 9=1:=rfl;omega),hC];simp
   rw [hX] at hb
   clear hA hB hC pa pb hv
   generalize qAW (L+1) (.mk 9 0 0 0 rf0 [] [a,b])=X at hX ⊢
   obtain⟨ao,an,ar,av,af,at',aa⟩:=a
   obtain⟨bo,bn,br,bv,bf,bt,ba⟩:=b
   refine qAA Tryz.func115 rfl rfl rfl ?_
   refine And.intro (fun _=>?_) (fun h=>absurd rfl h)
   refine And.intro (fun _=>?_) (fun h=>absurd (show(0:Int)<(L:Nat) by omega) h)
   refine(qA2 true (puts st ([])) ([tLP]) (by simp) (by have hz:=qAI ([]) st;simp only [qAM,wt] at hb hz ⊢;omega)).holds.useT [] [(2,3)] rfl (sk) (sk) fun e0 H0 hq=>?_
   rw [<- qAE] at hq
   obtain⟨rfl,rfl⟩:=hq
   refine⟨rfl,_,⟨5,((4,bO (puts st ([]++[tLP])).s)::(0,wO 4 (puts st ([]++[tLP])))::[(2,ccO _)])⟩,rfl,rfl,?_⟩
   refine And.intro (fun _=>?_) (fun h=>absurd rfl h)
   refine⟨_,⟨by decide,_,rfl,rfl⟩,?_⟩
   refine(ha (puts st ([]++[tLP])) (by have hz:=qAI ([]++[tLP]) st;simp only [qAM,wt] at hb hz ⊢;omega)).holds.useT [] [(1,4)] rfl (sk) (sk) fun e0 H0 hq=>?_
   unfold WQ at hq
   rw [<- qAE] at hq
   obtain⟨rfl,rfl⟩:=hq
   refine⟨rfl,_,⟨7,((6,bO (puts st (([]++[tLP])++A)).s)::(0,wO 6 (puts st (([]++[tLP])++A)))::[(5,sU [tRP]),(2,ccO _)])⟩,rfl,rfl,?_⟩
   refine(qA2 true (puts st (([]++[tLP])++A)) ([tOr]) (by simp) (by have hz:=qAI (([]++[tLP])++A) st;simp only [qAM,wt] at hb hz ⊢;omega)).holds.useT [] [(1,6),(2,7)] rfl (sk) (sk) fun e0 H0 hq=>?_
   rw [<- qAE] at hq
   obtain⟨rfl,rfl⟩:=hq
   refine⟨rfl,_,⟨9,((8,bO (puts st (([]++[tLP])++A++[tOr])).s)::(0,wO 8 (puts st (([]++[tLP])++A++[tOr])))::[(5,sU [tRP]),(2,ccO _)])⟩,rfl,rfl,?_⟩
   refine⟨_,⟨by decide,_,rfl,rfl⟩,?_⟩
   refine(hc (puts st ((([]++[tLP])++A)++[tOr])) (by have hz:=qAI ((([]++[tLP])++A)++[tOr]) st;simp only [qAM,wt] at hb hz ⊢;omega)).holds.useT [] [(1,8)] rfl (sk) (sk) fun e0 H0 hq=>?_
   unfold WQ at hq
   rw [<- qAE] at hq
   obtain⟨rfl,rfl⟩:=hq
   refine⟨rfl,_,⟨10,((9,bO (puts st (((([]++[tLP])++A)++[tOr])++B)).s)::(0,wO 9 (puts st (((([]++[tLP])++A)++[tOr])++B)))::[(5,sU [tRP]),(2,ccO _)])⟩,rfl,rfl,?_⟩
   refine(qTf true (puts st (((([]++[tLP])++A)++[tOr])++B)) [tRP] (by simp) (by have hz:=qAI (((([]++[tLP])++A)++[tOr])++B) st;simp only [qAM,wt] at hb hz ⊢;omega)).useT [] [(1,9),(2,5)] rfl (sk) (sk) fun e0 H0 hq=>?_
   rw [<- qAE] at hq
   obtain⟨rfl,rfl⟩:=hq
   refine⟨rfl,_,⟨11,((10,bO (puts st ((((([]++[tLP])++A)++[tOr])++B)++[tRP])).s)::(0,wO 10 (puts st ((((([]++[tLP])++A)++[tOr])++B)++[tRP])))::[(2,ccO _)])⟩,rfl,rfl,?_⟩
   exact⟨[],[(2,10)],[], .returned und,wH' (puts st ((((([]++[tLP])++A)++[tOr])++B)++[tRP])),rfl,sk,sk,rfl,by rw [hX]⟩
  ·have hX:qAW (L+1) (.mk 9 0 0 0 rf0 [] [a,b])=(([]++A)++[tOr])++B:=by
    rw [qC9 (by show ¬ lvl 9<L+1;have:lvl 9=1:=rfl;omega),hC];simp
   rw [hX] at hb
   clear hA hB hC pa pb hv
   generalize qAW (L+1) (.mk 9 0 0 0 rf0 [] [a,b])=X at hX ⊢
   obtain⟨ao,an,ar,av,af,at',aa⟩:=a
   obtain⟨bo,bn,br,bv,bf,bt,ba⟩:=b
   refine qAA Tryz.func115 rfl rfl rfl ?_
   refine And.intro (fun _=>?_) (fun h=>absurd rfl h)
   refine And.intro (fun h=>absurd (show(0:Int)<(L:Nat) from h) (by omega)) (fun _=>?_)
   refine And.intro (fun _=>?_) (fun h=>absurd rfl h)
   refine⟨_,⟨by decide,_,rfl,rfl⟩,?_⟩
   refine(ha (puts st []) (by show st.sz+wt A<=100000000;simp only [qAM,wt] at hb ⊢;omega)).holds.useT [] [] rfl (sk) (sk) fun e0 H0 hq=>?_
   unfold WQ at hq
   rw [<- qAE] at hq
   obtain⟨rfl,rfl⟩:=hq
   refine⟨rfl,_,⟨4,((3,bO (puts st ([]++A)).s)::(0,wO 3 (puts st ([]++A)))::[(2,ccO _)])⟩,rfl,rfl,?_⟩
   refine(qA2 true (puts st ([]++A)) ([tOr]) (by simp) (by have hz:=qAI ([]++A) st;simp only [qAM,wt] at hb hz ⊢;omega)).holds.useT [] [(1,3),(2,4)] rfl (sk) (sk) fun e0 H0 hq=>?_
   rw [<- qAE] at hq
   obtain⟨rfl,rfl⟩:=hq
   refine⟨rfl,_,⟨6,((5,bO (puts st ([]++A++[tOr])).s)::(0,wO 5 (puts st ([]++A++[tOr])))::[(2,ccO _)])⟩,rfl,rfl,?_⟩
   refine⟨_,⟨by decide,_,rfl,rfl⟩,?_⟩
   refine(hc (puts st (([]++A)++[tOr])) (by have hz:=qAI (([]++A)++[tOr]) st;simp only [qAM,wt] at hb hz ⊢;omega)).holds.useT [] [(1,5)] rfl (sk) (sk) fun e0 H0 hq=>?_
   unfold WQ at hq
   rw [<- qAE] at hq
   obtain⟨rfl,rfl⟩:=hq
   refine⟨rfl,_,⟨7,((6,bO (puts st ((([]++A)++[tOr])++B)).s)::(0,wO 6 (puts st ((([]++A)++[tOr])++B)))::[(2,ccO _)])⟩,rfl,rfl,?_⟩
   exact⟨[],[(2,6)],[], .returned und,wH' (puts st ((([]++A)++[tOr])++B)),rfl,sk,sk,rfl,by rw [hX]⟩
theorem qTy:∀ d,qX9 d
 | 0=>fun c h=>by obtain⟨l,k,h⟩:=h;cases h
 | d+1=>qPG (qTy d)
theorem qUt (op:Int):1<=lvl op:=by
 unfold lvl
 split
 ·decide
 ·split
  ·decide
  ·split <;> decide
theorem qVM {op n rel val:Int} {r:Rf} {s:List Int} {ar:List Cd} (k:Nat) (h:qAp 8 (.mk op n rel val r s ar) 30=some k) (st:Wst) (hb:st.sz+wt (qAj (.mk op n rel val r s ar))<=100000000):HoldsG cx 115 [.ptr 0 0 0, .p (Cd.mk op n rel val r s ar).pv, .p (i64 0)] (wH true st) (WQ (puts st (qAj (.mk op n rel val r s ar)))):=by
 have e:qAW (0+1) (.mk op n rel val r s ar)=qAj (.mk op n rel val r s ar):=qC9 (by have:=qUt op;show ¬ lvl op<0+1;omega)
 have:=qTy 8 _ ⟨_,_,h⟩ st 0 (by omega) (by rw [e];exact hb)
 rw [e] at this
 exact this
def qXQ (c:Cs):AObj:=⟨qFA,false, .bx (c.cells.map .p)⟩
theorem qRQ {l:List Cs} {k:Nat} (h:k<l.length):l.drop k=l.getD k cs0::l.drop (k+1):=by
 rw [List.getD_eq_getElem?_getD,List.getElem?_eq_getElem h];exact List.drop_eq_getElem_cons h
theorem qTw {l:List Int} {k:Nat} (h:k<l.length):l.drop k=l.getD k 0::l.drop (k+1):=by
 rw [List.getD_eq_getElem?_getD,List.getElem?_eq_getElem h];exact List.drop_eq_getElem_cons h
theorem qLU {l:List Cs} {i:Nat} {c:Cd} {ns:List Int} (h:i+1=l.length) (hx:l.getD i cs0=⟨c,ns⟩):qBd (l.drop i)=[qCK]++([qAq]++qB8 ns):=by
 rw [qRQ (by omega),hx,List.drop_eq_nil_of_le (show l.length<=i+1 by omega)];rfl
theorem qLT {l:List Cs} {i:Nat} {c:Cd} {ns:List Int} (h:i+1<l.length) (hx:l.getD i cs0=⟨c,ns⟩):qBd (l.drop i)=qAj c++([qAq]++(qB8 ns++([qAY]++qBd (l.drop (i+1))))):=by
 obtain⟨d,r,hd⟩:∃ d r,l.drop (i+1)=d::r:=⟨_,_,qRQ h⟩
 rw [qRQ (by omega),hx,hd];rfl
theorem qP2 (st:Wst) (l:List Cs) (hv:qBG l=true) (hb0:st.sz+wt (qA4 l)<=100000000):HoldsG cx 72 [.ptr 0 0 0, .p (css l)] (wH true st) (WQ (puts st (qA4 l))):=by
 have h0:([]++[tLC])++(qBd (l.drop 0)++[tRC])=qA4 l:=rfl
 generalize qA4 l=G at h0 hb0 ⊢
 have hm:(l.map Cs.cells).length=l.length:=List.length_map ..
 simp only [qBG,Bool.and_eq_true,decide_eq_true_eq] at hv
 obtain⟨⟨v1,v2⟩,v3⟩:=hv
 refine qAA Tryz.func72 rfl rfl rfl ?_
 have hb:st.sz+wt ([]++[tLC])<=100000000:=by rw [<- h0,qAM] at hb0;omega
 refine(qA2 true (puts st ([])) ([tLC]) (by simp) (by have hz:=qAI ([]) st;simp only [qAM,wt] at hb hz ⊢;omega)).holds.useT [] [] rfl (sk) (sk) fun e0 H0 hq=>?_
 rw [<- qAE] at hq
 obtain⟨rfl,rfl⟩:=hq
 refine⟨rfl,_,⟨4,((3,bO (puts st ([]++[tLC])).s)::(0,wO 3 (puts st ([]++[tLC])))::[])⟩,rfl,rfl,?_⟩
 refine⟨qBT × Nat,fun x=>[(0, .ptr 0 0 0),(1, .p (css l)),(12, .p (css l)),(13, .p (i64 (l.map Cs.cells).length)),(14, .p (i64 x.2))],fun x=>wH' (puts st x.1),fun x=>x.2<=l.length/\qBo (l.drop x.2)=true/\x.1++(qBd (l.drop x.2)++[tRC])=G,fun x=>l.length - x.2,?_,?_⟩
 ·exact⟨([]++[tLC],0),⟨Nat.zero_le _,v3,h0⟩,qAC [] [(2,3)] [] rfl (sk) (sk) rfl⟩
 clear h0 hb
 rintro⟨P,i⟩ ⟨i0,i2,i3⟩
 simp only [] at i0 i2 i3
 refine QAD (fun j1=>?_) (fun j1=>?_)
 rotate_left
 ·have j1:¬ (i:Int)<((l.map Cs.cells).length:Nat):=j1
  rw [hm] at j1
  rw [List.drop_eq_nil_of_le (by omega)] at i3
  have i3:P++[tRC]=G:=i3
  have hb:st.sz+wt (P++[tRC])<=100000000:=by rw [i3];exact hb0
  refine(qA2 true (puts st (P)) ([tRC]) (by simp) (by have hz:=qAI (P) st;simp only [qAM,wt] at hb hz ⊢;omega)).holds.useT [] [(1,2),(2,3)] rfl (sk) (sk) fun e0 H0 hq=>?_
  rw [<- qAE] at hq
  obtain⟨rfl,rfl⟩:=hq
  refine⟨rfl,_,⟨5,((4,bO (puts st (P++[tRC])).s)::(0,wO 4 (puts st (P++[tRC])))::[])⟩,rfl,rfl,?_⟩
  exact⟨[],[(2,4)],[], .returned und,wH' (puts st (P++[tRC])),rfl,sk,sk,rfl,by rw [i3]⟩
 have j1:(i:Int)<((l.map Cs.cells).length:Nat):=j1
 rw [hm] at j1
 have i1:i<l.length:=by omega
 have hcell:=qKv i1
 have hstep:=fun h=>qEG (l:=l) (i:=i) h
 have hlast:=fun h=>qEH (l:=l) (i:=i) h
 rcases hx:l.getD i cs0 with ⟨⟨op,n,rel,val,r,s,ar⟩,nums⟩
 rw [hx] at hcell hstep hlast
 simp only [] at hstep hlast
 have hnm:(nums.map i64).length=nums.length:=List.length_map ..
 have hnums:qCS nums=true:=by
  rcases Nat.lt_or_ge (i+1) l.length with h3 | h3
  ·rw [hstep h3] at i2
   simp only [Bool.and_eq_true] at i2
   exact i2.1.1
  ·rw [hlast (by omega)] at i2
   simp only [Bool.and_eq_true] at i2
   exact i2.1
 obtain⟨_,_,hwt⟩:=qGd hnums
 refine⟨_,⟨by omega,(⟨.mk op n rel val r s ar,nums⟩:Cs).cells,hcell,rfl⟩,?_⟩
 refine⟨((l.length - 1:Nat):Int),by show _=IntKind.i64.wrap (((l.map Cs.cells).length:Int) - 1);rw [hm,show(l.length:Int) - 1=((l.length - 1:Nat):Int) by omega];exact w6z,?_⟩
 refine QAD (fun m4=>?_) (fun m4=>?_)
 ·have m4:(i:Int)=((l.length - 1:Nat):Int):=m4
  have hR:=qLU (by omega) hx
  rw [hR] at i3
  obtain⟨F,hF⟩:∃ F,((P++[qCK])++[qAq])++qB8 (nums.drop 0)=F:=⟨_,rfl⟩
  have hFG:F++[tRC]=G:=by rw [<- hF,<- i3];simp
  have hFw:st.sz+wt F<=100000000:=by rw [<- hFG,qAM] at hb0;omega
  have hb:st.sz+wt ((P++[qCK])++[qAq])<=100000000:=by rw [<- hF,qAM] at hFw;omega
  refine(qA2 true (puts st (P)) ([qCK]) (by simp) (by have hz:=qAI (P) st;simp only [qAM,wt] at hb hz ⊢;omega)).holds.useT [] [(1,2),(2,4)] rfl (sk) (sk) fun e0 H0 hq=>?_
  rw [<- qAE] at hq
  obtain⟨rfl,rfl⟩:=hq
  refine⟨rfl,_,⟨6,((5,bO (puts st (P++[qCK])).s)::(0,wO 5 (puts st (P++[qCK])))::[(3,qXQ ⟨.mk op n rel val r s ar,nums⟩)])⟩,rfl,rfl,?_⟩
  refine(qA2 true (puts st (P++[qCK])) ([qAq]) (by simp) (by have hz:=qAI (P++[qCK]) st;simp only [qAM,wt] at hb hz ⊢;omega)).holds.useT [] [(1,5),(2,6)] rfl (sk) (sk) fun e0 H0 hq=>?_
  rw [<- qAE] at hq
  obtain⟨rfl,rfl⟩:=hq
  refine⟨rfl,_,⟨8,((7,bO (puts st (P++[qCK]++[qAq])).s)::(0,wO 7 (puts st (P++[qCK]++[qAq])))::[(3,qXQ ⟨.mk op n rel val r s ar,nums⟩)])⟩,rfl,rfl,?_⟩
  refine⟨qBT × Nat,fun y=>[(0, .ptr 0 0 0),(1, .p (css l)),(6,vB true),(12, .p (css l)),(13, .p (i64 (l.map Cs.cells).length)),(14, .p (i64 i)),(36, .p (ints nums)),(37, .p (i64 (nums.map i64).length)),(38, .p (i64 y.2))],fun y=>wH' (puts st y.1),fun y=>y.2<=nums.length/\y.1++qB8 (nums.drop y.2)=F,fun y=>nums.length - y.2,?_,?_⟩
  ·exact⟨(((P++[qCK])++[qAq]),0),⟨Nat.zero_le _,hF⟩,qAC [] [(2,7)] [] rfl (sk) (sk) rfl⟩
  clear hb
  rintro⟨Q,k⟩ ⟨k1,k2⟩
  simp only [] at k1 k2
  refine QAD (fun m1=>?_) (fun m1=>?_)
  ·have m1:(k:Int)<((nums.map i64).length:Nat):=m1
   rw [hnm] at m1
   have hk:k<nums.length:=by omega
   have hw:=hwt _ (qAJ 0 hk)
   have hcell2:=qEW hk
   have hd:=qTw hk
   generalize nums.getD k 0=x at hw hcell2 hd
   have e2:qB8 (nums.drop k)=qGj x++qB8 (nums.drop (k+1)):=by rw [hd];rfl
   rw [e2,<- List.append_assoc] at k2
   have hb:st.sz+wt (Q++qGj x)<=100000000:=by rw [<- k2,qAM] at hFw;omega
   simp only [qGL,Bool.and_eq_true,decide_eq_true_eq] at hw
   refine⟨_,⟨by omega,i64 x,hcell2,rfl⟩,?_⟩
   by_cases c:x<0
   ·have e3:qGj x=[qAu]++[qAa (-x)]:=if_pos c
    rw [e3,<- List.append_assoc] at k2 hb
    refine And.intro (fun _=>?_) (fun h=>absurd c h)
    refine(qA2 true (puts st (Q)) ([qAu]) (by simp) (by have hz:=qAI (Q) st;simp only [qAM,wt] at hb hz ⊢;omega)).holds.useT [] [(1,2),(2,3)] rfl (sk) (sk) fun e0 H0 hq=>?_
    rw [<- qAE] at hq
    obtain⟨rfl,rfl⟩:=hq
    refine⟨rfl,_,⟨5,((4,bO (puts st (Q++[qAu])).s)::(0,wO 4 (puts st (Q++[qAu])))::[])⟩,rfl,rfl,?_⟩
    refine⟨-x,by rw [Int.zero_sub];exact w6z,?_⟩
    refine(qCo (-x) (by simp only [qBm,Bool.and_eq_true,decide_eq_true_eq];omega)).eq rfl ?_
    refine(qA2 true (puts st (Q++[qAu])) ([qAa (-x)]) (by simp) (by have hz:=qAI (Q++[qAu]) st;simp only [qAM,wt] at hb hz ⊢;omega)).holds.useT [] [(1,4),(2,5)] rfl (sk) (sk) fun e0 H0 hq=>?_
    rw [<- qAE] at hq
    obtain⟨rfl,rfl⟩:=hq
    refine⟨rfl,_,⟨7,((6,bO (puts st (Q++[qAu]++[qAa (-x)])).s)::(0,wO 6 (puts st (Q++[qAu]++[qAa (-x)])))::[])⟩,rfl,rfl,?_⟩
    refine⟨_,w6z,?_⟩
    exact⟨((Q++[qAu])++[qAa (-x)],k+1),⟨hk,k2⟩,qAC [] [(2,6)] [] rfl (sk) (sk) rfl,by show nums.length - (k+1)<nums.length - k;omega⟩
   ·have e3:qGj x=[qAa x]:=if_neg c
    rw [e3] at k2 hb
    refine And.intro (fun h=>absurd h c) (fun _=>?_)
    refine(qCo x (by simp only [qBm,Bool.and_eq_true,decide_eq_true_eq];omega)).eq rfl ?_
    refine(qA2 true (puts st (Q)) ([qAa x]) (by simp) (by have hz:=qAI (Q) st;simp only [qAM,wt] at hb hz ⊢;omega)).holds.useT [] [(1,2),(2,3)] rfl (sk) (sk) fun e0 H0 hq=>?_
    rw [<- qAE] at hq
    obtain⟨rfl,rfl⟩:=hq
    refine⟨rfl,_,⟨5,((4,bO (puts st (Q++[qAa x])).s)::(0,wO 4 (puts st (Q++[qAa x])))::[])⟩,rfl,rfl,?_⟩
    refine⟨_,w6z,?_⟩
    exact⟨(Q++[qAa x],k+1),⟨hk,k2⟩,qAC [] [(2,4)] [] rfl (sk) (sk) rfl,by show nums.length - (k+1)<nums.length - k;omega⟩
  have m1:¬ (k:Int)<((nums.map i64).length:Nat):=m1
  rw [hnm] at m1
  rw [List.drop_eq_nil_of_le (by omega),show qB8 []=[] from rfl,List.append_nil] at k2
  subst k2
  refine⟨_,w6z,?_⟩
  exact⟨(Q,i+1),⟨by omega,by rw [List.drop_eq_nil_of_le (by omega)];rfl,by rw [List.drop_eq_nil_of_le (by omega)];exact hFG⟩,qAC [] [] [] rfl (sk) (sk) rfl,by show l.length - (i+1)<l.length - i;omega⟩
 have m4:¬ (i:Int)=((l.length - 1:Nat):Int):=m4
 have hR:=qLT (by omega) hx
 rw [hR] at i3
 rw [hstep (by omega)] at i2
 simp only [Bool.and_eq_true] at i2
 obtain⟨⟨_,i4⟩,i5⟩:=i2
 obtain⟨kk,hk8⟩:=Option.isSome_iff_exists.1 i4
 obtain⟨F,hF⟩:∃ F,((P++qAj (.mk op n rel val r s ar))++[qAq])++qB8 (nums.drop 0)=F:=⟨_,rfl⟩
 have hFG:(F++[qAY])++(qBd (l.drop (i+1))++[tRC])=G:=by rw [<- hF,<- i3];simp
 have hFs:st.sz+wt (F++[qAY])<=100000000:=by rw [<- hFG,qAM] at hb0;omega
 have hFw:st.sz+wt F<=100000000:=by rw [qAM] at hFs;omega
 have hb:st.sz+wt ((P++qAj (.mk op n rel val r s ar))++[qAq])<=100000000:=by rw [<- hF,qAM] at hFw;omega
 have hC:=qVM kk hk8 (puts st P) (by have hz:=qAI P st;simp only [qAM,wt] at hb ⊢;omega)
 generalize qAj (.mk op n rel val r s ar)=X at hC hF hb
 refine(hC).holds.useT [] [(1,2)] rfl (sk) (sk) fun e0 H0 hq=>?_
 unfold WQ at hq
 rw [<- qAE] at hq
 obtain⟨rfl,rfl⟩:=hq
 refine⟨rfl,_,⟨5,((4,bO (puts st (P++X)).s)::(0,wO 4 (puts st (P++X)))::[(3,qXQ ⟨.mk op n rel val r s ar,nums⟩)])⟩,rfl,rfl,?_⟩
 refine(qA2 true (puts st (P++X)) ([qAq]) (by simp) (by have hz:=qAI (P++X) st;simp only [qAM,wt] at hb hz ⊢;omega)).holds.useT [] [(1,4),(2,5)] rfl (sk) (sk) fun e0 H0 hq=>?_
 rw [<- qAE] at hq
 obtain⟨rfl,rfl⟩:=hq
 refine⟨rfl,_,⟨7,((6,bO (puts st (P++X++[qAq])).s)::(0,wO 6 (puts st (P++X++[qAq])))::[(3,qXQ ⟨.mk op n rel val r s ar,nums⟩)])⟩,rfl,rfl,?_⟩
 refine⟨qBT × Nat,fun y=>[(0, .ptr 0 0 0),(1, .p (css l)),(6,vB false),(12, .p (css l)),(13, .p (i64 (l.map Cs.cells).length)),(14, .p (i64 i)),(36, .p (ints nums)),(37, .p (i64 (nums.map i64).length)),(38, .p (i64 y.2))],fun y=>wH' (puts st y.1),fun y=>y.2<=nums.length/\y.1++qB8 (nums.drop y.2)=F,fun y=>nums.length - y.2,?_,?_⟩
 ·exact⟨(((P++X)++[qAq]),0),⟨Nat.zero_le _,hF⟩,qAC [] [(2,6)] [] rfl (sk) (sk) rfl⟩
 clear hb
 rintro⟨Q,k⟩ ⟨k1,k2⟩
 simp only [] at k1 k2
 refine QAD (fun m1=>?_) (fun m1=>?_)
 ·have m1:(k:Int)<((nums.map i64).length:Nat):=m1
  rw [hnm] at m1
  have hk:k<nums.length:=by omega
  have hw:=hwt _ (qAJ 0 hk)
  have hcell2:=qEW hk
  have hd:=qTw hk
  generalize nums.getD k 0=x at hw hcell2 hd
  have e2:qB8 (nums.drop k)=qGj x++qB8 (nums.drop (k+1)):=by rw [hd];rfl
  rw [e2,<- List.append_assoc] at k2
  have hb:st.sz+wt (Q++qGj x)<=100000000:=by rw [<- k2,qAM] at hFw;omega
  simp only [qGL,Bool.and_eq_true,decide_eq_true_eq] at hw
  refine⟨_,⟨by omega,i64 x,hcell2,rfl⟩,?_⟩
  by_cases c:x<0
  ·have e3:qGj x=[qAu]++[qAa (-x)]:=if_pos c
   rw [e3,<- List.append_assoc] at k2 hb
   refine And.intro (fun _=>?_) (fun h=>absurd c h)
   refine(qA2 true (puts st (Q)) ([qAu]) (by simp) (by have hz:=qAI (Q) st;simp only [qAM,wt] at hb hz ⊢;omega)).holds.useT [] [(1,2),(2,3)] rfl (sk) (sk) fun e0 H0 hq=>?_
   rw [<- qAE] at hq
   obtain⟨rfl,rfl⟩:=hq
   refine⟨rfl,_,⟨5,((4,bO (puts st (Q++[qAu])).s)::(0,wO 4 (puts st (Q++[qAu])))::[])⟩,rfl,rfl,?_⟩
   refine⟨-x,by rw [Int.zero_sub];exact w6z,?_⟩
   refine(qCo (-x) (by simp only [qBm,Bool.and_eq_true,decide_eq_true_eq];omega)).eq rfl ?_
   refine(qA2 true (puts st (Q++[qAu])) ([qAa (-x)]) (by simp) (by have hz:=qAI (Q++[qAu]) st;simp only [qAM,wt] at hb hz ⊢;omega)).holds.useT [] [(1,4),(2,5)] rfl (sk) (sk) fun e0 H0 hq=>?_
   rw [<- qAE] at hq
   obtain⟨rfl,rfl⟩:=hq
   refine⟨rfl,_,⟨7,((6,bO (puts st (Q++[qAu]++[qAa (-x)])).s)::(0,wO 6 (puts st (Q++[qAu]++[qAa (-x)])))::[])⟩,rfl,rfl,?_⟩
   refine⟨_,w6z,?_⟩
   exact⟨((Q++[qAu])++[qAa (-x)],k+1),⟨hk,k2⟩,qAC [] [(2,6)] [] rfl (sk) (sk) rfl,by show nums.length - (k+1)<nums.length - k;omega⟩
  ·have e3:qGj x=[qAa x]:=if_neg c
   rw [e3] at k2 hb
   refine And.intro (fun h=>absurd h c) (fun _=>?_)
   refine(qCo x (by simp only [qBm,Bool.and_eq_true,decide_eq_true_eq];omega)).eq rfl ?_
   refine(qA2 true (puts st (Q)) ([qAa x]) (by simp) (by have hz:=qAI (Q) st;simp only [qAM,wt] at hb hz ⊢;omega)).holds.useT [] [(1,2),(2,3)] rfl (sk) (sk) fun e0 H0 hq=>?_
   rw [<- qAE] at hq
   obtain⟨rfl,rfl⟩:=hq
   refine⟨rfl,_,⟨5,((4,bO (puts st (Q++[qAa x])).s)::(0,wO 4 (puts st (Q++[qAa x])))::[])⟩,rfl,rfl,?_⟩
   refine⟨_,w6z,?_⟩
   exact⟨(Q++[qAa x],k+1),⟨hk,k2⟩,qAC [] [(2,4)] [] rfl (sk) (sk) rfl,by show nums.length - (k+1)<nums.length - k;omega⟩
 have m1:¬ (k:Int)<((nums.map i64).length:Nat):=m1
 rw [hnm] at m1
 rw [List.drop_eq_nil_of_le (by omega),show qB8 []=[] from rfl,List.append_nil] at k2
 subst k2
 have hb:=hFs
 refine(qA2 true (puts st (Q)) ([qAY]) (by simp) (by have hz:=qAI (Q) st;simp only [qAM,wt] at hb hz ⊢;omega)).holds.useT [] [(1,2),(2,3)] rfl (sk) (sk) fun e0 H0 hq=>?_
 rw [<- qAE] at hq
 obtain⟨rfl,rfl⟩:=hq
 refine⟨rfl,_,⟨5,((4,bO (puts st (Q++[qAY])).s)::(0,wO 4 (puts st (Q++[qAY])))::[])⟩,rfl,rfl,?_⟩
 refine⟨_,w6z,?_⟩
 exact⟨(Q++[qAY],i+1),⟨by omega,i5,hFG⟩,qAC [] [(2,4)] [] rfl (sk) (sk) rfl,by show l.length - (i+1)<l.length - i;omega⟩
theorem qFy {a b:List UInt8} (h:a=b):PEnd.ret [.str a]=.ret [.str b]:=by rw [h]
theorem qR6 {n:Int} (h0:-9223372036854775807<=n) (h1:n<=9223372036854775807):-n=IntKind.i64.wrap (0 - n):=by
 rw [Int.zero_sub]
 exact w6z
theorem qDU (n:Int):(qAa n).length<=4:=qKT 4 n.toNat
theorem qTb (n:Int) (h:qBm n=true):Pure cx 26 [i64 n] (·=.ret [.str (qAa n)]):=by
 simp only [qBm,Bool.and_eq_true,decide_eq_true_eq] at h
 obtain⟨m,rfl⟩:∃ m:Nat,n=m:=⟨n.toNat,by omega⟩
 have h4:m<10 ^ 4:=by
  have:(10:Nat) ^ 4=10000:=by decide
  omega
 have:=qS3 3 m (by omega) h4
 exact this
theorem qPX {n:Int} (h:qGL n=true):-9999<=n/\n<=9999:=by
 simpa only [qGL,Bool.and_eq_true,decide_eq_true_eq] using h
theorem qUm {n:Int} (h:qBm n=true):qGL n=true:=by
 simp only [qBm,qGL,Bool.and_eq_true,decide_eq_true_eq] at h ⊢
 omega
theorem qCu {n:Int} (h0:0<=n) (h:n<=9999):qBm n=true:=by
 simp only [qBm,Bool.and_eq_true,decide_eq_true_eq];omega
theorem qSq {n:Int} (h:qBm n=true):qGj n=[qAa n]:=by
 simp only [qBm,Bool.and_eq_true,decide_eq_true_eq] at h
 rw [qGj,if_neg (by omega)]
theorem qH8 (n:Int) (h:qGL n=true):Pure cx 85 [i64 n] (·=.ret [.str (spW false (qGj n))]):=by
 refine qAB Tryz.func85 rfl rfl rfl ?_
 obtain⟨w1,w2⟩:=qPX h
 refine QAD (fun h1=>?_) (fun h1=>?_)
 ·have h1:n<0:=h1
  refine⟨-n,qR6 (by omega) (by omega),?_⟩
  refine(qTb (-n) (qCu (by omega) (by omega))).eq rfl ?_
  have hl:=qDU (-n)
  refine⟨QAC,?_⟩
  exact qAF _ rfl rfl (qFy (by rw [qGj,if_pos h1];simp [spW]))
 ·have h1:¬ n<0:=h1
  refine(qTb n (qCu (by omega) (by omega))).eq rfl ?_
  exact qAF _ rfl rfl (qFy (by rw [qGj,if_neg h1];simp [spW]))
theorem qCc (n:Int) (h:qBm n=true):Pure cx 85 [i64 n] (·=.ret [.str (qAa n)]):=by
 have:=qH8 n (qUm h)
 rw [qSq h] at this
 simpa [spW] using this
theorem qCx {t:List UInt8} (h:qAo t=true):t.length<=10:=(qJk (qDN h)).2
theorem qKj (r:Rf) (h:qBp r=true):Pure cx 129 [r.pv] (·=.ret [.str (spW false (qBY r))]):=by
 refine qAB Tryz.func129 rfl rfl rfl ?_
 obtain⟨nm,m,pl,n⟩:=r
 rw [qBp,Bool.and_eq_true] at h
 obtain⟨hn,h⟩:=h
 simp only [] at h hn
 have hnl:=qCx hn
 refine QAD (fun h3=>?_) (fun h3=>?_)
 ·have h3:m=3:=h3
  refine⟨QAC,?_⟩
  exact qAF _ rfl rfl (qFy (by simp [qBY,qE5,h3,spW]))
 have h3:¬ m=3:=h3
 refine QAD (fun h2=>?_) (fun h2=>?_)
 ·have h2:m=2:=h2
  rw [if_neg (by omega),if_neg (by omega),if_pos h2,Bool.and_eq_true] at h
  have hd:=qDU n
  refine VDraw.seq rfl ?_
  refine⟨QAC,?_⟩
  refine(qCc n h.2).eq rfl ?_
  refine⟨sk,?_⟩
  refine⟨QAC,?_⟩
  refine⟨QAC,?_⟩
  exact qAF _ rfl rfl (qFy (by simp [qBY,qE5,h2,spW]))
 have h2:¬ m=2:=h2
 refine QAD (fun h1=>?_) (fun h1=>?_)
 ·have h1:m=1:=h1
  rw [if_neg (by omega),if_pos h1,Bool.and_eq_true] at h
  have hd:=qDU n
  have hpl:=qCx h.1
  refine QAD (fun h0=>?_) (fun h0=>?_)
  ·have h0:0<n:=h0
   refine VDraw.seq rfl ?_
   refine⟨QAC,?_⟩
   refine⟨QAC,?_⟩
   refine⟨QAC,?_⟩
   refine(qCc n h.2).eq rfl ?_
   refine⟨sk,?_⟩
   refine⟨QAC,?_⟩
   refine⟨QAC,?_⟩
   exact qAF _ rfl rfl (qFy (by simp [qBY,qE5,h1,h0,spW]))
  ·have h0:¬ 0<n:=h0
   refine⟨QAC,?_⟩
   refine⟨QAC,?_⟩
   refine⟨QAC,?_⟩
   exact qAF _ rfl rfl (qFy (by simp [qBY,qE5,h1,h0,spW]))
 have h1:¬ m=1:=h1
 exact qAF _ rfl rfl (qFy (by simp [qBY,qE5,h1,h2,h3,spW]))
def sgnL:List (List UInt8):=[[],[32,61,32],[32,47,61,32],[32,60,32],[32,60,61,32]]
theorem qV6 {k:Int} (h:1<=k/\k<=4):sgnL.getD k.toNat []=32::(qGZ k++[32]):=by
 rcases (show k=1∨k=2∨k=3∨k=4 by omega) with rfl | rfl | rfl | rfl <;> decide
theorem qTS (k:Int) (h:1<=k/\k<=4):Pure cx 165 [i64 k] (·=.ret [.str (32::(qGZ k++[32]))]):=by
 refine qAB Tryz.func165 rfl rfl rfl ?_
 refine⟨.p (.str (sgnL.getD k.toNat [])),⟨by show(0:Int)<=k/\k<5;omega, .str (sgnL.getD k.toNat []),qQ2 (by kernel_rfl) (by show(sgnL.map PV.str)[k.toNat * 1]?=some (PV.str (sgnL.getD k.toNat []));rw [Nat.mul_one,List.getElem?_map,List.getD_eq_getElem?_getD,List.getElem?_eq_getElem (show k.toNat<sgnL.length by show k.toNat<5;omega)];rfl),rfl⟩,?_⟩
 exact qAF _ rfl rfl (qFy (qV6 h))
theorem qUv (c:Cd):Pure cx 187 [c.pv] (·=.ret [i64 (lvl c.op)]):=by
 obtain⟨op,n,rel,val,r,st,ar⟩:=c
 refine qAB Tryz.func187 rfl rfl rfl ?_
 refine QAD (fun h9=>?_) (fun h9=>?_)
 ·have h9:op=9:=h9
  exact qAF _ rfl rfl (qDz (by show(1:Int)=((lvl op:Nat):Int);rw [lvl,if_pos h9];rfl))
 have h9:¬ op=9:=h9
 refine QAD (fun h8=>?_) (fun h8=>?_)
 ·have h8:op=8:=h8
  exact qAF _ rfl rfl (qDz (by show(2:Int)=((lvl op:Nat):Int);rw [lvl,if_neg h9,if_pos h8];rfl))
 have h8:¬ op=8:=h8
 refine QAD (fun h7=>?_) (fun h7=>?_)
 ·have h7:op=7:=h7
  exact qAF _ rfl rfl (qDz (by show(3:Int)=((lvl op:Nat):Int);rw [lvl,if_neg h9,if_neg h8,if_pos h7];rfl))
 have h7:¬ op=7:=h7
 exact qAF _ rfl rfl (qDz (by show(4:Int)=((lvl op:Nat):Int);rw [lvl,if_neg h9,if_neg h8,if_neg h7];rfl))
theorem qKX (c:Cd):qAj c ≠ []:=by
 obtain⟨op,n,rel,val,r,st,ar⟩:=c
 rw [qAj,qUw]
 split
 ·simp
 ·split
  ·simp
  ·split
   ·simp
   ·unfold qCF qBY
    split
    ·simp
    ·split <;> simp
theorem qFk (c:Cd) (k:Nat) (h:qFg (qAj c)) (hn:(qAj c).length<=1000) (hw:Pure cx 130 [c.pv] (·=.ret [.str (spW false (qAj c))])):Pure cx 164 [c.pv,i64 k] (·=.ret [.str (spW false (qAW k c))]):=by
 have hl:=qUv c
 have hlen:=qBj false h
 have hm:qAW k c=if lvl c.op<k then tLP::(qAj c++[tRP]) else qAj c:=rfl
 generalize lvl c.op=m at hl hm
 have hx:=qKX c
 generalize qAj c=x at hw hm hlen hn h hx
 obtain⟨op,n,rel,val,r,st,ar⟩:=c
 refine qAB Tryz.func164 rfl rfl rfl ?_
 refine hl.eq rfl ?_
 refine QAD (fun h1=>?_) (fun h1=>?_)
 ·have h1:(m:Int)<(k:Nat):=h1
  refine hw.eq rfl ?_
  refine⟨QAC,?_⟩
  refine⟨QAC,?_⟩
  refine qAF _ rfl rfl (qFy ?_)
  rw [hm,if_pos (by omega)]
  show([40,32]++spW false x)++[32,41]=[]++(tLP++spW true (x++[tRP]))
  rw [qDa,qG2 hx]
  simp [spW]
 ·have h1:¬ (m:Int)<(k:Nat):=h1
  refine hw.eq rfl ?_
  exact qAF _ rfl rfl (qFy (by rw [hm,if_neg (by omega)]))
theorem qJo {x y:qBT} (t:List UInt8) (hx:x ≠ []) (hy:y ≠ []):spW false (x++t::y)=(spW false x++(32::(t++[32])))++spW false y:=by
 rw [qPs hx]
 show spW false x++([32]++(t++spW true y))=_
 rw [qG2 hy]
 simp
theorem qWj {k:Nat} {p:Int × qBT} (h:p.2 ≠ []):inT k p ≠ []:=by
 unfold inT
 split
 ·simp
 ·exact h
theorem qDh (k:Nat) (c:Cd):qAW k c ≠ []:=qWj (qKX c)
theorem qNY (k:Int):(qGZ k).length<=2:=by
 unfold qGZ
 split
 ·decide
 ·split
  ·decide
  ·split <;> decide
def qVl (l:List Int):List UInt8:=(l.flatMap fun n=>[32,44,32]++qAa n)++[32,125]
def spN (k:Nat) (st:List Int):List UInt8:=if k=0 then qAa (st.getD 0 0)++qVl (st.drop 1) else qVl (st.drop k)
theorem qVC {st:List Int} {k:Nat} (h:k<st.length):st.drop k=st.getD k 0::st.drop (k+1):=by
 rw [List.getD_eq_getElem?_getD,List.getElem?_eq_getElem h];exact List.drop_eq_getElem_cons h
theorem qSH {st:List Int} {k:Nat} (h:k<st.length):spN k st=(if 0<k then [32,44,32] else [])++(qAa (st.getD k 0)++spN (k+1) st):=by
 have e:spN (k+1) st=qVl (st.drop (k+1)):=if_neg (by omega)
 rw [e]
 by_cases c:k=0
 ·subst c;rfl
 ·rw [spN,if_neg c,if_pos (by omega),qVC h]
  simp [qVl]
theorem qPx:∀ l:List Int,spW true ((l.flatMap fun b=>qAv::[qAa b])++[tRC])=qVl l
 | []=>rfl
 | n::l=>by
  have ih:=qPx l
  rw [List.flatMap_cons,List.append_assoc,qDa,ih]
  simp [qVl,spW]
theorem qSG {R:qBT} {st:List Int} (hR:R ≠ []) (hs:st ≠ []):(spW false R++[32,105,110,32,123,32])++spN 0 st=spW false (R++([tIn,tLC]++(qFF (fun n=>[qAa n]) st++[tRC]))):=by
 cases st with
 | nil=>exact absurd rfl hs
 | cons n l=>
  show _=spW false (R++([tIn,tLC]++([qAa n]++((l.flatMap fun b=>qAv::[qAa b])++[tRC]))))
  rw [qPs hR,qDa,qDa,qPx]
  simp [spN,spW]
def qXB (d:Nat):Prop:=∀ (c:Cd) (left k:Nat),qAp d c left=some k->left<=30->Pure cx 130 [c.pv] (·=.ret [.str (spW false (qAj c))])
theorem qFb {op n rel val:Int} {r:Rf} {st:List Int} (hb:qAT op n rel val r st=true):qBp r=true/\(op=6->qBm n=true/\qBm val=true/\1<=rel/\rel<=4)/\(op=5->qHO st=true)/\(¬ op=5->¬ op=6->qBm n=true/\1<=op/\op<=4):=by
 unfold qAT at hb
 by_cases c6:op=6
 ·rw [if_neg (by omega),if_neg (by omega),if_pos c6] at hb
  simp only [Bool.and_eq_true,decide_eq_true_eq] at hb
  obtain⟨⟨⟨⟨⟨⟨b1,b2⟩,b3⟩,b4⟩,b5⟩,b6⟩,b7⟩:=hb
  exact⟨b1,fun _=>⟨b3,b4,b5,b6⟩,fun h=>by omega,fun _ h=>absurd c6 h⟩
 ·by_cases c5:op=5
  ·rw [if_neg (by omega),if_pos c5] at hb
   simp only [Bool.and_eq_true,decide_eq_true_eq] at hb
   obtain⟨⟨⟨⟨b1,b2⟩,b3⟩,b4⟩,b5⟩:=hb
   exact⟨b1,fun h=>absurd h c6,fun _=>b5,fun h=>absurd c5 h⟩
  ·by_cases c1:op=1∨op=2∨op=3∨op=4
   ·rw [if_pos c1] at hb
    simp only [Bool.and_eq_true,decide_eq_true_eq] at hb
    exact⟨hb.1.1.1.1,fun h=>absurd h c6,fun h=>absurd h c5,fun _ _=>⟨hb.1.1.1.2,by omega,by omega⟩⟩
   ·rw [if_neg c1,if_neg c5,if_neg c6] at hb
    cases hb
theorem qM8:∀ d,qXB d
 | 0=>fun _ _ _ h _=>by cases h
 | d+1=>fun c left k h hl=>by
  have hd:=qM8 d
  cases qIK h with
  | conj a b l m k ha hb=>
   have ia:=qBc d a l m ha
   have ib:=qBc d b m k hb
   have wa:=qFk a 2 ia.1 (by omega) (hd a l m ha (by omega))
   have wb:=qFk b 3 ib.1 (by omega) (hd b m k hb (by omega))
   have la:=qBj false (qAx (k:=2) ia.1).1
   have lb:=qBj false (qAx (k:=3) ib.1).1
   have ta:=(qAx (k:=2) ia.1).2
   have tb:=(qAx (k:=3) ib.1).2
   have e:=qJo qDj (qDh 2 a) (qDh 3 b)
   rw [<- qCe a b] at e
   generalize spW false (qAj (.mk _ 0 0 0 rf0 [] [a,b]))=R at e ⊢
   generalize spW false (qAW 2 a)=x at wa la e
   generalize spW false (qAW 3 b)=y at wb lb e
   have la:x.length<=20000:=by have:=ia.2;omega
   have lb:y.length<=20000:=by have:=ib.2;omega
   clear hd h ha hb ia ib ta tb
   obtain⟨ao,an,ar,av,af,at',aa⟩:=a
   obtain⟨bo,bn,br,bv,bf,bt,ba⟩:=b
   refine qAB Tryz.func130 rfl rfl rfl ?_
   refine And.intro (fun h=>absurd (show(8:Int)=9 from h) (by decide)) (fun _=>?_)
   refine And.intro (fun _=>?_) (fun h=>absurd rfl h)
   refine VDraw.seq rfl ?_
   refine⟨_,⟨by decide,_,rfl,rfl⟩,?_⟩
   refine⟨_,⟨by decide,_,rfl,rfl⟩,?_⟩
   refine wa.eq rfl ?_
   refine⟨sk,?_⟩
   refine⟨QAB,?_⟩
   refine wb.eq rfl ?_
   refine⟨QAB,?_⟩
   exact qAF _ rfl rfl (qFy e.symm)
  | disj a b l m k ha hb=>
   have ia:=qBc d a l m ha
   have ib:=qBc d b m k hb
   have wa:=qFk a 1 ia.1 (by omega) (hd a l m ha (by omega))
   have wb:=qFk b 2 ib.1 (by omega) (hd b m k hb (by omega))
   have la:=qBj false (qAx (k:=1) ia.1).1
   have lb:=qBj false (qAx (k:=2) ib.1).1
   have ta:=(qAx (k:=1) ia.1).2
   have tb:=(qAx (k:=2) ib.1).2
   have e:=qJo tOr (qDh 1 a) (qDh 2 b)
   rw [<- qCd a b] at e
   generalize spW false (qAj (.mk _ 0 0 0 rf0 [] [a,b]))=R at e ⊢
   generalize spW false (qAW 1 a)=x at wa la e
   generalize spW false (qAW 2 b)=y at wb lb e
   have la:x.length<=20000:=by have:=ia.2;omega
   have lb:y.length<=20000:=by have:=ib.2;omega
   clear hd h ha hb ia ib ta tb
   obtain⟨ao,an,ar,av,af,at',aa⟩:=a
   obtain⟨bo,bn,br,bv,bf,bt,ba⟩:=b
   refine qAB Tryz.func130 rfl rfl rfl ?_
   refine And.intro (fun _=>?_) (fun h=>absurd rfl h)
   refine VDraw.seq rfl ?_
   refine⟨_,⟨by decide,_,rfl,rfl⟩,?_⟩
   refine⟨_,⟨by decide,_,rfl,rfl⟩,?_⟩
   refine wa.eq rfl ?_
   refine⟨sk,?_⟩
   refine⟨QAB,?_⟩
   refine wb.eq rfl ?_
   refine⟨QAB,?_⟩
   exact qAF _ rfl rfl (qFy e.symm)
  | neg a l k ha=>
   have ia:=qBc d a l k ha
   have wa:=qFk a 3 ia.1 (by omega) (hd a l k ha (by omega))
   have la:=qBj false (qAx (k:=3) ia.1).1
   have ta:=(qAx (k:=3) ia.1).2
   have e:spW false (qAj (.mk 7 0 0 0 rf0 [] [a]))=[110,111,116,32]++spW false (qAW 3 a):=by
    rw [qDI]
    show []++(qHF++spW true (qAW 3 a))=_
    rw [qG2 (qDh 3 a)];simp
   generalize spW false (qAj (.mk 7 0 0 0 rf0 [] [a]))=R at e ⊢
   generalize spW false (qAW 3 a)=x at wa la e
   have la:x.length<=20000:=by have:=ia.2;omega
   clear hd h ha ia ta
   obtain⟨ao,an,ar,av,af,at',aa⟩:=a
   refine qAB Tryz.func130 rfl rfl rfl ?_
   refine And.intro (fun h=>absurd (show(7:Int)=9 from h) (by decide)) (fun _=>?_)
   refine And.intro (fun h=>absurd (show(7:Int)=8 from h) (by decide)) (fun _=>?_)
   refine And.intro (fun _=>?_) (fun h=>absurd rfl h)
   refine⟨_,⟨by decide,_,rfl,rfl⟩,?_⟩
   refine wa.eq rfl ?_
   refine⟨QAB,?_⟩
   exact qAF _ rfl rfl (qFy e.symm)
  | leaf op n rel val r st l h7 h8 h9 hb=>
   obtain⟨f1,f2,f3,f4⟩:=qFb hb
   have hR:=qKj r f1
   have lR:=qBj false (qB3 f1).1
   have lR2:=(qB3 f1).2
   have lN:=qCx (t:=r.name) (by rw [qBp,Bool.and_eq_true] at f1;exact f1.1)
   refine qAB Tryz.func130 rfl rfl rfl ?_
   refine And.intro (fun h=>absurd h h9) (fun _=>?_)
   refine And.intro (fun h=>absurd h h8) (fun _=>?_)
   refine And.intro (fun h=>absurd h h7) (fun _=>?_)
   refine QAD (fun h6=>?_) (fun h6=>?_)
   ·have h6:op=6:=h6
    obtain⟨g1,g2,g3⟩:=f2 h6
    have d1:=qDU n
    have d2:=qDU val
    have d3:=qNY rel
    refine VDraw.seq rfl ?_
    refine⟨QAB,?_⟩
    refine⟨QAB,?_⟩
    refine(qCc val g2).eq rfl ?_
    refine⟨sk,?_⟩
    refine⟨QAB,?_⟩
    refine⟨QAB,?_⟩
    refine(qTS rel g3).eq rfl ?_
    refine⟨sk,?_⟩
    refine⟨QAB,?_⟩
    refine(qCc n g1).eq rfl ?_
    refine⟨sk,?_⟩
    refine⟨QAB,?_⟩
    refine qAF _ rfl rfl (qFy ?_)
    have hm:qBY r=[r.name,tLB,qHN,tRB]:=by
     unfold qAT at hb
     rw [if_neg (by omega),if_neg (by omega),if_pos h6] at hb
     simp only [Bool.and_eq_true,decide_eq_true_eq] at hb
     rw [qBY,qE5,if_pos hb.1.1.1.1.1.2]
    rw [qB5 h7 h8 h9,qCF,if_pos h6,hm]
    simp [spW]
   have h6:¬ op=6:=h6
   refine QAD (fun h5=>?_) (fun h5=>?_)
   ·have h5:op=5:=h5
    have hS:=f3 h5
    obtain⟨s1,s2,s3⟩:=qDk hS
    have s8:st.length<=8:=by
     simp only [qHO,Bool.and_eq_true,decide_eq_true_eq] at hS
     exact hS.1.2
    have hT:qAj (.mk op n rel val r st [])=qBY r++([tIn,tLC]++(qFF (fun n=>[qAa n]) st++[tRC])):=by
     rw [qB5 h7 h8 h9,qCF,if_neg h6,if_pos h5]
    generalize qAj (.mk op n rel val r st [])=X at hT ⊢
    refine hR.eq rfl ?_
    have hRn:qBY r ≠ []:=by simp [qBY]
    generalize qBY r=R at lR lR2 hT hRn ⊢
    refine⟨QAB,?_⟩
    have hst:1<=st.length:=List.length_pos_iff.2 s1
    refine⟨List UInt8 × Nat,fun x=>[(1, .ptr 0 0 0),(3, .p (.str x.1)),(4, .p (i64 x.2))],fun _=>⟨1,[(0,cO ((Cd.mk op n rel val r st []).cells.map .p))]⟩,fun x=>x.2<=st.length/\x.1.length<=100+10 * x.2/\x.1++spN x.2 st=spW false X,fun x=>st.length - x.2,?_,?_⟩
    ·exact⟨(spW false R++[32,105,110,32,123,32],0),⟨Nat.zero_le _,by simp only [List.length_append,List.length_cons,List.length_nil];omega,by rw [hT];exact qSG hRn s1⟩,qAC [] [] [] rfl (sk) (sk) rfl⟩
    rintro⟨s,k⟩ ⟨i1,i2,i3⟩
    simp only [] at i1 i2 i3
    refine QAD (fun c1=>?_) (fun c1=>?_)
    rotate_left
    ·have c1:¬ (k:Int)<((st.map i64).length:Nat):=c1
     rw [List.length_map] at c1
     refine⟨QAB,?_⟩
     exact qAF _ rfl rfl (qFy (by rw [<- i3,spN,if_neg (by omega),List.drop_eq_nil_of_le (by omega)];rfl))
    have c1:(k:Int)<((st.map i64).length:Nat):=c1
    rw [List.length_map] at c1
    have hk:k<st.length:=by omega
    have dk:=qDU (st.getD k 0)
    have hN:=qCc (st.getD k 0) (s2 _ (qAJ 0 hk))
    have hsp:=qSH hk
    refine QAD (fun c2=>?_) (fun c2=>?_)
    ·have c2:(0:Int)<(k:Nat):=c2
     refine⟨QAB,?_⟩
     refine⟨_,⟨by omega,i64 (st.getD k 0),qEW hk,rfl⟩,?_⟩
     refine hN.eq rfl ?_
     refine⟨QAB,?_⟩
     refine⟨_,w6z,?_⟩
     exact⟨((s++[32,44,32])++qAa (st.getD k 0),k+1),⟨hk,by simp only [List.length_append,List.length_cons,List.length_nil];omega,by rw [<- i3,hsp,if_pos (by omega)];simp⟩,qAC [] [] [] rfl (sk) (sk) rfl,by show st.length - (k+1)<st.length - k;omega⟩
    ·have c2:¬ (0:Int)<(k:Nat):=c2
     refine⟨_,⟨by omega,i64 (st.getD k 0),qEW hk,rfl⟩,?_⟩
     refine hN.eq rfl ?_
     refine⟨QAB,?_⟩
     refine⟨_,w6z,?_⟩
     exact⟨(s++qAa (st.getD k 0),k+1),⟨hk,by simp only [List.length_append];omega,by rw [<- i3,hsp,if_neg (by omega)];simp⟩,qAC [] [] [] rfl (sk) (sk) rfl,by show st.length - (k+1)<st.length - k;omega⟩
   have h5:¬ op=5:=h5
   obtain⟨g1,g2⟩:=f4 h5 h6
   have d1:=qDU n
   have d3:=qNY op
   refine VDraw.seq rfl ?_
   refine hR.eq rfl ?_
   refine⟨sk,?_⟩
   refine(qTS op g2).eq rfl ?_
   refine⟨sk,?_⟩
   refine⟨QAB,?_⟩
   refine(qCc n g1).eq rfl ?_
   refine⟨QAB,?_⟩
   refine qAF _ rfl rfl (qFy ?_)
   rw [qB5 h7 h8 h9,qCF,if_neg h6,if_neg h5,qPs (by simp [qBY])]
   simp [spW]
def qUH (l:List Rf):List UInt8:=l.flatMap fun r=>[32,44,32]++spW false (qBY r)
def spF (k:Nat) (l:List Rf):List UInt8:=if k=0 then spW false (qFF qBY l) else qUH (l.drop k)
theorem qQH (r:Rf):qBY r ≠ []:=by simp [qBY]
theorem qNO:∀ l:List Rf,spW true (l.flatMap fun b=>qAv::qBY b)=qUH l
 | []=>rfl
 | r::l=>by
  have ih:=qNO l
  rw [List.flatMap_cons,qDa,ih]
  show [32]++(qAv++spW true (qBY r))++qUH l=_
  rw [qG2 (qQH r)]
  simp [qUH]
theorem qX0 {l:List Rf} {k:Nat} (h:k<l.length):l.drop k=l.getD k rf0::l.drop (k+1):=by
 rw [List.getD_eq_getElem?_getD,List.getElem?_eq_getElem h];exact List.drop_eq_getElem_cons h
theorem qSI {l:List Rf} {k:Nat} (h:k<l.length):spF k l=(if 0<k then [32,44,32] else [])++(spW false (qBY (l.getD k rf0))++spF (k+1) l):=by
 have e:spF (k+1) l=qUH (l.drop (k+1)):=if_neg (by omega)
 rw [e]
 by_cases c:k=0
 ·subst c
  rw [spF,if_pos rfl]
  cases l with
  | nil=>simp at h
  | cons r l=>
   rw [qFF,qPs (qQH r),qNO]
   rfl
 ·rw [spF,if_neg c,if_pos (by omega),qX0 h]
  simp [qUH]
theorem qWY (l:List Rf) (hv:∀ r∈l,qBp r=true) (h8:l.length<=8):Pure cx 86 [qBw l] (·=.ret [.str (spW false (qFF qBY l))]):=by
 have hF:=(qFv (f:=qBY) (b:=6) (l:=l) fun a ha=>qB3 (hv a ha))
 have hF1:=qBj false hF.1
 have hF2:=hF.2
 have hm:(l.map Rf.cells).length=l.length:=List.length_map ..
 have h0:spF 0 l=spW false (qFF qBY l):=rfl
 generalize spW false (qFF qBY l)=F at hF1 h0 ⊢
 refine qAB Tryz.func86 rfl rfl rfl ?_
 refine⟨List UInt8 × Nat,fun x=>[(0, .p (qBw l)),(3, .p (.str x.1)),(4, .p (i64 x.2))],fun _=>⟨0,[]⟩,fun x=>x.2<=l.length/\x.1++spF x.2 l=F,fun x=>l.length - x.2,?_,?_⟩
 ·exact⟨([],0),⟨Nat.zero_le _,h0⟩,qCA rfl ⟨rfl,rfl,rfl,trivial⟩ trivial rfl⟩
 rintro⟨s,k⟩ ⟨k1,k2⟩
 simp only [] at k1 k2
 have hs:s.length<=F.length:=by rw [<- k2,List.length_append];omega
 refine QAD (fun m1=>?_) (fun m1=>?_)
 rotate_left
 ·have m1:¬ (k:Int)<((l.map Rf.cells).length:Nat):=m1
  rw [hm] at m1
  refine qAF _ rfl rfl (qFy ?_)
  rw [<- k2]
  unfold spF
  split
  ·rename_i e
   have:l=[]:=List.length_eq_zero_iff.1 (by omega)
   rw [this];simp [qFF,spW]
  ·rw [List.drop_eq_nil_of_le (by omega)];simp [qUH]
 have m1:(k:Int)<((l.map Rf.cells).length:Nat):=m1
 rw [hm] at m1
 have hk:k<l.length:=by omega
 have hr:=hv _ (qAJ rf0 hk)
 have hW:=qKj (l.getD k rf0) hr
 have hWl:=qBj false (qB3 hr).1
 have hWl2:=(qB3 hr).2
 have hsp:=qSI hk
 refine QAD (fun m2=>?_) (fun m2=>?_)
 ·have m2:(0:Int)<(k:Nat):=m2
  rw [if_pos (by omega)] at hsp
  refine⟨QAA,?_⟩
  refine⟨_,⟨by omega,(l.getD k rf0).cells,qIW hk,rfl⟩,?_⟩
  refine hW.eq rfl ?_
  refine⟨QAA,?_⟩
  refine⟨_,w6z,?_⟩
  exact⟨(_,k+1),⟨hk,by rw [<- k2,hsp];simp⟩,qCA rfl ⟨rfl,rfl,rfl,trivial⟩ trivial rfl,by show l.length - (k+1)<l.length - k;omega⟩
 ·have m2:¬ (0:Int)<(k:Nat):=m2
  rw [if_neg (by omega)] at hsp
  refine⟨_,⟨by omega,(l.getD k rf0).cells,qIW hk,rfl⟩,?_⟩
  refine hW.eq rfl ?_
  refine⟨QAA,?_⟩
  refine⟨_,w6z,?_⟩
  exact⟨(_,k+1),⟨hk,by rw [<- k2,hsp];simp⟩,qCA rfl ⟨rfl,rfl,rfl,trivial⟩ trivial rfl,by show l.length - (k+1)<l.length - k;omega⟩
theorem qU0 (n:Int):qGj n ≠ []:=by
 unfold qGj
 split <;> simp
theorem qI7 (n:Int) (l:List Int):spW true (qB8 (n::l))=32::(spW false (qGj n)++spW true (qB8 l)):=by
 show spW true (List.flatMap qGj (n::l))=_
 rw [List.flatMap_cons,qDa,qG2 (qU0 n)];rfl
theorem qVD {l:List Cs} {k:Nat} (h:k<l.length):l.drop k=l.getD k cs0::l.drop (k+1):=by
 rw [List.getD_eq_getElem?_getD,List.getElem?_eq_getElem h];exact List.drop_eq_getElem_cons h
def qGW (l:List Cs) (i:Nat):List UInt8:=spW true (qBd (l.drop i)++[tRC])
theorem qOf {l:List Cs} {i:Nat} {c:Cd} {ns:List Int} (h:i+1=l.length) (hx:l.getD i cs0=⟨c,ns⟩):qGW l i=[32,101,108,115,101,32,58]++(spW true (qB8 ns)++qGW l (i+1)):=by
 rw [qGW,qGW,qVD (by omega),hx,List.drop_eq_nil_of_le (show l.length<=i+1 by omega)]
 show spW true ((qCK::qAq::qB8 ns)++[tRC])=_++(_++spW true [tRC])
 rw [show(qCK::qAq::qB8 ns)++[tRC]=[qCK,qAq]++(qB8 ns++[tRC]) by simp,qDa,qDa]
 simp [spW]
theorem qOe {l:List Cs} {i:Nat} {c:Cd} {ns:List Int} (h:i+1<l.length) (hx:l.getD i cs0=⟨c,ns⟩):qGW l i=32::(spW false (qAj c)++([32,58]++(spW true (qB8 ns)++([32,59]++qGW l (i+1))))):=by
 obtain⟨d,r,hd⟩:∃ d r,l.drop (i+1)=d::r:=⟨_,_,qVD h⟩
 rw [qGW,qGW,qVD (by omega),hx,hd]
 show spW true ((qAj c++(qAq::(qB8 ns++(qAY::qBd (d::r)))))++[tRC])=_
 rw [show(qAj c++(qAq::(qB8 ns++(qAY::qBd (d::r)))))++[tRC]=qAj c++([qAq]++(qB8 ns++([qAY]++(qBd (d::r)++[tRC])))) by simp,qDa,qDa,qDa,qDa,qG2 (qKX c)]
 simp [spW]
theorem qP5 (l:List Cs) (hv:qBG l=true):Pure cx 87 [css l] (·=.ret [.str (spW false (qA4 l))]):=by
 have hF:=qEb hv
 have hF1:=qBj false hF.1
 have hF2:=hF.2
 have h0:[123]++qGW l 0=spW false (qA4 l):=by rw [qA4];rfl
 generalize spW false (qA4 l)=F at hF1 h0 ⊢
 have hm:(l.map Cs.cells).length=l.length:=List.length_map ..
 simp only [qBG,Bool.and_eq_true,decide_eq_true_eq] at hv
 obtain⟨⟨v1,v2⟩,v3⟩:=hv
 refine qAB Tryz.func87 rfl rfl rfl ?_
 refine⟨List UInt8 × Nat,fun x=>[(0, .p (css l)),(3, .p (.str x.1)),(4, .p (i64 x.2))],fun _=>⟨0,[]⟩,fun x=>x.2<=l.length/\qBo (l.drop x.2)=true/\x.1++qGW l x.2=F,fun x=>l.length - x.2,?_,?_⟩
 ·exact⟨(_,0),⟨Nat.zero_le _,v3,h0⟩,qCA rfl ⟨rfl,rfl,rfl,trivial⟩ trivial rfl⟩
 clear h0
 rintro⟨s0,i⟩ ⟨i0,i2,i3⟩
 simp only [] at i0 i2 i3
 have hs0:s0.length<=F.length:=by rw [<- i3,List.length_append];omega
 refine QAD (fun j1=>?_) (fun j1=>?_)
 rotate_left
 ·have j1:¬ (i:Int)<((l.map Cs.cells).length:Nat):=j1
  rw [hm] at j1
  refine⟨QAA,?_⟩
  refine qAF _ rfl rfl (qFy ?_)
  rw [<- i3,qGW,List.drop_eq_nil_of_le (by omega)]
  rfl
 have j1:(i:Int)<((l.map Cs.cells).length:Nat):=j1
 rw [hm] at j1
 have i1:i<l.length:=by omega
 have hcell:=qKv i1
 have hstep:=fun h=>qEG (l:=l) (i:=i) h
 have hlast:=fun h=>qEH (l:=l) (i:=i) h
 rcases hx:l.getD i cs0 with ⟨⟨op,n,rel,val,r,st,ar⟩,nums⟩
 rw [hx] at hcell hstep hlast
 simp only [] at hstep hlast
 have hnm:(nums.map i64).length=nums.length:=List.length_map ..
 have hnums:qCS nums=true:=by
  rcases Nat.lt_or_ge (i+1) l.length with h3 | h3
  ·rw [hstep h3] at i2
   simp only [Bool.and_eq_true] at i2
   exact i2.1.1
  ·rw [hlast (by omega)] at i2
   simp only [Bool.and_eq_true] at i2
   exact i2.1
 obtain⟨_,_,hwt⟩:=qGd hnums
 refine⟨((l.length - 1:Nat):Int),by show _=IntKind.i64.wrap (((l.map Cs.cells).length:Int) - 1);rw [hm,show(l.length:Int) - 1=((l.length - 1:Nat):Int) by omega];exact w6z,?_⟩
 refine QAD (fun m4=>?_) (fun m4=>?_)
 ·have m4:(i:Int)=((l.length - 1:Nat):Int):=m4
  have hR:=qOf (by omega) hx
  obtain⟨T,hT⟩:∃ T,T=qGW l (i+1):=⟨_,rfl⟩
  rw [<- hT] at hR
  refine⟨QAA,?_⟩
  refine⟨List UInt8 × Nat,fun y=>[(0, .p (css l)),(3, .p (.str y.1)),(4, .p (i64 i)),(5, .p (i64 y.2))],fun _=>⟨0,[]⟩,fun y=>y.2<=nums.length/\y.1++(spW true (qB8 (nums.drop y.2))++T)=F,fun y=>nums.length - y.2,?_,?_⟩
  ·exact⟨(_,0),⟨Nat.zero_le _,(by rw [<- i3,hR];simp)⟩,qCA rfl ⟨rfl,rfl,rfl,rfl,trivial⟩ trivial rfl⟩
  rintro⟨s,k⟩ ⟨k1,k2⟩
  simp only [] at k1 k2
  have hs:s.length<=F.length:=by rw [<- k2,List.length_append];omega
  refine⟨_,⟨by omega,(⟨.mk op n rel val r st ar,nums⟩:Cs).cells,hcell,rfl⟩,?_⟩
  refine QAD (fun m1=>?_) (fun m1=>?_)
  ·have m1:(k:Int)<((nums.map i64).length:Nat):=m1
   rw [hnm] at m1
   have hk:k<nums.length:=by omega
   have hw:=hwt _ (qAJ 0 hk)
   have hWl:=qBj false (qGA hw).1
   have hWl2:=(qGA hw).2
   refine⟨QAA,?_⟩
   refine⟨_,⟨by omega,(⟨.mk op n rel val r st ar,nums⟩:Cs).cells,hcell,rfl⟩,?_⟩
   refine⟨_,⟨by omega,i64 (nums.getD k 0),qEW hk,rfl⟩,?_⟩
   refine(qH8 _ hw).eq rfl ?_
   refine⟨QAA,?_⟩
   refine⟨_,w6z,?_⟩
   exact⟨(_,k+1),⟨hk,by rw [<- k2,qVC hk,qI7];simp⟩,qCA rfl ⟨rfl,rfl,rfl,rfl,trivial⟩ trivial rfl,by show nums.length - (k+1)<nums.length - k;omega⟩
  have m1:¬ (k:Int)<((nums.map i64).length:Nat):=m1
  rw [hnm] at m1
  rw [List.drop_eq_nil_of_le (by omega)] at k2
  have k2:s++T=F:=k2
  refine⟨((l.length - 1:Nat):Int),by show _=IntKind.i64.wrap (((l.map Cs.cells).length:Int) - 1);rw [hm,show(l.length:Int) - 1=((l.length - 1:Nat):Int) by omega];exact w6z,?_⟩
  skip
  refine And.intro (fun h=>absurd (show(i:Int)<((l.length - 1:Nat):Int) from h) (by omega)) (fun _=>?_)
  refine⟨_,w6z,?_⟩
  exact⟨(s,i+1),⟨by omega,by rw [List.drop_eq_nil_of_le (by omega)];rfl,by rw [<- hT];exact k2⟩,qCA rfl ⟨rfl,rfl,rfl,trivial⟩ trivial rfl,by show l.length - (i+1)<l.length - i;omega⟩
 have m4:¬ (i:Int)=((l.length - 1:Nat):Int):=m4
 have hR:=qOe (by omega) hx
 obtain⟨T,hT⟩:∃ T,T=qGW l (i+1):=⟨_,rfl⟩
 rw [<- hT] at hR
 rw [hstep (by omega)] at i2
 simp only [Bool.and_eq_true] at i2
 obtain⟨⟨_,i4⟩,i5⟩:=i2
 obtain⟨kk,hk8⟩:=Option.isSome_iff_exists.1 i4
 have hW:=qM8 8 (.mk op n rel val r st ar) 30 kk hk8 (by omega)
 have hct:=qBc 8 (.mk op n rel val r st ar) 30 kk hk8
 have hcl:=qBj false hct.1
 have hcl2:=hct.2
 generalize spW false (qAj (.mk op n rel val r st ar))=X at hW hcl hR
 refine⟨QAA,?_⟩
 refine⟨_,⟨by omega,(⟨.mk op n rel val r st ar,nums⟩:Cs).cells,hcell,rfl⟩,?_⟩
 refine hW.eq rfl ?_
 refine⟨QAA,?_⟩
 refine⟨QAA,?_⟩
 refine⟨List UInt8 × Nat,fun y=>[(0, .p (css l)),(3, .p (.str y.1)),(4, .p (i64 i)),(5, .p (i64 y.2))],fun _=>⟨0,[]⟩,fun y=>y.2<=nums.length/\y.1++(spW true (qB8 (nums.drop y.2))++([32,59]++T))=F,fun y=>nums.length - y.2,?_,?_⟩
 ·exact⟨(_,0),⟨Nat.zero_le _,(by rw [<- i3,hR];simp)⟩,qCA rfl ⟨rfl,rfl,rfl,rfl,trivial⟩ trivial rfl⟩
 rintro⟨s,k⟩ ⟨k1,k2⟩
 simp only [] at k1 k2
 have hs:s.length<=F.length:=by rw [<- k2,List.length_append];omega
 refine⟨_,⟨by omega,(⟨.mk op n rel val r st ar,nums⟩:Cs).cells,hcell,rfl⟩,?_⟩
 refine QAD (fun m1=>?_) (fun m1=>?_)
 ·have m1:(k:Int)<((nums.map i64).length:Nat):=m1
  rw [hnm] at m1
  have hk:k<nums.length:=by omega
  have hw:=hwt _ (qAJ 0 hk)
  have hWl:=qBj false (qGA hw).1
  have hWl2:=(qGA hw).2
  refine⟨QAA,?_⟩
  refine⟨_,⟨by omega,(⟨.mk op n rel val r st ar,nums⟩:Cs).cells,hcell,rfl⟩,?_⟩
  refine⟨_,⟨by omega,i64 (nums.getD k 0),qEW hk,rfl⟩,?_⟩
  refine(qH8 _ hw).eq rfl ?_
  refine⟨QAA,?_⟩
  refine⟨_,w6z,?_⟩
  exact⟨(_,k+1),⟨hk,by rw [<- k2,qVC hk,qI7];simp⟩,qCA rfl ⟨rfl,rfl,rfl,rfl,trivial⟩ trivial rfl,by show nums.length - (k+1)<nums.length - k;omega⟩
 have m1:¬ (k:Int)<((nums.map i64).length:Nat):=m1
 rw [hnm] at m1
 rw [List.drop_eq_nil_of_le (by omega)] at k2
 have k2:s++([32,59]++T)=F:=k2
 refine⟨((l.length - 1:Nat):Int),by show _=IntKind.i64.wrap (((l.map Cs.cells).length:Int) - 1);rw [hm,show(l.length:Int) - 1=((l.length - 1:Nat):Int) by omega];exact w6z,?_⟩
 skip
 refine And.intro (fun _=>?_) (fun h=>absurd (show(i:Int)<((l.length - 1:Nat):Int) by omega) h)
 refine⟨QAA,?_⟩
 refine⟨_,w6z,?_⟩
 exact⟨(s++[32,59],i+1),⟨by omega,i5,by rw [<- hT,List.append_assoc];exact k2⟩,qCA rfl ⟨rfl,rfl,rfl,trivial⟩ trivial rfl,by show l.length - (i+1)<l.length - i;omega⟩
theorem qJn {H:qBT} (h:H ≠ []):spW false H++[32,59,10]=spW false (H++[qAY])++[10]:=by
 rw [qPs h];simp [spW]
theorem qNM {S:List UInt8} {H:qBT} {key:List UInt8} {rs:List Rf} (h:H ≠ []) (hS:S=spW false H) (hr:rs ≠ []):(S++(32::(key++[32])))++spW false (qFF qBY rs)=spW false (H++qAe key rs):=by
 have hs:qFF qBY rs ≠ []:=by
  cases rs with
  | nil=>exact absurd rfl hr
  | cons r rs=>rw [qFF];simp [qBY]
 rw [hS,qAe,if_neg hr,qJo key h hs]
theorem qSN (l:List Cs):qA4 l ≠ []:=by simp [qA4]
theorem qNL {S:List UInt8} {H:qBT} {cs:List Cs} (h:H ≠ []) (hS:S=spW false H):(S++[32,61,32])++spW false (qA4 cs)=spW false (H++tEq::qA4 cs):=by
 rw [hS,qJo tEq h (qSN cs)];rfl
theorem qLb {α:Type} {a b:List α} (h:a ≠ []):a++b ≠ []:=by
 cases a with
 | nil=>exact absurd rfl h
 | cons x a=>simp
theorem qMQ {S:List UInt8} {H:qBT} {key:List UInt8} {rs:List Rf} {cs:List Cs} (h:H ≠ []) (hS:S=spW false H) (hr:rs ≠ []):((((S++(32::(key++[32])))++spW false (qFF qBY rs))++[32,61,32])++spW false (qA4 cs))++[32,59,10]=spW false ((H++(qAe key rs++tEq::qA4 cs))++[qAY])++[10]:=by
 rw [qNM h hS hr,qNL (qLb h) rfl,qJn (qLb (qLb h)),List.append_assoc H]
theorem qQv {S:List UInt8} {H:qBT} {key:List UInt8} {cs:List Cs} (h:H ≠ []) (hS:S=spW false H):((S++[32,61,32])++spW false (qA4 cs))++[32,59,10]=spW false ((H++(qAe key []++tEq::qA4 cs))++[qAY])++[10]:=by
 rw [qNL h hS,qJn (qLb h)];rfl
theorem qWZ {S:List UInt8} {H:qBT} {key:List UInt8} {rs:List Rf} (h:H ≠ []) (hS:S=spW false H) (hr:rs ≠ []):((S++(32::(key++[32])))++spW false (qFF qBY rs))++[32,59,10]=spW false ((H++qAe key rs)++[qAY])++[10]:=by
 rw [qNM h hS hr,qJn (qLb h)]
theorem qQw {S:List UInt8} {H:qBT} (h:H ≠ []) (hS:S=spW false H):S++[32,59,10]=spW false (H++[qAY])++[10]:=by
 rw [hS,qJn h]
theorem qUM (d:De) (hv:qBh d=true):Pure cx 53 [d.pv] (·=.ret [.str (qHI d)]):=by
 obtain⟨k,n,nm,pl,rs,cs⟩:=d
 simp only [qBh,Bool.and_eq_true,decide_eq_true_eq,List.all_eq_true] at hv
 obtain⟨⟨⟨v1,v2⟩,v3⟩,v4⟩:=hv
 have hN:=qCc n v1
 have hNl:=qDU n
 have hL:=qWY rs v3 v2
 have hLt:=(qFv (f:=qBY) (b:=6) (l:=rs) fun a ha=>qB3 (v3 a ha))
 have hLl:=qBj false hLt.1
 have hLl2:=hLt.2
 unfold qAs at v4
 simp only [] at v4
 by_cases c1:k=1
 ·subst c1
  simp only [if_true,Bool.and_eq_true,decide_eq_true_eq] at v4
  obtain⟨⟨⟨rfl,rfl⟩,v5⟩,v6⟩:=v4
  have:=List.length_eq_zero_iff.1 v5
  have:=List.length_eq_zero_iff.1 v6
  subst rs cs
  refine qAB Tryz.func53 rfl rfl rfl ?_
  refine And.intro (fun _=>?_) (fun h=>absurd rfl h)
  refine hN.eq rfl ?_
  refine⟨QAA,?_⟩
  refine And.intro (fun h=>absurd (show(0:Int)<((([]:List Rf).map Rf.cells).length:Nat) from h) (by decide)) (fun _=>?_)
  refine And.intro (fun h=>absurd (show(0:Int)<((([]:List Cs).map Cs.cells).length:Nat) from h) (by decide)) (fun _=>?_)
  refine⟨QAA,?_⟩
  refine qAF _ rfl rfl (qFy ?_)
  exact qQw (H:=[qCN,qAa n]) (by simp) (by simp [spW])
 rw [if_neg c1] at v4
 by_cases c2:k=2
 ·subst c2
  simp only [if_true,Bool.and_eq_true,decide_eq_true_eq] at v4
  obtain⟨⟨⟨v0,rfl⟩,v5⟩,v6⟩:=v4
  have:=List.length_eq_zero_iff.1 v5
  have:=List.length_eq_zero_iff.1 v6
  subst rs cs
  have hnl:=qCx v0
  refine qAB Tryz.func53 rfl rfl rfl ?_
  refine And.intro (fun h=>absurd (show(2:Int)=1 from h) (by decide)) (fun _=>?_)
  refine And.intro (fun _=>?_) (fun h=>absurd rfl h)
  refine VDraw.seq rfl ?_
  refine⟨QAA,?_⟩
  refine⟨QAA,?_⟩
  refine hN.eq rfl ?_
  refine⟨sk,?_⟩
  refine⟨QAA,?_⟩
  refine And.intro (fun h=>absurd (show(0:Int)<((([]:List Rf).map Rf.cells).length:Nat) from h) (by decide)) (fun _=>?_)
  refine And.intro (fun h=>absurd (show(0:Int)<((([]:List Cs).map Cs.cells).length:Nat) from h) (by decide)) (fun _=>?_)
  refine⟨QAA,?_⟩
  refine qAF _ rfl rfl (qFy ?_)
  exact qQw (H:=[qCM,nm,tEq,qAa n]) (by simp) (by simp [spW])
 rw [if_neg c2] at v4
 by_cases c3:k=3
 ·subst c3
  simp only [if_true,Bool.and_eq_true,Bool.or_eq_true,decide_eq_true_eq] at v4
  obtain⟨⟨v0,v5⟩,v6⟩:=v4
  have hnl:=qCx v0
  have hC:=qP5 cs v6
  have hCt:=qEb v6
  have hCl:=qBj false hCt.1
  have hCl2:=hCt.2
  have hcs:1<=cs.length:=by
   simp only [qBG,Bool.and_eq_true,decide_eq_true_eq] at v6
   exact v6.1.1
  refine qAB Tryz.func53 rfl rfl rfl ?_
  refine And.intro (fun h=>absurd (show(3:Int)=1 from h) (by decide)) (fun _=>?_)
  refine And.intro (fun h=>absurd (show(3:Int)=2 from h) (by decide)) (fun _=>?_)
  refine And.intro (fun _=>?_) (fun h=>absurd rfl h)
  refine⟨QAA,?_⟩
  by_cases hp:pl=[]
  ·refine And.intro (fun _=>?_) (fun h=>absurd hp h)
   refine⟨QAA,?_⟩
   refine hN.eq rfl ?_
   refine⟨QAA,?_⟩
   have e:qMb ⟨3,n,nm,pl,rs,cs⟩=[qAl,nm,qAq,qAa n]++(qAe qAg rs++tEq::qA4 cs):=by rw [hp];rfl
   rw [qHI,declT,e]
   by_cases hrs:rs=[]
   ·refine And.intro (fun h=>absurd (show(0:Int)<((rs.map Rf.cells).length:Nat) from h) (by rw [hrs];decide)) (fun _=>?_)
    refine And.intro (fun _=>?_) (fun h=>absurd (show(0:Int)<((cs.map Cs.cells).length:Nat) by rw [List.length_map];omega) h)
    refine⟨QAA,?_⟩
    refine hC.eq rfl ?_
    refine⟨QAA,?_⟩
    refine⟨QAA,?_⟩
    refine qAF _ rfl rfl (qFy ?_)
    subst hrs
    refine qQv (H:=[qAl,nm,qAq,qAa n]) (key:=qAg) (by simp) ?_
    simp [spW]
   ·refine And.intro (fun _=>?_) (fun h=>absurd (show(0:Int)<((rs.map Rf.cells).length:Nat) by rw [List.length_map];have:=List.length_pos_iff.2 hrs;omega) h)
    refine⟨QAA,?_⟩
    refine hL.eq rfl ?_
    refine⟨QAA,?_⟩
    refine And.intro (fun _=>?_) (fun h=>absurd (show(0:Int)<((cs.map Cs.cells).length:Nat) by rw [List.length_map];omega) h)
    refine⟨QAA,?_⟩
    refine hC.eq rfl ?_
    refine⟨QAA,?_⟩
    refine⟨QAA,?_⟩
    refine qAF _ rfl rfl (qFy ?_)
    refine qMQ (H:=[qAl,nm,qAq,qAa n]) (key:=qAg) (by simp) ?_ hrs
    simp [spW]
  ·have hpl:=qCx (v5.resolve_left hp)
   refine And.intro (fun h=>absurd h hp) (fun _=>?_)
   refine⟨QAA,?_⟩
   refine⟨QAA,?_⟩
   refine⟨QAA,?_⟩
   refine⟨QAA,?_⟩
   refine hN.eq rfl ?_
   refine⟨QAA,?_⟩
   have e:qMb ⟨3,n,nm,pl,rs,cs⟩=[qAl,nm,tLB,pl,tRB,qAq,qAa n]++(qAe qAg rs++tEq::qA4 cs):=by
    show [qAl,nm]++((if pl=[] then [] else [tLB,pl,tRB])++([qAq,qAa n]++(qAe qAg rs++(tEq::qA4 cs))))=_
    rw [if_neg hp];rfl
   rw [qHI,declT,e]
   by_cases hrs:rs=[]
   ·refine And.intro (fun h=>absurd (show(0:Int)<((rs.map Rf.cells).length:Nat) from h) (by rw [hrs];decide)) (fun _=>?_)
    refine And.intro (fun _=>?_) (fun h=>absurd (show(0:Int)<((cs.map Cs.cells).length:Nat) by rw [List.length_map];omega) h)
    refine⟨QAA,?_⟩
    refine hC.eq rfl ?_
    refine⟨QAA,?_⟩
    refine⟨QAA,?_⟩
    refine qAF _ rfl rfl (qFy ?_)
    subst hrs
    refine qQv (H:=[qAl,nm,tLB,pl,tRB,qAq,qAa n]) (key:=qAg) (by simp) ?_
    simp [spW]
   ·refine And.intro (fun _=>?_) (fun h=>absurd (show(0:Int)<((rs.map Rf.cells).length:Nat) by rw [List.length_map];have:=List.length_pos_iff.2 hrs;omega) h)
    refine⟨QAA,?_⟩
    refine hL.eq rfl ?_
    refine⟨QAA,?_⟩
    refine And.intro (fun _=>?_) (fun h=>absurd (show(0:Int)<((cs.map Cs.cells).length:Nat) by rw [List.length_map];omega) h)
    refine⟨QAA,?_⟩
    refine hC.eq rfl ?_
    refine⟨QAA,?_⟩
    refine⟨QAA,?_⟩
    refine qAF _ rfl rfl (qFy ?_)
    refine qMQ (H:=[qAl,nm,tLB,pl,tRB,qAq,qAa n]) (key:=qAg) (by simp) ?_ hrs
    simp [spW]
 rw [if_neg c3] at v4
 by_cases c4:k=4
 ·subst c4
  simp only [if_true,Bool.and_eq_true,decide_eq_true_eq] at v4
  obtain⟨⟨v0,rfl⟩,v6⟩:=v4
  have:=List.length_eq_zero_iff.1 v6
  subst cs
  have hnl:=qCx v0
  refine qAB Tryz.func53 rfl rfl rfl ?_
  refine And.intro (fun h=>absurd (show(4:Int)=1 from h) (by decide)) (fun _=>?_)
  refine And.intro (fun h=>absurd (show(4:Int)=2 from h) (by decide)) (fun _=>?_)
  refine And.intro (fun h=>absurd (show(4:Int)=3 from h) (by decide)) (fun _=>?_)
  refine And.intro (fun _=>?_) (fun h=>absurd rfl h)
  refine VDraw.seq rfl ?_
  refine⟨QAA,?_⟩
  refine⟨QAA,?_⟩
  refine hN.eq rfl ?_
  refine⟨sk,?_⟩
  refine⟨QAA,?_⟩
  by_cases hrs:rs=[]
  ·refine And.intro (fun h=>absurd (show(0:Int)<((rs.map Rf.cells).length:Nat) from h) (by rw [hrs];decide)) (fun _=>?_)
   refine And.intro (fun h=>absurd (show(0:Int)<((([]:List Cs).map Cs.cells).length:Nat) from h) (by decide)) (fun _=>?_)
   refine⟨QAA,?_⟩
   refine qAF _ rfl rfl (qFy ?_)
   subst hrs
   exact qQw (H:=[qBM,nm,qAq,qAa n]) (by simp) (by simp [spW])
  ·refine And.intro (fun _=>?_) (fun h=>absurd (show(0:Int)<((rs.map Rf.cells).length:Nat) by rw [List.length_map];have:=List.length_pos_iff.2 hrs;omega) h)
   refine⟨QAA,?_⟩
   refine hL.eq rfl ?_
   refine⟨QAA,?_⟩
   refine And.intro (fun h=>absurd (show(0:Int)<((([]:List Cs).map Cs.cells).length:Nat) from h) (by decide)) (fun _=>?_)
   refine⟨QAA,?_⟩
   refine qAF _ rfl rfl (qFy ?_)
   refine qWZ (H:=[qBM,nm,qAq,qAa n]) (key:=qBt) (by simp) ?_ hrs
   simp [spW]
 rw [if_neg c4] at v4
 by_cases c5:k=5
 ·subst c5
  simp only [if_true,Bool.and_eq_true,decide_eq_true_eq] at v4
  obtain⟨⟨⟨rfl,rfl⟩,rfl⟩,v6⟩:=v4
  have hC:=qP5 cs v6
  have hCt:=qEb v6
  have hCl:=qBj false hCt.1
  have hCl2:=hCt.2
  have hcs:1<=cs.length:=by
   simp only [qBG,Bool.and_eq_true,decide_eq_true_eq] at v6
   exact v6.1.1
  refine qAB Tryz.func53 rfl rfl rfl ?_
  refine And.intro (fun h=>absurd (show(5:Int)=1 from h) (by decide)) (fun _=>?_)
  refine And.intro (fun h=>absurd (show(5:Int)=2 from h) (by decide)) (fun _=>?_)
  refine And.intro (fun h=>absurd (show(5:Int)=3 from h) (by decide)) (fun _=>?_)
  refine And.intro (fun h=>absurd (show(5:Int)=4 from h) (by decide)) (fun _=>?_)
  have e:qMb ⟨5,0,[],[],rs,cs⟩=[qBu]++(qAe qAg rs++tEq::qA4 cs):=rfl
  rw [qHI,declT,e]
  by_cases hrs:rs=[]
  ·refine And.intro (fun h=>absurd (show(0:Int)<((rs.map Rf.cells).length:Nat) from h) (by rw [hrs];decide)) (fun _=>?_)
   refine And.intro (fun _=>?_) (fun h=>absurd (show(0:Int)<((cs.map Cs.cells).length:Nat) by rw [List.length_map];omega) h)
   refine⟨QAA,?_⟩
   refine hC.eq rfl ?_
   refine⟨QAA,?_⟩
   refine⟨QAA,?_⟩
   refine qAF _ rfl rfl (qFy ?_)
   subst hrs
   refine qQv (H:=[qBu]) (key:=qAg) (by simp) ?_
   simp [spW]
  ·refine And.intro (fun _=>?_) (fun h=>absurd (show(0:Int)<((rs.map Rf.cells).length:Nat) by rw [List.length_map];have:=List.length_pos_iff.2 hrs;omega) h)
   refine⟨QAA,?_⟩
   refine hL.eq rfl ?_
   refine⟨QAA,?_⟩
   refine And.intro (fun _=>?_) (fun h=>absurd (show(0:Int)<((cs.map Cs.cells).length:Nat) by rw [List.length_map];omega) h)
   refine⟨QAA,?_⟩
   refine hC.eq rfl ?_
   refine⟨QAA,?_⟩
   refine⟨QAA,?_⟩
   refine qAF _ rfl rfl (qFy ?_)
   refine qMQ (H:=[qBu]) (key:=qAg) (by simp) ?_ hrs
   simp [spW]
 ·rw [if_neg c5] at v4
  cases v4
theorem qLA {d:De} (hv:qBh d=true):(qHI d).length<=200000:=by
 have:=qDv hv
 have h2:=qBj false this.1
 rw [qHI,List.length_append]
 have h3:=this.2
 simp only [List.length_cons,List.length_nil]
 omega
theorem qIn (d:De) (ds:List De):qBl (d::ds)=qHI d++qBl ds:=rfl
theorem qHf:∀ {ds:List De},(∀ d∈ds,qBh d=true)->(qBl ds).length<=200000 * ds.length
 | [],_=>by simp [qBl]
 | d::ds,h=>by
  have h1:=qLA (h d (List.mem_cons_self ..))
  have h2:=qHf (ds:=ds) fun x hx=>h x (List.mem_cons_of_mem _ hx)
  rw [qIn,List.length_append,List.length_cons,Nat.mul_succ]
  omega
theorem qVS (ds:List De) (hv:qBP ds=true):Pure cx 20 [qCT ds] (·=.ret [.str (qBl ds)]):=by
 obtain⟨v1,v2⟩:=qEs hv
 have hF:=qHf v2
 have h0:[]++qBl (ds.drop 0)=qBl ds:=rfl
 generalize qBl ds=F at hF h0 ⊢
 have hm:(ds.map De.cells).length=ds.length:=List.length_map ..
 refine qAB Tryz.func20 rfl rfl rfl ?_
 refine⟨List UInt8 × Nat,fun x=>[(1, .ptr 0 0 0),(3, .p (.str x.1)),(4, .p (i64 x.2))],fun _=>⟨1,[(0,srO (.p (des ds)))]⟩,fun x=>x.2<=ds.length/\x.1++qBl (ds.drop x.2)=F,fun x=>ds.length - x.2,?_,?_⟩
 ·exact⟨([],0),⟨Nat.zero_le _,h0⟩,qAC [] [] [] rfl (sk) (sk) rfl⟩
 rintro⟨s,k⟩ ⟨k1,k2⟩
 simp only [] at k1 k2
 have hs:s.length<=F.length:=by rw [<- k2,List.length_append];omega
 refine QAD (fun m1=>?_) (fun m1=>?_)
 ·have m1:(k:Int)<((ds.map De.cells).length:Nat):=m1
  rw [hm] at m1
  have hk:k<ds.length:=by omega
  have hd:=v2 _ (qAJ de0 hk)
  have hl:=qLA hd
  have hW:=qUM (ds.getD k de0) hd
  have e:ds.drop k=ds.getD k de0::ds.drop (k+1):=by
   rw [List.getD_eq_getElem?_getD,List.getElem?_eq_getElem hk];exact List.drop_eq_getElem_cons hk
  refine⟨_,⟨by omega,(ds.getD k de0).cells,qIJ hk,rfl⟩,?_⟩
  refine hW.eq rfl ?_
  refine⟨QAA,?_⟩
  refine⟨_,w6z,?_⟩
  exact⟨(s++qHI (ds.getD k de0),k+1),⟨hk,by rw [<- k2,e,qIn,List.append_assoc]⟩,qAC [] [] [] rfl (sk) (sk) rfl,by show ds.length - (k+1)<ds.length - k;omega⟩
 ·have m1:¬ (k:Int)<((ds.map De.cells).length:Nat):=m1
  rw [hm] at m1
  refine qAF _ rfl rfl (qFy ?_)
  rw [<- k2,List.drop_eq_nil_of_le (by omega)];simp [qBl]
theorem qL8 {ds:List De} (hv:qBP ds=true):(qHG (qBl ds)).2.2.2=0 ↔ (qBl ds).length<=8000/\qHJ ds<=1500:=by
 obtain⟨h1,h2⟩:=qOj (e:=[10]) qWm hv
 have e:qOa [10] ds=qBl ds:=rfl
 rw [e] at h1 h2
 unfold qHG
 by_cases c8:8000<(qBl ds).length
 ·rw [if_pos c8]
  exact⟨fun h=>absurd h (by decide),fun h=>absurd h.1 (by omega)⟩
 rw [if_neg c8]
 by_cases c:qHJ ds<=1500
 ·obtain⟨ws,hw⟩:=h1 c
  rw [hw]
  exact⟨fun _=>⟨by omega,c⟩,fun _=>rfl⟩
 ·obtain⟨p,k,hw⟩:=h2 (by omega)
  have hk:=qDn _ _ _ _ _ _ (show qDe _ _ _ _=.err p k from hw)
  rw [hw]
  refine⟨fun h=>?_,fun h=>absurd h.2 c⟩
  have h:k=0:=h
  omega
theorem qUZ (ds:List De) (hb:BigP ds):Pure cx 14 [qCT ds] (·=.ret (txtV ds)):=by
 have hR:=qUb ds hb
 refine qAB Tryz.func14 rfl rfl rfl ?_
 by_cases hv:qBP ds=true
 rotate_left
 ·rw [Bool.not_eq_true] at hv
  have e:txtV ds=[.str [],i64 380]:=by rw [txtV,if_neg (by rw [hv];decide)]
  rw [hv] at hR
  refine hR.eq rfl ?_
  exact qEC (.str []) (i64 380) rfl rfl rfl (by rw [e] <;> rfl)
 have hT:=qL8 hv
 have hC:=qVS ds hv
 have hW:=qSb (qBl ds)
 have e1:(qBl ds).length<=8000/\qHJ ds<=1500->txtV ds=[.str (qBl ds),i64 0]:=fun h=>by rw [txtV,if_pos hv,if_pos h]
 have e2:¬ ((qBl ds).length<=8000/\qHJ ds<=1500)->txtV ds=[.str [],i64 3]:=fun h=>by rw [txtV,if_pos hv,if_neg h]
 rw [hv] at hR
 generalize txtV ds=X at e1 e2 ⊢
 generalize qBl ds=S at hT hC hW e1 e2
 refine hR.eq rfl ?_
 refine hC.eq rfl ?_
 generalize qHG S=z at hW hT
 obtain⟨ws,a,b,c⟩:=z
 have hT:c=0 ↔ _:=hT
 refine hW.eq rfl ?_
 refine And.intro (fun h=>?_) (fun h=>?_)
 ·have h:c=0:=h
  exact qEC (.str S) (i64 0) rfl rfl rfl (by rw [e1 (hT.1 h)] <;> rfl)
 ·have h:¬ c=0:=h
  exact qEC (.str []) (i64 3) rfl rfl rfl (by rw [e2 (fun q=>h (hT.2 q))] <;> rfl)
theorem qWu (u:Bool) (st:Wst) (d:De) (hv:qBh d=true) (hb0:st.sz+wt (declT d)<=100000000):HoldsG cx 42 [.ptr 0 0 0, .p d.pv] (wH u st) (WQ (puts st (declT d))):=by
 obtain⟨k,n,nm,pl,rs,cs⟩:=d
 simp only [qBh,Bool.and_eq_true,decide_eq_true_eq,List.all_eq_true] at hv
 obtain⟨⟨⟨v1,v2⟩,v3⟩,v4⟩:=hv
 unfold qAs at v4
 simp only [] at v4
 by_cases c1:k=1
 ·subst c1
  have e:declT ⟨1,n,nm,pl,rs,cs⟩=([]++[qCN,qAa n])++[qAY]:=rfl
  have hb:=hb0
  rw [e] at hb
  generalize declT ⟨1,n,nm,pl,rs,cs⟩=X at e ⊢
  refine qAA Tryz.func42 rfl rfl rfl ?_
  refine(qCo n v1).eq rfl ?_
  refine And.intro (fun _=>?_) (fun h=>absurd rfl h)
  refine(qA2 u (puts st ([])) ([qCN,qAa n]) (by simp) (by have hz:=qAI ([]) st;simp only [qAM,wt] at hb hz ⊢;omega)).holds.useT [] [(2,3)] rfl (by first | (cases u <;> (exact sk)) | (exact sk)) (sk) fun e0 H0 hq=>?_
  rw [<- qAE] at hq
  obtain⟨rfl,rfl⟩:=hq
  refine⟨rfl,_,⟨5,((4,bO (puts st ([]++[qCN,qAa n])).s)::(0,wO 4 (puts st ([]++[qCN,qAa n])))::[(2,deO _)])⟩,rfl,rfl,?_⟩
  refine(qA2 true (puts st ([]++[qCN,qAa n])) ([qAY]) (by simp) (by have hz:=qAI ([]++[qCN,qAa n]) st;simp only [qAM,wt] at hb hz ⊢;omega)).holds.useT [] [(1,4),(2,5)] rfl (sk) (sk) fun e0 H0 hq=>?_
  rw [<- qAE] at hq
  obtain⟨rfl,rfl⟩:=hq
  refine⟨rfl,_,⟨7,((6,bO (puts st ([]++[qCN,qAa n]++[qAY])).s)::(0,wO 6 (puts st ([]++[qCN,qAa n]++[qAY])))::[(2,deO _)])⟩,rfl,rfl,?_⟩
  exact⟨[],[(2,6)],[], .returned und,wH' (puts st (([]++[qCN,qAa n])++[qAY])),rfl,sk,sk,rfl,by rw [e]⟩
 rw [if_neg c1] at v4
 by_cases c2:k=2
 ·subst c2
  have e:declT ⟨2,n,nm,pl,rs,cs⟩=([]++[qCM,nm,tEq,qAa n])++[qAY]:=rfl
  have hb:=hb0
  rw [e] at hb
  generalize declT ⟨2,n,nm,pl,rs,cs⟩=X at e ⊢
  refine qAA Tryz.func42 rfl rfl rfl ?_
  refine(qCo n v1).eq rfl ?_
  refine And.intro (fun h=>absurd (show(2:Int)=1 from h) (by decide)) (fun _=>?_)
  refine And.intro (fun _=>?_) (fun h=>absurd rfl h)
  refine(qA2 u (puts st ([])) ([qCM,nm,tEq,qAa n]) (by simp) (by have hz:=qAI ([]) st;simp only [qAM,wt] at hb hz ⊢;omega)).holds.useT [] [(2,3)] rfl (by first | (cases u <;> (exact sk)) | (exact sk)) (sk) fun e0 H0 hq=>?_
  rw [<- qAE] at hq
  obtain⟨rfl,rfl⟩:=hq
  refine⟨rfl,_,⟨5,((4,bO (puts st ([]++[qCM,nm,tEq,qAa n])).s)::(0,wO 4 (puts st ([]++[qCM,nm,tEq,qAa n])))::[(2,deO _)])⟩,rfl,rfl,?_⟩
  refine(qA2 true (puts st ([]++[qCM,nm,tEq,qAa n])) ([qAY]) (by simp) (by have hz:=qAI ([]++[qCM,nm,tEq,qAa n]) st;simp only [qAM,wt] at hb hz ⊢;omega)).holds.useT [] [(1,4),(2,5)] rfl (sk) (sk) fun e0 H0 hq=>?_
  rw [<- qAE] at hq
  obtain⟨rfl,rfl⟩:=hq
  refine⟨rfl,_,⟨7,((6,bO (puts st ([]++[qCM,nm,tEq,qAa n]++[qAY])).s)::(0,wO 6 (puts st ([]++[qCM,nm,tEq,qAa n]++[qAY])))::[(2,deO _)])⟩,rfl,rfl,?_⟩
  exact⟨[],[(2,6)],[], .returned und,wH' (puts st (([]++[qCM,nm,tEq,qAa n])++[qAY])),rfl,sk,sk,rfl,by rw [e]⟩
 rw [if_neg c2] at v4
 by_cases c3:k=3
 ·subst c3
  simp only [if_true,Bool.and_eq_true] at v4
  obtain⟨_,v6⟩:=v4
  by_cases hp:pl=[]
  ·have e:declT ⟨3,n,nm,pl,rs,cs⟩=((((([]++[qAl,nm])++[qAq,qAa n])++qAe qAg rs)++[tEq])++qA4 cs)++[qAY]:=by
    show([qAl,nm]++((if pl=[] then [] else [tLB,pl,tRB])++([qAq,qAa n]++(qAe qAg rs++(tEq::qA4 cs)))))++[qAY]=_
    rw [if_pos hp];simp
   have hb:=hb0
   rw [e] at hb
   generalize declT ⟨3,n,nm,pl,rs,cs⟩=X at e ⊢
   refine qAA Tryz.func42 rfl rfl rfl ?_
   refine(qCo n v1).eq rfl ?_
   refine And.intro (fun h=>absurd (show(3:Int)=1 from h) (by decide)) (fun _=>?_)
   refine And.intro (fun h=>absurd (show(3:Int)=2 from h) (by decide)) (fun _=>?_)
   refine And.intro (fun _=>?_) (fun h=>absurd rfl h)
   refine(qA2 u (puts st ([])) ([qAl,nm]) (by simp) (by have hz:=qAI ([]) st;simp only [qAM,wt] at hb hz ⊢;omega)).holds.useT [] [(2,3)] rfl (by first | (cases u <;> (exact sk)) | (exact sk)) (sk) fun e0 H0 hq=>?_
   rw [<- qAE] at hq
   obtain⟨rfl,rfl⟩:=hq
   refine⟨rfl,_,⟨5,((4,bO (puts st ([]++[qAl,nm])).s)::(0,wO 4 (puts st ([]++[qAl,nm])))::[(2,deO _)])⟩,rfl,rfl,?_⟩
   refine And.intro (fun _=>?_) (fun h=>absurd hp h)
   refine(qA2 true (puts st ([]++[qAl,nm])) ([qAq,qAa n]) (by simp) (by have hz:=qAI ([]++[qAl,nm]) st;simp only [qAM,wt] at hb hz ⊢;omega)).holds.useT [] [(1,4),(2,5)] rfl (sk) (sk) fun e0 H0 hq=>?_
   rw [<- qAE] at hq
   obtain⟨rfl,rfl⟩:=hq
   refine⟨rfl,_,⟨7,((6,bO (puts st ([]++[qAl,nm]++[qAq,qAa n])).s)::(0,wO 6 (puts st ([]++[qAl,nm]++[qAq,qAa n])))::[(2,deO _)])⟩,rfl,rfl,?_⟩
   refine(qNZ (puts st (([]++[qAl,nm])++[qAq,qAa n])) qAg rs v3 v2 (by have hz:=qAI (([]++[qAl,nm])++[qAq,qAa n]) st;simp only [qAM,wt] at hb hz ⊢;omega)).holds.useT [] [(1,6)] rfl (sk) (sk) fun e0 H0 hq=>?_
   unfold WQ at hq
   rw [<- qAE] at hq
   obtain⟨rfl,rfl⟩:=hq
   refine⟨rfl,_,⟨8,((7,bO (puts st ((([]++[qAl,nm])++[qAq,qAa n])++qAe qAg rs)).s)::(0,wO 7 (puts st ((([]++[qAl,nm])++[qAq,qAa n])++qAe qAg rs)))::[(2,deO _)])⟩,rfl,rfl,?_⟩
   refine(qA2 true (puts st ((([]++[qAl,nm])++[qAq,qAa n])++qAe qAg rs)) ([tEq]) (by simp) (by have hz:=qAI ((([]++[qAl,nm])++[qAq,qAa n])++qAe qAg rs) st;simp only [qAM,wt] at hb hz ⊢;omega)).holds.useT [] [(1,7),(2,8)] rfl (sk) (sk) fun e0 H0 hq=>?_
   rw [<- qAE] at hq
   obtain⟨rfl,rfl⟩:=hq
   refine⟨rfl,_,⟨10,((9,bO (puts st ((([]++[qAl,nm])++[qAq,qAa n])++qAe qAg rs++[tEq])).s)::(0,wO 9 (puts st ((([]++[qAl,nm])++[qAq,qAa n])++qAe qAg rs++[tEq])))::[(2,deO _)])⟩,rfl,rfl,?_⟩
   refine(qP2 (puts st (((([]++[qAl,nm])++[qAq,qAa n])++qAe qAg rs)++[tEq])) cs v6 (by have hz:=qAI (((([]++[qAl,nm])++[qAq,qAa n])++qAe qAg rs)++[tEq]) st;simp only [qAM,wt] at hb hz ⊢;omega)).holds.useT [] [(1,9)] rfl (sk) (sk) fun e0 H0 hq=>?_
   unfold WQ at hq
   rw [<- qAE] at hq
   obtain⟨rfl,rfl⟩:=hq
   refine⟨rfl,_,⟨11,((10,bO (puts st ((((([]++[qAl,nm])++[qAq,qAa n])++qAe qAg rs)++[tEq])++qA4 cs)).s)::(0,wO 10 (puts st ((((([]++[qAl,nm])++[qAq,qAa n])++qAe qAg rs)++[tEq])++qA4 cs)))::[(2,deO _)])⟩,rfl,rfl,?_⟩
   refine(qA2 true (puts st ((((([]++[qAl,nm])++[qAq,qAa n])++qAe qAg rs)++[tEq])++qA4 cs)) ([qAY]) (by simp) (by have hz:=qAI ((((([]++[qAl,nm])++[qAq,qAa n])++qAe qAg rs)++[tEq])++qA4 cs) st;simp only [qAM,wt] at hb hz ⊢;omega)).holds.useT [] [(1,10),(2,11)] rfl (sk) (sk) fun e0 H0 hq=>?_
   rw [<- qAE] at hq
   obtain⟨rfl,rfl⟩:=hq
   refine⟨rfl,_,⟨13,((12,bO (puts st ((((([]++[qAl,nm])++[qAq,qAa n])++qAe qAg rs)++[tEq])++qA4 cs++[qAY])).s)::(0,wO 12 (puts st ((((([]++[qAl,nm])++[qAq,qAa n])++qAe qAg rs)++[tEq])++qA4 cs++[qAY])))::[(2,deO _)])⟩,rfl,rfl,?_⟩
   exact⟨[],[(2,12)],[], .returned und,wH' (puts st (((((([]++[qAl,nm])++[qAq,qAa n])++qAe qAg rs)++[tEq])++qA4 cs)++[qAY])),rfl,sk,sk,rfl,by rw [e]⟩
  ·have e:declT ⟨3,n,nm,pl,rs,cs⟩=(((((([]++[qAl,nm])++[tLB,pl,tRB])++[qAq,qAa n])++qAe qAg rs)++[tEq])++qA4 cs)++[qAY]:=by
    show([qAl,nm]++((if pl=[] then [] else [tLB,pl,tRB])++([qAq,qAa n]++(qAe qAg rs++(tEq::qA4 cs)))))++[qAY]=_
    rw [if_neg hp];simp
   have hb:=hb0
   rw [e] at hb
   generalize declT ⟨3,n,nm,pl,rs,cs⟩=X at e ⊢
   refine qAA Tryz.func42 rfl rfl rfl ?_
   refine(qCo n v1).eq rfl ?_
   refine And.intro (fun h=>absurd (show(3:Int)=1 from h) (by decide)) (fun _=>?_)
   refine And.intro (fun h=>absurd (show(3:Int)=2 from h) (by decide)) (fun _=>?_)
   refine And.intro (fun _=>?_) (fun h=>absurd rfl h)
   refine(qA2 u (puts st ([])) ([qAl,nm]) (by simp) (by have hz:=qAI ([]) st;simp only [qAM,wt] at hb hz ⊢;omega)).holds.useT [] [(2,3)] rfl (by first | (cases u <;> (exact sk)) | (exact sk)) (sk) fun e0 H0 hq=>?_
   rw [<- qAE] at hq
   obtain⟨rfl,rfl⟩:=hq
   refine⟨rfl,_,⟨5,((4,bO (puts st ([]++[qAl,nm])).s)::(0,wO 4 (puts st ([]++[qAl,nm])))::[(2,deO _)])⟩,rfl,rfl,?_⟩
   refine And.intro (fun h=>absurd h hp) (fun _=>?_)
   refine(qA2 true (puts st ([]++[qAl,nm])) ([tLB,pl,tRB]) (by simp) (by have hz:=qAI ([]++[qAl,nm]) st;simp only [qAM,wt] at hb hz ⊢;omega)).holds.useT [] [(1,4),(2,5)] rfl (sk) (sk) fun e0 H0 hq=>?_
   rw [<- qAE] at hq
   obtain⟨rfl,rfl⟩:=hq
   refine⟨rfl,_,⟨7,((6,bO (puts st ([]++[qAl,nm]++[tLB,pl,tRB])).s)::(0,wO 6 (puts st ([]++[qAl,nm]++[tLB,pl,tRB])))::[(2,deO _)])⟩,rfl,rfl,?_⟩
   refine(qA2 true (puts st (([]++[qAl,nm])++[tLB,pl,tRB])) ([qAq,qAa n]) (by simp) (by have hz:=qAI (([]++[qAl,nm])++[tLB,pl,tRB]) st;simp only [qAM,wt] at hb hz ⊢;omega)).holds.useT [] [(1,6),(2,7)] rfl (sk) (sk) fun e0 H0 hq=>?_
   rw [<- qAE] at hq
   obtain⟨rfl,rfl⟩:=hq
   refine⟨rfl,_,⟨9,((8,bO (puts st (([]++[qAl,nm])++[tLB,pl,tRB]++[qAq,qAa n])).s)::(0,wO 8 (puts st (([]++[qAl,nm])++[tLB,pl,tRB]++[qAq,qAa n])))::[(2,deO _)])⟩,rfl,rfl,?_⟩
   refine(qNZ (puts st ((([]++[qAl,nm])++[tLB,pl,tRB])++[qAq,qAa n])) qAg rs v3 v2 (by have hz:=qAI ((([]++[qAl,nm])++[tLB,pl,tRB])++[qAq,qAa n]) st;simp only [qAM,wt] at hb hz ⊢;omega)).holds.useT [] [(1,8)] rfl (sk) (sk) fun e0 H0 hq=>?_
   unfold WQ at hq
   rw [<- qAE] at hq
   obtain⟨rfl,rfl⟩:=hq
   refine⟨rfl,_,⟨10,((9,bO (puts st (((([]++[qAl,nm])++[tLB,pl,tRB])++[qAq,qAa n])++qAe qAg rs)).s)::(0,wO 9 (puts st (((([]++[qAl,nm])++[tLB,pl,tRB])++[qAq,qAa n])++qAe qAg rs)))::[(2,deO _)])⟩,rfl,rfl,?_⟩
   refine(qA2 true (puts st (((([]++[qAl,nm])++[tLB,pl,tRB])++[qAq,qAa n])++qAe qAg rs)) ([tEq]) (by simp) (by have hz:=qAI (((([]++[qAl,nm])++[tLB,pl,tRB])++[qAq,qAa n])++qAe qAg rs) st;simp only [qAM,wt] at hb hz ⊢;omega)).holds.useT [] [(1,9),(2,10)] rfl (sk) (sk) fun e0 H0 hq=>?_
   rw [<- qAE] at hq
   obtain⟨rfl,rfl⟩:=hq
   refine⟨rfl,_,⟨12,((11,bO (puts st (((([]++[qAl,nm])++[tLB,pl,tRB])++[qAq,qAa n])++qAe qAg rs++[tEq])).s)::(0,wO 11 (puts st (((([]++[qAl,nm])++[tLB,pl,tRB])++[qAq,qAa n])++qAe qAg rs++[tEq])))::[(2,deO _)])⟩,rfl,rfl,?_⟩
   refine(qP2 (puts st ((((([]++[qAl,nm])++[tLB,pl,tRB])++[qAq,qAa n])++qAe qAg rs)++[tEq])) cs v6 (by have hz:=qAI ((((([]++[qAl,nm])++[tLB,pl,tRB])++[qAq,qAa n])++qAe qAg rs)++[tEq]) st;simp only [qAM,wt] at hb hz ⊢;omega)).holds.useT [] [(1,11)] rfl (sk) (sk) fun e0 H0 hq=>?_
   unfold WQ at hq
   rw [<- qAE] at hq
   obtain⟨rfl,rfl⟩:=hq
   refine⟨rfl,_,⟨13,((12,bO (puts st (((((([]++[qAl,nm])++[tLB,pl,tRB])++[qAq,qAa n])++qAe qAg rs)++[tEq])++qA4 cs)).s)::(0,wO 12 (puts st (((((([]++[qAl,nm])++[tLB,pl,tRB])++[qAq,qAa n])++qAe qAg rs)++[tEq])++qA4 cs)))::[(2,deO _)])⟩,rfl,rfl,?_⟩
   refine(qA2 true (puts st (((((([]++[qAl,nm])++[tLB,pl,tRB])++[qAq,qAa n])++qAe qAg rs)++[tEq])++qA4 cs)) ([qAY]) (by simp) (by have hz:=qAI (((((([]++[qAl,nm])++[tLB,pl,tRB])++[qAq,qAa n])++qAe qAg rs)++[tEq])++qA4 cs) st;simp only [qAM,wt] at hb hz ⊢;omega)).holds.useT [] [(1,12),(2,13)] rfl (sk) (sk) fun e0 H0 hq=>?_
   rw [<- qAE] at hq
   obtain⟨rfl,rfl⟩:=hq
   refine⟨rfl,_,⟨15,((14,bO (puts st (((((([]++[qAl,nm])++[tLB,pl,tRB])++[qAq,qAa n])++qAe qAg rs)++[tEq])++qA4 cs++[qAY])).s)::(0,wO 14 (puts st (((((([]++[qAl,nm])++[tLB,pl,tRB])++[qAq,qAa n])++qAe qAg rs)++[tEq])++qA4 cs++[qAY])))::[(2,deO _)])⟩,rfl,rfl,?_⟩
   exact⟨[],[(2,14)],[], .returned und,wH' (puts st ((((((([]++[qAl,nm])++[tLB,pl,tRB])++[qAq,qAa n])++qAe qAg rs)++[tEq])++qA4 cs)++[qAY])),rfl,sk,sk,rfl,by rw [e]⟩
 rw [if_neg c3] at v4
 by_cases c4:k=4
 ·subst c4
  have e:declT ⟨4,n,nm,pl,rs,cs⟩=(([]++[qBM,nm,qAq,qAa n])++qAe qBt rs)++[qAY]:=rfl
  have hb:=hb0
  rw [e] at hb
  generalize declT ⟨4,n,nm,pl,rs,cs⟩=X at e ⊢
  refine qAA Tryz.func42 rfl rfl rfl ?_
  refine(qCo n v1).eq rfl ?_
  refine And.intro (fun h=>absurd (show(4:Int)=1 from h) (by decide)) (fun _=>?_)
  refine And.intro (fun h=>absurd (show(4:Int)=2 from h) (by decide)) (fun _=>?_)
  refine And.intro (fun h=>absurd (show(4:Int)=3 from h) (by decide)) (fun _=>?_)
  refine And.intro (fun _=>?_) (fun h=>absurd rfl h)
  refine(qA2 u (puts st ([])) ([qBM,nm,qAq,qAa n]) (by simp) (by have hz:=qAI ([]) st;simp only [qAM,wt] at hb hz ⊢;omega)).holds.useT [] [(2,3)] rfl (by first | (cases u <;> (exact sk)) | (exact sk)) (sk) fun e0 H0 hq=>?_
  rw [<- qAE] at hq
  obtain⟨rfl,rfl⟩:=hq
  refine⟨rfl,_,⟨5,((4,bO (puts st ([]++[qBM,nm,qAq,qAa n])).s)::(0,wO 4 (puts st ([]++[qBM,nm,qAq,qAa n])))::[(2,deO _)])⟩,rfl,rfl,?_⟩
  refine(qNZ (puts st ([]++[qBM,nm,qAq,qAa n])) qBt rs v3 v2 (by have hz:=qAI ([]++[qBM,nm,qAq,qAa n]) st;simp only [qAM,wt] at hb hz ⊢;omega)).holds.useT [] [(1,4)] rfl (sk) (sk) fun e0 H0 hq=>?_
  unfold WQ at hq
  rw [<- qAE] at hq
  obtain⟨rfl,rfl⟩:=hq
  refine⟨rfl,_,⟨6,((5,bO (puts st (([]++[qBM,nm,qAq,qAa n])++qAe qBt rs)).s)::(0,wO 5 (puts st (([]++[qBM,nm,qAq,qAa n])++qAe qBt rs)))::[(2,deO _)])⟩,rfl,rfl,?_⟩
  refine(qA2 true (puts st (([]++[qBM,nm,qAq,qAa n])++qAe qBt rs)) ([qAY]) (by simp) (by have hz:=qAI (([]++[qBM,nm,qAq,qAa n])++qAe qBt rs) st;simp only [qAM,wt] at hb hz ⊢;omega)).holds.useT [] [(1,5),(2,6)] rfl (sk) (sk) fun e0 H0 hq=>?_
  rw [<- qAE] at hq
  obtain⟨rfl,rfl⟩:=hq
  refine⟨rfl,_,⟨8,((7,bO (puts st (([]++[qBM,nm,qAq,qAa n])++qAe qBt rs++[qAY])).s)::(0,wO 7 (puts st (([]++[qBM,nm,qAq,qAa n])++qAe qBt rs++[qAY])))::[(2,deO _)])⟩,rfl,rfl,?_⟩
  exact⟨[],[(2,7)],[], .returned und,wH' (puts st ((([]++[qBM,nm,qAq,qAa n])++qAe qBt rs)++[qAY])),rfl,sk,sk,rfl,by rw [e]⟩
 rw [if_neg c4] at v4
 by_cases c5:k=5
 ·subst c5
  simp only [if_true,Bool.and_eq_true] at v4
  obtain⟨_,v6⟩:=v4
  have e:declT ⟨5,n,nm,pl,rs,cs⟩=(((([]++[qBu])++qAe qAg rs)++[tEq])++qA4 cs)++[qAY]:=by
   show(qBu::(qAe qAg rs++(tEq::qA4 cs)))++[qAY]=_
   simp
  have hb:=hb0
  rw [e] at hb
  generalize declT ⟨5,n,nm,pl,rs,cs⟩=X at e ⊢
  refine qAA Tryz.func42 rfl rfl rfl ?_
  refine(qCo n v1).eq rfl ?_
  refine And.intro (fun h=>absurd (show(5:Int)=1 from h) (by decide)) (fun _=>?_)
  refine And.intro (fun h=>absurd (show(5:Int)=2 from h) (by decide)) (fun _=>?_)
  refine And.intro (fun h=>absurd (show(5:Int)=3 from h) (by decide)) (fun _=>?_)
  refine And.intro (fun h=>absurd (show(5:Int)=4 from h) (by decide)) (fun _=>?_)
  refine And.intro (fun _=>?_) (fun h=>absurd rfl h)
  refine(qA2 u (puts st ([])) ([qBu]) (by simp) (by have hz:=qAI ([]) st;simp only [qAM,wt] at hb hz ⊢;omega)).holds.useT [] [(2,3)] rfl (by first | (cases u <;> (exact sk)) | (exact sk)) (sk) fun e0 H0 hq=>?_
  rw [<- qAE] at hq
  obtain⟨rfl,rfl⟩:=hq
  refine⟨rfl,_,⟨5,((4,bO (puts st ([]++[qBu])).s)::(0,wO 4 (puts st ([]++[qBu])))::[(2,deO _)])⟩,rfl,rfl,?_⟩
  refine(qNZ (puts st ([]++[qBu])) qAg rs v3 v2 (by have hz:=qAI ([]++[qBu]) st;simp only [qAM,wt] at hb hz ⊢;omega)).holds.useT [] [(1,4)] rfl (sk) (sk) fun e0 H0 hq=>?_
  unfold WQ at hq
  rw [<- qAE] at hq
  obtain⟨rfl,rfl⟩:=hq
  refine⟨rfl,_,⟨6,((5,bO (puts st (([]++[qBu])++qAe qAg rs)).s)::(0,wO 5 (puts st (([]++[qBu])++qAe qAg rs)))::[(2,deO _)])⟩,rfl,rfl,?_⟩
  refine(qA2 true (puts st (([]++[qBu])++qAe qAg rs)) ([tEq]) (by simp) (by have hz:=qAI (([]++[qBu])++qAe qAg rs) st;simp only [qAM,wt] at hb hz ⊢;omega)).holds.useT [] [(1,5),(2,6)] rfl (sk) (sk) fun e0 H0 hq=>?_
  rw [<- qAE] at hq
  obtain⟨rfl,rfl⟩:=hq
  refine⟨rfl,_,⟨8,((7,bO (puts st (([]++[qBu])++qAe qAg rs++[tEq])).s)::(0,wO 7 (puts st (([]++[qBu])++qAe qAg rs++[tEq])))::[(2,deO _)])⟩,rfl,rfl,?_⟩
  refine(qP2 (puts st ((([]++[qBu])++qAe qAg rs)++[tEq])) cs v6 (by have hz:=qAI ((([]++[qBu])++qAe qAg rs)++[tEq]) st;simp only [qAM,wt] at hb hz ⊢;omega)).holds.useT [] [(1,7)] rfl (sk) (sk) fun e0 H0 hq=>?_
  unfold WQ at hq
  rw [<- qAE] at hq
  obtain⟨rfl,rfl⟩:=hq
  refine⟨rfl,_,⟨9,((8,bO (puts st (((([]++[qBu])++qAe qAg rs)++[tEq])++qA4 cs)).s)::(0,wO 8 (puts st (((([]++[qBu])++qAe qAg rs)++[tEq])++qA4 cs)))::[(2,deO _)])⟩,rfl,rfl,?_⟩
  refine(qA2 true (puts st (((([]++[qBu])++qAe qAg rs)++[tEq])++qA4 cs)) ([qAY]) (by simp) (by have hz:=qAI (((([]++[qBu])++qAe qAg rs)++[tEq])++qA4 cs) st;simp only [qAM,wt] at hb hz ⊢;omega)).holds.useT [] [(1,8),(2,9)] rfl (sk) (sk) fun e0 H0 hq=>?_
  rw [<- qAE] at hq
  obtain⟨rfl,rfl⟩:=hq
  refine⟨rfl,_,⟨11,((10,bO (puts st (((([]++[qBu])++qAe qAg rs)++[tEq])++qA4 cs++[qAY])).s)::(0,wO 10 (puts st (((([]++[qBu])++qAe qAg rs)++[tEq])++qA4 cs++[qAY])))::[(2,deO _)])⟩,rfl,rfl,?_⟩
  exact⟨[],[(2,10)],[], .returned und,wH' (puts st ((((([]++[qBu])++qAe qAg rs)++[tEq])++qA4 cs)++[qAY])),rfl,sk,sk,rfl,by rw [e]⟩
 ·rw [if_neg c5] at v4
  cases v4
theorem qWb (u:Bool) (st:Wst):HoldsG cx 44 [.ptr 0 0 0] (wH u st) fun e H'=>e=.returned (.p (i64 st.s.length))/\H'=wH u st:=by
 refine qA3 Tryz.func44 rfl rfl rfl ?_
 exact⟨rfl,rfl⟩
theorem qTO (u:Bool) (st:Wst) (h0:st.s ≠ []) (hx:st.s.length<=100000000):HoldsG cx 45 [.ptr 0 0 0] (wH u st) fun e H'=>e=.returned (.p (.str st.s))/\H'=⟨2,[(0,wOu u 1 st)]⟩:=by
 obtain⟨s,n,g⟩:=st
 have h0:s ≠ []:=h0
 have hx:s.length<=100000000:=hx
 refine qAA Tryz.func45 rfl rfl rfl ?_
 refine VDraw.seq rfl ?_
 refine And.intro (fun h1=>?_) (fun h1=>?_)
 ·refine⟨sk,?_⟩
  refine⟨s,h0,rfl,by omega,by simp,by rw [List.take_of_length_le (by simp)],?_⟩
  exact⟨[],[],[], .returned (.p (.str s)),⟨2,[(0,wOu u 1 ⟨s,n,g⟩)]⟩,rfl,sk,by cases u <;> (exact sk),rfl,rfl⟩
 ·exact absurd (List.eq_nil_of_length_eq_zero h1) h0
theorem qPn (u:Bool) (st:Wst) (h0:st.s=[]):HoldsG cx 45 [.ptr 0 0 0] (wH u st) fun e H'=>e=.returned (.p (.str []))/\H'=wH u st:=by
 obtain⟨s,n,g⟩:=st
 have h0:s=[]:=h0
 subst h0
 refine qAA Tryz.func45 rfl rfl rfl ?_
 refine VDraw.seq rfl ?_
 refine And.intro (fun h1=>?_) (fun h1=>?_)
 ·cases h1
 ·refine⟨sk,?_⟩
  refine⟨rfl,?_⟩
  exact⟨[],[],[], .returned (.p (.str [])),wH u ⟨[],n,g⟩,rfl,sk,by cases u <;> (exact sk),rfl,rfl⟩
theorem qTG:∀ {x:qBT},qFg x->wt x<=12 * x.length
 | [],_=>Nat.zero_le _
 | t::x,h=>by
  have h1:=qJk (h t (List.mem_cons_self ..))
  have h2:=qTG (x:=x) fun u hu=>h u (List.mem_cons_of_mem _ hu)
  rw [wt,List.length_cons];omega
theorem qVE {d:De} (h:qBh d=true):wt (declT d)<=130000:=by
 have h1:=qDv h
 have h2:=qTG h1.1
 have:=h1.2
 omega
theorem qVF (S:List UInt8) (n:Nat) (d:De):qTu (puts ⟨S,n,false⟩ (declT d))=⟨S++qHI d,n+(declT d).length,false⟩:=by
 obtain⟨h1,h2,h3⟩:=qNf (declT d) ⟨S,n,false⟩
 rw [qTu,h1,h2,qHI,List.append_assoc]
theorem qOZ (ds:List De) (d:De):qBl (ds++[d])=qBl ds++qHI d:=by
 rw [qBl,List.flatMap_append];simp [qBl]
theorem qRa (ds:List De) (d:De):qHJ (ds++[d])=qHJ ds+(declT d).length:=by
 rw [qHJ,List.map_append,List.sum_append];simp [qHJ]
theorem qOF:∀ {ds:List De},(∀ d∈ds,qBh d=true)->qHJ ds<=10400 * ds.length
 | [],_=>Nat.zero_le _
 | d::ds,h=>by
  have h1:=(qDv (h d (List.mem_cons_self ..))).2
  have h2:=qOF (ds:=ds) fun x hx=>h x (List.mem_cons_of_mem _ hx)
  show(declT d).length+qHJ ds<=_
  rw [List.length_cons];omega
theorem qQP (ds:List De) (hb:BigP ds):Pure cx 13 [qCT ds] (·=.ret (txtV ds)):=by
 have hR:=qJ7 ds hb
 refine qAB Tryz.func13 rfl rfl rfl ?_
 by_cases hv:qBP ds=true
 rotate_left
 ·have e:txtV ds=[.str [],i64 380]:=by rw [txtV,if_neg hv]
  rw [qRd,if_neg hv] at hR
  refine hR.eq rfl ?_
  refine And.intro (fun h=>absurd (show(380:Int)=0 from h) (by decide)) (fun _=>?_)
  exact qEC (.str []) (i64 380) rfl rfl rfl (by rw [e] <;> rfl)
 rw [qRd,if_pos hv] at hR
 refine hR.eq rfl ?_
 refine And.intro (fun _=>?_) (fun h=>absurd rfl h)
 obtain⟨v1,v2⟩:=qEs hv
 have hm:(ds.map De.cells).length=ds.length:=List.length_map ..
 have e1:(qBl ds).length<=8000/\qHJ ds<=1500->txtV ds=[.str (qBl ds),i64 0]:=fun h=>by rw [txtV,if_pos hv,if_pos h]
 have e2:¬ ((qBl ds).length<=8000/\qHJ ds<=1500)->txtV ds=[.str [],i64 3]:=fun h=>by rw [txtV,if_pos hv,if_neg h]
 generalize txtV ds=X at e1 e2 ⊢
 refine⟨Wst × Nat × Bool,fun x=>[(5, .ptr 0 0 0),(14, .p (des ds)),(15, .p (i64 (ds.map De.cells).length)),(16, .p (i64 x.2.1))],fun x=>wH x.2.2 x.1,fun x=>x.2.1<=ds.length/\x.1=⟨qBl (ds.take x.2.1),qHJ (ds.take x.2.1),false⟩,fun x=>ds.length - x.2.1,?_,?_⟩
 ·exact⟨(⟨[],0,false⟩,0,false),⟨Nat.zero_le _,rfl⟩,qAC [] [(0,1)] [(1,1)] rfl (sk) (sk) rfl⟩
 rintro⟨st,i,u⟩ ⟨k1,k2⟩
 simp only [] at k1 k2
 have hst:st.sz<=10000000:=by
  have t1:=qHf (ds:=ds.take i) fun d hd=>v2 d (List.mem_of_mem_take hd)
  have t2:=qOF (ds:=ds.take i) fun d hd=>v2 d (List.mem_of_mem_take hd)
  have t3:(ds.take i).length<=30:=by rw [List.length_take];omega
  rw [k2]
  show qHJ (ds.take i)+(qBl (ds.take i)).length<=_
  omega
 refine QAD (fun m1=>?_) (fun m1=>?_)
 ·have m1:(i:Int)<((ds.map De.cells).length:Nat):=m1
  rw [hm] at m1
  have hi:i<ds.length:=by omega
  have hd:=v2 _ (qAJ de0 hi)
  have hcell:=qIJ hi
  have ht:=qAX de0 hi
  generalize ds.getD i de0=d at hd hcell ht
  have hw:=qVE hd
  have hn:(⟨qBl (ds.take (i+1)),qHJ (ds.take (i+1)),false⟩:Wst)=qTu (puts st (declT d)):=by
   rw [ht,qOZ,qRa,k2,qVF]
  have hD:=qWu u st d hd (by omega)
  have hz:=qAI (declT d) st
  clear ht hd
  obtain⟨k,n,nm,pl,rs,cs⟩:=d
  generalize declT ⟨k,n,nm,pl,rs,cs⟩=Y at hD hw hn hz
  refine⟨_,⟨by omega,(⟨k,n,nm,pl,rs,cs⟩:De).cells,hcell,rfl⟩,?_⟩
  refine hD.holds.useT [] [] rfl (by cases u <;> (exact sk)) (sk) fun e0 H0 hq=>?_
  obtain⟨rfl,rfl⟩:=hq
  refine⟨rfl,_,⟨4,((3,bO (puts st Y).s)::(0,wO 3 (puts st Y))::[(2,deO _)])⟩,rfl,rfl,?_⟩
  refine(qXx (puts st Y) (by omega)).holds.useT [] [(1,3)] rfl (sk) (sk) fun e0 H0 hq=>?_
  obtain⟨rfl,rfl⟩:=hq
  refine⟨rfl,_,⟨5,((4,bO (qTu (puts st Y)).s)::(0,wO 4 (qTu (puts st Y)))::[(2,deO _)])⟩,rfl,rfl,?_⟩
  refine⟨_,w6z,?_⟩
  exact⟨(qTu (puts st Y),i+1,true),⟨hi,hn.symm⟩,qAC [] [(1,4)] [] rfl (sk) (sk) rfl,by show ds.length - (i+1)<ds.length - i;omega⟩
 ·have m1:¬ (i:Int)<((ds.map De.cells).length:Nat):=m1
  rw [hm] at m1
  rw [qBa (by omega)] at k2
  have ks:st.s=qBl ds:=by rw [k2]
  have kn:st.n=qHJ ds:=by rw [k2]
  rw [<- ks,<- kn] at e1 e2
  clear k2 ks kn
  cases u
  ·refine(qWb false st).holds.useT [] [] rfl (sk) (sk) fun e0 H0 hq=>?_
   obtain⟨rfl,rfl⟩:=hq
   refine⟨rfl,_,wH false st,rfl,rfl,?_⟩
   have hsl:st.s.length<=10000000:=by
    have:st.n+st.s.length<=10000000:=hst
    omega
   refine QAD (fun c1=>?_) (fun c1=>?_)
   ·have c1:(8000:Int)<(st.s.length:Nat):=c1
    exact qEC (.str []) (i64 3) rfl rfl rfl (by rw [e2 (by omega)] <;> rfl)
   have c1:¬ (8000:Int)<(st.s.length:Nat):=c1
   refine QAD (fun c2=>?_) (fun c2=>?_)
   ·have c2:(1500:Int)<(st.n:Nat):=c2
    exact qEC (.str []) (i64 3) rfl rfl rfl (by rw [e2 (by omega)] <;> rfl)
   have c2:¬ (1500:Int)<(st.n:Nat):=c2
   have e3:=e1 (by omega)
   by_cases hs:st.s=[]
   ·refine(qPn false st hs).holds.useT [] [] rfl (sk) (sk) fun e0 H0 hq=>?_
    obtain⟨rfl,rfl⟩:=hq
    refine⟨rfl,_,wH false st,rfl,rfl,?_⟩
    exact qEC (.str []) (i64 0) rfl rfl rfl (by rw [e3,hs] <;> rfl)
   ·refine(qTO false st hs (by omega)).holds.useT [] [] rfl (sk) (sk) fun e0 H0 hq=>?_
    obtain⟨rfl,rfl⟩:=hq
    refine⟨rfl,_,⟨2,[(0,wOu false 1 st)]⟩,rfl,rfl,?_⟩
    exact qEC (.str st.s) (i64 0) rfl rfl rfl (by rw [e3] <;> rfl)
  ·refine(qWb true st).holds.useT [] [] rfl (sk) (sk) fun e0 H0 hq=>?_
   obtain⟨rfl,rfl⟩:=hq
   refine⟨rfl,_,wH true st,rfl,rfl,?_⟩
   have hsl:st.s.length<=10000000:=by
    have:st.n+st.s.length<=10000000:=hst
    omega
   refine QAD (fun c1=>?_) (fun c1=>?_)
   ·have c1:(8000:Int)<(st.s.length:Nat):=c1
    exact qEC (.str []) (i64 3) rfl rfl rfl (by rw [e2 (by omega)] <;> rfl)
   have c1:¬ (8000:Int)<(st.s.length:Nat):=c1
   refine QAD (fun c2=>?_) (fun c2=>?_)
   ·have c2:(1500:Int)<(st.n:Nat):=c2
    exact qEC (.str []) (i64 3) rfl rfl rfl (by rw [e2 (by omega)] <;> rfl)
   have c2:¬ (1500:Int)<(st.n:Nat):=c2
   have e3:=e1 (by omega)
   by_cases hs:st.s=[]
   ·refine(qPn true st hs).holds.useT [] [] rfl (sk) (sk) fun e0 H0 hq=>?_
    obtain⟨rfl,rfl⟩:=hq
    refine⟨rfl,_,wH true st,rfl,rfl,?_⟩
    exact qEC (.str []) (i64 0) rfl rfl rfl (by rw [e3,hs] <;> rfl)
   ·refine(qTO true st hs (by omega)).holds.useT [] [] rfl (sk) (sk) fun e0 H0 hq=>?_
    obtain⟨rfl,rfl⟩:=hq
    refine⟨rfl,_,⟨2,[(0,wOu true 1 st)]⟩,rfl,rfl,?_⟩
    exact qEC (.str st.s) (i64 0) rfl rfl rfl (by rw [e3] <;> rfl)
set_option maxHeartbeats 40000000
theorem qAf {C : Cx} {rd : Bool} {n0 N : Nat} {all : List Oper} {σ : Sg} {ds : List AD} {H : Hp} {K : Sg -> List AD -> Hp -> Prop} {X : List AP -> Sg -> List AD -> Hp -> Prop} (ot : OT)
    (h : (C.P.follows .mixedOrders && qCQ N all (masks all []) && qG8 all (masks all []) ot [] [] []) = true) (hv : vD C rd all σ K X ot [] ds H) :
    ∃ ot, (C.P.follows .mixedOrders && qCQ N all (masks all []) && qG8 all (masks all []) ot [] [] []) = true /\
    ((vD C rd all σ K X ot [] ds H) ∨
     ∃ (α : Type) (sl : α -> List (Nat × AV)) (hp : α -> Hp) (pr : α -> Prop),
      vD C rd all σ (fun σ' ds' H' => ∃ x, pr x /\ Ent C n0 N σ' ds' H' (sets (fun _ => .junk) (sl x)) ds (hp x)) X ot [] ds H /\
      ∀ x, pr x -> K (sets (fun _ => .junk) (sl x)) ds (hp x)) := ⟨_, h, .inl hv⟩
theorem qEr {C : Cx} {rd : Bool} {n0 N : Nat} {all : List Oper} {σ : Sg} {ds : List AD} {H : Hp} {K : Sg -> List AD -> Hp -> Prop} {X : List AP -> Sg -> List AD -> Hp -> Prop} (sl : List (Nat × AV)) (hp : Hp) (ot : OT)
    (h : (C.P.follows .mixedOrders && qCQ N all (masks all []) && qG8 all (masks all []) ot [] [] []) = true)
    (hv : vD C rd all σ (fun σ' ds' H' => Ent C n0 N σ' ds' H' (sets (fun _ => .junk) sl) ds hp) X ot [] ds H) (hk : K (sets (fun _ => .junk) sl) ds hp) :
    ∃ ot, (C.P.follows .mixedOrders && qCQ N all (masks all []) && qG8 all (masks all []) ot [] [] []) = true /\
    ((vD C rd all σ K X ot [] ds H) ∨
     ∃ (α : Type) (sl : α -> List (Nat × AV)) (hp : α -> Hp) (pr : α -> Prop),
      vD C rd all σ (fun σ' ds' H' => ∃ x, pr x /\ Ent C n0 N σ' ds' H' (sets (fun _ => .junk) (sl x)) ds (hp x)) X ot [] ds H /\
      ∀ x, pr x -> K (sets (fun _ => .junk) (sl x)) ds (hp x)) :=
  ⟨_, h, .inr ⟨Unit, fun _ => sl, fun _ => hp, fun _ => True, by
    have e : (fun σ' ds' H' => ∃ _x : Unit, True /\ Ent C n0 N σ' ds' H' (sets (fun _ => .junk) sl) ds hp) = fun σ' ds' H' => Ent C n0 N σ' ds' H' (sets (fun _ => .junk) sl) ds hp := by
      funext a b c
      exact propext ⟨fun ⟨_, _, h⟩ => h, fun h => ⟨(), trivial, h⟩⟩
    rw [e]; exact hv, fun _ _ => hk⟩⟩
abbrev otI:OT:=(.pure 0 (.pure 1 (.pure 2 (.pure 3 (.pure 4 (.pure 5 (.pure 6 (.pure 7 (.pure 8 (.pure 9 (.pure 10 (.pure 11 (.pure 12 (.pure 13 (.pure 14 (.pure 15 (.pure 16 (.pure 17 (.pure 18 (.pure 19 (.pure 20 (.pure 21 (.pure 22 (.pure 23 (.pure 24 (.pure 25 (.pure 26 (.pure 27 (.pure 28 (.pure 29 (.pure 30 (.eff 31 [] (.pure 32 (.pure 33 (.pure 34 .fin))) .nil))))))))))))))))))))))))))))))))
theorem Out.val {α:Type} {b:Bool} {p:Nat} {r:Rd α} {a a':α} {q:Nat} {b':Bool} (h:Out b p r a q b') (e:b'=false->a=a'):Out b p r a' q b':=by
 cases b'
 ·rw [<- e rfl];exact h
 ·cases b
  ·exact h
  ·exact h
theorem Out.live {α:Type} {b:Bool} {p:Nat} {r:Rd α} {a:α} {q:Nat} (h:Out b p r a q false):b=false:=by
 cases b
 ·rfl
 ·exact absurd h.1 (by decide)
theorem qF9 {ws:List Wd} {b0 b b2:Bool} {q0 q q2:Nat} {R:Rd (List Int)} {acc:List Int} {v:Int} (k:LK b0 q0 R (fun f=>(qJM ws q).then fun n q'=>qD9 ws f (acc++[n]) q') ws.length q b) (o:Out b q (qJM ws q) v q2 b2) (hs:b2=false->¬ (txt ws q2=qAu∨knd ws q2=3)):Out b0 q0 R (acc++[v]) q2 b2:=by
 obtain⟨f,hf,hk⟩:=k
 refine hk _ _ _ (o.then ?_)
 cases b2
 ·have:=hf o.live
  obtain⟨g,rfl⟩:∃ g,f=g+1:=⟨f - 1,by omega⟩
  rw [qD9,if_neg (hs rfl)]
  exact Out.same
 ·exact Out.bad
theorem qL3 (ws:List Wd) (F q0:Nat) (b0:Bool) (hF:ws.length<F) (hg:GoodW ws) (hq0:q0<=ws.length):HoldsG cx 140 [.ptr 0 0 0] (rrH ws q0 b0) (RQ ws b0 q0 (qD3 ws F q0) fun l=>.p (ints l)):=by
 refine qAA Tryz.func140 rfl rfl rfl ?_
 have hl:=hg.len
 have hl':(ws.map Wd.cells).length=ws.length:=List.length_map ..
 refine⟨List Int × Nat × Bool,fun x=>[(0, .ptr 0 0 0),(3, .sl 1 1 0 x.1.length)],fun x=>⟨2,[(1,iO x.1),(0,rrO ws x.2.1 x.2.2)]⟩,fun x=>x.2.1<=ws.length/\(x.2.2=true->x.1=[])/\x.1.length<=x.2.1/\LK b0 q0 (qD3 ws F q0) (fun f=>(qJM ws x.2.1).then fun n q'=>qD9 ws f (x.1++[n]) q') ws.length x.2.1 x.2.2,fun x=>ws.length - x.2.1,?_,?_⟩
 ·exact⟨([],q0,b0),⟨hq0,fun _=>rfl,by simp,F,fun _=>by simp only [];omega,fun l q' b' ho=>ho⟩,qAC [] [] [(1,1)] rfl (sk) (sk) rfl⟩
 rintro⟨acc,q,b⟩ ⟨k1,k2,k3,k4⟩
 simp only [] at k1 k2 k3 k4
 by_cases c:Tk ws b q qAu
 ·have q1l:q+1<=ws.length:=qAi (by rw [c.2];decide)
  refine(qAz ws q b qAu hg k1 (by decide) (by decide)).holds.useT [] [] rfl (sk) (sk) fun e0 H0 hq=>?_
  obtain⟨rfl,rfl⟩:=hq.1 c
  refine⟨rfl,_,⟨2,(0,rrO ws (q+1) false)::[(1,iO acc)]⟩,rfl,rfl,?_⟩
  refine(qDP ws (q+1) false hg q1l).holds.useT [] [] rfl (sk) (sk) fun e0 H0 hq=>?_
  obtain⟨n,q2,b2,q2l,o2,rfl,rfl⟩:=hq
  obtain⟨v,hv⟩:∃ v,v=IntKind.i64.wrap ((-1) * n):=⟨_,rfl⟩
  have hvn:b2=false->-n=v:=fun e=>by
   subst e
   have:=qQf hg (qBb o2)
   rw [hv,show(-1) * n=-n by omega]
   exact w6z
  have o:Out b q (qJM ws q) v q2 b2:=Out.yes c (o2.then (by
   cases b2
   ·exact Out.ret (hvn rfl)
   ·exact Out.bad)).mv
  clear hvn o2
  cases b2
  ·refine⟨rfl,_,⟨2,(0,rrO ws q2 false)::[(1,iO acc)]⟩,rfl,rfl,?_⟩
   refine⟨v,hv,?_⟩
   have hb:=o.live
   have k5:LK b0 q0 (qD3 ws F q0) (fun f=>(qJM ws q).then fun n q'=>qD9 ws f (acc++[n]) q') ws.length q false:=by rw [<- hb];exact k4
   have o5:Out false q (qJM ws q) v q2 false:=by rw [hb] at o;exact o
   have hlt:=int_lt (qBb o5)
   refine⟨by show 0+1<=1;omega,[i64 v],rfl,?_⟩
   refine⟨by show 0+acc.length<=(acc.map i64).length;simp,acc.map i64,qAD (by simp),by show(acc.length+1) * 8<=140737488355328;omega,(acc++[v]).map i64,by simp,?_⟩
   by_cases hs:txt ws q2=qAu∨knd ws q2=3
   ·have hql:q2<ws.length:=by
     rcases hs with h | h
     ·exact qAi (ws:=ws) (q:=q2) (by rw [h];decide)
     ·exact qF8 (ws:=ws) (q:=q2) (by rw [h];decide)
    refine qEr [(0, .ptr 0 0 0),(3, .sl 3 1 0 (acc.length+1)),(48,vB false)] ⟨4,[(3,iO (acc++[v])),(0,rrO ws q2 false)]⟩ otI (by kernel_rfl) ?_ ?_
    ·refine And.intro (fun h=>absurd (show((ws.map Wd.cells).length:Int)<=(q2:Nat) from h) (by rw [hl'];omega)) (fun _=>?_)
     refine⟨_,⟨by omega,(wat ws q2).cells,qCi (by omega),rfl⟩,?_⟩
     refine And.intro (fun h2=>?_) (fun h2=>?_)
     ·exact qAC [] [] [] rfl (sk) (sk) rfl
     have h2:¬ knd ws q2=3:=h2
     have c2:Tk ws false q2 qAu:=⟨rfl,hs.resolve_right h2⟩
     refine(qUy ws q2 false qAu hg q2l (by decide) (by decide)).holds.useT [] [] rfl (sk) (sk) fun e0 H0 hq=>?_
     obtain⟨rfl,rfl⟩:=hq.1 c2
     refine⟨rfl,_,⟨4,[(0,rrO ws q2 false),(3,iO (acc++[v])),(2,iO [v])]⟩,rfl,rfl,?_⟩
     exact qAC [] [] [] rfl (sk) (sk) rfl
    exact⟨(acc++[v],q2,false),⟨q2l,fun e=>absurd (show false=true from e) (by decide),by show(acc++[v]).length<=q2;rw [qAK];omega,k5.step (fun f l q' b' ho=>o5.then (by rw [qD9,if_pos hs];exact ho)) (fun _=>⟨hlt,q2l⟩)⟩,qAC [] [(1,3)] [] rfl ⟨⟨rfl,rfl⟩,congrArg (fun k:Nat=>AV.sl 3 1 0 k) (qAK acc v).symm,trivial⟩ (sk) rfl,by show ws.length - q2<ws.length - q;omega⟩
   ·refine qEr [(0, .ptr 0 0 0),(3, .sl 3 1 0 (acc.length+1)),(48,vB true)] ⟨4,[(3,iO (acc++[v])),(0,rrO ws q2 false)]⟩ otI (by kernel_rfl) ?_ ?_
    ·refine QAD (fun h1=>?_) (fun h1=>?_)
     ·exact qAC [] [] [] rfl (sk) (sk) rfl
     have h1:¬ ((ws.map Wd.cells).length:Int)<=(q2:Nat):=h1
     rw [hl'] at h1
     refine⟨_,⟨by omega,(wat ws q2).cells,qCi (by omega),rfl⟩,?_⟩
     refine And.intro (fun h2=>absurd (.inr h2) hs) (fun _=>?_)
     refine(qUy ws q2 false qAu hg q2l (by decide) (by decide)).holds.useT [] [] rfl (sk) (sk) fun e0 H0 hq=>?_
     obtain⟨rfl,rfl⟩:=hq.2 (fun c2=>hs (.inl c2.2))
     refine⟨rfl,_,⟨4,[(0,rrO ws q2 false),(3,iO (acc++[v])),(2,iO [v])]⟩,rfl,rfl,?_⟩
     exact qAC [] [] [] rfl (sk) (sk) rfl
    exact⟨[3],[],[], .returned (.p (ints (acc++[v]))),rrH ws q2 false,rfl,⟨_,rfl,⟨_,rfl,by show 0+(acc.length+1)<=((acc++[v]).map i64).length;simp,qAD (by simp)⟩⟩,sk,acc++[v],q2,false,q2l,qF9 k4 o (fun _=>hs),rfl,rfl⟩
  ·refine⟨rfl,_,⟨2,(0,rrO ws q2 true)::[(1,iO acc)]⟩,rfl,rfl,?_⟩
   refine⟨v,hv,?_⟩
   refine⟨by show 0+1<=1;omega,[i64 v],rfl,?_⟩
   refine⟨by show 0+acc.length<=(acc.map i64).length;simp,acc.map i64,qAD (by simp),by show(acc.length+1) * 8<=140737488355328;omega,(acc++[v]).map i64,by simp,?_⟩
   refine qAf otI (by kernel_rfl) ?_
   exact⟨[3],[],[], .returned (.p (ints (acc++[v]))),rrH ws q2 true,rfl,⟨_,rfl,⟨_,rfl,by show 0+(acc.length+1)<=((acc++[v]).map i64).length;simp,qAD (by simp)⟩⟩,sk,acc++[v],q2,true,q2l,qF9 k4 o (fun e=>by cases e),rfl,rfl⟩
 ·refine(qAz ws q b qAu hg k1 (by decide) (by decide)).holds.useT [] [] rfl (sk) (sk) fun e0 H0 hq=>?_
  obtain⟨rfl,rfl⟩:=hq.2 c
  refine⟨rfl,_,⟨2,(0,rrO ws q b)::[(1,iO acc)]⟩,rfl,rfl,?_⟩
  refine(qDP ws q b hg k1).holds.useT [] [] rfl (sk) (sk) fun e0 H0 hq=>?_
  obtain⟨n,q2,b2,q2l,o2,rfl,rfl⟩:=hq
  obtain⟨v,hv⟩:∃ v,v=IntKind.i64.wrap (1 * n):=⟨_,rfl⟩
  have hvn:b2=false->n=v:=fun e=>by
   subst e
   have hb:=o2.live
   subst hb
   have:=qQf hg (qBb o2)
   rw [hv,Int.one_mul]
   exact w6z
  have o:Out b q (qJM ws q) v q2 b2:=Out.no c (o2.val hvn)
  clear hvn o2
  cases b2
  ·refine⟨rfl,_,⟨2,(0,rrO ws q2 false)::[(1,iO acc)]⟩,rfl,rfl,?_⟩
   refine⟨v,hv,?_⟩
   have hb:=o.live
   have k5:LK b0 q0 (qD3 ws F q0) (fun f=>(qJM ws q).then fun n q'=>qD9 ws f (acc++[n]) q') ws.length q false:=by rw [<- hb];exact k4
   have o5:Out false q (qJM ws q) v q2 false:=by rw [hb] at o;exact o
   have hlt:=int_lt (qBb o5)
   refine⟨by show 0+1<=1;omega,[i64 v],rfl,?_⟩
   refine⟨by show 0+acc.length<=(acc.map i64).length;simp,acc.map i64,qAD (by simp),by show(acc.length+1) * 8<=140737488355328;omega,(acc++[v]).map i64,by simp,?_⟩
   by_cases hs:txt ws q2=qAu∨knd ws q2=3
   ·have hql:q2<ws.length:=by
     rcases hs with h | h
     ·exact qAi (ws:=ws) (q:=q2) (by rw [h];decide)
     ·exact qF8 (ws:=ws) (q:=q2) (by rw [h];decide)
    refine qEr [(0, .ptr 0 0 0),(3, .sl 3 1 0 (acc.length+1)),(48,vB false)] ⟨4,[(3,iO (acc++[v])),(0,rrO ws q2 false)]⟩ otI (by kernel_rfl) ?_ ?_
    ·refine And.intro (fun h=>absurd (show((ws.map Wd.cells).length:Int)<=(q2:Nat) from h) (by rw [hl'];omega)) (fun _=>?_)
     refine⟨_,⟨by omega,(wat ws q2).cells,qCi (by omega),rfl⟩,?_⟩
     refine And.intro (fun h2=>?_) (fun h2=>?_)
     ·exact qAC [] [] [] rfl (sk) (sk) rfl
     have h2:¬ knd ws q2=3:=h2
     have c2:Tk ws false q2 qAu:=⟨rfl,hs.resolve_right h2⟩
     refine(qUy ws q2 false qAu hg q2l (by decide) (by decide)).holds.useT [] [] rfl (sk) (sk) fun e0 H0 hq=>?_
     obtain⟨rfl,rfl⟩:=hq.1 c2
     refine⟨rfl,_,⟨4,[(0,rrO ws q2 false),(3,iO (acc++[v])),(2,iO [v])]⟩,rfl,rfl,?_⟩
     exact qAC [] [] [] rfl (sk) (sk) rfl
    exact⟨(acc++[v],q2,false),⟨q2l,fun e=>absurd (show false=true from e) (by decide),by show(acc++[v]).length<=q2;rw [qAK];omega,k5.step (fun f l q' b' ho=>o5.then (by rw [qD9,if_pos hs];exact ho)) (fun _=>⟨hlt,q2l⟩)⟩,qAC [] [(1,3)] [] rfl ⟨⟨rfl,rfl⟩,congrArg (fun k:Nat=>AV.sl 3 1 0 k) (qAK acc v).symm,trivial⟩ (sk) rfl,by show ws.length - q2<ws.length - q;omega⟩
   ·refine qEr [(0, .ptr 0 0 0),(3, .sl 3 1 0 (acc.length+1)),(48,vB true)] ⟨4,[(3,iO (acc++[v])),(0,rrO ws q2 false)]⟩ otI (by kernel_rfl) ?_ ?_
    ·refine QAD (fun h1=>?_) (fun h1=>?_)
     ·exact qAC [] [] [] rfl (sk) (sk) rfl
     have h1:¬ ((ws.map Wd.cells).length:Int)<=(q2:Nat):=h1
     rw [hl'] at h1
     refine⟨_,⟨by omega,(wat ws q2).cells,qCi (by omega),rfl⟩,?_⟩
     refine And.intro (fun h2=>absurd (.inr h2) hs) (fun _=>?_)
     refine(qUy ws q2 false qAu hg q2l (by decide) (by decide)).holds.useT [] [] rfl (sk) (sk) fun e0 H0 hq=>?_
     obtain⟨rfl,rfl⟩:=hq.2 (fun c2=>hs (.inl c2.2))
     refine⟨rfl,_,⟨4,[(0,rrO ws q2 false),(3,iO (acc++[v])),(2,iO [v])]⟩,rfl,rfl,?_⟩
     exact qAC [] [] [] rfl (sk) (sk) rfl
    exact⟨[3],[],[], .returned (.p (ints (acc++[v]))),rrH ws q2 false,rfl,⟨_,rfl,⟨_,rfl,by show 0+(acc.length+1)<=((acc++[v]).map i64).length;simp,qAD (by simp)⟩⟩,sk,acc++[v],q2,false,q2l,qF9 k4 o (fun _=>hs),rfl,rfl⟩
  ·refine⟨rfl,_,⟨2,(0,rrO ws q2 true)::[(1,iO acc)]⟩,rfl,rfl,?_⟩
   refine⟨v,hv,?_⟩
   refine⟨by show 0+1<=1;omega,[i64 v],rfl,?_⟩
   refine⟨by show 0+acc.length<=(acc.map i64).length;simp,acc.map i64,qAD (by simp),by show(acc.length+1) * 8<=140737488355328;omega,(acc++[v]).map i64,by simp,?_⟩
   refine qAf otI (by kernel_rfl) ?_
   exact⟨[3],[],[], .returned (.p (ints (acc++[v]))),rrH ws q2 true,rfl,⟨_,rfl,⟨_,rfl,by show 0+(acc.length+1)<=((acc++[v]).map i64).length;simp,qAD (by simp)⟩⟩,sk,acc++[v],q2,true,q2l,qF9 k4 o (fun e=>by cases e),rfl,rfl⟩
set_option maxHeartbeats 4000000
theorem qSJ (l:List Int) (n:Int):qPQ (l++[n])=qH9 (qPQ l) n:=by rw [qPQ,qPQ,List.foldl_append];rfl
def RQN (ws:List Wd) (b:Bool) (q:Nat) (r:Rd Cd) (e:AE) (H':Hp):Prop:=∃ c q' b',q'<=ws.length/\Out b q r c q' b'/\(∃ y,e=.returned (.p y)/\NilD y c.pv)/\H'=rrH ws q' b'
abbrev RC (ws:List Wd) (b:Bool) (q:Nat) (r:Rd Cd):AE->Hp->Prop:=RQ ws b q r fun c=>.p c.pv
theorem qSP {ws:List Wd} {b:Bool} {q:Nat} {g:FuncId} {args:List AV} {H:Hp} {r:Rd Cd} (h:HoldsG cx g args H (RQN ws b q r)):HoldsG cx g args H (RC ws b q r):=
 h.weak fun e H' hq=>by
  obtain⟨c,q',b',h1,h2,⟨y,rfl,h3⟩,rfl⟩:=hq
  exact⟨.returned (.p c.pv),⟨_,rfl,by simp only [NilA];exact⟨_,rfl,h3⟩⟩,c,q',b',h1,h2,rfl,rfl⟩
abbrev lfI (rf:Rf) (s:List Int):AObj:=cO [.p (i64 5), .p (i64 0), .p (i64 0), .p (i64 0), .p (.str rf.name), .p (i64 rf.mode), .p (.str rf.plate), .p (i64 rf.n), .p (ints s), .p .nils]
abbrev qM3 (ws:List Wd) (F:Nat) (q:Nat) (b:Bool):Prop:=HoldsG cx 139 [.ptr 0 0 0] (rrH ws q b) (RC ws b q (qDJ ws F q))
theorem qUk (n:Int):NilDL [.nils,i64 n] [ints [],i64 n]:=by
 simp only [NilDL,NilD]
 exact⟨_,_,rfl, .inr (.inl rfl),_,_,rfl,rfl,rfl⟩
theorem qUJ (ws:List Wd) (F q0:Nat) (b0:Bool) (hg:GoodW ws) (hq0:q0<=ws.length) (hF:4 * (ws.length - q0)+1<=F+1) (hC:∀ q,q<=ws.length->4 * (ws.length - q)+4<=F->qM3 ws F q false) :
  HoldsG cx 203 [.ptr 0 0 0] (rrH ws q0 b0) (RC ws b0 q0 (qET ws (F+1) q0)):=by
 refine qSP ?_
 refine qAA Tryz.func203 rfl rfl rfl ?_
 have hl:=hg.len
 by_cases c1:Tk ws b0 q0 tLP
 ·have q1l:q0+1<=ws.length:=qAi (by rw [c1.2];decide)
  refine(qAz ws q0 b0 tLP hg hq0 (by decide) (by decide)).holds.useT [] [] rfl (sk) (sk) fun e0 H0 hq=>?_
  obtain⟨rfl,rfl⟩:=hq.1 c1
  refine⟨rfl,_,⟨2,(0,rrO ws (q0+1) false)::[(1,zc)]⟩,rfl,rfl,?_⟩
  refine(hC (q0+1) q1l (by omega)).holds.useT [] [] rfl (sk) (sk) fun e0 H0 hq=>?_
  obtain⟨⟨o,n,rl,vl,rf,st,ar⟩,q2,b2,q2l,o2,rfl,rfl⟩:=hq
  refine⟨rfl,_,⟨2,(0,rrO ws q2 b2)::[(1,zc)]⟩,rfl,rfl,?_⟩
  refine(qA9 ws q2 b2 tRP hg q2l (by decide) (by decide)).holds.useT [] [] rfl (sk) (sk) fun e0 H0 hq=>?_
  obtain⟨u3,q3,b3,q3l,o3,rfl,rfl⟩:=hq
  refine⟨rfl,_,⟨3,(0,rrO ws q3 b3)::[(2,cO ((Cd.mk o n rl vl rf st ar).cells.map .p)),(1,zc)]⟩,rfl,rfl,?_⟩
  exact⟨[],[],[], .returned (.p (Cd.mk o n rl vl rf st ar).pv),rrH ws q3 b3,rfl,sk,sk,_,q3,b3,q3l,by rw [qET];exact Out.yes c1 (o2.then (o3.then Out.same)).mv,⟨_,rfl,NilD.refl _⟩,rfl⟩
 refine(qAz ws q0 b0 tLP hg hq0 (by decide) (by decide)).holds.useT [] [] rfl (sk) (sk) fun e0 H0 hq=>?_
 obtain⟨rfl,rfl⟩:=hq.2 c1
 refine⟨rfl,_,⟨2,(0,rrO ws q0 b0)::[(1,zc)]⟩,rfl,rfl,?_⟩
 by_cases c2:Tk ws b0 q0 qB0
 ·have q1l:q0+1<=ws.length:=qAi (by rw [c2.2];decide)
  refine(qAz ws q0 b0 qB0 hg hq0 (by decide) (by decide)).holds.useT [] [] rfl (sk) (sk) fun e0 H0 hq=>?_
  obtain⟨rfl,rfl⟩:=hq.1 c2
  refine⟨rfl,_,⟨3,(0,rrO ws (q0+1) false)::[(2,zc),(1,zc)]⟩,rfl,rfl,?_⟩
  refine(qA9 ws (q0+1) false tLP hg q1l (by decide) (by decide)).holds.useT [] [] rfl (sk) (sk) fun e0 H0 hq=>?_
  obtain⟨u2,q2,b2,q2l,o2,rfl,rfl⟩:=hq
  refine⟨rfl,_,⟨3,(0,rrO ws q2 b2)::[(2,lf 6 0 0 0 rf0),(1,zc)]⟩,rfl,rfl,?_⟩
  refine(qFR ws q2 b2 hg q2l).holds.useT [] [] rfl (sk) (sk) fun e0 H0 hq=>?_
  obtain⟨nm,q3,b3,q3l,o3,rfl,rfl⟩:=hq
  refine⟨rfl,_,⟨3,(0,rrO ws q3 b3)::[(2,lf 6 0 0 0 rf0),(1,zc)]⟩,rfl,rfl,?_⟩
  refine(qA9 ws q3 b3 tLB hg q3l (by decide) (by decide)).holds.useT [] [] rfl (sk) (sk) fun e0 H0 hq=>?_
  obtain⟨u4,q4,b4,q4l,o4,rfl,rfl⟩:=hq
  refine⟨rfl,_,⟨3,(0,rrO ws q4 b4)::[(2,lf 6 0 0 0 ⟨nm,3,[],0⟩),(1,zc)]⟩,rfl,rfl,?_⟩
  refine(qA9 ws q4 b4 qHN hg q4l (by decide) (by decide)).holds.useT [] [] rfl (sk) (sk) fun e0 H0 hq=>?_
  obtain⟨u5,q5,b5,q5l,o5,rfl,rfl⟩:=hq
  refine⟨rfl,_,⟨3,(0,rrO ws q5 b5)::[(2,lf 6 0 0 0 ⟨nm,3,[],0⟩),(1,zc)]⟩,rfl,rfl,?_⟩
  refine(qA9 ws q5 b5 tRB hg q5l (by decide) (by decide)).holds.useT [] [] rfl (sk) (sk) fun e0 H0 hq=>?_
  obtain⟨u6,q6,b6,q6l,o6,rfl,rfl⟩:=hq
  refine⟨rfl,_,⟨3,(0,rrO ws q6 b6)::[(2,lf 6 0 0 0 ⟨nm,3,[],0⟩),(1,zc)]⟩,rfl,rfl,?_⟩
  refine(qA9 ws q6 b6 tEq hg q6l (by decide) (by decide)).holds.useT [] [] rfl (sk) (sk) fun e0 H0 hq=>?_
  obtain⟨u7,q7,b7,q7l,o7,rfl,rfl⟩:=hq
  refine⟨rfl,_,⟨3,(0,rrO ws q7 b7)::[(2,lf 6 0 0 0 ⟨nm,3,[],0⟩),(1,zc)]⟩,rfl,rfl,?_⟩
  refine(qDP ws q7 b7 hg q7l).holds.useT [] [] rfl (sk) (sk) fun e0 H0 hq=>?_
  obtain⟨v,q8,b8,q8l,o8,rfl,rfl⟩:=hq
  refine⟨rfl,_,⟨3,(0,rrO ws q8 b8)::[(2,lf 6 0 0 0 ⟨nm,3,[],0⟩),(1,zc)]⟩,rfl,rfl,?_⟩
  refine(qA9 ws q8 b8 tRP hg q8l (by decide) (by decide)).holds.useT [] [] rfl (sk) (sk) fun e0 H0 hq=>?_
  obtain⟨u9,q9,b9,q9l,o9,rfl,rfl⟩:=hq
  refine⟨rfl,_,⟨3,(0,rrO ws q9 b9)::[(2,lf 6 0 0 v ⟨nm,3,[],0⟩),(1,zc)]⟩,rfl,rfl,?_⟩
  refine(qTW ws q9 b9 hg q9l).holds.useT [] [] rfl (sk) (sk) fun e0 H0 hq=>?_
  obtain⟨r,q10,b10,q10l,o10,rfl,rfl⟩:=hq
  refine⟨rfl,_,⟨3,(0,rrO ws q10 b10)::[(2,lf 6 0 0 v ⟨nm,3,[],0⟩),(1,zc)]⟩,rfl,rfl,?_⟩
  refine(qDP ws q10 b10 hg q10l).holds.useT [] [] rfl (sk) (sk) fun e0 H0 hq=>?_
  obtain⟨n,q11,b11,q11l,o11,rfl,rfl⟩:=hq
  refine⟨rfl,_,⟨3,(0,rrO ws q11 b11)::[(2,lf 6 0 r v ⟨nm,3,[],0⟩),(1,zc)]⟩,rfl,rfl,?_⟩
  have om:Out b3 q3 (qAw ws [tLB,qHN,tRB,tEq] q3) () q7 b7:=o4.then (o5.then (o6.then (o7.then Out.same)))
  exact⟨[],[],[], .returned (.p (.agg [i64 6,i64 n,i64 r,i64 v, .str nm,i64 3, .str [],i64 0, .nils, .nils])),rrH ws q11 b11,rfl,sk,sk, .mk 6 n r v ⟨nm,3,[],0⟩ [] [],q11,b11,q11l,by rw [qET];exact Out.no c1 (Out.yes c2 (o2.then (o3.then (om.then (o8.then (o9.then (o10.then (o11.then Out.same))))))).mv),⟨_,rfl,qAn 6 n r v ⟨nm,3,[],0⟩⟩,rfl⟩
 refine(qAz ws q0 b0 qB0 hg hq0 (by decide) (by decide)).holds.useT [] [] rfl (sk) (sk) fun e0 H0 hq=>?_
 obtain⟨rfl,rfl⟩:=hq.2 c2
 refine⟨rfl,_,⟨3,(0,rrO ws q0 b0)::[(2,zc),(1,zc)]⟩,rfl,rfl,?_⟩
 refine(qP6 ws q0 b0 hg hq0).holds.useT [] [] rfl (sk) (sk) fun e0 H0 hq=>?_
 obtain⟨rf,q1,b1,q1l,o1,rfl,rfl⟩:=hq
 refine⟨rfl,_,⟨3,(0,rrO ws q1 b1)::[(2,zc),(1,zc)]⟩,rfl,rfl,?_⟩
 by_cases c3:Tk ws b1 q1 tIn
 rotate_left
 ·refine(qAz ws q1 b1 tIn hg q1l (by decide) (by decide)).holds.useT [] [] rfl (sk) (sk) fun e0 H0 hq=>?_
  obtain⟨rfl,rfl⟩:=hq.2 c3
  refine⟨rfl,_,⟨3,(0,rrO ws q1 b1)::[(2,lf 0 0 0 0 rf),(1,zc)]⟩,rfl,rfl,?_⟩
  refine(qTW ws q1 b1 hg q1l).holds.useT [] [] rfl (sk) (sk) fun e0 H0 hq=>?_
  obtain⟨o,q2,b2,q2l,o2,rfl,rfl⟩:=hq
  refine⟨rfl,_,⟨3,(0,rrO ws q2 b2)::[(2,lf 0 0 0 0 rf),(1,zc)]⟩,rfl,rfl,?_⟩
  refine(qDP ws q2 b2 hg q2l).holds.useT [] [] rfl (sk) (sk) fun e0 H0 hq=>?_
  obtain⟨n,q3,b3,q3l,o3,rfl,rfl⟩:=hq
  refine⟨rfl,_,⟨3,(0,rrO ws q3 b3)::[(2,lf o 0 0 0 rf),(1,zc)]⟩,rfl,rfl,?_⟩
  exact⟨[],[],[], .returned (.p (.agg [i64 o,i64 n,i64 0,i64 0, .str rf.name,i64 rf.mode, .str rf.plate,i64 rf.n, .nils, .nils])),rrH ws q3 b3,rfl,sk,sk, .mk o n 0 0 rf [] [],q3,b3,q3l,by rw [qET];exact Out.no c1 (Out.no c2 (o1.then (Out.no c3 (o2.then (o3.then Out.same))))),⟨_,rfl,qAn o n 0 0 rf⟩,rfl⟩
 have q2l:q1+1<=ws.length:=qAi (by rw [c3.2];decide)
 refine(qAz ws q1 b1 tIn hg q1l (by decide) (by decide)).holds.useT [] [] rfl (sk) (sk) fun e0 H0 hq=>?_
 obtain⟨rfl,rfl⟩:=hq.1 c3
 refine⟨rfl,_,⟨3,(0,rrO ws (q1+1) false)::[(2,lf 0 0 0 0 rf),(1,zc)]⟩,rfl,rfl,?_⟩
 refine(qA9 ws (q1+1) false tLC hg q2l (by decide) (by decide)).holds.useT [] [] rfl (sk) (sk) fun e0 H0 hq=>?_
 obtain⟨u3,q3,b3,q3l,o3,rfl,rfl⟩:=hq
 refine⟨rfl,_,⟨3,(0,rrO ws q3 b3)::[(2,lf 5 0 0 0 rf),(1,zc)]⟩,rfl,rfl,?_⟩
 refine(qDP ws q3 b3 hg q3l).holds.useT [] [] rfl (sk) (sk) fun e0 H0 hq=>?_
 obtain⟨n0,q4,b4,q4l,o4,rfl,rfl⟩:=hq
 refine⟨rfl,_,⟨3,(0,rrO ws q4 b4)::[(2,lf 5 0 0 0 rf),(1,zc)]⟩,rfl,rfl,?_⟩
 refine((qN6 [] n0 List.Pairwise.nil (by simp)).arg (qUk n0)).eq rfl ?_
 have hlt1:b1=false:=c3.1
 have hFq:b3=false->ws.length - q4<F/\(b4=false->q3<q4):=fun e=>by
  subst e
  have h3:=qAr (qBb o3)
  subst hlt1
  have hb0:=o1.live
  subst hb0
  have h1:=qG6 (qBb o1)
  refine⟨?_,fun e=>?_⟩
  ·cases b4
   ·have:=qCW (qBb o4)
    omega
   ·have:q3<=q4:=by
     have h4:qCw ws q3=.inl q4:=o4
     rw [qCw] at h4
     split at h4
     ·cases h4
     ·injection h4 with h4;omega
    omega
  ·subst e;exact qCW (qBb o4)
 have hlist:LK b3 q3 (qFZ ws (qCw ws) F q3) (fun f=>qDf ws (qCw ws) f [n0] q4) ws.length q4 b4:=⟨F,fun e=>by subst e;exact(hFq o4.live).1,fun l q' b' ho=>o4.then ho⟩
 refine⟨List Int × List Int × Nat × Bool,fun x=>[(0, .ptr 0 0 0),(2, .ptr 1 0 0),(4, .ptr 2 0 0)],fun x=>⟨3,[(0,rrO ws x.2.2.1 x.2.2.2),(2,lfI rf x.2.1),(1,zc)]⟩,fun x=>x.2.2.1<=ws.length/\(x.2.2.2=false->x.1.length<=x.2.2.1)/\x.1.length<=1501/\(x.2.1=qPQ x.1/\Inc x.2.1/\x.2.1.length<=x.1.length)/\LK b3 q3 (qFZ ws (qCw ws) F q3) (fun f=>qDf ws (qCw ws) f x.1 x.2.2.1) ws.length x.2.2.1 x.2.2.2,fun x=>if x.2.2.2=true then 0 else ws.length+1 - x.2.2.1,?_,?_⟩
 ·exact⟨([n0],[n0],q4,b4),⟨q4l,fun e=>by simp only [] at e;have:=(hFq (by subst e;exact o4.live)).2 e;simp only [List.length_singleton];omega,by simp,⟨rfl,by simp [Inc],by simp⟩,hlist⟩,qAC [] [] [] rfl (sk) (sk) rfl⟩
 clear hlist hFq
 rintro⟨acc,s,q,b⟩ ⟨k1,k2,k3,⟨k5,k6,k7⟩,k4⟩
 simp only [] at k1 k2 k3 k4 k5 k6 k7
 by_cases c:Tk ws b q qAv
 ·have ql:q+1<=ws.length:=qAi (by rw [c.2];decide)
  refine(qAz ws q b qAv hg k1 (by decide) (by decide)).holds.useT [] [] rfl (sk) (sk) fun e0 H0 hq=>?_
  obtain⟨rfl,rfl⟩:=hq.1 c
  refine⟨rfl,_,⟨3,(0,rrO ws (q+1) false)::[(2,lfI rf s),(1,zc)]⟩,rfl,rfl,?_⟩
  refine VDraw.seq rfl ?_
  refine(qDP ws (q+1) false hg ql).holds.useT [] [] rfl (sk) (sk) fun e0 H0 hq=>?_
  obtain⟨n,q5,b5,q5l,o5,rfl,rfl⟩:=hq
  refine⟨rfl,_,⟨3,(0,rrO ws q5 b5)::[(2,lfI rf s),(1,zc)]⟩,rfl,rfl,?_⟩
  refine⟨sk,?_⟩
  refine(qN6 s n k6 (by omega)).eq rfl ?_
  have hal:=k2 c.1
  have hlt:b5=false->q+1<q5:=fun e=>by subst e;exact qCW (qBb o5)
  have hil:=qQ9 s n
  have c':=c
  obtain⟨rfl,ct⟩:=c'
  exact⟨(acc++[n],qH9 s n,q5,b5),⟨q5l,fun e=>by have:=hlt e;show(acc++[n]).length<=q5;rw [qAK];omega,by show(acc++[n]).length<=1501;rw [qAK];omega,⟨by show qH9 s n=qPQ (acc++[n]);rw [qSJ,k5],qRA s n k6,by show(qH9 s n).length<=(acc++[n]).length;rw [qAK];omega⟩,k4.step (fun f l q' b' ho=>by rw [qDf];exact Out.yes ⟨rfl,ct⟩ (o5.then ho).mv) (fun e=>⟨by have:=hlt e;show q<q5;omega,q5l⟩)⟩,qAC [] [] [] rfl (sk) (sk) rfl,by show(if b5=true then 0 else ws.length+1 - q5)<(if false=true then 0 else ws.length+1 - q);cases b5 <;> simp <;> (try have:=hlt rfl) <;> omega⟩
 ·refine(qAz ws q b qAv hg k1 (by decide) (by decide)).holds.useT [] [] rfl (sk) (sk) fun e0 H0 hq=>?_
  obtain⟨rfl,rfl⟩:=hq.2 c
  refine⟨rfl,_,⟨3,(0,rrO ws q b)::[(2,lfI rf s),(1,zc)]⟩,rfl,rfl,?_⟩
  have ol:=k4.stop (fun e f=>by rw [qDf,if_neg (fun h=>c ⟨e,h⟩)])
  refine(qA9 ws q b tRC hg k1 (by decide) (by decide)).holds.useT [] [] rfl (sk) (sk) fun e0 H0 hq=>?_
  obtain⟨u6,q6,b6,q6l,o6,rfl,rfl⟩:=hq
  refine⟨rfl,_,⟨3,(0,rrO ws q6 b6)::[(2,lfI rf s),(1,zc)]⟩,rfl,rfl,?_⟩
  exact⟨[],[],[], .returned (.p (.agg [i64 5,i64 0,i64 0,i64 0, .str rf.name,i64 rf.mode, .str rf.plate,i64 rf.n,ints s, .nils])),rrH ws q6 b6,rfl,sk,sk, .mk 5 0 0 0 rf s [],q6,b6,q6l,by rw [qET];exact Out.no c1 (Out.no c2 (o1.then (Out.yes c3 (o3.then (ol.then (o6.then (Out.ret (by rw [k5]))))).mv))),⟨_,rfl,qNq 5 0 0 0 rf s⟩,rfl⟩
structure RAll (ws:List Wd) (f:Nat):Prop where
 cond:∀ q b,q<=ws.length->4 * (ws.length - q)+4<=f->qM3 ws f q b
 conj:∀ q b,q<=ws.length->4 * (ws.length - q)+3<=f->HoldsG cx 173 [.ptr 0 0 0] (rrH ws q b) (RC ws b q (qC0 ws f q))
 neg:∀ q b,q<=ws.length->4 * (ws.length - q)+2<=f->HoldsG cx 194 [.ptr 0 0 0] (rrH ws q b) (RC ws b q (qHT ws f q))
 test:∀ q b,q<=ws.length->4 * (ws.length - q)+1<=f->HoldsG cx 203 [.ptr 0 0 0] (rrH ws q b) (RC ws b q (qET ws f q))
theorem qV8 (ws:List Wd) (F q0:Nat) (b0:Bool) (hg:GoodW ws) (hq0:q0<=ws.length) (hF:4 * (ws.length - q0)+2<=F+1) (ih:RAll ws F) :
  HoldsG cx 194 [.ptr 0 0 0] (rrH ws q0 b0) (RC ws b0 q0 (qHT ws (F+1) q0)):=by
 refine qAA Tryz.func194 rfl rfl rfl ?_
 have hl:=hg.len
 by_cases c1:Tk ws b0 q0 qHF
 ·have q1l:q0+1<=ws.length:=qAi (by rw [c1.2];decide)
  refine(qAz ws q0 b0 qHF hg hq0 (by decide) (by decide)).holds.useT [] [] rfl (sk) (sk) fun e0 H0 hq=>?_
  obtain⟨rfl,rfl⟩:=hq.1 c1
  refine⟨rfl,_,⟨2,(0,rrO ws (q0+1) false)::[(1,zc)]⟩,rfl,rfl,?_⟩
  refine(ih.neg (q0+1) false q1l (by omega)).holds.useT [] [] rfl (sk) (sk) fun e0 H0 hq=>?_
  obtain⟨⟨o,n,rl,vl,rf,st,ar⟩,q2,b2,q2l,o2,rfl,rfl⟩:=hq
  refine⟨rfl,_,⟨2,(0,rrO ws q2 b2)::[(1,zc)]⟩,rfl,rfl,?_⟩
  exact⟨[2],[],[], .returned (.p (Cd.mk 7 0 0 0 rf0 [] [.mk o n rl vl rf st ar]).pv),rrH ws q2 b2,rfl,⟨_,rfl,⟨_,rfl,_,_,rfl,rfl,_,_,rfl,rfl,_,_,rfl,rfl,_,_,rfl,rfl,_,_,rfl,rfl,_,_,rfl,rfl,_,_,rfl,rfl,_,_,rfl,rfl,_,_,rfl, .inr (.inl rfl),_,_,rfl,⟨_,rfl,by show 0+1<=1;omega,rfl⟩,rfl⟩⟩,sk,_,q2,b2,q2l,by rw [qHT];exact Out.yes c1 (o2.then Out.same).mv,rfl,rfl⟩
 refine(qAz ws q0 b0 qHF hg hq0 (by decide) (by decide)).holds.useT [] [] rfl (sk) (sk) fun e0 H0 hq=>?_
 obtain⟨rfl,rfl⟩:=hq.2 c1
 refine⟨rfl,_,⟨2,(0,rrO ws q0 b0)::[(1,zc)]⟩,rfl,rfl,?_⟩
 refine(ih.test q0 b0 hq0 (by omega)).holds.useT [] [] rfl (sk) (sk) fun e0 H0 hq=>?_
 obtain⟨⟨o,n,rl,vl,rf,st,ar⟩,q2,b2,q2l,o2,rfl,rfl⟩:=hq
 refine⟨rfl,_,⟨2,(0,rrO ws q2 b2)::[(1,zc)]⟩,rfl,rfl,?_⟩
 exact⟨[],[],[], .returned (.p (Cd.mk o n rl vl rf st ar).pv),rrH ws q2 b2,rfl,sk,sk,_,q2,b2,q2l,by rw [qHT];exact Out.no c1 o2,rfl,rfl⟩
theorem qUX (ws:List Wd) (F q0:Nat) (b0:Bool) (hg:GoodW ws) (hq0:q0<=ws.length) (hF:4 * (ws.length - q0)+3<=F+1) (ih:∀ f,f<=F->RAll ws f) :
  HoldsG cx 173 [.ptr 0 0 0] (rrH ws q0 b0) (RC ws b0 q0 (qC0 ws (F+1) q0)):=by
 refine qAA Tryz.func173 rfl rfl rfl ?_
 have hl:=hg.len
 refine((ih F (Nat.le_refl _)).neg q0 b0 hq0 (by omega)).holds.useT [] [] rfl (sk) (sk) fun e0 H0 hq=>?_
 obtain⟨⟨o,n,rl,vl,rf,st,ar⟩,q1,b1,q1l,o1,rfl,rfl⟩:=hq
 refine⟨rfl,_,⟨2,(0,rrO ws q1 b1)::[(1,zc)]⟩,rfl,rfl,?_⟩
 have hlt1:b1=false->q0<q1:=fun e=>by
  subst e
  have:=o1.live
  subst this
  exact qNt F (qBb o1)
 refine⟨Cd × Nat × Bool,fun x=>[(0, .ptr 0 0 0),(2, .ptr 1 0 0),(3, .ptr 2 0 0)],fun x=>⟨3,[(2,cO (x.1.cells.map .p)),(0,rrO ws x.2.1 x.2.2),(1,zc)]⟩,fun x=>x.2.1<=ws.length/\∃ f,f<=F/\(x.2.2=false->4 * (ws.length - x.2.1)+2<=f)/\∀ l q' b',Out x.2.2 x.2.1 (qLp ws f x.1 x.2.1) l q' b'->Out b0 q0 (qC0 ws (F+1) q0) l q' b',fun x=>if x.2.2=true then 0 else ws.length+1 - x.2.1,?_,?_⟩
 ·exact⟨(.mk o n rl vl rf st ar,q1,b1),⟨q1l,F,Nat.le_refl _,fun e=>by simp only [] at e ⊢;have:=hlt1 e;omega,fun l q' b' ho=>by rw [qC0];exact o1.then ho⟩,qAC [] [] [] rfl (sk) (sk) rfl⟩
 clear o1 hlt1
 rintro⟨⟨o,n,rl,vl,rf,st,ar⟩,q,b⟩ ⟨k1,f,k0,k2,k3⟩
 simp only [] at k1 k0 k2 k3
 by_cases c1:Tk ws b q qDj
 ·have ql:q+1<=ws.length:=qAi (by rw [c1.2];decide)
  have hf:=k2 c1.1
  obtain⟨f,rfl⟩:∃ g,f=g+1:=⟨f - 1,by omega⟩
  refine(qAz ws q b qDj hg k1 (by decide) (by decide)).holds.useT [] [] rfl (sk) (sk) fun e0 H0 hq=>?_
  obtain⟨rfl,rfl⟩:=hq.1 c1
  refine⟨rfl,_,⟨3,(0,rrO ws (q+1) false)::[(2,cO ((Cd.mk o n rl vl rf st ar).cells.map .p)),(1,zc)]⟩,rfl,rfl,?_⟩
  refine VDraw.seq rfl ?_
  refine((ih f (by omega)).neg (q+1) false ql (by omega)).holds.useT [] [] rfl (sk) (sk) fun e0 H0 hq=>?_
  obtain⟨⟨o',n',rl',vl',rf',st',ar'⟩,q2,b2,q2l,o2,rfl,rfl⟩:=hq
  have hlt2:b2=false->q+1<q2:=fun e=>by subst e;exact qNt f (qBb o2)
  refine⟨rfl,_,⟨3,(0,rrO ws q2 b2)::[(2,cO ((Cd.mk o n rl vl rf st ar).cells.map .p)),(1,zc)]⟩,rfl,rfl,?_⟩
  refine⟨sk,?_⟩
  have c':=c1
  obtain⟨rfl,ct⟩:=c'
  exact⟨(.mk 8 0 0 0 rf0 [] [.mk o n rl vl rf st ar, .mk o' n' rl' vl' rf' st' ar'],q2,b2),⟨q2l,f,by omega,fun e=>by simp only [] at e ⊢;have:=hlt2 e;omega,fun l q' b' ho=>k3 l q' b' (by rw [qLp];exact Out.yes ⟨rfl,ct⟩ (o2.then ho).mv)⟩,qAC [3] [] [] rfl ⟨⟨rfl,rfl⟩,⟨rfl,rfl⟩,⟨rfl,rfl⟩,trivial⟩
   ⟨⟨_,rfl,rfl,rfl,_,rfl,_,_,rfl,rfl,_,_,rfl,rfl,_,_,rfl,rfl,_,_,rfl,rfl,_,_,rfl,rfl,_,_,rfl,rfl,_,_,rfl,rfl,_,_,rfl,rfl,_,_,rfl, .inr (.inl rfl),_,_,rfl,⟨_,rfl,by show 0+2<=2;omega,rfl⟩,rfl⟩,sk⟩ rfl,by show(if b2=true then 0 else ws.length+1 - q2)<(if false=true then 0 else ws.length+1 - q);cases b2 <;> simp <;> (try have:=hlt2 rfl) <;> omega⟩
 ·refine(qAz ws q b qDj hg k1 (by decide) (by decide)).holds.useT [] [] rfl (sk) (sk) fun e0 H0 hq=>?_
  obtain⟨rfl,rfl⟩:=hq.2 c1
  refine⟨rfl,_,⟨3,(0,rrO ws q b)::[(2,cO ((Cd.mk o n rl vl rf st ar).cells.map .p)),(1,zc)]⟩,rfl,rfl,?_⟩
  have hst:Out b q (qLp ws f (.mk o n rl vl rf st ar) q) (.mk o n rl vl rf st ar) q b:=by
   cases b
   ·have hf:=k2 rfl
    obtain⟨f,rfl⟩:∃ g,f=g+1:=⟨f - 1,by omega⟩
    rw [qLp,if_neg (fun h=>c1 ⟨rfl,h⟩)]
    exact Out.same
   ·exact Out.bad
  exact⟨[],[],[], .returned (.p (Cd.mk o n rl vl rf st ar).pv),rrH ws q b,rfl,sk,sk,_,q,b,k1,k3 _ _ _ hst,rfl,rfl⟩
theorem qUY (ws:List Wd) (F q0:Nat) (b0:Bool) (hg:GoodW ws) (hq0:q0<=ws.length) (hF:4 * (ws.length - q0)+4<=F+1) (ih:∀ f,f<=F->RAll ws f) :
  HoldsG cx 139 [.ptr 0 0 0] (rrH ws q0 b0) (RC ws b0 q0 (qDJ ws (F+1) q0)):=by
 refine qAA Tryz.func139 rfl rfl rfl ?_
 have hl:=hg.len
 refine((ih F (Nat.le_refl _)).conj q0 b0 hq0 (by omega)).holds.useT [] [] rfl (sk) (sk) fun e0 H0 hq=>?_
 obtain⟨⟨o,n,rl,vl,rf,st,ar⟩,q1,b1,q1l,o1,rfl,rfl⟩:=hq
 refine⟨rfl,_,⟨2,(0,rrO ws q1 b1)::[(1,zc)]⟩,rfl,rfl,?_⟩
 have hlt1:b1=false->q0<q1:=fun e=>by
  subst e
  have:=o1.live
  subst this
  exact qKW F (qBb o1)
 refine⟨Cd × Nat × Bool,fun x=>[(0, .ptr 0 0 0),(2, .ptr 1 0 0),(3, .ptr 2 0 0)],fun x=>⟨3,[(2,cO (x.1.cells.map .p)),(0,rrO ws x.2.1 x.2.2),(1,zc)]⟩,fun x=>x.2.1<=ws.length/\∃ f,f<=F/\(x.2.2=false->4 * (ws.length - x.2.1)+3<=f)/\∀ l q' b',Out x.2.2 x.2.1 (orR ws f x.1 x.2.1) l q' b'->Out b0 q0 (qDJ ws (F+1) q0) l q' b',fun x=>if x.2.2=true then 0 else ws.length+1 - x.2.1,?_,?_⟩
 ·exact⟨(.mk o n rl vl rf st ar,q1,b1),⟨q1l,F,Nat.le_refl _,fun e=>by simp only [] at e ⊢;have:=hlt1 e;omega,fun l q' b' ho=>by rw [qDJ];exact o1.then ho⟩,qAC [] [] [] rfl (sk) (sk) rfl⟩
 clear o1 hlt1
 rintro⟨⟨o,n,rl,vl,rf,st,ar⟩,q,b⟩ ⟨k1,f,k0,k2,k3⟩
 simp only [] at k1 k0 k2 k3
 by_cases c1:Tk ws b q tOr
 ·have ql:q+1<=ws.length:=qAi (by rw [c1.2];decide)
  have hf:=k2 c1.1
  obtain⟨f,rfl⟩:∃ g,f=g+1:=⟨f - 1,by omega⟩
  refine(qAz ws q b tOr hg k1 (by decide) (by decide)).holds.useT [] [] rfl (sk) (sk) fun e0 H0 hq=>?_
  obtain⟨rfl,rfl⟩:=hq.1 c1
  refine⟨rfl,_,⟨3,(0,rrO ws (q+1) false)::[(2,cO ((Cd.mk o n rl vl rf st ar).cells.map .p)),(1,zc)]⟩,rfl,rfl,?_⟩
  refine VDraw.seq rfl ?_
  refine((ih f (by omega)).conj (q+1) false ql (by omega)).holds.useT [] [] rfl (sk) (sk) fun e0 H0 hq=>?_
  obtain⟨⟨o',n',rl',vl',rf',st',ar'⟩,q2,b2,q2l,o2,rfl,rfl⟩:=hq
  have hlt2:b2=false->q+1<q2:=fun e=>by subst e;exact qKW f (qBb o2)
  refine⟨rfl,_,⟨3,(0,rrO ws q2 b2)::[(2,cO ((Cd.mk o n rl vl rf st ar).cells.map .p)),(1,zc)]⟩,rfl,rfl,?_⟩
  refine⟨sk,?_⟩
  have c':=c1
  obtain⟨rfl,ct⟩:=c'
  exact⟨(.mk 9 0 0 0 rf0 [] [.mk o n rl vl rf st ar, .mk o' n' rl' vl' rf' st' ar'],q2,b2),⟨q2l,f,by omega,fun e=>by simp only [] at e ⊢;have:=hlt2 e;omega,fun l q' b' ho=>k3 l q' b' (by rw [orR];exact Out.yes ⟨rfl,ct⟩ (o2.then ho).mv)⟩,qAC [3] [] [] rfl ⟨⟨rfl,rfl⟩,⟨rfl,rfl⟩,⟨rfl,rfl⟩,trivial⟩
   ⟨⟨_,rfl,rfl,rfl,_,rfl,_,_,rfl,rfl,_,_,rfl,rfl,_,_,rfl,rfl,_,_,rfl,rfl,_,_,rfl,rfl,_,_,rfl,rfl,_,_,rfl,rfl,_,_,rfl,rfl,_,_,rfl, .inr (.inl rfl),_,_,rfl,⟨_,rfl,by show 0+2<=2;omega,rfl⟩,rfl⟩,sk⟩ rfl,by show(if b2=true then 0 else ws.length+1 - q2)<(if false=true then 0 else ws.length+1 - q);cases b2 <;> simp <;> (try have:=hlt2 rfl) <;> omega⟩
 ·refine(qAz ws q b tOr hg k1 (by decide) (by decide)).holds.useT [] [] rfl (sk) (sk) fun e0 H0 hq=>?_
  obtain⟨rfl,rfl⟩:=hq.2 c1
  refine⟨rfl,_,⟨3,(0,rrO ws q b)::[(2,cO ((Cd.mk o n rl vl rf st ar).cells.map .p)),(1,zc)]⟩,rfl,rfl,?_⟩
  have hst:Out b q (orR ws f (.mk o n rl vl rf st ar) q) (.mk o n rl vl rf st ar) q b:=by
   cases b
   ·have hf:=k2 rfl
    obtain⟨f,rfl⟩:∃ g,f=g+1:=⟨f - 1,by omega⟩
    rw [orR,if_neg (fun h=>c1 ⟨rfl,h⟩)]
    exact Out.same
   ·exact Out.bad
  exact⟨[],[],[], .returned (.p (Cd.mk o n rl vl rf st ar).pv),rrH ws q b,rfl,sk,sk,_,q,b,k1,k3 _ _ _ hst,rfl,rfl⟩
theorem qTd (ws:List Wd) (hg:GoodW ws):∀ F f,f<=F->RAll ws f
 | 0,f,hf=>by
  have:f=0:=by omega
  subst this
  exact⟨fun q _ _ h=>absurd h (by omega),fun q _ _ h=>absurd h (by omega),fun q _ _ h=>absurd h (by omega),fun q _ _ h=>absurd h (by omega)⟩
 | F+1,f,hf=>by
  have ih:=qTd ws hg F
  by_cases h:f<=F
  ·exact ih f h
  have:f=F+1:=by omega
  subst this
  exact⟨fun q b hq hb=>qUY ws F q b hg hq hb ih,fun q b hq hb=>qUX ws F q b hg hq hb ih,fun q b hq hb=>qV8 ws F q b hg hq hb (ih F (Nat.le_refl _)),fun q b hq hb=>qUJ ws F q b hg hq hb fun q hq hb=>(ih F (Nat.le_refl _)).cond q false hq hb⟩
theorem qQJ (ws:List Wd) (F q:Nat) (b:Bool) (hg:GoodW ws) (hq:q<=ws.length) (hF:4 * (ws.length - q)+4<=F):qM3 ws F q b:=(qTd ws hg F F (Nat.le_refl _)).cond q b hq hF
def RQG {α:Type} (ws:List Wd) (b:Bool) (q:Nat) (r:Rd α) (val:α->PV) (e:AE) (H':Hp):Prop:=∃ a q' b',q'<=ws.length/\Out b q r a q' b'/\(∃ y,e=.returned (.p y)/\NilD y (val a))/\H'=rrH ws q' b'
theorem qNT {α:Type} {ws:List Wd} {b:Bool} {q:Nat} {g:FuncId} {args:List AV} {H:Hp} {r:Rd α} {val:α->PV} (h:HoldsG cx g args H (RQG ws b q r val)):HoldsG cx g args H (RQ ws b q r fun a=>.p (val a)):=
 h.weak fun e H' hq=>by
  obtain⟨c,q',b',h1,h2,⟨y,rfl,h3⟩,rfl⟩:=hq
  exact⟨.returned (.p (val c)),⟨_,rfl,by simp only [NilA];exact⟨_,rfl,h3⟩⟩,c,q',b',h1,h2,rfl,rfl⟩
def cC (c:Cd) (v:PV):AObj:=⟨qFA,false, .bx (c.cells.map .p++[.p v])⟩
theorem qL1 (ws:List Wd) (F q0:Nat) (b0:Bool) (hF:4 * ws.length+8<=F) (hg:GoodW ws) (hq0:q0<=ws.length):HoldsG cx 101 [.ptr 0 0 0] (rrH ws q0 b0) (RQ ws b0 q0 (qGU ws F q0) fun l=>.p (css l)):=by
 refine qNT ?_
 refine qAA Tryz.func101 rfl rfl rfl ?_
 have hl:=hg.len
 refine(qA9 ws q0 b0 tLC hg hq0 (by decide) (by decide)).holds.useT [] [] rfl (sk) (sk) fun e0 H0 hq=>?_
 obtain⟨u1,q1,b1,q1l,o1,rfl,rfl⟩:=hq
 refine⟨rfl,_,⟨1,(0,rrO ws q1 b1)::[]⟩,rfl,rfl,?_⟩
 refine⟨List Cs × Nat × Bool,fun x=>[(0, .ptr 0 0 0),(3, .sl 1 11 0 x.1.length)],fun x=>⟨2,[(1,csO x.1),(0,rrO ws x.2.1 x.2.2)]⟩,fun x=>x.2.1<=ws.length/\(x.2.2=false->x.1.length<=x.2.1)/\x.1.length<=1501/\LK b1 q1 (qDV ws F F [] q1) (fun f=>qDV ws F f x.1 x.2.1) ws.length x.2.1 x.2.2,fun x=>if x.2.2=true then 0 else ws.length+1 - x.2.1,?_,?_⟩
 ·exact⟨([],q1,b1),⟨q1l,fun _=>by simp,by simp,F,fun _=>by simp only [];omega,fun l q' b' ho=>ho⟩,qAC [] [] [(1,11)] rfl (sk) (sk) rfl⟩
 rintro⟨acc,q,b⟩ ⟨k1,k2,k3,k4⟩
 simp only [] at k1 k2 k3 k4
 have hend:(b=true∨b=false/\txt ws q=qCK)->∀ {L:List Cs} {q9:Nat} {b9:Bool},Out b q ((qBz ws qCK q).then fun _ q=>qGV ws F acc q) L q9 b9->Out b1 q1 (qDV ws F F [] q1) L q9 b9:=by
  intro hh L q9 b9 ho
  obtain⟨f,hf,hk⟩:=k4
  refine hk _ _ _ ?_
  rcases hh with rfl | ⟨rfl,ht⟩
  ·exact ho
  ·have:=hf rfl
   obtain⟨f,rfl⟩:∃ g,f=g+1:=⟨f - 1,by omega⟩
   simp only [] at ho ⊢
   rw [qDV,if_pos ht]
   rw [qBz,if_pos ht] at ho
   exact ho
 cases b
 rotate_left
 ·refine(qA9 ws q true qCK hg k1 (by decide) (by decide)).holds.useT [] [] rfl (sk) (sk) fun e0 H0 hq=>?_
  obtain⟨u2,q2,b2,q2l,o2,rfl,rfl⟩:=hq
  refine⟨rfl,_,⟨2,(0,rrO ws q2 b2)::[(1,csO acc)]⟩,rfl,rfl,?_⟩
  refine(qA9 ws q2 b2 qAq hg q2l (by decide) (by decide)).holds.useT [] [] rfl (sk) (sk) fun e0 H0 hq=>?_
  obtain⟨u3,q3,b3,q3l,o3,rfl,rfl⟩:=hq
  refine⟨rfl,_,⟨2,(0,rrO ws q3 b3)::[(1,csO acc)]⟩,rfl,rfl,?_⟩
  refine(qL3 ws F q3 b3 (by omega) hg q3l).holds.useT [] [] rfl (sk) (sk) fun e0 H0 hq=>?_
  obtain⟨l,q4,b4,q4l,o4,rfl,rfl⟩:=hq
  refine⟨rfl,_,⟨2,(0,rrO ws q4 b4)::[(1,csO acc)]⟩,rfl,rfl,?_⟩
  refine⟨by show 0+1<=1;omega,[qJS l],rfl,?_⟩
  refine⟨by show 0+acc.length<=(acc.map Cs.cells).length;simp,acc.map Cs.cells,qAD (by simp),by show(acc.length+1) * 152<=140737488355328;omega,acc.map Cs.cells++[qJS l],rfl,?_⟩
  refine(qA9 ws q4 b4 tRC hg q4l (by decide) (by decide)).holds.useT [] [] rfl (sk) (sk) fun e0 H0 hq=>?_
  obtain⟨u5,q5,b5,q5l,o5,rfl,rfl⟩:=hq
  refine⟨rfl,_,⟨4,(0,rrO ws q5 b5)::[(3,⟨qFA,false, .pus (acc.map Cs.cells++[qJS l])⟩),(2,⟨qFA,false, .pus [qJS l]⟩)]⟩,rfl,rfl,?_⟩
  exact⟨[3],[],[], .returned (.p (.lsts 11 (acc.map Cs.cells++[qJS l]))),rrH ws q5 b5,rfl,⟨_,rfl,⟨_,rfl,by show 0+(acc.length+1)<=(acc.map Cs.cells++[qJS l]).length;simp,qAD (by simp)⟩⟩,sk,acc++[⟨cd0,l⟩],q5,b5,q5l,o1.then (hend (.inl rfl) (o2.then (o3.then (o4.then (o5.then Out.same))))),⟨_,rfl,qMJ acc l⟩,rfl⟩
 by_cases c:Tk ws false q qCK
 ·refine(qUy ws q false qCK hg k1 (by decide) (by decide)).holds.useT [] [] rfl (sk) (sk) fun e0 H0 hq=>?_
  obtain⟨rfl,rfl⟩:=hq.1 c
  refine⟨rfl,_,⟨2,(0,rrO ws q false)::[(1,csO acc)]⟩,rfl,rfl,?_⟩
  refine(qA9 ws q false qCK hg k1 (by decide) (by decide)).holds.useT [] [] rfl (sk) (sk) fun e0 H0 hq=>?_
  obtain⟨u2,q2,b2,q2l,o2,rfl,rfl⟩:=hq
  refine⟨rfl,_,⟨2,(0,rrO ws q2 b2)::[(1,csO acc)]⟩,rfl,rfl,?_⟩
  refine(qA9 ws q2 b2 qAq hg q2l (by decide) (by decide)).holds.useT [] [] rfl (sk) (sk) fun e0 H0 hq=>?_
  obtain⟨u3,q3,b3,q3l,o3,rfl,rfl⟩:=hq
  refine⟨rfl,_,⟨2,(0,rrO ws q3 b3)::[(1,csO acc)]⟩,rfl,rfl,?_⟩
  refine(qL3 ws F q3 b3 (by omega) hg q3l).holds.useT [] [] rfl (sk) (sk) fun e0 H0 hq=>?_
  obtain⟨l,q4,b4,q4l,o4,rfl,rfl⟩:=hq
  refine⟨rfl,_,⟨2,(0,rrO ws q4 b4)::[(1,csO acc)]⟩,rfl,rfl,?_⟩
  refine⟨by show 0+1<=1;omega,[qJS l],rfl,?_⟩
  refine⟨by show 0+acc.length<=(acc.map Cs.cells).length;simp,acc.map Cs.cells,qAD (by simp),by show(acc.length+1) * 152<=140737488355328;omega,acc.map Cs.cells++[qJS l],rfl,?_⟩
  refine(qA9 ws q4 b4 tRC hg q4l (by decide) (by decide)).holds.useT [] [] rfl (sk) (sk) fun e0 H0 hq=>?_
  obtain⟨u5,q5,b5,q5l,o5,rfl,rfl⟩:=hq
  refine⟨rfl,_,⟨4,(0,rrO ws q5 b5)::[(3,⟨qFA,false, .pus (acc.map Cs.cells++[qJS l])⟩),(2,⟨qFA,false, .pus [qJS l]⟩)]⟩,rfl,rfl,?_⟩
  exact⟨[3],[],[], .returned (.p (.lsts 11 (acc.map Cs.cells++[qJS l]))),rrH ws q5 b5,rfl,⟨_,rfl,⟨_,rfl,by show 0+(acc.length+1)<=(acc.map Cs.cells++[qJS l]).length;simp,qAD (by simp)⟩⟩,sk,acc++[⟨cd0,l⟩],q5,b5,q5l,o1.then (hend (.inr c) (o2.then (o3.then (o4.then (o5.then Out.same))))),⟨_,rfl,qMJ acc l⟩,rfl⟩
 refine(qUy ws q false qCK hg k1 (by decide) (by decide)).holds.useT [] [] rfl (sk) (sk) fun e0 H0 hq=>?_
 obtain⟨rfl,rfl⟩:=hq.2 c
 refine⟨rfl,_,⟨2,(0,rrO ws q false)::[(1,csO acc)]⟩,rfl,rfl,?_⟩
 clear hend
 have hal:=k2 rfl
 refine(qQJ ws F q false hg k1 (by omega)).holds.useT [] [] rfl (sk) (sk) fun e0 H0 hq=>?_
 obtain⟨⟨o,n,rl,vl,rf,st,ar⟩,q2,b2,q2l,o2,rfl,rfl⟩:=hq
 refine⟨rfl,_,⟨2,(0,rrO ws q2 b2)::[(1,csO acc)]⟩,rfl,rfl,?_⟩
 refine(qA9 ws q2 b2 qAq hg q2l (by decide) (by decide)).holds.useT [] [] rfl (sk) (sk) fun e0 H0 hq=>?_
 obtain⟨u3,q3,b3,q3l,o3,rfl,rfl⟩:=hq
 refine⟨rfl,_,⟨3,(0,rrO ws q3 b3)::[(2,cC (.mk o n rl vl rf st ar) .nils),(1,csO acc)]⟩,rfl,rfl,?_⟩
 refine(qL3 ws F q3 b3 (by omega) hg q3l).holds.useT [] [] rfl (sk) (sk) fun e0 H0 hq=>?_
 obtain⟨l,q4,b4,q4l,o4,rfl,rfl⟩:=hq
 refine⟨rfl,_,⟨3,(0,rrO ws q4 b4)::[(2,cC (.mk o n rl vl rf st ar) .nils),(1,csO acc)]⟩,rfl,rfl,?_⟩
 refine(qA9 ws q4 b4 qAY hg q4l (by decide) (by decide)).holds.useT [] [] rfl (sk) (sk) fun e0 H0 hq=>?_
 obtain⟨u5,q5,b5,q5l,o5,rfl,rfl⟩:=hq
 refine⟨rfl,_,⟨3,(0,rrO ws q5 b5)::[(2,cC (.mk o n rl vl rf st ar) (ints l)),(1,csO acc)]⟩,rfl,rfl,?_⟩
 obtain⟨x,hx⟩:∃ x:Cs,x=⟨.mk o n rl vl rf st ar,l⟩:=⟨_,rfl⟩
 refine⟨by show 0+1<=1;omega,[x.cells],by rw [hx];rfl,?_⟩
 refine⟨by show 0+acc.length<=(acc.map Cs.cells).length;simp,acc.map Cs.cells,qAD (by simp),by show(acc.length+1) * 152<=140737488355328;omega,(acc++[x]).map Cs.cells,by simp,?_⟩
 have hlt:b5=false->q+1<=q5:=fun e=>by
  subst e
  have h5:=o5.live
  subst h5
  have h4:=o4.live
  subst h4
  have h3:=o3.live
  subst h3
  have h2:=o2.live
  have g2:=qMn F (qBb o2)
  have g3:=qAr (qBb o3)
  have g4:=qKA (qBb o4)
  have g5:=qAr (qBb o5)
  omega
 exact⟨(acc++[x],q5,b5),⟨q5l,fun e=>by have:=hlt e;show(acc++[x]).length<=q5;rw [qAK];omega,by show(acc++[x]).length<=1501;rw [qAK];omega,k4.step (fun f l' q' b' ho=>by rw [qDV,if_neg (fun h=>c ⟨rfl,h⟩)];exact o2.then (o3.then (o4.then (o5.then (by rw [hx] at ho;exact ho))))) (fun e=>⟨by have:=hlt e;show q<q5;omega,q5l⟩)⟩,qAC [] [(1,4)] [] rfl ⟨⟨rfl,rfl⟩,congrArg (fun k:Nat=>AV.sl 4 11 0 k) (qAK acc x).symm,trivial⟩ (sk) rfl,by show(if b5=true then 0 else ws.length+1 - q5)<(if false=true then 0 else ws.length+1 - q);cases b5 <;> simp <;> (try have:=hlt rfl) <;> omega⟩
def qRT (ws:List Wd) (F q:Nat):Rd De:=(qCL ws F q).then fun d q=>(qBz ws qAY q).then fun _ q=>.inr (d,q)
def rdO (k n:Int) (nm pl:List UInt8) (rs cs:PV):AObj:=⟨qIf,false, .bx [.p (i64 k), .p (i64 n), .p (.str nm), .p (.str pl), .p rs, .p cs]⟩
abbrev dz:AObj:=rdO 0 0 [] [] .nils .nils
theorem qFQ {k n:Int} {nm pl:List UInt8} {l:List Rf} {cs:List Cs} {rs c2:PV} (h1:NilD rs (qBw l)) (h2:NilD c2 (css cs)):NilD (.agg [i64 k,i64 n, .str nm, .str pl,rs,c2]) (De.pv ⟨k,n,nm,pl,l,cs⟩):=by
 show NilD _ (.agg [i64 k,i64 n, .str nm, .str pl,qBw l,css cs])
 simp only [NilD,NilDL]
 exact⟨_,rfl,_,_,rfl,rfl,_,_,rfl,rfl,_,_,rfl,rfl,_,_,rfl,rfl,_,_,rfl,h1,_,_,rfl,h2,rfl⟩
theorem qBy (s:Nat):NilD .nils (.lsts s []):=by simp only [NilD];exact .inr (.inr ⟨s,rfl⟩)
theorem qUV (ws:List Wd) (F q0:Nat) (b0:Bool) (hF:4 * ws.length+8<=F) (hg:GoodW ws) (hq0:q0<=ws.length):HoldsG cx 56 [.ptr 0 0 0] (rrH ws q0 b0) (RQ ws b0 q0 (qRT ws F q0) fun d=>.p d.pv):=by
 refine qNT ?_
 refine qAA Tryz.func56 rfl rfl rfl ?_
 have hl:=hg.len
 by_cases c1:Tk ws b0 q0 qCN
 ·have q1l:q0+1<=ws.length:=qAi (by rw [c1.2];decide)
  refine(qAz ws q0 b0 qCN hg hq0 (by decide) (by decide)).holds.useT [] [] rfl (sk) (sk) fun e0 H0 hq=>?_
  obtain⟨rfl,rfl⟩:=hq.1 c1
  refine⟨rfl,_,⟨3,(0,rrO ws (q0+1) false)::[(2,dz),(1,dz)]⟩,rfl,rfl,?_⟩
  refine(qDP ws (q0+1) false hg q1l).holds.useT [] [] rfl (sk) (sk) fun e0 H0 hq=>?_
  obtain⟨n,q2,b2,q2l,o2,rfl,rfl⟩:=hq
  refine⟨rfl,_,⟨3,(0,rrO ws q2 b2)::[(2,dz),(1,dz)]⟩,rfl,rfl,?_⟩
  refine(qA9 ws q2 b2 qAY hg q2l (by decide) (by decide)).holds.useT [] [] rfl (sk) (sk) fun e0 H0 hq=>?_
  obtain⟨u9,q9,b9,q9l,o9,rfl,rfl⟩:=hq
  refine⟨rfl,_,⟨3,(0,rrO ws q9 b9)::[(2,rdO 1 n [] [] .nils .nils),(1,dz)]⟩,rfl,rfl,?_⟩
  exact⟨[],[],[], .returned (.p (.agg [i64 1,i64 n, .str [], .str [], .nils, .nils])),rrH ws q9 b9,rfl,sk,sk,⟨1,n,[],[],[],[]⟩,q9,b9,q9l,Out.then (by rw [qCL];exact Out.yes c1 (o2.then Out.same).mv) (o9.then Out.same),⟨_,rfl,qFQ (by first | exact NilD.refl _ | exact qBy 4) (by first | exact NilD.refl _ | exact qBy 11)⟩,rfl⟩
 refine(qAz ws q0 b0 qCN hg hq0 (by decide) (by decide)).holds.useT [] [] rfl (sk) (sk) fun e0 H0 hq=>?_
 obtain⟨rfl,rfl⟩:=hq.2 c1
 refine⟨rfl,_,⟨3,(0,rrO ws q0 b0)::[(2,dz),(1,dz)]⟩,rfl,rfl,?_⟩
 by_cases c2:Tk ws b0 q0 qCM
 ·have q1l:q0+1<=ws.length:=qAi (by rw [c2.2];decide)
  refine(qAz ws q0 b0 qCM hg hq0 (by decide) (by decide)).holds.useT [] [] rfl (sk) (sk) fun e0 H0 hq=>?_
  obtain⟨rfl,rfl⟩:=hq.1 c2
  refine⟨rfl,_,⟨3,(0,rrO ws (q0+1) false)::[(2,dz),(1,dz)]⟩,rfl,rfl,?_⟩
  refine(qFR ws (q0+1) false hg q1l).holds.useT [] [] rfl (sk) (sk) fun e0 H0 hq=>?_
  obtain⟨nm,q2,b2,q2l,o2,rfl,rfl⟩:=hq
  refine⟨rfl,_,⟨3,(0,rrO ws q2 b2)::[(2,dz),(1,dz)]⟩,rfl,rfl,?_⟩
  refine(qA9 ws q2 b2 tEq hg q2l (by decide) (by decide)).holds.useT [] [] rfl (sk) (sk) fun e0 H0 hq=>?_
  obtain⟨u3,q3,b3,q3l,o3,rfl,rfl⟩:=hq
  refine⟨rfl,_,⟨3,(0,rrO ws q3 b3)::[(2,rdO 2 0 nm [] .nils .nils),(1,dz)]⟩,rfl,rfl,?_⟩
  refine(qDP ws q3 b3 hg q3l).holds.useT [] [] rfl (sk) (sk) fun e0 H0 hq=>?_
  obtain⟨n,q4,b4,q4l,o4,rfl,rfl⟩:=hq
  refine⟨rfl,_,⟨3,(0,rrO ws q4 b4)::[(2,rdO 2 0 nm [] .nils .nils),(1,dz)]⟩,rfl,rfl,?_⟩
  refine(qA9 ws q4 b4 qAY hg q4l (by decide) (by decide)).holds.useT [] [] rfl (sk) (sk) fun e0 H0 hq=>?_
  obtain⟨u9,q9,b9,q9l,o9,rfl,rfl⟩:=hq
  refine⟨rfl,_,⟨3,(0,rrO ws q9 b9)::[(2,rdO 2 n nm [] .nils .nils),(1,dz)]⟩,rfl,rfl,?_⟩
  exact⟨[],[],[], .returned (.p (.agg [i64 2,i64 n, .str nm, .str [], .nils, .nils])),rrH ws q9 b9,rfl,sk,sk,⟨2,n,nm,[],[],[]⟩,q9,b9,q9l,Out.then (by rw [qCL];exact Out.no c1 (Out.yes c2 (o2.then (o3.then (o4.then Out.same))).mv)) (o9.then Out.same),⟨_,rfl,qFQ (by first | exact NilD.refl _ | exact qBy 4) (by first | exact NilD.refl _ | exact qBy 11)⟩,rfl⟩
 refine(qAz ws q0 b0 qCM hg hq0 (by decide) (by decide)).holds.useT [] [] rfl (sk) (sk) fun e0 H0 hq=>?_
 obtain⟨rfl,rfl⟩:=hq.2 c2
 refine⟨rfl,_,⟨3,(0,rrO ws q0 b0)::[(2,dz),(1,dz)]⟩,rfl,rfl,?_⟩
 by_cases c3:Tk ws b0 q0 qAl
 ·have q1l:q0+1<=ws.length:=qAi (by rw [c3.2];decide)
  refine(qAz ws q0 b0 qAl hg hq0 (by decide) (by decide)).holds.useT [] [] rfl (sk) (sk) fun e0 H0 hq=>?_
  obtain⟨rfl,rfl⟩:=hq.1 c3
  refine⟨rfl,_,⟨3,(0,rrO ws (q0+1) false)::[(2,dz),(1,dz)]⟩,rfl,rfl,?_⟩
  refine(qFR ws (q0+1) false hg q1l).holds.useT [] [] rfl (sk) (sk) fun e0 H0 hq=>?_
  obtain⟨nm,q2,b2,q2l,o2,rfl,rfl⟩:=hq
  refine⟨rfl,_,⟨3,(0,rrO ws q2 b2)::[(2,dz),(1,dz)]⟩,rfl,rfl,?_⟩
  have hb:∀ {d:De} {q9:Nat} {b9:Bool},Out b2 q2 (if txt ws q2=tLB then(qCs ws (q2+1)).then fun pl q=>(qBz ws tRB q).then fun _ q=>qCD ws F nm pl q else qCD ws F nm [] q2) d q9 b9->Out b0 q0 (qCL ws F q0) d q9 b9:=
   fun ho=>by rw [qCL];exact Out.no c1 (Out.no c2 (Out.yes c3 (o2.then ho).mv))
  by_cases c4:Tk ws b2 q2 tLB
  ·have q3l:q2+1<=ws.length:=qAi (by rw [c4.2];decide)
   refine(qAz ws q2 b2 tLB hg q2l (by decide) (by decide)).holds.useT [] [] rfl (sk) (sk) fun e0 H0 hq=>?_
   obtain⟨rfl,rfl⟩:=hq.1 c4
   refine⟨rfl,_,⟨3,(0,rrO ws (q2+1) false)::[(2,rdO 3 0 nm [] .nils .nils),(1,dz)]⟩,rfl,rfl,?_⟩
   refine(qFR ws (q2+1) false hg q3l).holds.useT [] [] rfl (sk) (sk) fun e0 H0 hq=>?_
   obtain⟨pl,q3a,b3a,q3al,o3a,rfl,rfl⟩:=hq
   refine⟨rfl,_,⟨3,(0,rrO ws q3a b3a)::[(2,rdO 3 0 nm [] .nils .nils),(1,dz)]⟩,rfl,rfl,?_⟩
   refine(qA9 ws q3a b3a tRB hg q3al (by decide) (by decide)).holds.useT [] [] rfl (sk) (sk) fun e0 H0 hq=>?_
   obtain⟨u3,q3,b3,q3l,o3,rfl,rfl⟩:=hq
   refine⟨rfl,_,⟨3,(0,rrO ws q3 b3)::[(2,rdO 3 0 nm pl .nils .nils),(1,dz)]⟩,rfl,rfl,?_⟩
   have hb2:∀ {d:De} {q9:Nat} {b9:Bool},Out b3 q3 (qCD ws F nm pl q3) d q9 b9->Out b0 q0 (qCL ws F q0) d q9 b9:=fun ho=>hb (Out.yes c4 (o3a.then (o3.then ho)).mv)
   refine(qA9 ws q3 b3 qAq hg q3l (by decide) (by decide)).holds.useT [] [] rfl (sk) (sk) fun e0 H0 hq=>?_
   obtain⟨u4,q4,b4,q4l,o4,rfl,rfl⟩:=hq
   refine⟨rfl,_,⟨3,(0,rrO ws q4 b4)::[(2,rdO 3 0 nm pl .nils .nils),(1,dz)]⟩,rfl,rfl,?_⟩
   refine(qDP ws q4 b4 hg q4l).holds.useT [] [] rfl (sk) (sk) fun e0 H0 hq=>?_
   obtain⟨n,q5,b5,q5l,o5,rfl,rfl⟩:=hq
   refine⟨rfl,_,⟨3,(0,rrO ws q5 b5)::[(2,rdO 3 0 nm pl .nils .nils),(1,dz)]⟩,rfl,rfl,?_⟩
   refine(qJt ws F q5 b5 qAg (by decide) (by decide) (by omega) hg q5l).holds.useT [] [] rfl (sk) (sk) fun e0 H0 hq=>?_
   obtain⟨l,q6,b6,q6l,o6,rfl,rfl⟩:=hq
   refine⟨rfl,_,⟨3,(0,rrO ws q6 b6)::[(2,rdO 3 n nm pl .nils .nils),(1,dz)]⟩,rfl,rfl,?_⟩
   refine(qA9 ws q6 b6 tEq hg q6l (by decide) (by decide)).holds.useT [] [] rfl (sk) (sk) fun e0 H0 hq=>?_
   obtain⟨u7,q7,b7,q7l,o7,rfl,rfl⟩:=hq
   refine⟨rfl,_,⟨3,(0,rrO ws q7 b7)::[(2,rdO 3 n nm pl (qBw l) .nils),(1,dz)]⟩,rfl,rfl,?_⟩
   refine(qL1 ws F q7 b7 hF hg q7l).holds.useT [] [] rfl (sk) (sk) fun e0 H0 hq=>?_
   obtain⟨cs,q8,b8,q8l,o8,rfl,rfl⟩:=hq
   refine⟨rfl,_,⟨3,(0,rrO ws q8 b8)::[(2,rdO 3 n nm pl (qBw l) .nils),(1,dz)]⟩,rfl,rfl,?_⟩
   refine(qA9 ws q8 b8 qAY hg q8l (by decide) (by decide)).holds.useT [] [] rfl (sk) (sk) fun e0 H0 hq=>?_
   obtain⟨u9,q9,b9,q9l,o9,rfl,rfl⟩:=hq
   refine⟨rfl,_,⟨3,(0,rrO ws q9 b9)::[(2,rdO 3 n nm pl (qBw l) (css cs)),(1,dz)]⟩,rfl,rfl,?_⟩
   exact⟨[],[],[], .returned (.p (.agg [i64 3,i64 n, .str nm, .str pl,(qBw l),(css cs)])),rrH ws q9 b9,rfl,sk,sk,⟨3,n,nm,pl,l,cs⟩,q9,b9,q9l,Out.then (hb2 (o4.then (o5.then (o6.then (o7.then (o8.then Out.same)))))) (o9.then Out.same),⟨_,rfl,qFQ (by first | exact NilD.refl _ | exact qBy 4) (by first | exact NilD.refl _ | exact qBy 11)⟩,rfl⟩
  ·refine(qAz ws q2 b2 tLB hg q2l (by decide) (by decide)).holds.useT [] [] rfl (sk) (sk) fun e0 H0 hq=>?_
   obtain⟨rfl,rfl⟩:=hq.2 c4
   refine⟨rfl,_,⟨3,(0,rrO ws q2 b2)::[(2,rdO 3 0 nm [] .nils .nils),(1,dz)]⟩,rfl,rfl,?_⟩
   have hb2:∀ {d:De} {q9:Nat} {b9:Bool},Out b2 q2 (qCD ws F nm [] q2) d q9 b9->Out b0 q0 (qCL ws F q0) d q9 b9:=fun ho=>hb (Out.no c4 ho)
   refine(qA9 ws q2 b2 qAq hg q2l (by decide) (by decide)).holds.useT [] [] rfl (sk) (sk) fun e0 H0 hq=>?_
   obtain⟨u4,q4,b4,q4l,o4,rfl,rfl⟩:=hq
   refine⟨rfl,_,⟨3,(0,rrO ws q4 b4)::[(2,rdO 3 0 nm [] .nils .nils),(1,dz)]⟩,rfl,rfl,?_⟩
   refine(qDP ws q4 b4 hg q4l).holds.useT [] [] rfl (sk) (sk) fun e0 H0 hq=>?_
   obtain⟨n,q5,b5,q5l,o5,rfl,rfl⟩:=hq
   refine⟨rfl,_,⟨3,(0,rrO ws q5 b5)::[(2,rdO 3 0 nm [] .nils .nils),(1,dz)]⟩,rfl,rfl,?_⟩
   refine(qJt ws F q5 b5 qAg (by decide) (by decide) (by omega) hg q5l).holds.useT [] [] rfl (sk) (sk) fun e0 H0 hq=>?_
   obtain⟨l,q6,b6,q6l,o6,rfl,rfl⟩:=hq
   refine⟨rfl,_,⟨3,(0,rrO ws q6 b6)::[(2,rdO 3 n nm [] .nils .nils),(1,dz)]⟩,rfl,rfl,?_⟩
   refine(qA9 ws q6 b6 tEq hg q6l (by decide) (by decide)).holds.useT [] [] rfl (sk) (sk) fun e0 H0 hq=>?_
   obtain⟨u7,q7,b7,q7l,o7,rfl,rfl⟩:=hq
   refine⟨rfl,_,⟨3,(0,rrO ws q7 b7)::[(2,rdO 3 n nm [] (qBw l) .nils),(1,dz)]⟩,rfl,rfl,?_⟩
   refine(qL1 ws F q7 b7 hF hg q7l).holds.useT [] [] rfl (sk) (sk) fun e0 H0 hq=>?_
   obtain⟨cs,q8,b8,q8l,o8,rfl,rfl⟩:=hq
   refine⟨rfl,_,⟨3,(0,rrO ws q8 b8)::[(2,rdO 3 n nm [] (qBw l) .nils),(1,dz)]⟩,rfl,rfl,?_⟩
   refine(qA9 ws q8 b8 qAY hg q8l (by decide) (by decide)).holds.useT [] [] rfl (sk) (sk) fun e0 H0 hq=>?_
   obtain⟨u9,q9,b9,q9l,o9,rfl,rfl⟩:=hq
   refine⟨rfl,_,⟨3,(0,rrO ws q9 b9)::[(2,rdO 3 n nm [] (qBw l) (css cs)),(1,dz)]⟩,rfl,rfl,?_⟩
   exact⟨[],[],[], .returned (.p (.agg [i64 3,i64 n, .str nm, .str [],(qBw l),(css cs)])),rrH ws q9 b9,rfl,sk,sk,⟨3,n,nm,[],l,cs⟩,q9,b9,q9l,Out.then (hb2 (o4.then (o5.then (o6.then (o7.then (o8.then Out.same)))))) (o9.then Out.same),⟨_,rfl,qFQ (by first | exact NilD.refl _ | exact qBy 4) (by first | exact NilD.refl _ | exact qBy 11)⟩,rfl⟩
 refine(qAz ws q0 b0 qAl hg hq0 (by decide) (by decide)).holds.useT [] [] rfl (sk) (sk) fun e0 H0 hq=>?_
 obtain⟨rfl,rfl⟩:=hq.2 c3
 refine⟨rfl,_,⟨3,(0,rrO ws q0 b0)::[(2,dz),(1,dz)]⟩,rfl,rfl,?_⟩
 by_cases c4:Tk ws b0 q0 qBM
 ·have q1l:q0+1<=ws.length:=qAi (by rw [c4.2];decide)
  refine(qAz ws q0 b0 qBM hg hq0 (by decide) (by decide)).holds.useT [] [] rfl (sk) (sk) fun e0 H0 hq=>?_
  obtain⟨rfl,rfl⟩:=hq.1 c4
  refine⟨rfl,_,⟨3,(0,rrO ws (q0+1) false)::[(2,dz),(1,dz)]⟩,rfl,rfl,?_⟩
  refine(qFR ws (q0+1) false hg q1l).holds.useT [] [] rfl (sk) (sk) fun e0 H0 hq=>?_
  obtain⟨nm,q2,b2,q2l,o2,rfl,rfl⟩:=hq
  refine⟨rfl,_,⟨3,(0,rrO ws q2 b2)::[(2,dz),(1,dz)]⟩,rfl,rfl,?_⟩
  refine(qA9 ws q2 b2 qAq hg q2l (by decide) (by decide)).holds.useT [] [] rfl (sk) (sk) fun e0 H0 hq=>?_
  obtain⟨u3,q3,b3,q3l,o3,rfl,rfl⟩:=hq
  refine⟨rfl,_,⟨3,(0,rrO ws q3 b3)::[(2,rdO 4 0 nm [] .nils .nils),(1,dz)]⟩,rfl,rfl,?_⟩
  refine(qDP ws q3 b3 hg q3l).holds.useT [] [] rfl (sk) (sk) fun e0 H0 hq=>?_
  obtain⟨n,q4,b4,q4l,o4,rfl,rfl⟩:=hq
  refine⟨rfl,_,⟨3,(0,rrO ws q4 b4)::[(2,rdO 4 0 nm [] .nils .nils),(1,dz)]⟩,rfl,rfl,?_⟩
  refine(qJt ws F q4 b4 qBt (by decide) (by decide) (by omega) hg q4l).holds.useT [] [] rfl (sk) (sk) fun e0 H0 hq=>?_
  obtain⟨l,q5,b5,q5l,o5,rfl,rfl⟩:=hq
  refine⟨rfl,_,⟨3,(0,rrO ws q5 b5)::[(2,rdO 4 n nm [] .nils .nils),(1,dz)]⟩,rfl,rfl,?_⟩
  refine(qA9 ws q5 b5 qAY hg q5l (by decide) (by decide)).holds.useT [] [] rfl (sk) (sk) fun e0 H0 hq=>?_
  obtain⟨u9,q9,b9,q9l,o9,rfl,rfl⟩:=hq
  refine⟨rfl,_,⟨3,(0,rrO ws q9 b9)::[(2,rdO 4 n nm [] (qBw l) .nils),(1,dz)]⟩,rfl,rfl,?_⟩
  exact⟨[],[],[], .returned (.p (.agg [i64 4,i64 n, .str nm, .str [],(qBw l), .nils])),rrH ws q9 b9,rfl,sk,sk,⟨4,n,nm,[],l,[]⟩,q9,b9,q9l,Out.then (by rw [qCL];exact Out.no c1 (Out.no c2 (Out.no c3 (Out.yes c4 (o2.then (o3.then (o4.then (o5.then Out.same)))).mv)))) (o9.then Out.same),⟨_,rfl,qFQ (by first | exact NilD.refl _ | exact qBy 4) (by first | exact NilD.refl _ | exact qBy 11)⟩,rfl⟩
 refine(qAz ws q0 b0 qBM hg hq0 (by decide) (by decide)).holds.useT [] [] rfl (sk) (sk) fun e0 H0 hq=>?_
 obtain⟨rfl,rfl⟩:=hq.2 c4
 refine⟨rfl,_,⟨3,(0,rrO ws q0 b0)::[(2,dz),(1,dz)]⟩,rfl,rfl,?_⟩
 by_cases c5:Tk ws b0 q0 qBu
 ·have q1l:q0+1<=ws.length:=qAi (by rw [c5.2];decide)
  refine(qAz ws q0 b0 qBu hg hq0 (by decide) (by decide)).holds.useT [] [] rfl (sk) (sk) fun e0 H0 hq=>?_
  obtain⟨rfl,rfl⟩:=hq.1 c5
  refine⟨rfl,_,⟨3,(0,rrO ws (q0+1) false)::[(2,dz),(1,dz)]⟩,rfl,rfl,?_⟩
  refine(qJt ws F (q0+1) false qAg (by decide) (by decide) (by omega) hg q1l).holds.useT [] [] rfl (sk) (sk) fun e0 H0 hq=>?_
  obtain⟨l,q2,b2,q2l,o2,rfl,rfl⟩:=hq
  refine⟨rfl,_,⟨3,(0,rrO ws q2 b2)::[(2,rdO 5 0 [] [] .nils .nils),(1,dz)]⟩,rfl,rfl,?_⟩
  refine(qA9 ws q2 b2 tEq hg q2l (by decide) (by decide)).holds.useT [] [] rfl (sk) (sk) fun e0 H0 hq=>?_
  obtain⟨u3,q3,b3,q3l,o3,rfl,rfl⟩:=hq
  refine⟨rfl,_,⟨3,(0,rrO ws q3 b3)::[(2,rdO 5 0 [] [] (qBw l) .nils),(1,dz)]⟩,rfl,rfl,?_⟩
  refine(qL1 ws F q3 b3 hF hg q3l).holds.useT [] [] rfl (sk) (sk) fun e0 H0 hq=>?_
  obtain⟨cs,q4,b4,q4l,o4,rfl,rfl⟩:=hq
  refine⟨rfl,_,⟨3,(0,rrO ws q4 b4)::[(2,rdO 5 0 [] [] (qBw l) .nils),(1,dz)]⟩,rfl,rfl,?_⟩
  refine(qA9 ws q4 b4 qAY hg q4l (by decide) (by decide)).holds.useT [] [] rfl (sk) (sk) fun e0 H0 hq=>?_
  obtain⟨u9,q9,b9,q9l,o9,rfl,rfl⟩:=hq
  refine⟨rfl,_,⟨3,(0,rrO ws q9 b9)::[(2,rdO 5 0 [] [] (qBw l) (css cs)),(1,dz)]⟩,rfl,rfl,?_⟩
  exact⟨[],[],[], .returned (.p (.agg [i64 5,i64 0, .str [], .str [],(qBw l),(css cs)])),rrH ws q9 b9,rfl,sk,sk,⟨5,0,[],[],l,cs⟩,q9,b9,q9l,Out.then (by rw [qCL];exact Out.no c1 (Out.no c2 (Out.no c3 (Out.no c4 (Out.yes c5 (o2.then (o3.then (o4.then Out.same))).mv))))) (o9.then Out.same),⟨_,rfl,qFQ (by first | exact NilD.refl _ | exact qBy 4) (by first | exact NilD.refl _ | exact qBy 11)⟩,rfl⟩
 refine(qAz ws q0 b0 qBu hg hq0 (by decide) (by decide)).holds.useT [] [] rfl (sk) (sk) fun e0 H0 hq=>?_
 obtain⟨rfl,rfl⟩:=hq.2 c5
 refine⟨rfl,_,⟨3,(0,rrO ws q0 b0)::[(2,dz),(1,dz)]⟩,rfl,rfl,?_⟩
 have od:Out b0 q0 (qCL ws F q0) (⟨0,0,[],[],[],[]⟩:De) q0 true:=by
  cases b0
  ·show qCL ws F q0=.inl q0
   rw [qCL,if_neg (fun h=>c1 ⟨rfl,h⟩),if_neg (fun h=>c2 ⟨rfl,h⟩),if_neg (fun h=>c3 ⟨rfl,h⟩),if_neg (fun h=>c4 ⟨rfl,h⟩),if_neg (fun h=>c5 ⟨rfl,h⟩)]
  ·exact Out.bad
 have q0l:=hq0
 refine(qA9 ws q0 true qAY hg q0l (by decide) (by decide)).holds.useT [] [] rfl (sk) (sk) fun e0 H0 hq=>?_
 obtain⟨u9,q9,b9,q9l,o9,rfl,rfl⟩:=hq
 refine⟨rfl,_,⟨3,(0,rrO ws q9 b9)::[(2,rdO 0 0 [] [] .nils .nils),(1,dz)]⟩,rfl,rfl,?_⟩
 exact⟨[],[],[], .returned (.p (.agg [i64 0,i64 0, .str [], .str [], .nils, .nils])),rrH ws q9 b9,rfl,sk,sk,⟨0,0,[],[],[],[]⟩,q9,b9,q9l,Out.then od (o9.then Out.same),⟨_,rfl,qFQ (by first | exact NilD.refl _ | exact qBy 4) (by first | exact NilD.refl _ | exact qBy 11)⟩,rfl⟩
theorem qS5 {ws:List Wd} {F q q':Nat} {d:De} (h:qRT ws F q=.inr (d,q')):q<q':=by
 rw [qRT] at h
 cases h1:qCL ws F q with
 | inl e=>rw [h1] at h;cases h
 | inr x=>
  obtain⟨a,p⟩:=x
  rw [h1] at h
  have h:(qBz ws qAY p).then _=_:=h
  have:=qGp h1
  cases h2:qBz ws qAY p with
  | inl e=>rw [h2] at h;cases h
  | inr x=>
   obtain⟨u,p2⟩:=x
   rw [h2] at h
   have h:Sum.inr (a,p2)=(Sum.inr (d,q'):Rd De):=h
   have:=qAr h2
   injection h with h
   injection h with _ h
   omega
abbrev rpH (ws:List Wd) (acc:List De) (q:Nat) (b:Bool):Hp:=⟨4,[(3,qMk acc),(2,srO (.sl 3 6 0 acc.length)),(1,rrO ws q b),(0,srO (.p .nils))]⟩
theorem qSc (s:List UInt8):Pure cx 23 [.str s] (·=.ret (qYF (qEN s))):=by
 have hRd:=qQK s
 refine qAB Tryz.func23 rfl rfl rfl ?_
 by_cases h0:8000<s.length
 ·rw [qCl,if_pos h0] at hRd
  refine hRd.eq rfl ?_
  have e:qEN s=.inl ((0,0),3):=by rw [qEN,if_pos h0]
  refine And.intro (fun h=>absurd (show(3:Int)=0 from h) (by decide)) (fun _=>?_)
  exact qKQ (qCT []) (i64 0) (i64 0) (i64 3) rfl ⟨_,rfl,_,_,rfl, .inr (.inr ⟨6,rfl⟩),rfl⟩ rfl rfl rfl (by rw [e] <;> rfl)
 cases hr:qDd s with
 | err p c=>
  rw [qCl,if_neg h0,hr] at hRd
  refine hRd.eq rfl ?_
  have e:qEN s=.inl ((p.1,p.2),c):=by rw [qEN,if_neg h0,hr]
  have hc:¬ c=0:=by
   have:=qDn s _ _ _ _ _ hr
   omega
  refine And.intro (fun h=>absurd (show c=0 from h) hc) (fun _=>?_)
  exact qKQ (qCT []) (i64 p.1) (i64 p.2) (i64 c) rfl ⟨_,rfl,_,_,rfl, .inr (.inr ⟨6,rfl⟩),rfl⟩ rfl rfl rfl (by rw [e] <;> rfl)
 | ok ws=>
  have hg:=qHr hr
  have hl:=hg.len
  have hl':(ws.map Wd.cells).length=ws.length:=List.length_map ..
  rw [qCl,if_neg h0,hr] at hRd
  refine hRd.eq rfl ?_
  refine And.intro (fun _=>?_) (fun h=>absurd rfl h)
  obtain⟨F,hF⟩:∃ F,F=qIC ws:=⟨_,rfl⟩
  have hF8:4 * ws.length+8<=F:=by rw [hF];exact Nat.le_refl _
  have hFb:F<=100000:=by rw [hF,qIC];omega
  have e:qEN s=match qDL ws F F [] 0 with
    | .inl q=>.inl (((wat ws q).line,(wat ws q).col),381)
    | .inr (ds,_)=>if qBP ds=true then .inr ds else .inl ((0,0),3):=by rw [qEN,if_neg h0,hr,hF] <;> rfl
  clear hF
  refine⟨List De × Nat × Bool,fun x=>[(2, .ptr 0 0 0),(6, .p (.lsts 4 (ws.map Wd.cells))),(10, .ptr 1 0 0),(11, .ptr 2 0 0)],fun x=>rpH ws x.1 x.2.1 x.2.2,fun x=>x.2.1<=ws.length/\(x.2.2=false->x.1.length<=x.2.1)/\x.1.length<=1501/\LK false 0 (qDL ws F F [] 0) (fun f=>qDL ws F f x.1 x.2.1) ws.length x.2.1 x.2.2,fun x=>if x.2.2=true then 0 else ws.length+1 - x.2.1,?_,?_⟩
  ·exact⟨([],0,false),⟨Nat.zero_le _,fun _=>by simp,by simp,F,fun _=>by simp only [];omega,fun l q' b' ho=>ho⟩,qAC [] [] [(3,6)] rfl (sk) (sk) rfl⟩
  rintro⟨acc,q,b⟩ ⟨k1,k2,k3,k4⟩
  simp only [] at k1 k2 k3 k4
  cases b
  rotate_left
  ·have o:qDL ws F F [] 0=.inl q:=k4.stop (l:=[]) (fun e=>by cases e)
   rw [o] at e
   by_cases hq:q<ws.length
   ·refine And.intro (fun _=>?_) (fun h=>absurd (show(q:Int)<((ws.map Wd.cells).length:Nat) by rw [hl'];omega) h)
    refine VDraw.seq rfl ?_
    refine⟨_,⟨by omega,(wat ws q).cells,qCi hq,rfl⟩,?_⟩
    refine⟨_,⟨by omega,(wat ws q).cells,qCi hq,rfl⟩,?_⟩
    refine⟨sk,?_⟩
    exact qKQ (qCT []) (i64 (wat ws q).line) (i64 (wat ws q).col) (i64 381) rfl ⟨_,rfl,_,_,rfl, .inr (.inr ⟨6,rfl⟩),rfl⟩ rfl rfl rfl (by rw [e] <;> rfl)
   ·refine And.intro (fun h=>absurd (show(q:Int)<((ws.map Wd.cells).length:Nat) from h) (by rw [hl'];omega)) (fun _=>?_)
    have hw:wat ws q=wd0:=qGO (by omega)
    have e:qEN s=.inl (((wat ws q).line,(wat ws q).col),381):=e
    rw [hw] at e
    exact qKQ (qCT []) (i64 0) (i64 0) (i64 381) rfl ⟨_,rfl,_,_,rfl, .inr (.inr ⟨6,rfl⟩),rfl⟩ rfl rfl rfl (by rw [e] <;> rfl)
  by_cases hq:q<ws.length
  rotate_left
  ·have o:qDL ws F F [] 0=.inr (acc,q):=k4.stop (fun _ f=>by rw [qDL,if_neg hq])
   refine And.intro (fun h=>absurd (show(q:Int)<((ws.map Wd.cells).length:Nat) from h) (by rw [hl'];omega)) (fun _=>?_)
   have hC:=qUb acc (qHu hg hFb o)
   rw [o] at e
   have hR:qCU (Res (marks (rpH ws acc q false).l [3]) 5) [.agg [.sl 3 6 0 acc.length]] [qCT acc]:=⟨_,_,rfl,⟨_,rfl,_,_,rfl,⟨_,rfl,by show 0+acc.length<=(acc.map De.cells).length;simp,qAD (by simp)⟩,rfl⟩,rfl⟩
   by_cases hv:qBP acc=true
   ·rw [hv] at hC
    refine hC.lends [3] rfl hR ?_
    have e:qEN s=.inr acc:=e.trans (if_pos hv)
    exact qKQ (qCT acc) (i64 0) (i64 0) (i64 0) rfl ⟨_,rfl,_,_,rfl,⟨_,rfl,by show 0+acc.length<=(acc.map De.cells).length;simp,qAD (by simp)⟩,rfl⟩ rfl rfl rfl (by rw [e] <;> rfl)
   ·have e:qEN s=.inl ((0,0),3):=e.trans (if_neg hv)
    rw [Bool.not_eq_true] at hv
    rw [hv] at hC
    refine hC.lends [3] rfl hR ?_
    exact qKQ (qCT []) (i64 0) (i64 0) (i64 3) rfl ⟨_,rfl,_,_,rfl, .inr (.inr ⟨6,rfl⟩),rfl⟩ rfl rfl rfl (by rw [e] <;> rfl)
  refine And.intro (fun _=>?_) (fun h=>absurd (show(q:Int)<((ws.map Wd.cells).length:Nat) by rw [hl'];omega) h)
  refine VDraw.seq rfl ?_
  have hal:=k2 rfl
  refine(qUV ws F q false hF8 hg k1).holds.useT [] [(0,1)] rfl (sk) (sk) fun e0 H0 hq0=>?_
  obtain⟨d,q2,b2,q2l,o2,rfl,rfl⟩:=hq0
  refine⟨rfl,_,⟨4,(1,rrO ws q2 b2)::[(3,qMk acc),(2,srO (.sl 3 6 0 acc.length)),(0,srO (.p .nils))]⟩,rfl,rfl,?_⟩
  refine⟨sk,?_⟩
  refine⟨sk,?_⟩
  refine⟨by show 0+1<=1;omega,[d.cells],rfl,?_⟩
  refine⟨by show 0+acc.length<=(acc.map De.cells).length;simp,acc.map De.cells,qAD (by simp),by show(acc.length+1) * 96<=140737488355328;omega,(acc++[d]).map De.cells,by simp,?_⟩
  have hlt:b2=false->q<q2:=fun e=>by subst e;exact qS5 (qBb o2)
  exact⟨(acc++[d],q2,b2),⟨q2l,fun e=>by have:=hlt e;show(acc++[d]).length<=q2;rw [qAK];omega,by show(acc++[d]).length<=1501;rw [qAK];omega,k4.step (fun f l q' b' ho=>by
   have e1:qDL ws F (f+1) acc q=(qRT ws F q).then fun d q=>qDL ws F f (acc++[d]) q:=by
    rw [qDL,if_pos hq,qRT,qIm]
    congr 1
    funext d q
    rw [qIm];rfl
   rw [e1]
   exact o2.then ho) (fun e=>⟨hlt e,q2l⟩)⟩,qAC [] [(3,5)] [] rfl (sk) ⟨⟨_,rfl,rfl,rfl,rfl⟩,⟨_,rfl,rfl,rfl,_,rfl,_,_,rfl,congrArg (fun k:Nat=>AV.sl 5 6 0 k) (qAK acc d).symm,rfl⟩,sk⟩ rfl,by show(if b2=true then 0 else ws.length+1 - q2)<(if false=true then 0 else ws.length+1 - q);cases b2 <;> simp <;> (try have:=hlt rfl) <;> omega⟩
set_option maxHeartbeats 40000000
abbrev otS:OT:=(.pure 0 (.pure 1 (.pure 2 (.pure 3 (.pure 4 (.pure 5 (.pure 6 (.pure 7 (.pure 8 (.pure 9 (.pure 10 (.pure 11 (.eff 12 [] (.pure 13 (.pure 14 (.pure 15 (.pure 16 (.pure 17 (.pure 18 (.pure 19 (.pure 20 (.pure 21 (.pure 22 (.pure 23 (.pure 24 (.pure 25 (.pure 26 (.eff 27 [] (.pure 28 (.pure 29 .fin)) .nil))))))))))))))) .nil)))))))))))))
theorem qId {k n k' n':Int} {nm pl nm' pl':List UInt8} {rs rs':List Rf} {cs cs':List Cs}:((⟨k,n,nm,pl,rs,cs⟩:De)=⟨k',n',nm',pl',rs',cs'⟩) ↔ (k=k'/\n=n'/\nm=nm'/\pl=pl'/\rs=rs'/\cs=cs'):=by
 constructor
 ·intro h;injection h with h1 h2 h3 h4 h5 h6;exact⟨h1,h2,h3,h4,h5,h6⟩
 ·rintro⟨rfl,rfl,rfl,rfl,rfl,rfl⟩;rfl
theorem qVH {c c':Cd} {l l':List Int}:((⟨c,l⟩:Cs)=⟨c',l'⟩) ↔ (c=c'/\l=l'):=by
 constructor
 ·intro h;injection h with h1 h2;exact⟨h1,h2⟩
 ·rintro⟨rfl,rfl⟩;rfl
abbrev smH (a b:List De) (x y:De):Hp:=⟨4,[(3,deO y),(2,deO x),(1,srO (.p (des b))),(0,srO (.p (des a)))]⟩
theorem qLz (a b:List De) (ha:BigP a) (hb:BigP b):Pure cx 24 [qCT a,qCT b] (·=.ret [.bool (cb (a=b))]):=by
 have hla:(a.map De.cells).length=a.length:=List.length_map ..
 have hlb:(b.map De.cells).length=b.length:=List.length_map ..
 have a1:=ha.len
 refine qAB Tryz.func24 rfl rfl rfl ?_
 refine And.intro (fun h1=>?_) (fun h1=>?_)
 rotate_left
 ·have h1:¬ ((a.map De.cells).length:Int)=((b.map De.cells).length:Nat):=h1
  rw [hla,hlb] at h1
  exact qAF _ rfl rfl (by rw [qHK (fun e=>h1 (by rw [e]))])
 have h1:((a.map De.cells).length:Int)=((b.map De.cells).length:Nat):=h1
 rw [hla,hlb] at h1
 have hl:a.length=b.length:=by omega
 refine⟨Nat,fun k=>[(2, .ptr 0 0 0),(3, .ptr 1 0 0),(5, .p (i64 k))],fun _=>⟨2,[(1,srO (.p (des b))),(0,srO (.p (des a)))]⟩,fun k=>k<=a.length/\a.take k=b.take k,fun k=>a.length - k,?_,?_⟩
 ·exact⟨0,⟨Nat.zero_le _,rfl⟩,qAC [] [] [] rfl (sk) (sk) rfl⟩
 rintro k ⟨k1,k2⟩
 refine And.intro (fun m1=>?_) (fun m1=>?_)
 rotate_left
 ·have m1:¬ (k:Int)<((a.map De.cells).length:Nat):=m1
  rw [hla] at m1
  exact qAF _ rfl rfl (by rw [qR3 (qFr hl (by omega) k2)])
 have m1:(k:Int)<((a.map De.cells).length:Nat):=m1
 rw [hla] at m1
 have hk:k<a.length:=by omega
 have hk':k<b.length:=by omega
 have c1:=qIJ hk
 have c2:=qIJ hk'
 have bx:=ha.decl _ (qAJ de0 hk)
 have bY:=hb.decl _ (qAJ de0 hk')
 have hn:=qEY de0 hk hk' k2
 have hd:¬ a.getD k de0=b.getD k de0->¬ a=b:=fun h e=>h (by rw [e])
 generalize a.getD k de0=x at c1 bx hn hd
 generalize b.getD k de0=y at c2 bY hn hd
 obtain⟨x1,x2,x3,x4,x5,x6⟩:=x
 obtain⟨y1,y2,y3,y4,y5,y6⟩:=y
 have l5:(x5.map Rf.cells).length=x5.length:=List.length_map ..
 have l5':(y5.map Rf.cells).length=y5.length:=List.length_map ..
 have l6:(x6.map Cs.cells).length=x6.length:=List.length_map ..
 have l6':(y6.map Cs.cells).length=y6.length:=List.length_map ..
 have bx5:=bx.len
 have bx6:=bx.cases
 have by6:=bY.cases
 simp only [] at bx5 bx6 by6
 refine VDraw.altTo [(2, .ptr 0 0 0),(3, .ptr 1 0 0),(5, .p (i64 k)),(6, .ptr 2 0 0),(7, .ptr 3 0 0)] (smH a b ⟨x1,x2,x3,x4,x5,x6⟩ ⟨y1,y2,y3,y4,y5,y6⟩) (by kernel_rfl) ?_ ?_
 ·refine⟨_,⟨by omega,(⟨x1,x2,x3,x4,x5,x6⟩:De).cells,c1,rfl⟩,?_⟩
  refine⟨_,⟨by omega,(⟨y1,y2,y3,y4,y5,y6⟩:De).cells,c2,rfl⟩,?_⟩
  refine And.intro ?_ ?_
  ·refine⟨(by repeat' first | exact trivial | exact rfl | exact⟨rfl,rfl⟩ | exact⟨by omega,_,c1,rfl⟩ | exact⟨by omega,_,c2,rfl⟩ | refine And.intro ?_ ?_),?_⟩
   refine⟨(by repeat' first | exact trivial | exact rfl | exact⟨rfl,rfl⟩ | exact⟨by omega,_,c1,rfl⟩ | exact⟨by omega,_,c2,rfl⟩ | refine And.intro ?_ ?_),?_⟩
   refine⟨(by repeat' first | exact trivial | exact rfl | exact⟨rfl,rfl⟩ | exact⟨by omega,_,c1,rfl⟩ | exact⟨by omega,_,c2,rfl⟩ | refine And.intro ?_ ?_),?_⟩
   exact qAC [] [] [] rfl (sk) (sk) rfl
  ·refine⟨(by repeat' first | exact trivial | exact rfl | exact⟨rfl,rfl⟩ | exact⟨by omega,_,c1,rfl⟩ | exact⟨by omega,_,c2,rfl⟩ | refine And.intro ?_ ?_),?_⟩
   refine⟨(by repeat' first | exact trivial | exact rfl | exact⟨rfl,rfl⟩ | exact⟨by omega,_,c1,rfl⟩ | exact⟨by omega,_,c2,rfl⟩ | refine And.intro ?_ ?_),?_⟩
   refine⟨(by repeat' first | exact trivial | exact rfl | exact⟨rfl,rfl⟩ | exact⟨by omega,_,c1,rfl⟩ | exact⟨by omega,_,c2,rfl⟩ | refine And.intro ?_ ?_),?_⟩
   exact qAC [] [(2,3),(3,2)] [] rfl (sk) (sk) rfl
 refine And.intro (fun h1=>?_) (fun h1=>qAF _ rfl rfl (by rw [qHK (hd (fun e=>h1 (qId.1 e).1))]))
 have h1:x1=y1:=h1
 refine And.intro (fun h2=>?_) (fun h2=>qAF _ rfl rfl (by rw [qHK (hd (fun e=>h2 (qId.1 e).2.1))]))
 have h2:x2=y2:=h2
 refine And.intro (fun h3=>?_) (fun h3=>qAF _ rfl rfl (by rw [qHK (hd (fun e=>h3 (qId.1 e).2.2.1))]))
 have h3:x3=y3:=h3
 refine And.intro (fun h4=>?_) (fun h4=>qAF _ rfl rfl (by rw [qHK (hd (fun e=>h4 (qId.1 e).2.2.2.1))]))
 have h4:x4=y4:=h4
 refine And.intro (fun h5=>?_) (fun h5=>?_)
 rotate_left
 ·have h5:¬ ((x5.map Rf.cells).length:Int)=((y5.map Rf.cells).length:Nat):=h5
  rw [l5,l5'] at h5
  exact qAF _ rfl rfl (by rw [qHK (hd (fun e=>h5 (by rw [(qId.1 e).2.2.2.2.1])))])
 have h5:((x5.map Rf.cells).length:Int)=((y5.map Rf.cells).length:Nat):=h5
 rw [l5,l5'] at h5
 have hl5:x5.length=y5.length:=by omega
 refine And.intro (fun h6=>?_) (fun h6=>?_)
 rotate_left
 ·have h6:¬ ((x6.map Cs.cells).length:Int)=((y6.map Cs.cells).length:Nat):=h6
  rw [l6,l6'] at h6
  exact qAF _ rfl rfl (by rw [qHK (hd (fun e=>h6 (by rw [(qId.1 e).2.2.2.2.2])))])
 have h6:((x6.map Cs.cells).length:Int)=((y6.map Cs.cells).length:Nat):=h6
 rw [l6,l6'] at h6
 have hl6:x6.length=y6.length:=by omega
 refine⟨Nat,fun j=>[(2, .ptr 0 0 0),(3, .ptr 1 0 0),(5, .p (i64 k)),(6, .ptr 2 0 0),(7, .ptr 3 0 0),(8, .p (i64 j))],fun _=>smH a b ⟨x1,x2,x3,x4,x5,x6⟩ ⟨y1,y2,y3,y4,y5,y6⟩,fun j=>j<=x5.length/\x5.take j=y5.take j,fun j=>x5.length - j,?_,?_⟩
 ·exact⟨0,⟨Nat.zero_le _,rfl⟩,qAC [] [] [] rfl (sk) (sk) rfl⟩
 rintro j ⟨j1,j2⟩
 refine And.intro (fun m2=>?_) (fun m2=>?_)
 ·have m2:(j:Int)<((x5.map Rf.cells).length:Nat):=m2
  rw [l5] at m2
  have hj:j<x5.length:=by omega
  have hj':j<y5.length:=by omega
  have r1:=qIW hj
  have r2:=qIW hj'
  have hn2:=qEY rf0 hj hj' j2
  have hd2:¬ x5.getD j rf0=y5.getD j rf0->¬ x5=y5:=fun h e=>h (by rw [e])
  generalize x5.getD j rf0=u at r1 hn2 hd2
  generalize y5.getD j rf0=w at r2 hn2 hd2
  refine VDraw.seq rfl ?_
  refine⟨_,⟨by omega,u.cells,r1,rfl⟩,?_⟩
  refine⟨_,⟨by omega,w.cells,r2,rfl⟩,?_⟩
  refine⟨⟨by kernel_rfl,by kernel_rfl⟩,fun h7=>?_,fun h7=>?_⟩
  rotate_left
  ·exact qAF _ rfl rfl (by rw [qHK (hd (fun e=>hd2 (fun e=>h7 (by rw [e])) (qId.1 e).2.2.2.2.1))])
  have h7:u=w:=qTY (by first | exact h7 | (injection h7))
  refine⟨_,w6z,?_⟩
  exact⟨j+1,⟨hj,hn2 h7⟩,qAC [] [] [] rfl (sk) (sk) rfl,by show x5.length - (j+1)<x5.length - j;omega⟩
 have m2:¬ (j:Int)<((x5.map Rf.cells).length:Nat):=m2
 rw [l5] at m2
 have h7:x5=y5:=qFr hl5 (by omega) j2
 refine⟨Nat,fun j=>[(2, .ptr 0 0 0),(3, .ptr 1 0 0),(5, .p (i64 k)),(6, .ptr 2 0 0),(7, .ptr 3 0 0),(9, .p (i64 j))],fun _=>smH a b ⟨x1,x2,x3,x4,x5,x6⟩ ⟨y1,y2,y3,y4,y5,y6⟩,fun j=>j<=x6.length/\x6.take j=y6.take j,fun j=>x6.length - j,?_,?_⟩
 ·exact⟨0,⟨Nat.zero_le _,rfl⟩,qAC [] [] [] rfl (sk) (sk) rfl⟩
 rintro j ⟨j1,j2⟩
 refine And.intro (fun m2=>?_) (fun m2=>?_)
 rotate_left
 ·have m2:¬ (j:Int)<((x6.map Cs.cells).length:Nat):=m2
  rw [l6] at m2
  have h8:x6=y6:=qFr hl6 (by omega) j2
  refine⟨_,w6z,?_⟩
  exact⟨k+1,⟨hk,hn (qId.2 ⟨h1,h2,h3,h4,h7,h8⟩)⟩,qAC [] [] [] rfl (sk) (sk) rfl,by show a.length - (k+1)<a.length - k;omega⟩
 have m2:(j:Int)<((x6.map Cs.cells).length:Nat):=m2
 rw [l6] at m2
 have hj:j<x6.length:=by omega
 have hj':j<y6.length:=by omega
 have hlx:=bx6.len
 have s1:=qKv hj
 have s2:=qKv hj'
 have hm:=qAJ cs0 hj
 have hm':=qAJ cs0 hj'
 have hn2:=qEY cs0 hj hj' j2
 have hd2:¬ x6.getD j cs0=y6.getD j cs0->¬ x6=y6:=fun h e=>h (by rw [e])
 have hC:=qUI _ _ (bx6.cond _ hm) (by6.cond _ hm')
 have hI:=qPt _ _ (bx6.nums _ hm) (by6.nums _ hm')
 generalize x6.getD j cs0=u at s1 hn2 hd2 hC hI
 generalize y6.getD j cs0=w at s2 hn2 hd2 hC hI
 obtain⟨⟨u1,u2,u3,u4,u5,u6,u7⟩,u8⟩:=u
 obtain⟨⟨w1,w2,w3,w4,w5,w6,w7⟩,w8⟩:=w
 simp only [] at hC hI
 refine qAf otS (by kernel_rfl) ?_
 refine⟨_,⟨by omega,(⟨.mk u1 u2 u3 u4 u5 u6 u7,u8⟩:Cs).cells,s1,rfl⟩,?_⟩
 refine⟨_,⟨by omega,(⟨.mk w1 w2 w3 w4 w5 w6 w7,w8⟩:Cs).cells,s2,rfl⟩,?_⟩
 refine(Classical.em (Cd.mk u1 u2 u3 u4 u5 u6 u7=.mk w1 w2 w3 w4 w5 w6 w7)).elim (fun e1=>?_) (fun e1=>?_)
 rotate_left
 ·rw [qHK e1] at hC
  refine hC.eq rfl ?_
  exact qAF _ rfl rfl (by rw [qHK (hd (fun e=>hd2 (fun e=>e1 (qVH.1 e).1) (qId.1 e).2.2.2.2.2))])
 rw [qR3 e1] at hC
 refine hC.eq rfl ?_
 refine⟨_,⟨by omega,(⟨.mk u1 u2 u3 u4 u5 u6 u7,u8⟩:Cs).cells,s1,rfl⟩,?_⟩
 refine⟨_,⟨by omega,(⟨.mk w1 w2 w3 w4 w5 w6 w7,w8⟩:Cs).cells,s2,rfl⟩,?_⟩
 refine(Classical.em (u8=w8)).elim (fun e2=>?_) (fun e2=>?_)
 rotate_left
 ·rw [qHK e2] at hI
  refine hI.eq rfl ?_
  exact qAF _ rfl rfl (by rw [qHK (hd (fun e=>hd2 (fun e=>e2 (qVH.1 e).2) (qId.1 e).2.2.2.2.2))])
 rw [qR3 e2] at hI
 refine hI.eq rfl ?_
 refine⟨_,w6z,?_⟩
 exact⟨j+1,⟨hj,hn2 (qVH.2 ⟨e1,e2⟩)⟩,qAC [] [] [] rfl (sk) (sk) rfl,by show x6.length - (j+1)<x6.length - j;omega⟩
set_option maxHeartbeats 4000000
def qXO:List UInt8:=[103,114,97,105,110,32,49,50,32,59,32,110,111,100,101,32,120,32,58,32,50,32,61,32,123,32,101,108,115,101,32,58,32,51,32,57,32,125,32,59]
def qYf:List De:=[⟨1,12,[],[],[],[]⟩,⟨3,2,[120],[],[],[⟨cd0,[3,9]⟩]⟩]
theorem qXp:qEN qXO=.inr qYf:=by kernel_rfl
def qXN:List UInt8:=[110,111,100,101,32,121,32,91,32,112,32,93,32,58,32,50,32,102,114,111,109,32,120,32,44,32,121,32,91,32,112,32,43,32,49,32,93,32,61,32,123,32,120,32,61,32,49,32,97,110,100,32,110,111,116,32,121,32,91,32,112,32,43,32,49,32,93,32,105,110,32,123,32,49,32,44,32,48,32,44,32,49,32,125,32,58,32,49,32,59,32,101,108,115,101,32,58,32,45,32,50,32,125,32,59]
def qYe:List De:=[⟨3,2,[121],[112],[⟨[120],0,[],0⟩,⟨[121],1,[112],1⟩],[⟨.mk 8 0 0 0 rf0 [] [.mk 1 1 0 0 ⟨[120],0,[],0⟩ [] [], .mk 7 0 0 0 rf0 [] [.mk 5 0 0 0 ⟨[121],1,[112],1⟩ [0,1] []]],[1]⟩,⟨cd0,[(-2)]⟩]⟩]
theorem qXo:qEN qXN=.inr qYe:=by kernel_rfl
def qYc:List UInt8:=[103,97,105,110,32,61,32,123,32,99,111,117,110,116,32,40,32,120,32,91,32,97,108,108,32,93,32,61,32,49,32,41,32,60,61,32,50,32,58,32,53,32,59,32,101,108,115,101,32,58,32,48,32,125,32,59]
def qYd:List De:=[⟨5,0,[],[],[],[⟨.mk 6 2 4 1 ⟨[120],3,[],0⟩ [] [],[5]⟩,⟨cd0,[0]⟩]⟩]
theorem qXn:qEN qYc=.inr qYd:=by kernel_rfl
theorem qXu:qEN [110,111,100,101,32,120,32,58,32,50,32,59]=.inl ((1,12),381):=by kernel_rfl
theorem qXt:qEN [103,97,105,110,32,61,32,123,32,120,32,61,32,49,32,58,32,50,32,125,32,59]=.inl ((1,20),381):=by kernel_rfl
theorem qXs:qEN [112,108,97,116,101,32,112,32,61,32,59]=.inl ((1,11),381):=by kernel_rfl
theorem qXr:qEN [99,104,111,111,115,101,32,100,32,58,32,50,32,115,101,101,105,110,103,32,120]=.inl ((0,0),381):=by kernel_rfl
theorem qXq:qEN [99,111,117,110,116]=.inl ((1,1),381):=by kernel_rfl
def qXw:Cd:=.mk 8 0 0 0 rf0 [] [.mk 9 0 0 0 rf0 [] [.mk 1 1 0 0 ⟨[97],0,[],0⟩ [] [], .mk 1 1 0 0 ⟨[98],0,[],0⟩ [] []], .mk 1 1 0 0 ⟨[99],0,[],0⟩ [] []]
theorem qXm:txtV [⟨5,0,[],[],[],[⟨qXw,[5]⟩,⟨cd0,[0]⟩]⟩]=[.str [103,97,105,110,32,61,32,123,32,40,32,97,32,61,32,49,32,111,114,32,98,32,61,32,49,32,41,32,97,110,100,32,99,32,61,32,49,32,58,32,53,32,59,32,101,108,115,101,32,58,32,48,32,125,32,59,10],i64 0]:=by kernel_rfl
def qXv:Cd:=.mk 7 0 0 0 rf0 [] [.mk 8 0 0 0 rf0 [] [.mk 1 1 0 0 ⟨[97],0,[],0⟩ [] [], .mk 3 2 0 0 ⟨[98],0,[],0⟩ [] []]]
theorem qXl:txtV [⟨5,0,[],[],[],[⟨qXv,[5]⟩,⟨cd0,[0]⟩]⟩]=[.str [103,97,105,110,32,61,32,123,32,110,111,116,32,40,32,97,32,61,32,49,32,97,110,100,32,98,32,60,32,50,32,41,32,58,32,53,32,59,32,101,108,115,101,32,58,32,48,32,125,32,59,10],i64 0]:=by kernel_rfl
set_option maxHeartbeats 40000000
abbrev otW:OT:=(.pure 0 (.pure 1 (.pure 2 (.pure 4 (.pure 5 (.pure 6 (.pure 7 (.pure 11 (.pure 13 (.pure 14 (.eff 3 [4,1] (.eff 8 [1] (.pure 9 (.eff 10 [1] (.pure 12 (.pure 15 (.pure 16 (.pure 17 (.eff 18 [] (.pure 19 .fin) .nil))))) .nil)) .nil) .nil)))))))))))
theorem qW1 {p q:Prop} (h:p ↔ q):cb p=cb q:=by rw [propext h]
theorem qHS {s:List UInt8} {ds:List De} (h:qEN s=.inr ds):BigP ds:=by
 unfold qEN at h
 split at h
 ·cases h
 ·cases hr:qDd s with
  | err p c=>rw [hr] at h;cases h
  | ok ws=>
   rw [hr] at h
   have hg:=qHr hr
   have hl:=hg.len
   cases hp:qDL ws (qIC ws) (qIC ws) [] 0 with
   | inl q=>simp only [hp] at h;cases h
   | inr x=>
    obtain⟨l,q⟩:=x
    simp only [hp] at h
    split at h
    ·injection h with h
     subst h
     exact qHu hg (by rw [qIC];omega) hp
    ·cases h
theorem qSi {s:List UInt8} {p:Int × Int} {e:Int} (h:qEN s=.inl (p,e)):e=3∨e=370∨e=381:=by
 unfold qEN at h
 split at h
 ·injection h with h;injection h with _ h;exact .inl h.symm
 ·cases hr:qDd s with
  | err p c=>
   rw [hr] at h
   injection h with h;injection h with _ h
   have:=qDn s _ _ _ _ _ hr
   omega
  | ok ws=>
   rw [hr] at h
   cases hp:qDL ws (qIC ws) (qIC ws) [] 0 with
   | inl q=>simp only [hp] at h;injection h with h;injection h with _ h;omega
   | inr x=>
    obtain⟨l,q⟩:=x
    simp only [hp] at h
    split at h
    ·cases h
    ·injection h with h;injection h with _ h;omega
theorem qDE (s:List UInt8) (l c e:Int) (h:qEN s=.inl ((l,c),e)):Pure cx 28 [.str s,i64 l,i64 c,i64 e] (·=.ret [.bool true]):=by
 have hP:=qME s
 rw [h] at hP
 refine qAB Tryz.func28 rfl rfl rfl ?_
 refine hP.eq rfl ?_
 refine And.intro (fun _=>?_) (fun h=>absurd rfl h)
 refine And.intro (fun _=>?_) (fun h=>absurd rfl h)
 refine And.intro (fun _=>?_) (fun h=>absurd rfl h)
 refine And.intro (fun _=>?_) (fun h=>absurd rfl h)
 exact qAF _ rfl rfl rfl
theorem qUS (s:List UInt8) (want:List De) (hw:BigP want):Pure cx 37 [.str s,des want] (·=.ret [.bool (cb (qEN s=.inr want))]):=by
 have hP:=qME s
 cases hp:qEN s with
 | inl x=>
  obtain⟨⟨l,c⟩,e⟩:=x
  rw [hp] at hP
  have he:=qSi hp
  refine qAB Tryz.func37 rfl rfl rfl ?_
  refine hP.eq rfl ?_
  refine And.intro (fun h=>absurd (show e=0 from h) (by omega)) (fun _=>?_)
  exact qAF _ rfl rfl (by rw [qHK (fun e=>by cases e)])
 | inr ds=>
  rw [hp] at hP
  have hS:=qLz ds want (qHS hp) hw
  rw [qW1 (q:=(Sum.inr ds:Sum ((Int × Int) × Int) (List De))=.inr want) ⟨fun e=>by rw [e],fun e=>by injection e⟩] at hS
  refine qAB Tryz.func37 rfl rfl rfl ?_
  refine hP.eq rfl ?_
  refine And.intro (fun _=>?_) (fun h=>absurd rfl h)
  refine And.intro (fun _=>?_) (fun h=>absurd rfl h)
  refine And.intro (fun _=>?_) (fun h=>absurd rfl h)
  refine hS.eq rfl ?_
  exact qAF _ rfl rfl rfl
theorem qHq {s:List UInt8} {want:List De} (h:qEN s=.inr want):Pure cx 37 [.str s,des want] (·=.ret [.bool true]):=by
 have:=qUS s want (qHS h)
 rw [qR3 h] at this
 exact this
theorem qVp (nm:List UInt8) (op n:Int):Pure cx 31 [.str nm,i64 op,i64 n] (·=.ret [(Cd.mk op n 0 0 ⟨nm,0,[],0⟩ [] []).pv]):=by
 refine Pure.nil (r:=.ret [.agg [i64 op,i64 n,i64 0,i64 0, .str nm,i64 0, .str [],i64 0, .nils, .nils]]) ?_ ⟨_,rfl,_,_,rfl,qAn op n 0 0 ⟨nm,0,[],0⟩,rfl⟩
 refine qAB Tryz.func31 rfl rfl rfl ?_
 exact qAF _ rfl rfl rfl
theorem qJY (op:Int) (l:List Cd):Pure cx 32 [i64 op, .lsts 10 (qBV l)] (·=.ret [(Cd.mk op 0 0 0 rf0 [] l).pv]):=by
 refine Pure.nil (r:=.ret [.agg [i64 op,i64 0,i64 0,i64 0, .str [],i64 0, .str [],i64 0, .nils, .lsts 10 (qBV l)]]) ?_ ⟨_,rfl,_,_,rfl,?_,rfl⟩
 ·refine qAB Tryz.func32 rfl rfl rfl ?_
  exact qAF _ rfl rfl rfl
 ·show NilD _ (.agg [i64 op,i64 0,i64 0,i64 0, .str [],i64 0, .str [],i64 0, .lst [], .lsts 10 (qBV l)])
  simp only [NilD,NilDL]
  exact⟨_,rfl,_,_,rfl,rfl,_,_,rfl,rfl,_,_,rfl,rfl,_,_,rfl,rfl,_,_,rfl,rfl,_,_,rfl,rfl,_,_,rfl,rfl,_,_,rfl,rfl,_,_,rfl, .inr (.inl rfl),_,_,rfl,⟨_,rfl,NilDLL.refl _⟩,rfl⟩
def qSx (c:Cd):De:=⟨5,0,[],[],[],[⟨c,[5]⟩,⟨cd0,[0]⟩]⟩
abbrev zc0:List PV:=[i64 0,i64 0,i64 0,i64 0, .str [],i64 0, .str [],i64 0, .nils, .nils]
theorem qNp (l:List Int):NilDL (zc0++[.lst (l.map i64)]) (⟨cd0,l⟩:Cs).cells:=by
 show NilDL [i64 0,i64 0,i64 0,i64 0, .str [],i64 0, .str [],i64 0, .nils, .nils, .lst (l.map i64)] [i64 0,i64 0,i64 0,i64 0, .str [],i64 0, .str [],i64 0, .lst [], .lsts 10 [], .lst (l.map i64)]
 simp only [NilD,NilDL]
 exact⟨_,_,rfl,rfl,_,_,rfl,rfl,_,_,rfl,rfl,_,_,rfl,rfl,_,_,rfl,rfl,_,_,rfl,rfl,_,_,rfl,rfl,_,_,rfl,rfl,_,_,rfl, .inr (.inl rfl),_,_,rfl, .inr (.inr ⟨10,rfl⟩),_,_,rfl,⟨_,rfl,NilDL.refl _⟩,rfl⟩
theorem qTr (c:Cd):Pure cx 30 [c.pv] (·=.ret [(qSx c).pv]):=by
 refine Pure.nil (r:=.ret [.agg [i64 5,i64 0, .str [], .str [], .nils, .lsts 11 [c.cells++[.lst [i64 5]],zc0++[.lst [i64 0]]]]]) ?_ ⟨_,rfl,_,_,rfl,?_,rfl⟩
 ·obtain⟨o,n,r,v,rf,st,ar⟩:=c
  refine qAB Tryz.func30 rfl rfl rfl ?_
  refine qAF _ rfl ⟨_,rfl,_,_,rfl,rfl,_,_,rfl,rfl,_,_,rfl,rfl,_,_,rfl,rfl,_,_,rfl, .inl rfl,_,_,rfl,⟨_,rfl,Nat.le_refl _,⟨_,_,rfl,?_,_,_,rfl,?_,rfl⟩⟩,rfl⟩ rfl
  ·exact⟨_,_,rfl,rfl,_,_,rfl,rfl,_,_,rfl,rfl,_,_,rfl,rfl,_,_,rfl,rfl,_,_,rfl,rfl,_,_,rfl,rfl,_,_,rfl,rfl,_,_,rfl,rfl,_,_,rfl,rfl,_,_,rfl,⟨_,rfl,Nat.le_refl _,rfl⟩,rfl⟩
  ·exact⟨_,_,rfl,rfl,_,_,rfl,rfl,_,_,rfl,rfl,_,_,rfl,rfl,_,_,rfl,rfl,_,_,rfl,rfl,_,_,rfl,rfl,_,_,rfl,rfl,_,_,rfl, .inl rfl,_,_,rfl, .inl rfl,_,_,rfl,⟨_,rfl,Nat.le_refl _,rfl⟩,rfl⟩
 ·show NilD _ (.agg [i64 5,i64 0, .str [], .str [], .lsts 4 [], .lsts 11 [(⟨c,[5]⟩:Cs).cells,(⟨cd0,[0]⟩:Cs).cells]])
  simp only [NilD,NilDL]
  refine⟨_,rfl,_,_,rfl,rfl,_,_,rfl,rfl,_,_,rfl,rfl,_,_,rfl,rfl,_,_,rfl, .inr (.inr ⟨4,rfl⟩),_,_,rfl,⟨_,rfl,?_⟩,rfl⟩
  simp only [NilDLL]
  exact⟨_,_,rfl,NilDL.refl _,_,_,rfl,qNp [0],rfl⟩
theorem qSw {c:Cd} (h:qCq c):BigP [qSx c]:=by
 refine⟨by show 1<=9223372036854775807;decide,fun d hd=>?_⟩
 rw [List.mem_singleton] at hd
 subst hd
 have hl:BigL [⟨c,[5]⟩,⟨cd0,[0]⟩]:=by
  refine⟨by show 2<=9223372036854775807;decide,fun x hx=>?_,fun x hx=>?_⟩
  ·rcases List.mem_cons.1 hx with rfl | hx
   ·exact h
   ·rw [List.mem_singleton.1 hx]
    exact qC1 ⟨qBQ,qBQ⟩ (by decide)
  ·rcases List.mem_cons.1 hx with rfl | hx
   ·show 1<=9223372036854775807;decide
   ·rw [List.mem_singleton.1 hx];show 1<=9223372036854775807;decide
 exact⟨qBQ,qBQ,by show 0<=9223372036854775807;decide,(fun r hr=>by cases hr),hl⟩
abbrev gnA:List UInt8:=[103,97,105,110,32,61,32,123,32]
abbrev gnB:List UInt8:=[32,58,32,53,32,59,32,101,108,115,101,32,58,32,48,32,125,32,59,10]
theorem qIh (c:Cd) (want:List UInt8) (hb:qCq c) (hl:want.length<=8000) (h:txtV [qSx c]=[.str ((gnA++want)++gnB),i64 0]):Pure cx 49 [c.pv, .str want] (·=.ret [.bool true]):=by
 have hT:=qQP [qSx c] (qSw hb)
 rw [h] at hT
 have hG:=qTr c
 clear h hb
 obtain⟨o,n,r,v,rf,st,ar⟩:=c
 refine qAB Tryz.func49 rfl rfl rfl ?_
 refine hG.eq rfl ?_
 refine hT.lends [1] rfl ⟨_,_,rfl,⟨_,rfl,_,_,rfl,⟨_,rfl,Nat.le_refl _,rfl⟩,rfl⟩,rfl⟩ ?_
 refine And.intro (fun _=>?_) (fun h=>absurd rfl h)
 refine⟨QAC,?_⟩
 refine⟨QAC,?_⟩
 refine And.intro (fun _=>?_) (fun h=>absurd rfl h)
 exact qAF _ rfl rfl rfl
theorem qF7 {nm:List UInt8} {op n:Int} (h:qKi nm):qCq (.mk op n 0 0 ⟨nm,0,[],0⟩ [] []):=qC1 ⟨h,qBQ⟩ (by decide)
theorem qW5:qCq qXw:=qGt (qGt (qF7 (by decide)) (qF7 (by decide))) (qF7 (by decide))
theorem qW4:qCq qXv:=qMt (qGt (qF7 (by decide)) (qF7 (by decide)))
theorem works_c:Pure cx 17 [] (·=.ret [.bool true]):=by
 have w0:=qIh qXw [40,32,97,32,61,32,49,32,111,114,32,98,32,61,32,49,32,41,32,97,110,100,32,99,32,61,32,49] qW5 (by decide) qXm
 have w1:=qIh qXv [110,111,116,32,40,32,97,32,61,32,49,32,97,110,100,32,98,32,60,32,50,32,41] qW4 (by decide) qXl
 refine qAB Tryz.func17 rfl rfl rfl ?_
 refine((qHq qXp).arg (args':=[.str qXO, .lsts 6 [[i64 1,i64 12, .str [], .str [], .nils, .nils],[i64 3,i64 2, .str [120], .str [], .nils, .lsts 11 [zc0++[.lst [i64 3,i64 9]]]]]]) ?_).lends [0,1,2] rfl ?_ ?_
 ·show NilDL [.str qXO, .lsts 6 [[i64 1,i64 12, .str [], .str [], .nils, .nils],[i64 3,i64 2, .str [120], .str [], .nils, .lsts 11 [zc0++[.lst [i64 3,i64 9]]]]]] [.str qXO, .lsts 6 [[i64 1,i64 12, .str [], .str [], .lsts 4 [], .lsts 11 []],[i64 3,i64 2, .str [120], .str [], .lsts 4 [], .lsts 11 [(⟨cd0,[3,9]⟩:Cs).cells]]]]
  simp only [NilDL,NilD,NilDLL]
  exact⟨_,_,rfl,rfl,_,_,rfl,⟨_,rfl,⟨_,_,rfl,⟨_,_,rfl,rfl,_,_,rfl,rfl,_,_,rfl,rfl,_,_,rfl,rfl,_,_,rfl, .inr (.inr ⟨4,rfl⟩),_,_,rfl, .inr (.inr ⟨11,rfl⟩),rfl⟩,_,_,rfl,⟨_,_,rfl,rfl,_,_,rfl,rfl,_,_,rfl,rfl,_,_,rfl,rfl,_,_,rfl, .inr (.inr ⟨4,rfl⟩),_,_,rfl,⟨_,rfl,⟨_,_,rfl,qNp [3,9],rfl⟩⟩,rfl⟩,rfl⟩⟩,rfl⟩
 ·refine⟨_,_,rfl,rfl,_,_,rfl,⟨_,rfl,Nat.le_refl _,⟨_,_,rfl,?_,_,_,rfl,?_,rfl⟩⟩,rfl⟩
  ·exact⟨_,_,rfl,rfl,_,_,rfl,rfl,_,_,rfl,rfl,_,_,rfl,rfl,_,_,rfl, .inl rfl,_,_,rfl, .inl rfl,rfl⟩
  ·refine⟨_,_,rfl,rfl,_,_,rfl,rfl,_,_,rfl,rfl,_,_,rfl,rfl,_,_,rfl, .inl rfl,_,_,rfl,⟨_,rfl,Nat.le_refl _,⟨_,_,rfl,?_,rfl⟩⟩,rfl⟩
   exact⟨_,_,rfl,rfl,_,_,rfl,rfl,_,_,rfl,rfl,_,_,rfl,rfl,_,_,rfl,rfl,_,_,rfl,rfl,_,_,rfl,rfl,_,_,rfl,rfl,_,_,rfl, .inl rfl,_,_,rfl, .inl rfl,_,_,rfl,⟨_,rfl,Nat.le_refl _,rfl⟩,rfl⟩
 refine qAf otW (by kernel_rfl) ?_
 refine(qVp [120] 1 1).eq rfl ?_
 refine⟨sk,?_⟩
 refine((qJY 7 [.mk 5 0 0 0 ⟨[121],1,[112],1⟩ [0,1] []]).arg (args':=[i64 7, .lsts 10 [[i64 5,i64 0,i64 0,i64 0, .str [121],i64 1, .str [112],i64 1, .lst [i64 0,i64 1], .nils]]]) ?_).eq rfl ?_
 ·simp only [NilD,NilDL,NilDLL]
  repeat' first | exact rfl | exact NilDL.refl _ | exact NilD.refl _ | exact .inr (.inl rfl) | exact .inr (.inr ⟨_,rfl⟩) | refine⟨_,_,rfl,?_,?_⟩ | refine⟨_,rfl,?_⟩ | refine And.intro ?_ ?_
 refine⟨sk,?_⟩
 refine(qJY 8 [.mk 1 1 0 0 ⟨[120],0,[],0⟩ [] [], .mk 7 0 0 0 rf0 [] [.mk 5 0 0 0 ⟨[121],1,[112],1⟩ [0,1] []]]).eq rfl ?_
 refine⟨sk,?_⟩
 refine((qHq qXo).arg (args':=[.str qXN, .lsts 6 [[i64 3,i64 2, .str [121], .str [112], .lsts 4 [[.str [120],i64 0, .str [],i64 0],[.str [121],i64 1, .str [112],i64 1]], .lsts 11 [(Cd.cells (.mk 8 0 0 0 rf0 [] [.mk 1 1 0 0 ⟨[120],0,[],0⟩ [] [], .mk 7 0 0 0 rf0 [] [.mk 5 0 0 0 ⟨[121],1,[112],1⟩ [0,1] []]]))++[.lst [i64 1]],zc0++[.lst [i64 (-2)]]]]]]) ?_).eq rfl ?_
 ·show NilDL [.str qXN, .lsts 6 [[i64 3,i64 2, .str [121], .str [112], .lsts 4 [[.str [120],i64 0, .str [],i64 0],[.str [121],i64 1, .str [112],i64 1]], .lsts 11 [(Cd.cells (.mk 8 0 0 0 rf0 [] [.mk 1 1 0 0 ⟨[120],0,[],0⟩ [] [], .mk 7 0 0 0 rf0 [] [.mk 5 0 0 0 ⟨[121],1,[112],1⟩ [0,1] []]]))++[.lst [i64 1]],zc0++[.lst [i64 (-2)]]]]]] [.str qXN, .lsts 6 [[i64 3,i64 2, .str [121], .str [112], .lsts 4 [[.str [120],i64 0, .str [],i64 0],[.str [121],i64 1, .str [112],i64 1]], .lsts 11 [(⟨.mk 8 0 0 0 rf0 [] [.mk 1 1 0 0 ⟨[120],0,[],0⟩ [] [], .mk 7 0 0 0 rf0 [] [.mk 5 0 0 0 ⟨[121],1,[112],1⟩ [0,1] []]],[1]⟩:Cs).cells,(⟨cd0,[-2]⟩:Cs).cells]]]]
  simp only [NilD,NilDL,NilDLL]
  repeat' first | exact rfl | exact NilDL.refl _ | exact NilD.refl _ | exact .inr (.inl rfl) | exact .inr (.inr ⟨_,rfl⟩) | refine⟨_,_,rfl,?_,?_⟩ | refine⟨_,rfl,?_⟩ | refine And.intro ?_ ?_
 refine(qVp [97] 1 1).eq rfl ?_
 refine(qVp [98] 1 1).eq rfl ?_
 refine(qJY 9 [.mk 1 1 0 0 ⟨[97],0,[],0⟩ [] [], .mk 1 1 0 0 ⟨[98],0,[],0⟩ [] []]).uses [4] rfl ⟨_,_,rfl,rfl,_,_,rfl,⟨_,rfl,Nat.le_refl _,rfl⟩,rfl⟩ ?_
 refine(qVp [99] 1 1).eq rfl ?_
 refine(qJY 8 [.mk 9 0 0 0 rf0 [] [.mk 1 1 0 0 ⟨[97],0,[],0⟩ [] [], .mk 1 1 0 0 ⟨[98],0,[],0⟩ [] []], .mk 1 1 0 0 ⟨[99],0,[],0⟩ [] []]).uses [5] rfl ⟨_,_,rfl,rfl,_,_,rfl,⟨_,rfl,Nat.le_refl _,rfl⟩,rfl⟩ ?_
 refine w0.eq rfl ?_
 refine(qVp [97] 1 1).eq rfl ?_
 refine(qVp [98] 3 2).eq rfl ?_
 refine(qJY 8 [.mk 1 1 0 0 ⟨[97],0,[],0⟩ [] [], .mk 3 2 0 0 ⟨[98],0,[],0⟩ [] []]).uses [6] rfl ⟨_,_,rfl,rfl,_,_,rfl,⟨_,rfl,Nat.le_refl _,rfl⟩,rfl⟩ ?_
 refine(qJY 7 [.mk 8 0 0 0 rf0 [] [.mk 1 1 0 0 ⟨[97],0,[],0⟩ [] [], .mk 3 2 0 0 ⟨[98],0,[],0⟩ [] []]]).uses [7] rfl ⟨_,_,rfl,rfl,_,_,rfl,⟨_,rfl,Nat.le_refl _,rfl⟩,rfl⟩ ?_
 refine w1.eq rfl ?_
 refine(qDE _ _ _ _ qXu).eq rfl ?_
 refine(qDE _ _ _ _ qXt).eq rfl ?_
 refine(qDE _ _ _ _ qXs).eq rfl ?_
 refine(qDE _ _ _ _ qXr).eq rfl ?_
 refine(qDE _ _ _ _ qXq).eq rfl ?_
 refine((qTr (.mk 6 2 4 1 ⟨[120],3,[],0⟩ [] [])).arg (args':=[.agg [i64 6,i64 2,i64 4,i64 1, .str [120],i64 3, .str [],i64 0, .nils, .nils]]) ⟨_,_,rfl,qAn 6 2 4 1 ⟨[120],3,[],0⟩,rfl⟩).eq rfl ?_
 refine(qHq qXn).lends [8] rfl ⟨_,_,rfl,rfl,_,_,rfl,⟨_,rfl,Nat.le_refl _,rfl⟩,rfl⟩ ?_
 exact qAF _ rfl rfl rfl
structure Small (d:Nat) (c:Cd) (n:Nat):Prop where
 pos:1<=n
 valid:∀ left,n<=left->qAp d c left=some (left - n)
 big:qCq c
 len:(spW true (qAj c)).length<=240 * n
theorem qSp {op n rel val:Int} {r:Rf} {st:List Int} (hb:qAT op n rel val r st=true) (hs:st.length<=4):(qCF op n rel val r st).length<=21:=by
 unfold qAT at hb
 unfold qCF
 by_cases c6:op=6
 ·rw [if_neg (by omega),if_neg (by omega),if_pos c6] at hb
  simp only [Bool.and_eq_true,decide_eq_true_eq] at hb
  have hr:=qB3 hb.1.1.1.1.1.1
  rw [if_pos c6]
  simp only [List.length_append,List.length_cons,List.length_nil];omega
 ·rw [if_neg c6]
  by_cases c5:op=5
  ·rw [if_neg (by omega),if_pos c5] at hb
   simp only [Bool.and_eq_true,decide_eq_true_eq] at hb
   obtain⟨⟨⟨⟨b1,b2⟩,b3⟩,b4⟩,b5⟩:=hb
   rw [if_pos c5]
   have hr:=qB3 b1
   have hset:=qDk b5
   have hs:=qFv (f:=fun n=>[qAa n]) (b:=1) (l:=st) fun a ha=>⟨qAH (qDZ (hset.2.1 a ha)) qA7,by simp⟩
   simp only [List.length_append,List.length_cons,List.length_nil];omega
  ·rw [if_neg c5]
   by_cases c1:op=1∨op=2∨op=3∨op=4
   ·rw [if_pos c1] at hb
    simp only [Bool.and_eq_true,decide_eq_true_eq] at hb
    have hr:=qB3 hb.1.1.1.1
    simp only [List.length_append,List.length_cons,List.length_nil];omega
   ·rw [if_neg c1,if_neg c5,if_neg c6] at hb
    cases hb
theorem qNb {r:Rf} (h:qBp r=true):BigR r:=by
 obtain⟨nm,m,pl,n⟩:=r
 rw [qBp,Bool.and_eq_true] at h
 have h1:=qCx h.1
 refine⟨by show nm.length<=_;have h1:nm.length<=10:=h1;omega,?_⟩
 have h2:=h.2
 simp only [] at h2
 show pl.length<=_
 split at h2
 ·simp only [Bool.and_eq_true,decide_eq_true_eq] at h2
  rw [h2.1];simp
 ·split at h2
  ·simp only [Bool.and_eq_true] at h2
   have:=qCx h2.1
   omega
  ·split at h2
   ·simp only [Bool.and_eq_true,decide_eq_true_eq] at h2
    rw [h2.1];simp
   ·cases h2
theorem qQ0 {op n rel val:Int} {r:Rf} {st:List Int} (hb:qAT op n rel val r st=true):qBp r=true:=(qFb hb).1
theorem qBq {op n rel val:Int} {r:Rf} {st:List Int} (h7:¬ op=7) (h8:¬ op=8) (h9:¬ op=9) (hb:qAT op n rel val r st=true) (hs:st.length<=4) (d:Nat):Small (d+1) (.mk op n rel val r st []) 1:=by
 refine⟨Nat.le_refl _,fun left hl=>?_,qC1 (qNb (qQ0 hb)) (by omega),?_⟩
 ·rw [qAp,if_neg (by omega),if_pos]
  ·rfl
  ·have h0:qAc op=0:=by rw [qAc,if_neg h7,if_neg (by omega)]
   rw [qAb,if_pos h0,hb];rfl
 ·rw [qB5 h7 h8 h9]
  have h1:=qSp hb hs
  have h2:=qBj true (qLE hb).1
  omega
theorem qLD (k:Nat) (p:Int × qBT):(spW true (inT k p)).length<=(spW true p.2).length+4:=by
 unfold inT
 split
 ·show(spW true ([tLP]++(p.2++[tRP]))).length<=_
  rw [qDa,qDa]
  simp [spW]
 ·omega
theorem qKn {d na nb:Nat} {a b:Cd} {op:Int} (ho:op=8∨op=9) (ha:Small d a na) (hb:Small d b nb):Small (d+1) (.mk op 0 0 0 rf0 [] [a,b]) (1+na+nb):=by
 have h1:=ha.pos
 have h2:=hb.pos
 have l1:=ha.len
 have l2:=hb.len
 refine⟨by omega,fun left hl=>?_,qGt ha.big hb.big,?_⟩
 ·rw [qAp,if_neg (by omega),if_pos]
  ·show(do
    let l <- qAp d a (left - 1)
    let l <- qAp d b l
    some l)=_
   rw [ha.valid _ (by omega)]
   show(do
    let l <- qAp d b (left - 1 - na)
    some l)=_
   rw [hb.valid _ (by omega)]
   show some _=some _
   congr 1;omega
  ·rcases ho with rfl | rfl <;> rfl
 ·rcases ho with rfl | rfl
  ·rw [qCe,qDa]
   have k1:=qLD 2 (a.op,qAj a)
   have k2:=qLD 3 (b.op,qAj b)
   simp only [] at k1 k2
   show((spW true (inT 2 (a.op,qAj a)))++spW true ([qDj]++inT 3 (b.op,qAj b))).length<=_
   rw [qDa,List.length_append,List.length_append]
   have k3:(spW true [qDj]).length=4:=rfl
   omega
  ·rw [qCd,qDa]
   have k1:=qLD 1 (a.op,qAj a)
   have k2:=qLD 2 (b.op,qAj b)
   simp only [] at k1 k2
   show((spW true (inT 1 (a.op,qAj a)))++spW true ([tOr]++inT 2 (b.op,qAj b))).length<=_
   rw [qDa,List.length_append,List.length_append]
   have k3:(spW true [tOr]).length=3:=rfl
   omega
theorem qK7 {d na:Nat} {a:Cd} (ha:Small d a na):Small (d+1) (.mk 7 0 0 0 rf0 [] [a]) (1+na):=by
 have h1:=ha.pos
 have l1:=ha.len
 refine⟨by omega,fun left hl=>?_,qMt ha.big,?_⟩
 ·rw [qAp,if_neg (by omega),if_pos]
  ·show(do
    let l <- qAp d a (left - 1)
    some l)=_
   rw [ha.valid _ (by omega)]
   show some _=some _
   congr 1;omega
  ·rfl
 ·rw [qDI]
  have k1:=qLD 3 (a.op,qAj a)
  simp only [] at k1
  show(spW true ([qHF]++inT 3 (a.op,qAj a))).length<=_
  rw [qDa,List.length_append]
  have k3:(spW true [qHF]).length=4:=rfl
  omega
def abxy:List UInt8:=[97,98,120,121]
def GrQ (d:Nat) (l:List UInt8) (r:PEnd):Prop:=∃ (c:Cd) (n:Nat) (rest:List UInt8),r=.ret [c.pv, .lst (rest.map u8)]/\Small d c n/\n+2 * rest.length<=2 * l.length+1
def qX7 (d:Nat):Prop:=∀ (p:Nat) (l:List UInt8),p+d=9->l.length<=1000->Pure cx 68 [.lst (l.map u8),i64 p] (GrQ d l)
def GrN (d:Nat) (l:List UInt8) (r:PEnd):Prop:=∃ (y z:PV) (c:Cd) (n:Nat) (rest:List UInt8),r=.ret [y,z]/\NilD y c.pv/\NilD z (.lst (rest.map u8))/\Small d c n/\n+2 * rest.length<=2 * l.length+1
theorem qU2 {d:Nat} {l:List UInt8} {g:FuncId} {args:List PV} (h:Pure cx g args (GrN d l)):Pure cx g args (GrQ d l):=
 h.weak fun r hr=>by
  obtain⟨y,z,c,n,rest,rfl,h1,h2,h3,h4⟩:=hr
  exact⟨.ret [c.pv, .lst (rest.map u8)],⟨_,rfl,_,_,rfl,h1,_,_,rfl,h2,rfl⟩,c,n,rest,rfl,h3,h4⟩
theorem qXA:qAo [97]=true:=by decide
theorem qQa:qAo [112]=true:=by decide
theorem qSW {nm:List UInt8} (h:qAo nm=true):qBp ⟨nm,0,[],0⟩=true:=by rw [qBp,h];rfl
theorem qWD {nm:List UInt8} (h:qAo nm=true):qBp ⟨nm,3,[],0⟩=true:=by rw [qBp,h];rfl
theorem qUQ {nm:List UInt8} {n:Int} (h:qAo nm=true) (hn:qBm n=true):qBp ⟨nm,2,[],n⟩=true:=by
 show(qAo nm && (decide (([]:List UInt8)=[]) && qBm n))=true
 rw [h,hn];rfl
theorem qUR {nm pl:List UInt8} {n:Int} (h:qAo nm=true) (hp:qAo pl=true) (hn:qBm n=true):qBp ⟨nm,1,pl,n⟩=true:=by
 show(qAo nm && (qAo pl && qBm n))=true
 rw [h,hp,hn];rfl
theorem qH7 {op n:Int} {r:Rf} (ho:1<=op/\op<=4) (hr:qBp r=true) (hn:qBm n=true):qAT op n 0 0 r []=true:=by
 unfold qAT
 rw [if_pos (by omega),hr,hn];rfl
theorem qTo {n rel val:Int} {nm:List UInt8} (h:qAo nm=true) (hn:qBm n=true) (hv:qBm val=true) (hr:1<=rel/\rel<=4):qAT 6 n rel val ⟨nm,3,[],0⟩ []=true:=by
 unfold qAT
 rw [if_neg (by decide),if_neg (by decide),if_pos rfl,qWD h,hn,hv,decide_eq_true hr.1,decide_eq_true hr.2];rfl
theorem qNy {r:Rf} {st:List Int} (hr:qBp r=true) (hs:qHO st=true):qAT 5 0 0 0 r st=true:=by
 unfold qAT
 rw [if_neg (by decide),if_pos rfl,hr,hs];rfl
abbrev otG:OT:=(.pure 0 (.pure 1 (.pure 2 (.pure 3 (.pure 4 (.pure 5 (.pure 6 (.pure 7 (.eff 8 [] (.pure 9 .fin) .nil)))))))))
theorem qKu:∀ j,j<4->qHO (([0,1,2,9999]:List Int).drop j)=true:=by decide
theorem qX2:∀ j,j<4->qAo ((abxy.drop j).take (j+1 - j))=true:=by decide
theorem qOz (v k:Nat) (hv:v<256):qBm ((v / k:Nat):Int)=true:=qCu (Int.natCast_nonneg _) (Int.le_trans (Int.ofNat_le.2 (Nat.div_le_self v k)) (by omega))
theorem qJF (v a k:Nat) (hv:v<256):qBm ((v / a % k:Nat):Int)=true:=qCu (Int.natCast_nonneg _) (Int.le_trans (Int.ofNat_le.2 (Nat.le_trans (Nat.mod_le (v / a) k) (Nat.div_le_self v a))) (by omega))
theorem qDF (rf:Rf) (L:List Int) (j:Nat):NilD (.agg [i64 5,i64 0,i64 0,i64 0, .str rf.name,i64 rf.mode, .str rf.plate,i64 rf.n, .lst ((L.map i64).drop j), .nils]) (Cd.mk 5 0 0 0 rf (L.drop j) []).pv:=by
 rw [<- List.map_drop]
 exact qNq 5 0 0 0 rf (L.drop j)
theorem qQh (op:Int) (l:List Cd):NilD (.agg [i64 op,i64 0,i64 0,i64 0, .str [],i64 0, .str [],i64 0, .nils, .lsts 10 (qBV l)]) (Cd.mk op 0 0 0 rf0 [] l).pv:=by
 show NilD _ (.agg [i64 op,i64 0,i64 0,i64 0, .str [],i64 0, .str [],i64 0, .lst [], .lsts 10 (qBV l)])
 simp only [NilD,NilDL]
 exact⟨_,rfl,_,_,rfl,rfl,_,_,rfl,rfl,_,_,rfl,rfl,_,_,rfl,rfl,_,_,rfl,rfl,_,_,rfl,rfl,_,_,rfl,rfl,_,_,rfl,rfl,_,_,rfl, .inr (.inl rfl),_,_,rfl,⟨_,rfl,NilDLL.refl _⟩,rfl⟩
def nmV (v:Nat):List UInt8:=(abxy.drop (v / 16 % 4)).take (v / 16 % 4+1 - v / 16 % 4)
abbrev l9:List Int:=[0,1,2,9999]
theorem grow_step (d:Nat) (ih:d ≠ 0->qX7 d):qX7 (d+1):=by
 intro p l hp hl
 refine qU2 ?_
 have hl':(l.map u8).length=l.length:=List.length_map ..
 refine qAB Tryz.func68 rfl rfl rfl ?_
 by_cases h0:l=[]
 ·subst h0
  refine And.intro (fun _=>?_) (fun h=>absurd rfl h)
  refine qEC (.agg [i64 1,i64 0,i64 0,i64 0, .str [97],i64 0, .str [],i64 0, .nils, .nils]) .nils rfl rfl (.inl rfl) ?_
  exact⟨_,_, .mk 1 0 0 0 ⟨[97],0,[],0⟩ [] [],1,[],rfl,qAn 1 0 0 0 ⟨[97],0,[],0⟩,by simp [NilD],qBq (by decide) (by decide) (by decide) (qH7 (by decide) (qSW qXA) (by decide)) (by decide) d,by simp⟩
 obtain⟨b,t,rfl⟩:∃ b t,l=b::t:=by
  cases l with
  | nil=>exact absurd rfl h0
  | cons b t=>exact⟨b,t,rfl⟩
 refine And.intro (fun h=>absurd (show(((b::t).map u8).length:Int)=0 from h) (by rw [hl'];simp only [List.length_cons];omega)) (fun _=>?_)
 have hv:b.toNat<256:=b.toNat_lt
 obtain⟨v,hve⟩:∃ v,v=b.toNat:=⟨_,rfl⟩
 rw [<- hve] at hv
 simp only [List.length_cons] at hl
 refine⟨_,⟨by decide,u8 b,rfl,rfl⟩,?_⟩
 refine⟨(v:Int),by rw [hve];exact w6z,?_⟩
 clear hve
 refine⟨by show(0:Int)<=1/\(1:Int)<=(((b::t).map u8).length:Nat);rw [hl'];simp only [List.length_cons];omega,?_⟩
 have e8:(v:Int).tmod 8=((v % 8:Nat):Int):=rfl
 have e4:((v / 16:Nat):Int).tmod 4=((v / 16 % 4:Nat):Int):=rfl
 have hn:qAo (nmV v)=true:=qX2 _ (by omega)
 refine⟨by decide,((v / 16:Nat):Int),by show _=IntKind.i64.wrap ((v:Int).tdiv 16);rw [show(v:Int).tdiv 16=((v / 16:Nat):Int) from rfl];exact w6z,?_⟩
 refine⟨by decide,?_⟩
 refine⟨by decide,((v / 16:Nat):Int),by show _=IntKind.i64.wrap ((v:Int).tdiv 16);rw [show(v:Int).tdiv 16=((v / 16:Nat):Int) from rfl];exact w6z,?_⟩
 refine⟨by decide,?_⟩
 refine⟨((v / 16 % 4+1:Nat):Int),by show _=IntKind.i64.wrap (((v / 16:Nat):Int).tmod 4+1);rw [e4,Int.natCast_add];exact w6z,?_⟩
 refine⟨by show(0:Int)<=((v / 16:Nat):Int).tmod 4/\((v / 16:Nat):Int).tmod 4<=((v / 16 % 4+1:Nat):Int)/\((v / 16 % 4+1:Nat):Int)<=4;rw [e4];omega,?_⟩
 by_cases c1:p<8
 ·refine And.intro (fun _=>?_) (fun h=>absurd (show(p:Int)<8 by first | (rw [e8];omega) | omega) h)
  refine⟨by decide,?_⟩
  by_cases c2:v % 8<2
  ·refine And.intro (fun _=>?_) (fun h=>absurd (show(v:Int).tmod 8<2 by first | (rw [e8];omega) | omega) h)
   refine⟨((p+1:Nat):Int),by rw [Int.natCast_add];exact w6z,?_⟩
   refine(ih (by omega) (p+1) t (by omega) (by omega)).at fun r hr=>?_
   obtain⟨⟨ao,an,ar,av,af,as',aa⟩,na,t2,rfl,sa,la⟩:=hr
   refine⟨((p+1:Nat):Int),by rw [Int.natCast_add];exact w6z,?_⟩
   refine(ih (by omega) (p+1) t2 (by omega) (by omega)).at fun r hr=>?_
   obtain⟨⟨bo,bn,br,bv,bf,bs,ba⟩,nb,t3,rfl,sb,lb⟩:=hr
   refine⟨by decide,?_⟩
   refine⟨8+((v % 2:Nat):Int),by show _=IntKind.i64.wrap (8+(v:Int).tmod 2);rw [show(v:Int).tmod 2=((v % 2:Nat):Int) from rfl];exact w6z,?_⟩
   refine qEC (.agg [i64 (8+((v % 2:Nat):Int)),i64 0,i64 0,i64 0, .str [],i64 0, .str [],i64 0, .nils, .lsts 10 (qBV [.mk ao an ar av af as' aa, .mk bo bn br bv bf bs ba])]) (.lst (t3.map u8)) rfl ⟨_,rfl,_,_,rfl,rfl,_,_,rfl,rfl,_,_,rfl,rfl,_,_,rfl,rfl,_,_,rfl,rfl,_,_,rfl,rfl,_,_,rfl,rfl,_,_,rfl,rfl,_,_,rfl, .inl rfl,_,_,rfl,⟨_,rfl,Nat.le_refl _,rfl⟩,rfl⟩ rfl ?_
   exact⟨_,_, .mk (8+((v % 2:Nat):Int)) 0 0 0 rf0 [] [.mk ao an ar av af as' aa, .mk bo bn br bv bf bs ba],_,t3,rfl,qQh _ _,NilD.refl _,qKn (by omega) sa sb,by simp only [List.length_cons];omega⟩
  ·refine And.intro (fun h=>absurd (show(v:Int).tmod 8<2 from h) (by first | (rw [e8];omega) | omega)) (fun _=>?_)
   refine And.intro (fun _=>?_) (fun h=>absurd (show(p:Int)<8 by first | (rw [e8];omega) | omega) h)
   refine⟨by decide,?_⟩
   by_cases c3:v % 8=2
   ·refine And.intro (fun _=>?_) (fun h=>absurd (show(v:Int).tmod 8=2 by first | (rw [e8];omega) | omega) h)
    refine⟨((p+1:Nat):Int),by rw [Int.natCast_add];exact w6z,?_⟩
    refine(ih (by omega) (p+1) t (by omega) (by omega)).at fun r hr=>?_
    obtain⟨⟨ao,an,ar,av,af,as',aa⟩,na,t2,rfl,sa,la⟩:=hr
    refine qEC (.agg [i64 7,i64 0,i64 0,i64 0, .str [],i64 0, .str [],i64 0, .nils, .lsts 10 (qBV [.mk ao an ar av af as' aa])]) (.lst (t2.map u8)) rfl ⟨_,rfl,_,_,rfl,rfl,_,_,rfl,rfl,_,_,rfl,rfl,_,_,rfl,rfl,_,_,rfl,rfl,_,_,rfl,rfl,_,_,rfl,rfl,_,_,rfl,rfl,_,_,rfl, .inl rfl,_,_,rfl,⟨_,rfl,Nat.le_refl _,rfl⟩,rfl⟩ rfl ?_
    exact⟨_,_, .mk 7 0 0 0 rf0 [] [.mk ao an ar av af as' aa],_,t2,rfl,qQh 7 _,NilD.refl _,qK7 sa,by simp only [List.length_cons];omega⟩
   ·refine And.intro (fun h=>absurd (show(v:Int).tmod 8=2 from h) (by first | (rw [e8];omega) | omega)) (fun _=>?_)
    refine⟨by decide,?_⟩
    by_cases k3:v % 8=3
    ·refine And.intro (fun _=>?_) (fun h=>absurd (show(v:Int).tmod 8=3 by first | (rw [e8];omega) | omega) h)
     refine⟨by decide,((v / 64:Nat):Int),by show _=IntKind.i64.wrap ((v:Int).tdiv 64);rw [show(v:Int).tdiv 64=((v / 64:Nat):Int) from rfl];exact w6z,?_⟩
     refine⟨by decide,((v / 8:Nat):Int),by show _=IntKind.i64.wrap ((v:Int).tdiv 8);rw [show(v:Int).tdiv 8=((v / 8:Nat):Int) from rfl];exact w6z,?_⟩
     refine⟨by decide,?_⟩
     refine⟨1+((v / 8 % 4:Nat):Int),by show _=IntKind.i64.wrap (1+((v / 8:Nat):Int).tmod 4);rw [show((v / 8:Nat):Int).tmod 4=((v / 8 % 4:Nat):Int) from rfl];exact w6z,?_⟩
     refine⟨by decide,((v / 32:Nat):Int),by show _=IntKind.i64.wrap ((v:Int).tdiv 32);rw [show(v:Int).tdiv 32=((v / 32:Nat):Int) from rfl];exact w6z,?_⟩
     refine⟨by decide,?_⟩
     refine qEC (.agg [i64 6,i64 ((v / 32 % 3:Nat):Int),i64 (1+((v / 8 % 4:Nat):Int)),i64 ((v / 64:Nat):Int), .str (nmV v),i64 3, .str [],i64 0, .nils, .nils]) (.lst (t.map u8)) rfl rfl rfl ?_
     exact⟨_,_, .mk 6 ((v / 32 % 3:Nat):Int) (1+((v / 8 % 4:Nat):Int)) ((v / 64:Nat):Int) ⟨nmV v,3,[],0⟩ [] [],1,t,rfl,qAn 6 _ _ _ ⟨nmV v,3,[],0⟩,NilD.refl _,qBq (by decide) (by decide) (by decide) (qTo hn (qJF v 32 3 hv) (qOz v 64 hv) (by omega)) (by decide) d,by simp only [List.length_cons];omega⟩
    refine And.intro (fun h=>absurd (show(v:Int).tmod 8=3 from h) (by first | (rw [e8];omega) | omega)) (fun _=>?_)
    refine⟨by decide,?_⟩
    by_cases k4:v % 8=4
    ·refine And.intro (fun _=>?_) (fun h=>absurd (show(v:Int).tmod 8=4 by first | (rw [e8];omega) | omega) h)
     refine⟨by decide,((v / 32:Nat):Int),by show _=IntKind.i64.wrap ((v:Int).tdiv 32);rw [show(v:Int).tdiv 32=((v / 32:Nat):Int) from rfl];exact w6z,?_⟩
     refine⟨by decide,?_⟩
     refine qAf otG (by kernel_rfl) ?_
     refine⟨by decide,((v / 8:Nat):Int),by show _=IntKind.i64.wrap ((v:Int).tdiv 8);rw [show(v:Int).tdiv 8=((v / 8:Nat):Int) from rfl];exact w6z,?_⟩
     refine⟨by decide,?_⟩
     refine⟨by show(0:Int)<=((v / 8:Nat):Int).tmod 4/\((v / 8:Nat):Int).tmod 4<=4;rw [show((v / 8:Nat):Int).tmod 4=((v / 8 % 4:Nat):Int) from rfl];omega,?_⟩
     refine qEC (.agg [i64 5,i64 0,i64 0,i64 0, .str (nmV v),i64 1, .str [112],i64 ((v / 32 % 3:Nat):Int), .lst ((l9.map i64).drop (v / 8 % 4)), .nils]) (.lst (t.map u8)) rfl rfl rfl ?_
     exact⟨_,_, .mk 5 0 0 0 ⟨nmV v,1,[112],((v / 32 % 3:Nat):Int)⟩ (l9.drop (v / 8 % 4)) [],1,t,rfl,qDF ⟨nmV v,1,[112],((v / 32 % 3:Nat):Int)⟩ l9 (v / 8 % 4),NilD.refl _,qBq (by decide) (by decide) (by decide) (qNy (qUR hn qQa (qJF v 32 3 hv)) (qKu _ (by omega))) (by rw [List.length_drop];show 4 - _<=4;omega) d,by simp only [List.length_cons];omega⟩
    refine And.intro (fun h=>absurd (show(v:Int).tmod 8=4 from h) (by first | (rw [e8];omega) | omega)) (fun _=>?_)
    refine⟨by decide,?_⟩
    by_cases k5:v % 8=5
    ·refine And.intro (fun _=>?_) (fun h=>absurd (show(v:Int).tmod 8=5 by first | (rw [e8];omega) | omega) h)
     refine⟨by decide,((v / 8:Nat):Int),by show _=IntKind.i64.wrap ((v:Int).tdiv 8);rw [show(v:Int).tdiv 8=((v / 8:Nat):Int) from rfl];exact w6z,?_⟩
     refine⟨by decide,?_⟩
     refine⟨by decide,((v / 8:Nat):Int),by show _=IntKind.i64.wrap ((v:Int).tdiv 8);rw [show(v:Int).tdiv 8=((v / 8:Nat):Int) from rfl];exact w6z,?_⟩
     refine⟨by decide,?_⟩
     refine⟨1+((v / 8 % 4:Nat):Int),by show _=IntKind.i64.wrap (1+((v / 8:Nat):Int).tmod 4);rw [show((v / 8:Nat):Int).tmod 4=((v / 8 % 4:Nat):Int) from rfl];exact w6z,?_⟩
     refine⟨by decide,((v / 64:Nat):Int),by show _=IntKind.i64.wrap ((v:Int).tdiv 64);rw [show(v:Int).tdiv 64=((v / 64:Nat):Int) from rfl];exact w6z,?_⟩
     refine qEC (.agg [i64 (1+((v / 8 % 4:Nat):Int)),i64 ((v / 64:Nat):Int),i64 0,i64 0, .str (nmV v),i64 2, .str [],i64 ((v / 8 % 4:Nat):Int), .nils, .nils]) (.lst (t.map u8)) rfl rfl rfl ?_
     exact⟨_,_, .mk (1+((v / 8 % 4:Nat):Int)) ((v / 64:Nat):Int) 0 0 ⟨nmV v,2,[],((v / 8 % 4:Nat):Int)⟩ [] [],1,t,rfl,qAn _ _ 0 0 ⟨nmV v,2,[],((v / 8 % 4:Nat):Int)⟩,NilD.refl _,qBq (by omega) (by omega) (by omega) (qH7 (by omega) (qUQ hn (qJF v 8 4 hv)) (qOz v 64 hv)) (by decide) d,by simp only [List.length_cons];omega⟩
    refine And.intro (fun h=>absurd (show(v:Int).tmod 8=5 from h) (by first | (rw [e8];omega) | omega)) (fun _=>?_)
    refine⟨by decide,((v / 8:Nat):Int),by show _=IntKind.i64.wrap ((v:Int).tdiv 8);rw [show(v:Int).tdiv 8=((v / 8:Nat):Int) from rfl];exact w6z,?_⟩
    refine⟨by decide,?_⟩
    refine⟨1+((v / 8 % 4:Nat):Int),by show _=IntKind.i64.wrap (1+((v / 8:Nat):Int).tmod 4);rw [show((v / 8:Nat):Int).tmod 4=((v / 8 % 4:Nat):Int) from rfl];exact w6z,?_⟩
    refine⟨by decide,((v / 64:Nat):Int),by show _=IntKind.i64.wrap ((v:Int).tdiv 64);rw [show(v:Int).tdiv 64=((v / 64:Nat):Int) from rfl];exact w6z,?_⟩
    refine qEC (.agg [i64 (1+((v / 8 % 4:Nat):Int)),i64 ((v / 64:Nat):Int),i64 0,i64 0, .str (nmV v),i64 0, .str [],i64 0, .nils, .nils]) (.lst (t.map u8)) rfl rfl rfl ?_
    exact⟨_,_, .mk (1+((v / 8 % 4:Nat):Int)) ((v / 64:Nat):Int) 0 0 ⟨nmV v,0,[],0⟩ [] [],1,t,rfl,qAn _ _ 0 0 ⟨nmV v,0,[],0⟩,NilD.refl _,qBq (by omega) (by omega) (by omega) (qH7 (by omega) (qSW hn) (qOz v 64 hv)) (by decide) d,by simp only [List.length_cons];omega⟩
 ·refine And.intro (fun h=>absurd (show(p:Int)<8 from h) (by first | (rw [e8];omega) | omega)) (fun _=>?_)
  refine And.intro (fun h=>absurd (show(p:Int)<8 from h) (by first | (rw [e8];omega) | omega)) (fun _=>?_)
  refine⟨by decide,?_⟩
  by_cases k3:v % 8=3
  ·refine And.intro (fun _=>?_) (fun h=>absurd (show(v:Int).tmod 8=3 by first | (rw [e8];omega) | omega) h)
   refine⟨by decide,((v / 64:Nat):Int),by show _=IntKind.i64.wrap ((v:Int).tdiv 64);rw [show(v:Int).tdiv 64=((v / 64:Nat):Int) from rfl];exact w6z,?_⟩
   refine⟨by decide,((v / 8:Nat):Int),by show _=IntKind.i64.wrap ((v:Int).tdiv 8);rw [show(v:Int).tdiv 8=((v / 8:Nat):Int) from rfl];exact w6z,?_⟩
   refine⟨by decide,?_⟩
   refine⟨1+((v / 8 % 4:Nat):Int),by show _=IntKind.i64.wrap (1+((v / 8:Nat):Int).tmod 4);rw [show((v / 8:Nat):Int).tmod 4=((v / 8 % 4:Nat):Int) from rfl];exact w6z,?_⟩
   refine⟨by decide,((v / 32:Nat):Int),by show _=IntKind.i64.wrap ((v:Int).tdiv 32);rw [show(v:Int).tdiv 32=((v / 32:Nat):Int) from rfl];exact w6z,?_⟩
   refine⟨by decide,?_⟩
   refine qEC (.agg [i64 6,i64 ((v / 32 % 3:Nat):Int),i64 (1+((v / 8 % 4:Nat):Int)),i64 ((v / 64:Nat):Int), .str (nmV v),i64 3, .str [],i64 0, .nils, .nils]) (.lst (t.map u8)) rfl rfl rfl ?_
   exact⟨_,_, .mk 6 ((v / 32 % 3:Nat):Int) (1+((v / 8 % 4:Nat):Int)) ((v / 64:Nat):Int) ⟨nmV v,3,[],0⟩ [] [],1,t,rfl,qAn 6 _ _ _ ⟨nmV v,3,[],0⟩,NilD.refl _,qBq (by decide) (by decide) (by decide) (qTo hn (qJF v 32 3 hv) (qOz v 64 hv) (by omega)) (by decide) d,by simp only [List.length_cons];omega⟩
  refine And.intro (fun h=>absurd (show(v:Int).tmod 8=3 from h) (by first | (rw [e8];omega) | omega)) (fun _=>?_)
  refine⟨by decide,?_⟩
  by_cases k4:v % 8=4
  ·refine And.intro (fun _=>?_) (fun h=>absurd (show(v:Int).tmod 8=4 by first | (rw [e8];omega) | omega) h)
   refine⟨by decide,((v / 32:Nat):Int),by show _=IntKind.i64.wrap ((v:Int).tdiv 32);rw [show(v:Int).tdiv 32=((v / 32:Nat):Int) from rfl];exact w6z,?_⟩
   refine⟨by decide,?_⟩
   refine qAf otG (by kernel_rfl) ?_
   refine⟨by decide,((v / 8:Nat):Int),by show _=IntKind.i64.wrap ((v:Int).tdiv 8);rw [show(v:Int).tdiv 8=((v / 8:Nat):Int) from rfl];exact w6z,?_⟩
   refine⟨by decide,?_⟩
   refine⟨by show(0:Int)<=((v / 8:Nat):Int).tmod 4/\((v / 8:Nat):Int).tmod 4<=4;rw [show((v / 8:Nat):Int).tmod 4=((v / 8 % 4:Nat):Int) from rfl];omega,?_⟩
   refine qEC (.agg [i64 5,i64 0,i64 0,i64 0, .str (nmV v),i64 1, .str [112],i64 ((v / 32 % 3:Nat):Int), .lst ((l9.map i64).drop (v / 8 % 4)), .nils]) (.lst (t.map u8)) rfl rfl rfl ?_
   exact⟨_,_, .mk 5 0 0 0 ⟨nmV v,1,[112],((v / 32 % 3:Nat):Int)⟩ (l9.drop (v / 8 % 4)) [],1,t,rfl,qDF ⟨nmV v,1,[112],((v / 32 % 3:Nat):Int)⟩ l9 (v / 8 % 4),NilD.refl _,qBq (by decide) (by decide) (by decide) (qNy (qUR hn qQa (qJF v 32 3 hv)) (qKu _ (by omega))) (by rw [List.length_drop];show 4 - _<=4;omega) d,by simp only [List.length_cons];omega⟩
  refine And.intro (fun h=>absurd (show(v:Int).tmod 8=4 from h) (by first | (rw [e8];omega) | omega)) (fun _=>?_)
  refine⟨by decide,?_⟩
  by_cases k5:v % 8=5
  ·refine And.intro (fun _=>?_) (fun h=>absurd (show(v:Int).tmod 8=5 by first | (rw [e8];omega) | omega) h)
   refine⟨by decide,((v / 8:Nat):Int),by show _=IntKind.i64.wrap ((v:Int).tdiv 8);rw [show(v:Int).tdiv 8=((v / 8:Nat):Int) from rfl];exact w6z,?_⟩
   refine⟨by decide,?_⟩
   refine⟨by decide,((v / 8:Nat):Int),by show _=IntKind.i64.wrap ((v:Int).tdiv 8);rw [show(v:Int).tdiv 8=((v / 8:Nat):Int) from rfl];exact w6z,?_⟩
   refine⟨by decide,?_⟩
   refine⟨1+((v / 8 % 4:Nat):Int),by show _=IntKind.i64.wrap (1+((v / 8:Nat):Int).tmod 4);rw [show((v / 8:Nat):Int).tmod 4=((v / 8 % 4:Nat):Int) from rfl];exact w6z,?_⟩
   refine⟨by decide,((v / 64:Nat):Int),by show _=IntKind.i64.wrap ((v:Int).tdiv 64);rw [show(v:Int).tdiv 64=((v / 64:Nat):Int) from rfl];exact w6z,?_⟩
   refine qEC (.agg [i64 (1+((v / 8 % 4:Nat):Int)),i64 ((v / 64:Nat):Int),i64 0,i64 0, .str (nmV v),i64 2, .str [],i64 ((v / 8 % 4:Nat):Int), .nils, .nils]) (.lst (t.map u8)) rfl rfl rfl ?_
   exact⟨_,_, .mk (1+((v / 8 % 4:Nat):Int)) ((v / 64:Nat):Int) 0 0 ⟨nmV v,2,[],((v / 8 % 4:Nat):Int)⟩ [] [],1,t,rfl,qAn _ _ 0 0 ⟨nmV v,2,[],((v / 8 % 4:Nat):Int)⟩,NilD.refl _,qBq (by omega) (by omega) (by omega) (qH7 (by omega) (qUQ hn (qJF v 8 4 hv)) (qOz v 64 hv)) (by decide) d,by simp only [List.length_cons];omega⟩
  refine And.intro (fun h=>absurd (show(v:Int).tmod 8=5 from h) (by first | (rw [e8];omega) | omega)) (fun _=>?_)
  refine⟨by decide,((v / 8:Nat):Int),by show _=IntKind.i64.wrap ((v:Int).tdiv 8);rw [show(v:Int).tdiv 8=((v / 8:Nat):Int) from rfl];exact w6z,?_⟩
  refine⟨by decide,?_⟩
  refine⟨1+((v / 8 % 4:Nat):Int),by show _=IntKind.i64.wrap (1+((v / 8:Nat):Int).tmod 4);rw [show((v / 8:Nat):Int).tmod 4=((v / 8 % 4:Nat):Int) from rfl];exact w6z,?_⟩
  refine⟨by decide,((v / 64:Nat):Int),by show _=IntKind.i64.wrap ((v:Int).tdiv 64);rw [show(v:Int).tdiv 64=((v / 64:Nat):Int) from rfl];exact w6z,?_⟩
  refine qEC (.agg [i64 (1+((v / 8 % 4:Nat):Int)),i64 ((v / 64:Nat):Int),i64 0,i64 0, .str (nmV v),i64 0, .str [],i64 0, .nils, .nils]) (.lst (t.map u8)) rfl rfl rfl ?_
  exact⟨_,_, .mk (1+((v / 8 % 4:Nat):Int)) ((v / 64:Nat):Int) 0 0 ⟨nmV v,0,[],0⟩ [] [],1,t,rfl,qAn _ _ 0 0 ⟨nmV v,0,[],0⟩,NilD.refl _,qBq (by omega) (by omega) (by omega) (qH7 (by omega) (qSW hn) (qOz v 64 hv)) (by decide) d,by simp only [List.length_cons];omega⟩
theorem qN8:∀ d,qX7 (d+1)
 | 0=>grow_step 0 fun h=>absurd rfl h
 | d+1=>grow_step (d+1) fun _=>qN8 d
theorem qTK (l:List UInt8) (hl:l.length<=9223372036854775807):Pure cx 41 [.lst (l.map u8)] fun r=>∃ (c:Cd) (n:Nat),r=.ret [c.pv]/\Small 8 c n/\n<=29:=by
 refine qAB Tryz.func41 rfl rfl rfl ?_
 have hl':(l.map u8).length=l.length:=List.length_map ..
 obtain⟨k,hk⟩:∃ k,k=min l.length 14:=⟨_,rfl⟩
 have em:(if (14:Int)<((l.map u8).length:Nat) then(14:Int) else((l.map u8).length:Nat))=(k:Nat):=by
  rw [hl',hk];split <;> omega
 refine⟨by show(0:Int)<=(if (14:Int)<((l.map u8).length:Nat) then(14:Int) else((l.map u8).length:Nat))/\(if (14:Int)<((l.map u8).length:Nat) then(14:Int) else((l.map u8).length:Nat))<=((l.map u8).length:Nat);rw [em,hl'];omega,?_⟩
 have hg:=qN8 7 1 (l.take k) rfl (by rw [List.length_take];omega)
 have ea:[PV.lst ((l.take k).map u8),i64 ((1:Nat):Int)]=[PV.lst ((l.map u8).take (if (14:Int)<((l.map u8).length:Nat) then(14:Int) else((l.map u8).length:Nat)).toNat),i64 1]:=by
  rw [em,List.map_take];rfl
 rw [ea] at hg
 refine hg.at fun r hr=>?_
 obtain⟨⟨ao,an,ar,av,af,as',aa⟩,n,rest,rfl,hs,hn⟩:=hr
 exact qAF _ rfl rfl ⟨_,n,rfl,hs,by rw [List.length_take] at hn;omega⟩
abbrev qDi (c:Cd):De:=⟨5,0,[],[],[],[⟨c,[1]⟩,⟨cd0,[-1,0]⟩]⟩
theorem qTI (l:List UInt8) (hl:l.length<=9223372036854775807):Pure cx 12 [.lst (l.map u8)] fun r=>∃ (c:Cd) (n:Nat),r=.ret [qCT [qDi c]]/\Small 8 c n/\n<=29:=by
 refine Pure.weak (Q:=fun r=>∃ (c:Cd) (n:Nat),r=.ret [.agg [.lsts 6 [[i64 5,i64 0, .str [], .str [], .nils, .lsts 11 [c.cells++[.lst [i64 1]],zc0++[.lst [i64 (-1),i64 0]]]]]]]/\Small 8 c n/\n<=29) ?_ ?_
 ·refine qAB Tryz.func12 rfl rfl rfl ?_
  refine(qTK l hl).at fun r hr=>?_
  obtain⟨⟨ao,an,ar,av,af,as',aa⟩,n,rfl,hs,hn⟩:=hr
  refine qAF _ rfl ⟨_,rfl,_,_,rfl,⟨_,rfl,Nat.le_refl _,⟨_,_,rfl,⟨_,_,rfl,rfl,_,_,rfl,rfl,_,_,rfl,rfl,_,_,rfl,rfl,_,_,rfl, .inl rfl,_,_,rfl,⟨_,rfl,Nat.le_refl _,⟨_,_,rfl,?_,_,_,rfl,?_,rfl⟩⟩,rfl⟩,rfl⟩⟩,rfl⟩ ⟨_,n,rfl,hs,hn⟩
  ·exact⟨_,_,rfl,rfl,_,_,rfl,rfl,_,_,rfl,rfl,_,_,rfl,rfl,_,_,rfl,rfl,_,_,rfl,rfl,_,_,rfl,rfl,_,_,rfl,rfl,_,_,rfl,rfl,_,_,rfl,rfl,_,_,rfl,⟨_,rfl,Nat.le_refl _,rfl⟩,rfl⟩
  ·exact⟨_,_,rfl,rfl,_,_,rfl,rfl,_,_,rfl,rfl,_,_,rfl,rfl,_,_,rfl,rfl,_,_,rfl,rfl,_,_,rfl,rfl,_,_,rfl,rfl,_,_,rfl, .inl rfl,_,_,rfl, .inl rfl,_,_,rfl,⟨_,rfl,Nat.le_refl _,rfl⟩,rfl⟩
 ·rintro r ⟨c,n,rfl,hs,hn⟩
  refine⟨_,⟨_,rfl,_,_,rfl,?_,rfl⟩,c,n,rfl,hs,hn⟩
  show NilD _ (.agg [.lsts 6 [[i64 5,i64 0, .str [], .str [], .lsts 4 [], .lsts 11 [(⟨c,[1]⟩:Cs).cells,(⟨cd0,[-1,0]⟩:Cs).cells]]]])
  simp only [NilD,NilDL,NilDLL]
  exact⟨_,rfl,_,_,rfl,⟨_,rfl,_,_,rfl,⟨_,_,rfl,rfl,_,_,rfl,rfl,_,_,rfl,rfl,_,_,rfl,rfl,_,_,rfl, .inr (.inr ⟨4,rfl⟩),_,_,rfl,⟨_,rfl,_,_,rfl,NilDL.refl _,_,_,rfl,qNp [-1,0],rfl⟩,rfl⟩,rfl⟩,rfl⟩
set_option maxHeartbeats 4000000
def qTp (t:List UInt8):Nat:=if t=tLP then 1 else 0
def lpP (ws:List Wd):Nat->Nat
 | 0=>0
 | q+1=>lpP ws q+qTp (txt ws q)
def pn (k:Nat) (p:Int × Nat):Nat:=p.2+if lvl p.1<k then 1 else 0
def cpJ (op:Int) (ps:List (Int × Nat)):Nat:=
 if op=9 then pn 1 (ps.getD 0 (0,0))+pn 2 (ps.getD 1 (0,0)) else if op=8 then pn 2 (ps.getD 0 (0,0))+pn 3 (ps.getD 1 (0,0)) else if op=7 then pn 3 (ps.getD 0 (0,0)) else if op=6 then 1 else 0
mutual
def cp:Cd->Nat
 | .mk op _ _ _ _ _ ar=>cpJ op (cpL ar)
def cpL:List Cd->List (Int × Nat)
 | []=>[]
 | c::r=>(c.op,cp c)::cpL r
end
def pin (k:Nat) (c:Cd):Nat:=pn k (c.op,cp c)
theorem qVI (a b:Cd):cp (.mk 9 0 0 0 rf0 [] [a,b])=pin 1 a+pin 2 b:=by rw [cp,cpL,cpL,cpL];rfl
theorem qVJ (a b:Cd):cp (.mk 8 0 0 0 rf0 [] [a,b])=pin 2 a+pin 3 b:=by rw [cp,cpL,cpL,cpL];rfl
theorem qWv (a:Cd):cp (.mk 7 0 0 0 rf0 [] [a])=pin 3 a:=by rw [cp,cpL,cpL];rfl
theorem qRW {op n rel val:Int} {r:Rf} {st:List Int} (h7:¬ op=7) (h8:¬ op=8) (h9:¬ op=9):cp (.mk op n rel val r st [])=if op=6 then 1 else 0:=by
 rw [cp,cpJ,if_neg h9,if_neg h8,if_neg h7]
theorem qWK {k:Nat} {c:Cd} (h:¬ lvl c.op<k):pin k c=cp c:=by
 unfold pin pn
 rw [if_neg h];rfl
structure CLp (ws:List Wd) (F:Nat):Prop where
 cond:∀ {q c q'},qDJ ws F q=.inr (c,q')->lpP ws q+pin 1 c<=lpP ws q'
 orr:∀ {d q c q'},orR ws F d q=.inr (c,q')->∀ s,s+pin 1 d<=lpP ws q->s+pin 1 c<=lpP ws q'
 conj:∀ {q c q'},qC0 ws F q=.inr (c,q')->lpP ws q+pin 2 c<=lpP ws q'
 andr:∀ {d q c q'},qLp ws F d q=.inr (c,q')->∀ s,s+pin 2 d<=lpP ws q->s+pin 2 c<=lpP ws q'
 neg:∀ {q c q'},qHT ws F q=.inr (c,q')->lpP ws q+pin 3 c<=lpP ws q'
 test:∀ {q c q'},qET ws F q=.inr (c,q')->lpP ws q+pin 4 c<=lpP ws q'
def lpT (x:qBT):Nat:=(x.map qTp).sum
def wgh (t:List UInt8):Int:=if t=tLP then 1 else if t=tRP then -1 else 0
def tot (x:qBT):Int:=(x.map wgh).sum
theorem qGh (x y:qBT):lpT (x++y)=lpT x+lpT y:=by rw [lpT,List.map_append,List.sum_append];rfl
theorem qJj (x y:qBT):tot (x++y)=tot x+tot y:=by rw [tot,List.map_append,List.sum_append];rfl
theorem qEz (t:List UInt8) (x:qBT):lpT (t::x)=qTp t+lpT x:=by simp [lpT]
theorem qJi (t:List UInt8) (x:qBT):tot (t::x)=wgh t+tot x:=by simp [tot]
structure Bal (x:qBT):Prop where
 all:tot x=0
 pre:∀ n,0<=tot (x.take n)
theorem Bal.app {x y:qBT} (hx:Bal x) (hy:Bal y):Bal (x++y):=by
 refine⟨by rw [qJj,hx.all,hy.all];rfl,fun n=>?_⟩
 rw [List.take_append,qJj]
 have:=hx.pre n
 have:=hy.pre (n - x.length)
 omega
def Pl (t:List UInt8):Prop:=t ≠ tLP/\t ≠ tRP
theorem qWH {t:List UInt8} (h:Pl t):wgh t=0:=by rw [wgh,if_neg h.1,if_neg h.2]
theorem qXd {t:List UInt8} (h:Pl t):qTp t=0:=if_neg h.1
theorem qE0:∀ {x:qBT},(∀ t∈x,Pl t)->tot x=0/\lpT x=0
 | [],_=>⟨rfl,rfl⟩
 | t::x,h=>by
  have h1:=h t (List.mem_cons_self ..)
  have h2:=qE0 (x:=x) fun u hu=>h u (List.mem_cons_of_mem _ hu)
  rw [qJi,qEz,qWH h1,qXd h1,h2.1,h2.2];exact⟨rfl,rfl⟩
theorem qHV {x:qBT} (h:∀ t∈x,Pl t):Bal x:=
 ⟨(qE0 h).1,fun n=>by rw [(qE0 fun t ht=>h t (List.mem_of_mem_take ht)).1];exact Int.le_refl _⟩
theorem Bal.par {x:qBT} (h:Bal x):Bal (tLP::(x++[tRP])):=by
 have e1:wgh tLP=1:=rfl
 have e2:tot [tRP]=-1:=rfl
 refine⟨by rw [qJi,qJj,h.all,e1,e2];rfl,fun n=>?_⟩
 cases n with
 | zero=>exact Int.le_refl _
 | succ n=>
  rw [List.take_succ_cons,qJi,e1,List.take_append,qJj]
  have:=h.pre n
  have h3:-1<=tot ([tRP].take (n - x.length)):=by
   cases n - x.length with
   | zero=>decide
   | succ m=>rw [List.take_of_length_le (by simp)];decide
  omega
theorem qMD {t:List UInt8} (h:qAo t=true):Pl t:=⟨qQm h (by decide),qQm h (by decide)⟩
theorem qHy {n:Int} (h:qBm n=true):Pl (qAa n):=⟨qTk (qKU h).1 (by decide),qTk (qKU h).1 (by decide)⟩
theorem qA5 {t:List UInt8} {x:qBT} (h:Pl t) (hx:∀ u∈x,Pl u):∀ u∈t::x,Pl u:=fun u hu=>by
 rcases List.mem_cons.1 hu with rfl | hu
 ·exact h
 ·exact hx u hu
theorem qDR:∀ u∈([]:qBT),Pl u:=fun u hu=>by cases hu
theorem qI0 {x y:qBT} (hx:∀ u∈x,Pl u) (hy:∀ u∈y,Pl u):∀ u∈x++y,Pl u:=fun u hu=>by
 rcases List.mem_append.1 hu with hu | hu
 ·exact hx u hu
 ·exact hy u hu
theorem qWJ {r:Rf} (h:qBp r=true):∀ u∈qBY r,Pl u:=by
 obtain⟨nm,m,pl,n⟩:=r
 rw [qBp,Bool.and_eq_true] at h
 obtain⟨hn,h⟩:=h
 simp only [] at h hn
 refine qA5 (qMD hn) ?_
 unfold qE5
 simp only []
 by_cases h3:m=3
 ·rw [if_pos h3]
  exact qA5 ⟨by decide,by decide⟩ (qA5 ⟨by decide,by decide⟩ (qA5 ⟨by decide,by decide⟩ qDR))
 rw [if_neg h3]
 by_cases h2:m=2
 ·rw [if_neg (by omega),if_neg (by omega),if_pos h2,Bool.and_eq_true] at h
  rw [if_pos h2]
  exact qA5 ⟨by decide,by decide⟩ (qA5 (qHy h.2) (qA5 ⟨by decide,by decide⟩ qDR))
 rw [if_neg h2]
 by_cases h1:m=1
 ·rw [if_neg (by omega),if_pos h1,Bool.and_eq_true] at h
  rw [if_pos h1]
  split
  ·exact qA5 ⟨by decide,by decide⟩ (qA5 (qMD h.1) (qA5 ⟨by decide,by decide⟩ (qA5 (qHy h.2) (qA5 ⟨by decide,by decide⟩ qDR))))
  ·exact qA5 ⟨by decide,by decide⟩ (qA5 (qMD h.1) (qA5 ⟨by decide,by decide⟩ qDR))
 ·rw [if_neg h1];exact qDR
theorem qTj (k:Int):Pl (qGZ k):=by
 unfold qGZ
 split
 ·exact⟨by decide,by decide⟩
 ·split
  ·exact⟨by decide,by decide⟩
  ·split <;> exact⟨by decide,by decide⟩
theorem qUe {l:List Int} (h:∀ n∈l,qBm n=true):∀ u∈l.flatMap (fun b=>qAv::[qAa b]),Pl u:=fun u hu=>by
 obtain⟨b,hb,hu⟩:=List.mem_flatMap.1 hu
 exact qA5 ⟨by decide,by decide⟩ (qA5 (qHy (h b hb)) qDR) u hu
theorem qWI {l:List Int} (h:∀ n∈l,qBm n=true):∀ u∈qFF (fun n=>[qAa n]) l,Pl u:=by
 cases l with
 | nil=>exact qDR
 | cons a l=>exact qI0 (qA5 (qHy (h a (List.mem_cons_self ..))) qDR) (qUe fun n hn=>h n (List.mem_cons_of_mem _ hn))
structure CanP (c:Cd):Prop where
 bal:Bal (qAj c)
 lp:lpT (qAj c)=cp c
theorem qLV {c:Cd} (h:CanP c) (k:Nat):Bal (qAW k c)/\lpT (qAW k c)=pin k c:=by
 by_cases hl:lvl c.op<k
 ·rw [qGN hl]
  refine⟨h.bal.par,?_⟩
  rw [qEz,qGh,h.lp,pin,pn,if_pos hl]
  have e1:qTp tLP=1:=rfl
  have e2:lpT [tRP]=0:=rfl
  rw [e1,e2];show 1+(cp c+0)=cp c+1;omega
 ·rw [qC9 hl,qWK hl]
  exact⟨h.bal,h.lp⟩
theorem qKb {t:List UInt8} (h:Pl t):Bal [t]:=qHV (qA5 h qDR)
theorem qS8 {c:Cd} (h:Sh CanP c):CanP c:=by
 cases h with
 | leaf op n rel val r st h7 h8 h9 hb=>
  obtain⟨f1,f2,f3,f4⟩:=qFb hb
  have hr:=qWJ f1
  rw [show CanP (.mk op n rel val r st []) ↔ Bal (qCF op n rel val r st)/\lpT (qCF op n rel val r st)=if op=6 then 1 else 0 from⟨fun h=>by rw [<- qB5 h7 h8 h9,<- qRW (n:=n) (rel:=rel) (val:=val) (r:=r) (st:=st) h7 h8 h9];exact⟨h.bal,h.lp⟩,fun h=>by rw [<- qB5 h7 h8 h9,<- qRW (n:=n) (rel:=rel) (val:=val) (r:=r) (st:=st) h7 h8 h9] at h;exact⟨h.1,h.2⟩⟩]
  by_cases h6:op=6
  ·obtain⟨g1,g2,g3⟩:=f2 h6
   have e:qCF op n rel val r st=[qB0]++((tLP::((qBY r++[tEq,qAa val])++[tRP]))++[qGZ rel,qAa n]):=by
    rw [qCF,if_pos h6];simp
   have hx:∀ u∈qBY r++[tEq,qAa val],Pl u:=qI0 hr (qA5 ⟨by decide,by decide⟩ (qA5 (qHy g2) qDR))
   have hy:∀ u∈[qGZ rel,qAa n],Pl u:=qA5 (qTj rel) (qA5 (qHy g1) qDR)
   rw [e,if_pos h6]
   refine⟨(qKb ⟨by decide,by decide⟩).app ((qHV hx).par.app (qHV hy)),?_⟩
   have h1:lpT [qB0]=0:=rfl
   rw [qGh,qGh,h1,qEz,qGh,(qE0 hx).2,(qE0 hy).2];rfl
  ·rw [if_neg h6]
   have hall:∀ u∈qCF op n rel val r st,Pl u:=by
    rw [qCF,if_neg h6]
    by_cases h5:op=5
    ·rw [if_pos h5]
     exact qI0 hr (qI0 (qA5 ⟨by decide,by decide⟩ (qA5 ⟨by decide,by decide⟩ qDR)) (qI0 (qWI (qDk (f3 h5)).2.1) (qA5 ⟨by decide,by decide⟩ qDR)))
    ·rw [if_neg h5]
     exact qI0 hr (qA5 (qTj op) (qA5 (qHy (f4 h5 h6).1) qDR))
   exact⟨qHV hall,(qE0 hall).2⟩
 | neg a ha=>
  have h3:=qLV ha 3
  refine⟨?_,?_⟩
  ·rw [qDI]
   exact(qKb (t:=qHF) ⟨by decide,by decide⟩).app h3.1
  ·rw [qDI,qWv,qEz,h3.2]
   have:qTp qHF=0:=rfl
   omega
 | conj a b ha hb=>
  have h2:=qLV ha 2
  have h3:=qLV hb 3
  refine⟨?_,?_⟩
  ·rw [qCe]
   exact h2.1.app ((qKb (t:=qDj) ⟨by decide,by decide⟩).app h3.1)
  ·rw [qCe,qVJ,qGh,qEz,h2.2,h3.2]
   have:qTp qDj=0:=rfl
   omega
 | disj a b ha hb=>
  have h2:=qLV ha 1
  have h3:=qLV hb 2
  refine⟨?_,?_⟩
  ·rw [qCd]
   exact h2.1.app ((qKb (t:=tOr) ⟨by decide,by decide⟩).app h3.1)
  ·rw [qCd,qVI,qGh,qEz,h2.2,h3.2]
   have:qTp tOr=0:=rfl
   omega
theorem qRe:∀ (d:Nat) (c:Cd) (left k:Nat),qAp d c left=some k->CanP c
 | 0,_,_,_,h=>by cases h
 | d+1,c,left,k,h=>qS8 ((qJV h).mono fun a ⟨l,k,h⟩=>qRe d a l k h)
theorem qVv (c:Cd):declT (qDi c)=[qBu,tEq,tLC]++(qAj c++[qAq,[49],qAY,qCK,qAq,qAu,[49],[48],tRC,qAY]):=by
 show(qBu::(qAe qAg []++(tEq::qA4 [⟨c,[1]⟩,⟨cd0,[-1,0]⟩])))++[qAY]=_
 have e:qBd [⟨c,[1]⟩,⟨cd0,[-1,0]⟩]=qAj c++[qAq,[49],qAY,qCK,qAq,qAu,[49],[48]]:=rfl
 rw [qA4,e]
 simp [qAe]
def qOg (x:qBT):List UInt8:=x.flatMap fun t=>t++[32]
set_option maxHeartbeats 40000000
inductive ParS (s:List UInt8):Prop
 | no (l c e:Int) (h:qEN s=.inl ((l,c),e)) (h1:Pure cx 22 [.str s] (·=.ret [qCT [],i64 l,i64 c,i64 e])) (h2:Pure cx 23 [.str s] (·=.ret [qCT [],i64 l,i64 c,i64 e])) (h3:Pure cx 24 [qCT [],qCT []] (·=.ret [.bool true])):ParS s
 | yes (ds:List De) (h:qEN s=.inr ds) (h1:Pure cx 22 [.str s] (·=.ret [qCT ds,i64 0,i64 0,i64 0])) (h2:Pure cx 23 [.str s] (·=.ret [qCT ds,i64 0,i64 0,i64 0])) (h3:Pure cx 24 [qCT ds,qCT ds] (·=.ret [.bool true])):ParS s
theorem qNs:BigP []:=⟨by simp,fun d hd=>by cases hd⟩
theorem parS (s:List UInt8):ParS s:=by
 have h1:=qME s
 have h2:=qSc s
 cases hp:qEN s with
 | inl x=>
  obtain⟨⟨l,c⟩,e⟩:=x
  rw [hp] at h1 h2
  have h3:=qLz [] [] qNs qNs
  rw [qR3 rfl] at h3
  exact .no l c e hp h1 h2 h3
 | inr ds=>
  rw [hp] at h1 h2
  have h3:=qLz ds ds (qHS hp) (qHS hp)
  rw [qR3 rfl] at h3
  exact .yes ds hp h1 h2 h3
theorem qNW:∀ x:qBT,qOg x=[]∨(qOg x).length=(spW true x).length
 | []=>.inl rfl
 | t::x=>by
  refine .inr ?_
  rcases qNW x with h | h
  ·cases x with
   | nil=>show(t++[32]++[]).length=([32]++(t++[])).length;simp
   | cons u y=>rw [show qOg (u::y)=(u++[32])++qOg y from rfl] at h;simp at h
  ·show(t++[32]++qOg x).length=([32]++(t++spW true x)).length
   simp only [List.length_append,List.length_cons,List.length_nil];omega
structure WithF (c:Cd):Prop where
 valid:qBP [qDi c]=true
 all:qFg (declT (qDi c))
 num:(declT (qDi c)).length<=1500
 txt:(qBl [qDi c]).length<=8000
 len:(qOg (declT (qDi c))).length<=8000
 can:CanP c
 big:BigP [qDi c]
theorem qOX {c:Cd} (h:(qAp 8 c 30).isSome=true):qBP [qDi c]=true:=by
 have e1:qCS [1]=true:=by decide
 have e2:qBo [⟨cd0,[-1,0]⟩]=true:=by decide
 have e3:qBG [⟨c,[1]⟩,⟨cd0,[-1,0]⟩]=true:=by
  rw [qBG,qBo]
  show(_ && (qCS [1] && (qAp 8 c 30).isSome && qBo [⟨cd0,[-1,0]⟩]))=true
  rw [e1,e2,h];rfl
 have e4:qAs (qDi c)=true:=by
  simp [qAs,e3]
 have e5:qBh (qDi c)=true:=by
  rw [qBh,e4];rfl
 rw [qBP,List.all_cons,e5];rfl
theorem qIi {c:Cd} {n:Nat} (hs:Small 8 c n) (hn:n<=29):WithF c:=by
 have hc:=hs.valid 30 (by omega)
 have hv:=qOX (c:=c) (by rw [hc];rfl)
 have hd:=qDv (d:=qDi c) ((qEs hv).2 _ (List.mem_singleton.2 rfl))
 have hk:=(qBc 8 c 30 _ hc).2
 have hlen:(declT (qDi c)).length<=1500:=by
  rw [qVv]
  simp only [List.length_append,List.length_cons,List.length_nil];omega
 have hsp:(spW true (declT (qDi c))).length<=7500:=by
  rw [qVv,qDa,qDa,List.length_append,List.length_append]
  have h1:(spW true [qBu,tEq,tLC]).length=9:=rfl
  have h2:(spW true [qAq,[49],qAY,qCK,qAq,qAu,[49],[48],tRC,qAY]).length=23:=rfl
  have h3:=hs.len
  omega
 refine⟨hv,hd.1,hlen,?_,?_,qRe 8 c 30 _ hc,?_⟩
 ·have:qBl [qDi c]=(spW false (declT (qDi c))++[10])++[]:=rfl
  rw [qG2 (qMl _),List.length_cons] at hsp
  rw [this]
  simp only [List.length_append,List.length_cons,List.length_nil];omega
 ·rcases qNW (declT (qDi c)) with h | h
  ·rw [h];decide
  ·omega
 ·refine⟨by show 1<=9223372036854775807;decide,fun d hd=>?_⟩
  rw [List.mem_singleton] at hd
  subst hd
  refine⟨by simp,by simp,by simp,fun r hr=>(by cases hr),?_⟩
  refine⟨by show 2<=9223372036854775807;decide,fun x hx=>?_,fun x hx=>?_⟩
  ·rcases List.mem_cons.1 hx with rfl | hx
   ·exact hs.big
   ·rw [List.mem_singleton.1 hx];exact qC1 ⟨by decide,by decide⟩ (by decide)
  ·rcases List.mem_cons.1 hx with rfl | hx
   ·show 1<=9223372036854775807;decide
   ·rw [List.mem_singleton.1 hx];show 2<=9223372036854775807;decide
set_option maxHeartbeats 4000000
def lw:qBT->Nat
 | []=>0
 | x::l=>x.length+lw l
theorem qBF (t:List UInt8) (x:qBT):lw (t::x)=t.length+lw x:=rfl
theorem qMN:lw []=0:=rfl
theorem qCv:∀ a b:qBT,lw (a++b)=lw a+lw b
 | [],b=>by simp [lw]
 | x::a,b=>by rw [List.cons_append,lw,lw,qCv a b];omega
def nbB (c:UInt8):Bool:=decide (c.toNat ≠ 32) && decide (c.toNat ≠ 10)
def nb (s:List UInt8):Nat:=(s.filter nbB).length
def PLt (p q:Nat × Nat):Prop:=p.1<q.1∨(p.1=q.1/\p.2<q.2)
theorem PLt.trans {p q r:Nat × Nat} (h:PLt p q) (k:PLt q r):PLt p r:=by
 unfold PLt at *;omega
structure WSp (s:List UInt8) (k:Nat) (acc:List Wd):Prop where
 pl:∀ w∈acc,∃ o,o<k/\o<=s.length/\w.line=(at_ s o).1/\w.col=(at_ s o).2
 ne:∀ i j,i<j->j<acc.length->¬ ((wat acc i).line=(wat acc j).line/\(wat acc i).col=(wat acc j).col)
 lw:lw (acc.map Wd.text)<=nb (s.take k)
theorem qJJ (n:Int):(qAa n).length<=4:=qKT 4 _
theorem qKE {n:Int} (h:n<=9):(qAa n).length<=1:=by
 rw [qAa,digN,if_pos (by omega)]
 exact Nat.le_refl _
theorem qMO {α:Type} {f:α->qBT} {b:Nat}:∀ {l:List α},(∀ a∈l,lw (f a)<=b)->lw (l.flatMap f)<=b * l.length
 | [],_=>Nat.zero_le _
 | a::l,h=>by
  have h1:=h a (List.mem_cons_self ..)
  have h2:=qMO (l:=l) fun x hx=>h x (List.mem_cons_of_mem _ hx)
  rw [List.flatMap_cons,qCv,List.length_cons,Nat.mul_succ];omega
theorem qTl {α:Type} {f:α->qBT} {b:Nat}:∀ {l:List α},(∀ a∈l,lw (f a)<=b)->lw (qFF f l)<=(b+1) * l.length
 | [],_=>Nat.zero_le _
 | a::l,h=>by
  have h1:=h a (List.mem_cons_self ..)
  have h2:=qMO (l:=l) (f:=fun b=>qAv::f b) (b:=b+1) fun x hx=>by
   have:=h x (List.mem_cons_of_mem _ hx)
   simp only [qBF,List.length_cons,List.length_nil];omega
  show lw (f a++l.flatMap fun b=>qAv::f b)<=_
  rw [qCv,List.length_cons,Nat.mul_succ];omega
structure RfS (r:Rf):Prop where
 ok:qBp r=true
 nm:r.name.length=1
 pl:r.plate.length<=1
 n:r.n<=9
theorem qUr {r:Rf} (h:r.plate.length<=1) (hn:r.n<=9):lw (qE5 r)<=5:=by
 have h1:=qKE hn
 unfold qE5
 split
 ·decide
 ·split
  ·simp only [qBF,qMN,List.length_cons,List.length_nil];omega
  ·split
   ·split <;> simp only [qBF,qMN,List.length_cons,List.length_nil] <;> omega
   ·exact Nat.zero_le _
theorem qTn {r:Rf} (h:RfS r):lw (qBY r)<=6:=by
 have h1:=qUr h.pl h.n
 have h2:=h.nm
 rw [qBY,qBF];omega
theorem qTm (k:Int):(qGZ k).length<=2:=by
 unfold qGZ
 split
 ·decide
 ·split
  ·decide
  ·split <;> decide
theorem qUs {op n rel val:Int} {r:Rf} {st:List Int} (h:RfS r) (hn:n<=9) (hv:val<=9) (hs:st.length<=2/\∀ a∈st,a<=9):lw (qCF op n rel val r st)<=18:=by
 have h0:=qTn h
 have h1:=qKE hn
 have h2:=qKE hv
 have h3:=qTm rel
 have h4:=qTm op
 have h5:=qTl (f:=fun n=>[qAa n]) (b:=1) (l:=st) fun a ha=>by
  have:=qKE (hs.2 a ha)
  simp only [qBF,qMN];omega
 have hs1:=hs.1
 unfold qCF
 split
 ·simp only [qCv,qBF,qMN,List.length_cons,List.length_nil];omega
 ·split
  ·simp only [qCv,qBF,qMN,List.length_cons,List.length_nil];omega
  ·simp only [qCv,qBF,qMN];omega
structure CdS (d:Nat) (c:Cd) (n k:Nat):Prop where
 sm:Small d c n
 wt:lw (qAj c)<=k
theorem CdS.leaf {op n rel val:Int} {r:Rf} {st:List Int} (h7:¬ op=7) (h8:¬ op=8) (h9:¬ op=9) (hb:qAT op n rel val r st=true) (hr:RfS r) (hn:n<=9) (hv:val<=9) (hs:st.length<=2/\∀ a∈st,a<=9) (d:Nat):CdS (d+1) (.mk op n rel val r st []) 1 18:=
 ⟨qBq h7 h8 h9 hb (by have:=hs.1;omega) d,by rw [qB5 h7 h8 h9];exact qUs hr hn hv hs⟩
theorem qQs (k:Nat) (p:Int × qBT):lw (inT k p)<=lw p.2+2:=by
 unfold inT
 split
 ·simp only [qCv,qBF,qMN,List.length_cons,List.length_nil];omega
 ·omega
theorem CdS.neg {d n k:Nat} {a:Cd} (ha:CdS d a n k):CdS (d+1) (.mk 7 0 0 0 rf0 [] [a]) (1+n) (k+5):=by
 refine⟨qK7 ha.sm,?_⟩
 rw [qDI]
 have h1:=ha.wt
 have h2:=qQs 3 (a.op,qAj a)
 simp only [] at h2
 show lw (qHF::inT 3 (a.op,qAj a))<=_
 rw [qBF]
 simp only [List.length_cons,List.length_nil];omega
theorem CdS.two {d na nb ka kb:Nat} {a b:Cd} {op:Int} (ho:op=8∨op=9) (ha:CdS d a na ka) (hb:CdS d b nb kb):CdS (d+1) (.mk op 0 0 0 rf0 [] [a,b]) (1+na+nb) (ka+kb+7):=by
 refine⟨qKn ho ha.sm hb.sm,?_⟩
 have h1:=ha.wt
 have h2:=hb.wt
 rcases ho with rfl | rfl
 ·rw [qCe]
  have k1:=qQs 2 (a.op,qAj a)
  have k2:=qQs 3 (b.op,qAj b)
  simp only [] at k1 k2
  show lw (inT 2 (a.op,qAj a)++(qDj::inT 3 (b.op,qAj b)))<=_
  rw [qCv,qBF]
  simp only [List.length_cons,List.length_nil];omega
 ·rw [qCd]
  have k1:=qQs 1 (a.op,qAj a)
  have k2:=qQs 2 (b.op,qAj b)
  simp only [] at k1 k2
  show lw (inT 1 (a.op,qAj a)++(tOr::inT 2 (b.op,qAj b)))<=_
  rw [qCv,qBF]
  simp only [List.length_cons,List.length_nil];omega
theorem CdS.le {d n k k':Nat} {a:Cd} (h:CdS d a n k) (hk:k<=k'):CdS d a n k':=⟨h.sm,Nat.le_trans h.wt hk⟩
structure NuS (l:List Int):Prop where
 ok:qCS l=true
 wt:lw (qB8 l)<=6
theorem NuS.len {l:List Int} (h:NuS l):l.length<=8:=by
 have:=h.ok
 simp only [qCS,Bool.and_eq_true,decide_eq_true_eq] at this
 exact this.1.2
structure CsS (c:Cs):Prop where
 cd:∃ n,n<=3/\CdS 8 c.cond n 43
 nu:NuS c.nums
structure LsS (c:Cs):Prop where
 cd:c.cond=cd0
 nu:NuS c.nums
theorem qVQ:qCq cd0:=qC1 ⟨by decide,by decide⟩ (by decide)
structure RuS (l:List Cs):Prop where
 ok:qBG l=true
 wt:lw (qA4 l)<=166
 big:BigL l
theorem qTg (last:Cs) (hl:LsS last):∀ pre:List Cs,(∀ c∈pre,CsS c)->qBo (pre++[last])=true/\lw (qBd (pre++[last]))<=51 * pre.length+11/\(∀ c∈pre++[last],qCq c.cond/\c.nums.length<=9223372036854775807)
 | [],_=>by
  refine⟨?_,?_,fun c hc=>?_⟩
  ·show(qCS last.nums && qE8 last.cond)=true
   rw [hl.nu.ok,hl.cd];rfl
  ·have:=hl.nu.wt
   show lw (qCK::qAq::qB8 last.nums)<=_
   simp only [qBF,List.length_cons,List.length_nil];omega
  ·have:=List.mem_singleton.1 hc
   subst this
   have:=hl.nu.len
   exact⟨by rw [hl.cd];exact qVQ,by omega⟩
 | c::pre,h=>by
  obtain⟨h1,h2,h3⟩:=qTg last hl pre fun x hx=>h x (List.mem_cons_of_mem _ hx)
  obtain⟨⟨n,hn,hc⟩,hu⟩:=h c (List.mem_cons_self ..)
  obtain⟨y,t,e⟩:∃ y t,pre++[last]=y::t:=by
   cases pre with
   | nil=>exact⟨_,_,rfl⟩
   | cons a b=>exact⟨_,_,rfl⟩
  rw [e] at h1 h2 h3
  rw [List.cons_append,e]
  refine⟨?_,?_,fun x hx=>?_⟩
  ·rw [qBo,hu.ok,hc.sm.valid 30 (by omega),h1];rfl
  ·have h4:=hc.wt
   have h5:=hu.wt
   rw [qBd]
   simp only [qCv,qBF,List.length_cons,List.length_nil];omega
  ·rcases List.mem_cons.1 hx with rfl | hx
   ·have:=hu.len
    exact⟨hc.sm.big,by omega⟩
   ·exact h3 x hx
theorem qGT {pre:List Cs} {last:Cs} (hp:pre.length<=3) (h:∀ c∈pre,CsS c) (hl:LsS last):RuS (pre++[last]):=by
 obtain⟨h1,h2,h3⟩:=qTg last hl pre h
 have e:(pre++[last]).length=pre.length+1:=by simp
 refine⟨?_,?_,⟨by omega,fun c hc=>(h3 c hc).1,fun c hc=>(h3 c hc).2⟩⟩
 ·rw [qBG,h1,decide_eq_true (by omega),decide_eq_true (by omega)];rfl
 ·rw [qA4,qBF,qCv]
  simp only [qBF,qMN,List.length_cons,List.length_nil];omega
structure DeS (d:De) (k:Nat):Prop where
 ok:qBh d=true
 big:BigD d
 wt:lw (declT d)<=k
theorem qL5 {key:List UInt8} {l:List Rf} (hk:key.length<=6) (h:∀ r∈l,RfS r) (hl:l.length<=2):lw (qAe key l)<=20:=by
 unfold qAe
 split
 ·exact Nat.zero_le _
 ·have:=qTl (f:=qBY) (b:=6) (l:=l) fun r hr=>qTn (h r hr)
  rw [qBF];omega
theorem qJz {l:List Rf} (h:∀ r∈l,RfS r):l.all qBp=true:=List.all_eq_true.2 fun r hr=>(h r hr).ok
theorem qL4 {l:List Rf} (h:∀ r∈l,RfS r):∀ r∈l,BigR r:=fun r hr=>qNb (h r hr).ok
theorem bS0:qKi []:=qBQ
theorem bS1:qKi [112]:=by rw [qKi];simp
theorem bN0:([]:List Rf).length<=9223372036854775807:=by simp
theorem qSu {n:Int} (hn:qBm n=true):DeS ⟨1,n,[],[],[],[]⟩ 10:=by
 refine⟨?_,⟨bS0,bS0,bN0,fun r hr=>(by cases hr),qGf⟩,?_⟩
 ·rw [qBh,hn];rfl
 ·have:=qJJ n
  show lw [qCN,qAa n,qAY]<=_
  simp only [qBF,qMN,List.length_cons,List.length_nil];omega
theorem qSh {n:Int} (hn:qBm n=true):DeS ⟨2,n,[112],[],[],[]⟩ 12:=by
 refine⟨?_,⟨bS1,bS0,bN0,fun r hr=>(by cases hr),qGf⟩,?_⟩
 ·rw [qBh,hn];rfl
 ·have:=qJJ n
  show lw [qCM,[112],tEq,qAa n,qAY]<=_
  simp only [qBF,qMN,List.length_cons,List.length_nil];omega
theorem qLR {n:Int} {nm:List UInt8} {rs:List Rf} (hn:qBm n=true) (h1:qAo nm=true) (h2:nm.length=1) (hr:∀ r∈rs,RfS r) (hl:rs.length<=2):DeS ⟨4,n,nm,[],rs,[]⟩ 33:=by
 refine⟨?_,⟨by show nm.length<=9223372036854775807;omega,bS0,by show rs.length<=9223372036854775807;omega,qL4 hr,qGf⟩,?_⟩
 ·rw [qBh,hn,qJz hr,decide_eq_true (by show rs.length<=8;omega),qAs,if_neg (by show ¬ (4:Int)=1;decide),if_neg (by show ¬ (4:Int)=2;decide),if_neg (by show ¬ (4:Int)=3;decide),if_pos rfl,h1];rfl
 ·have h3:=qJJ n
  have h4:=qL5 (key:=qBt) (by decide) hr hl
  show lw (([qBM,nm,qAq,qAa n]++qAe qBt rs)++[qAY])<=_
  simp only [qCv,qBF,qMN,List.length_cons,List.length_nil];omega
theorem qRE {rs:List Rf} {cs:List Cs} (hr:∀ r∈rs,RfS r) (hl:rs.length<=2) (hc:RuS cs):DeS ⟨5,0,[],[],rs,cs⟩ 192:=by
 refine⟨?_,⟨bS0,bS0,by show rs.length<=9223372036854775807;omega,qL4 hr,hc.big⟩,?_⟩
 ·rw [qBh,qJz hr,decide_eq_true (by show rs.length<=8;omega),qAs,if_neg (by show ¬ (5:Int)=1;decide),if_neg (by show ¬ (5:Int)=2;decide),if_neg (by show ¬ (5:Int)=3;decide),if_neg (by show ¬ (5:Int)=4;decide),if_pos rfl,hc.ok];rfl
 ·have h4:=qL5 (key:=qAg) (by decide) hr hl
  have h5:=hc.wt
  show lw ((qBu::(qAe qAg rs++(tEq::qA4 cs)))++[qAY])<=_
  simp only [qCv,qBF,qMN,List.length_cons,List.length_nil];omega
theorem qQg {n:Int} {nm pl:List UInt8} {rs:List Rf} {cs:List Cs} (hn:qBm n=true) (h1:qAo nm=true) (h2:nm.length=1) (hp:pl=[]∨pl=[112]) (hr:∀ r∈rs,RfS r) (hl:rs.length<=2) (hc:RuS cs):DeS ⟨3,n,nm,pl,rs,cs⟩ 201:=by
 refine⟨?_,⟨by show nm.length<=9223372036854775807;omega,by rcases hp with rfl | rfl;exact bS0;exact bS1,by show rs.length<=9223372036854775807;omega,qL4 hr,hc.big⟩,?_⟩
 ·rw [qBh,hn,qJz hr,decide_eq_true (by show rs.length<=8;omega),qAs,if_neg (by show ¬ (3:Int)=1;decide),if_neg (by show ¬ (3:Int)=2;decide),if_pos rfl,h1,hc.ok]
  rcases hp with rfl | rfl <;> rfl
 ·have h3:=qJJ n
  have h4:=qL5 (key:=qAg) (by decide) hr hl
  have h5:=hc.wt
  have h6:lw (if pl=[] then [] else [tLB,pl,tRB])<=3:=by rcases hp with rfl | rfl <;> decide
  show lw (([qAl,nm]++((if pl=[] then [] else [tLB,pl,tRB])++([qAq,qAa n]++(qAe qAg rs++(tEq::qA4 cs)))))++[qAY])<=_
  simp only [qCv,qBF,qMN,List.length_cons,List.length_nil];omega
theorem qTL:∀ {x:qBT},qFg x->x.length<=lw x
 | [],_=>Nat.le_refl _
 | t::x,h=>by
  have h1:=(qJk (h t (List.mem_cons_self ..))).1
  have h2:=qTL (x:=x) fun u hu=>h u (List.mem_cons_of_mem _ hu)
  rw [qBF,List.length_cons];omega
theorem qTP:∀ x:qBT,(spW true x).length<=lw x+x.length
 | []=>Nat.le_refl _
 | t::x=>by
  have:=qTP x
  show([32]++(t++spW true x)).length<=_
  simp only [List.length_append,List.length_cons,List.length_nil,qBF];omega
structure PrS (ds:List De) (k:Nat):Prop where
 ok:∀ d∈ds,qBh d=true/\BigD d
 wt:lw (ds.flatMap declT)<=k
theorem PrS.nil:PrS [] 0:=⟨fun d hd=>(by cases hd),Nat.le_refl _⟩
theorem PrS.snoc {ds:List De} {d:De} {k j:Nat} (h:PrS ds k) (hd:DeS d j):PrS (ds++[d]) (k+j):=by
 refine⟨fun x hx=>?_,?_⟩
 ·rcases List.mem_append.1 hx with hx | hx
  ·exact h.ok x hx
  ·rw [List.mem_singleton.1 hx];exact⟨hd.ok,hd.big⟩
 ·have h1:=h.wt
  have h2:=hd.wt
  rw [List.flatMap_append,qCv,List.flatMap_cons,List.flatMap_nil,List.append_nil];omega
theorem PrS.le {ds:List De} {k k':Nat} (h:PrS ds k) (hk:k<=k'):PrS ds k':=⟨h.ok,Nat.le_trans h.wt hk⟩
theorem qPi:∀ ds:List De,(qBl ds).length<=lw (ds.flatMap declT)+qHJ ds
 | []=>Nat.le_refl _
 | d::ds=>by
  have h1:=qPi ds
  have h2:=qTP (declT d)
  rw [qG2 (qMl d),List.length_cons] at h2
  have h3:qHJ (d::ds)=(declT d).length+qHJ ds:=rfl
  show((spW false (declT d)++[10])++qBl ds).length<=_
  rw [List.flatMap_cons,qCv,h3]
  simp only [List.length_append,List.length_cons,List.length_nil];omega
theorem qRS {ds:List De} (h:∀ d∈ds,qBh d=true):qFg (ds.flatMap declT):=fun t ht=>by
 obtain⟨d,hd,ht⟩:=List.mem_flatMap.1 ht
 exact(qDv (h d hd)).1 t ht
structure DrP (ds:List De):Prop where
 valid:qBP ds=true
 big:BigP ds
 txt:(qBl ds).length<=2600
 cnt:qHJ ds<=1300
 lw:lw (ds.flatMap declT)<=1300
theorem PrS.fin {ds:List De} {k:Nat} (h:PrS ds k) (hl:ds.length<=30) (hk:k<=1300):DrP ds:=by
 have h1:=qPi ds
 have h2:=h.wt
 have h3:=qTL (qRS fun d hd=>(h.ok d hd).1)
 rw [qKL] at h3
 refine⟨?_,⟨by omega,fun d hd=>(h.ok d hd).2⟩,by omega,by omega,by omega⟩
 rw [qBP,decide_eq_true hl,List.all_eq_true.2 fun d hd=>(h.ok d hd).1];rfl
theorem DrP.txtV {ds:List De} (h:DrP ds):txtV ds=[.str (qBl ds),i64 0]:=by
 rw [Go.Proofs.YtohfoaplnjcihaaGreatDoor.txtV,if_pos h.valid,if_pos ⟨by have:=h.txt;omega,by have:=h.cnt;omega⟩]
structure Pc where
 w:UInt8
 o:UInt8
 n:UInt8
 m:UInt8
 x:UInt8
 y:UInt8
 z:UInt8
abbrev Pc.cells (p:Pc):List PV:=[u8 p.w,u8 p.o,u8 p.n,u8 p.m,u8 p.x,u8 p.y,u8 p.z]
def wO3 (a b c:UInt8):AObj:=⟨27,false, .bx [.p (u8 a), .p (u8 b), .p (u8 c)]⟩
structure Wgt (l:List Int) (k:Nat):Prop where
 len:l.length=k
 bd:∀ x∈l,0<=x/\x<=12
theorem Wgt.snoc {l:List Int} {k:Nat} {v:Int} (h:Wgt l k) (h1:0<=v) (h2:v<=12):Wgt (l++[v]) (k+1):=by
 refine⟨by rw [List.length_append,h.len];rfl,fun x hx=>?_⟩
 rcases List.mem_append.1 hx with hx | hx
 ·exact h.bd x hx
 ·rw [List.mem_singleton.1 hx];exact⟨h1,h2⟩
theorem qWX {n:Int} (h:0<=n/\n<=12):lw (qGj n)<=2:=by
 rw [qGj,if_neg (by omega),qBF,qMN,qAa,digN]
 split
 ·exact Nat.le_succ_of_le (Nat.le_refl _)
 ·rw [digN,if_pos (by omega)]
  exact Nat.le_refl _
theorem Wgt.nu {l:List Int} {k:Nat} (h:Wgt l k) (hk:k=2∨k=3):NuS l:=by
 have h1:=h.len
 refine⟨?_,?_⟩
 ·rw [qCS,decide_eq_true (by omega),decide_eq_true (by omega),List.all_eq_true.2]
  ·rfl
  ·intro x hx
   have:=h.bd x hx
   rw [qGL,decide_eq_true (by omega),decide_eq_true (by omega)];rfl
 ·have:=qMO (f:=qGj) (b:=2) (l:=l) fun x hx=>qWX (h.bd x hx)
  rw [qB8];omega
theorem qPh (n:Nat) {g:Int} (h:0<=g):0<=(n:Int).tmod (g+1)/\(n:Int).tmod (g+1)<=g:=by
 have h1:=Int.tmod_nonneg (g+1) (Int.natCast_nonneg n)
 have h2:=Int.tmod_lt_of_pos (n:Int) (show 0<g+1 by omega)
 omega
theorem qFl (a b c:UInt8) (k:Nat) (g:Int) (hk:k=2∨k=3) (hg:0<=g/\g<=12):Pure cx 67 [.agg [u8 a,u8 b,u8 c],i64 (k:Int),i64 g] fun r=>∃ l,r=.ret [ints l]/\Wgt l k:=by
 refine qAB Tryz.func67 rfl rfl rfl ?_
 refine⟨Nat × List Int × Int,fun x=>[(1, .p (i64 (k:Int))),(3, .ptr 0 0 0),(7, .sl 1 1 0 x.2.1.length),(8, .p (i64 x.2.2)),(9, .p (i64 x.1))],fun x=>⟨2,[(1,iO x.2.1),(0,wO3 a b c)]⟩,fun x=>x.1+1<=k/\Wgt x.2.1 x.1/\0<=x.2.2/\x.2.2<=12,fun x=>k - x.1,?_,?_⟩
 ·exact⟨(0,[],g),⟨by show 0+1<=k;omega,⟨rfl,fun x hx=>by cases hx⟩,hg⟩,qAC [] [] [(1,1)] rfl (sk) (sk) rfl⟩
 rintro⟨i,acc,g⟩ ⟨k1,k2,k3,k4⟩
 simp only [] at k1 k2 k3 k4
 clear hg
 by_cases i2:i+1=k
 ·refine⟨(i:Int),by rw [<- i2];rw [show((i+1:Nat):Int) - 1=(i:Int) by omega];exact w6z,?_⟩
  refine And.intro (fun h=>absurd (show(i:Int)<(i:Int) from h) (by omega)) (fun _=>?_)
  refine⟨by show 0+1<=1;omega,[i64 g],rfl,?_⟩
  refine⟨by show 0+acc.length<=(acc.map i64).length;simp,acc.map i64,qAD (by simp),by show(acc.length+1) * 8<=140737488355328;have:=k2.len;omega,(acc++[g]).map i64,by simp,?_⟩
  refine qAF (ints (acc++[g])) rfl ⟨_,rfl,by show 0+(acc.length+1)<=((acc++[g]).map i64).length;simp,qAD (by simp)⟩ ⟨_,rfl,by rw [<- i2];exact k2.snoc k3 k4⟩
 refine⟨(k:Int) - 1,w6z,?_⟩
 refine And.intro (fun _=>?_) (fun h=>absurd (show(i:Int)<(k:Int) - 1 by omega) h)
 by_cases i0:i=0
 ·subst i0
  refine⟨by show(0:Int)<=_/\_<_;exact⟨by omega,by omega⟩,?_⟩
  refine⟨.p (u8 a),qO6 (by kernel_rfl) rfl,?_⟩
  refine⟨((a).toNat:Int),wrap_i64 (by omega) (by have:=(a).toNat_lt;omega),?_⟩
  refine⟨g+1,w6z,?_⟩
  have hv:=qPh (a).toNat k3
  refine⟨by show ¬ g+1=0;omega,?_⟩
  generalize (((a).toNat:Int)).tmod (g+1)=v at hv ⊢
  refine⟨by show 0+1<=1;omega,[i64 v],rfl,?_⟩
  refine⟨by show 0+acc.length<=(acc.map i64).length;simp,acc.map i64,qAD (by simp),by show(acc.length+1) * 8<=140737488355328;have:=k2.len;omega,(acc++[v]).map i64,by simp,?_⟩
  refine⟨g - v,w6z,?_⟩
  refine⟨((1:Nat):Int),by show((1:Nat):Int)=IntKind.i64.wrap (((0:Nat):Int)+1);exact w6z,?_⟩
  exact⟨(1,acc++[v],g - v),⟨by show 1+1<=k;omega,k2.snoc hv.1 (by omega),by show 0<=g - v;omega,by show g - v<=12;omega⟩,qAC [] [(1,3)] [] rfl ⟨rfl,⟨rfl,rfl⟩,congrArg (fun k:Nat=>AV.sl 3 1 0 k) (qAK acc v).symm,rfl,rfl,trivial⟩ (sk) rfl,by show k - 1<k - 0;omega⟩
 ·obtain rfl:i=1:=by omega
  refine⟨by show(0:Int)<=_/\_<_;exact⟨by omega,by omega⟩,?_⟩
  refine⟨.p (u8 b),qO6 (by kernel_rfl) rfl,?_⟩
  refine⟨((b).toNat:Int),wrap_i64 (by omega) (by have:=(b).toNat_lt;omega),?_⟩
  refine⟨g+1,w6z,?_⟩
  have hv:=qPh (b).toNat k3
  refine⟨by show ¬ g+1=0;omega,?_⟩
  generalize (((b).toNat:Int)).tmod (g+1)=v at hv ⊢
  refine⟨by show 0+1<=1;omega,[i64 v],rfl,?_⟩
  refine⟨by show 0+acc.length<=(acc.map i64).length;simp,acc.map i64,qAD (by simp),by show(acc.length+1) * 8<=140737488355328;have:=k2.len;omega,(acc++[v]).map i64,by simp,?_⟩
  refine⟨g - v,w6z,?_⟩
  refine⟨((2:Nat):Int),by show((2:Nat):Int)=IntKind.i64.wrap (((1:Nat):Int)+1);exact w6z,?_⟩
  exact⟨(2,acc++[v],g - v),⟨by show 2+1<=k;omega,k2.snoc hv.1 (by omega),by show 0<=g - v;omega,by show g - v<=12;omega⟩,qAC [] [(1,3)] [] rfl ⟨rfl,⟨rfl,rfl⟩,congrArg (fun k:Nat=>AV.sl 3 1 0 k) (qAK acc v).symm,rfl,rfl,trivial⟩ (sk) rfl,by show k - 2<k - 1;omega⟩
set_option maxHeartbeats 40000000
structure Pt where
 kind:UInt8
 card:UInt8
 frm:UInt8
 modes:UInt8
 pl:Bool
 cases:List Pc
 x:UInt8
 y:UInt8
 z:UInt8
abbrev Pt.cells (p:Pt):List PV:=[u8 p.kind,u8 p.card,u8 p.frm,u8 p.modes, .bool p.pl, .lsts 7 (p.cases.map Pc.cells),u8 p.x,u8 p.y,u8 p.z]
structure Kn where
 nm:List UInt8
 card:Int
 pl:Bool
abbrev Kn.cells (k:Kn):List PV:=[.str k.nm,i64 k.card, .bool k.pl]
def kn0:Kn:=⟨[],0,false⟩
structure KnS (k:Kn):Prop where
 ok:qAo k.nm=true
 len:k.nm.length=1
 card:k.card=2∨k.card=3
structure RcS (rs:List Rf) (cs:List Int):Prop where
 refs:∀ r∈rs,RfS r
 nums:∀ c∈cs,c=2∨c=3
 eq:rs.length=cs.length
 len:rs.length<=2
theorem RcS.snoc {rs:List Rf} {cs:List Int} {r:Rf} {c:Int} (h:RcS rs cs) (hr:RfS r) (hc:c=2∨c=3) (hl:rs.length<2):RcS (rs++[r]) (cs++[c]):=by
 have h1:=h.eq
 refine⟨fun x hx=>?_,fun x hx=>?_,by rw [List.length_append,List.length_append];simp only [List.length_cons,List.length_nil];omega,by rw [List.length_append];simp only [List.length_cons,List.length_nil];omega⟩
 ·rcases List.mem_append.1 hx with hx | hx
  ·exact h.refs x hx
  ·rw [List.mem_singleton.1 hx];exact hr
 ·rcases List.mem_append.1 hx with hx | hx
  ·exact h.nums x hx
  ·rw [List.mem_singleton.1 hx];exact hc
def ptO (p:Pt):AObj:=⟨29,false, .bx (p.cells.map .p)⟩
def qPR (rs:List Rf):AObj:=⟨qR4,false, .pus (rs.map Rf.cells)⟩
theorem wrap_u64 {n:Int} (h0:0<=n) (h1:n<18446744073709551616):n=IntKind.u64.wrap n:=by
 show n=n % 18446744073709551616
 omega
def RfQ (e:AE) (H':Hp):Prop:=∃ rs cs,e=.returned (.tup [.sl 0 4 0 rs.length, .sl 1 1 0 cs.length])/\H'=⟨2,[(0,qPR rs),(1,iO cs)]⟩/\RcS rs cs
theorem qWe {l:List Kn} {k:Nat} (h:k<l.length):(l.map Kn.cells)[k]?=some (l.getD k kn0).cells:=qEO kn0 h
theorem qGo (v:Nat) (e:Int) (he:0<e) (hv:v<256):0<=(v:Int).fdiv e/\(v:Int).fdiv e<=255:=by
 have h1:=Int.fdiv_nonneg (Int.natCast_nonneg v) (Int.le_of_lt he)
 have h2:(v:Int).fdiv e<=v:=by
  rw [Int.fdiv_eq_ediv_of_nonneg _ (Int.le_of_lt he)]
  exact Int.ediv_le_self _ (Int.natCast_nonneg v)
 omega
theorem qEx (e:Nat):(0:Int)<2 ^ e:=Int.pow_pos (by decide)
theorem qCX {n g:Int} (h:0<=n) (hg:0<g):0<=n.tmod g/\n.tmod g<g:=⟨Int.tmod_nonneg _ h,Int.tmod_lt_of_pos _ hg⟩
theorem qYP {nm:List UInt8} (h:qAo nm=true) (hl:nm.length=1):RfS ⟨nm,0,[],0⟩:=⟨qSW h,hl,Nat.zero_le _,by show(0:Int)<=9;decide⟩
theorem qYC {nm:List UInt8} (h:qAo nm=true) (hl:nm.length=1):RfS ⟨nm,3,[],0⟩:=⟨qWD h,hl,Nat.zero_le _,by show(0:Int)<=9;decide⟩
theorem qYN {nm:List UInt8} {n:Int} (h:qAo nm=true) (hl:nm.length=1) (hn:0<=n/\n<2):RfS ⟨nm,2,[],n⟩:=⟨qUQ h (qCu hn.1 (by omega)),hl,Nat.zero_le _,by show n<=9;omega⟩
theorem qYO {nm:List UInt8} {n:Int} (h:qAo nm=true) (hl:nm.length=1) (hn:0<=n/\n<2):RfS ⟨nm,1,[112],n⟩:=⟨qUR h qQa (qCu hn.1 (by omega)),hl,Nat.le_refl _,by show n<=9;omega⟩
abbrev qYU:OT:=(.pure 0 (.pure 1 (.pure 2 (.pure 3 (.eff 4 [] (.pure 5 (.eff 6 [] .fin .nil)) .nil)))))
theorem qGb (p:Pt) (l:List Kn) (hl:∀ k∈l,KnS k) (h5:l.length<=5) (g:Bool) (sz:Int) (hs:sz=1∨sz=2):HoldsG cx 39 [.p (.agg p.cells), .p (.lsts 3 (l.map Kn.cells)),vB g, .p (i64 sz)] ⟨0,[]⟩ (RfQ):=by
 refine qAA Tryz.func39 rfl rfl rfl ?_
 have hl':(l.map Kn.cells).length=l.length:=List.length_map ..
 refine⟨Nat × List Rf × List Int,fun x=>[(1, .p (.lsts 3 (l.map Kn.cells))),(2,vB g),(3, .p (i64 sz)),(4, .ptr 0 0 0),(10, .sl 1 4 0 x.2.1.length),(11, .sl 2 1 0 x.2.2.length),(12, .p (i64 x.1))],fun x=>⟨3,[(2,iO x.2.2),(1,qPR x.2.1),(0,ptO p)]⟩,fun x=>x.1<=l.length/\RcS x.2.1 x.2.2,fun x=>l.length - x.1,?_,?_⟩
 ·exact⟨(0,[],[]),⟨Nat.zero_le _,⟨fun r hr=>(by cases hr),fun r hr=>(by cases hr),rfl,by decide⟩⟩,qAC [] [] [(1,4),(2,1)] rfl (sk) (sk) rfl⟩
 rintro⟨i,rs,cs⟩ ⟨k1,k2⟩
 simp only [] at k1 k2
 by_cases hi:i<l.length
 rotate_left
 ·refine And.intro (fun h=>absurd (show(i:Int)<((l.map Kn.cells).length:Nat) from h) (by rw [hl'];omega)) (fun _=>?_)
  exact⟨[],[(0,1),(1,2)],[], .returned (.tup [.sl 0 4 0 rs.length, .sl 1 1 0 cs.length]),⟨2,[(0,qPR rs),(1,iO cs)]⟩,rfl,sk,sk,rs,cs,rfl,rfl,k2⟩
 refine And.intro (fun _=>?_) (fun h=>absurd (show(i:Int)<((l.map Kn.cells).length:Nat) by rw [hl'];omega) h)
 by_cases h2:rs.length<2
 rotate_left
 ·refine And.intro (fun h=>absurd (show(rs.length:Int)<2 from h) (by omega)) (fun _=>?_)
  exact⟨[],[(0,1),(1,2)],[], .returned (.tup [.sl 0 4 0 rs.length, .sl 1 1 0 cs.length]),⟨2,[(0,qPR rs),(1,iO cs)]⟩,rfl,sk,sk,rs,cs,rfl,rfl,k2⟩
 refine And.intro (fun _=>?_) (fun h=>absurd (show(rs.length:Int)<2 by omega) h)
 have hcell:=qWe hi
 have hS:=hl _ (qAJ kn0 hi)
 generalize l.getD i kn0=kn at hcell hS
 obtain⟨nm,card,b⟩:=kn
 have hm:=p.modes.toNat_lt
 have hf:=p.frm.toNat_lt
 cases b
 ·refine⟨(i:Int),wrap_u64 (by omega) (by omega),?_⟩
  refine⟨by omega,?_⟩
  have hs1:=qGo p.frm.toNat _ (qEx (min ((i:Int).toNat) (IntKind.u8.bits))) hf
  generalize (p.frm.toNat:Int).fdiv (2 ^ (min ((i:Int).toNat) (IntKind.u8.bits)))=sf at hs1 ⊢
  refine⟨by decide,?_⟩
  by_cases hz:sf.tmod 2=0
  ·refine And.intro (fun _=>?_) (fun h=>absurd hz h)
   refine⟨((i+1:Nat):Int),by rw [Int.natCast_add];exact w6z,?_⟩
   exact⟨(i+1,rs,cs),⟨by show i+1<=l.length;omega,k2⟩,qAC [] [] [] rfl (sk) (sk) rfl,by show l.length - (i+1)<l.length - i;omega⟩
  refine And.intro (fun h=>absurd h hz) (fun _=>?_)
  clear hz hs1
  refine⟨_,⟨by omega,(Kn.mk nm card _).cells,hcell,rfl⟩,?_⟩
  refine⟨((2 * i:Nat):Int),by show _=IntKind.i64.wrap (2 * (i:Int));rw [Int.natCast_mul];exact w6z,?_⟩
  refine⟨((2 * i:Nat):Int),wrap_u64 (by omega) (by omega),?_⟩
  refine⟨by omega,?_⟩
  have hs2:=qGo p.modes.toNat _ (qEx (min (((2 * i:Nat):Int).toNat) (IntKind.u8.bits))) hm
  generalize (p.modes.toNat:Int).fdiv (2 ^ (min (((2 * i:Nat):Int).toNat) (IntKind.u8.bits)))=sm at hs2 ⊢
  refine⟨sm,w6z,?_⟩
  refine⟨by decide,?_⟩
  have hs3:=qCX hs2.1 (show(0:Int)<4 by decide)
  generalize sm.tmod 4=m at hs3 ⊢
  refine⟨_,⟨by omega,(Kn.mk nm card _).cells,hcell,rfl⟩,?_⟩
  refine⟨by show 0+1<=1;omega,[[.str nm,i64 0, .str [],i64 0]],rfl,?_⟩
  refine⟨by show 0+rs.length<=(rs.map Rf.cells).length;simp,rs.map Rf.cells,qAD (by simp),by show(rs.length+1) * 48<=140737488355328;omega,(rs++[Rf.mk nm 0 [] 0]).map Rf.cells,by simp,?_⟩
  refine⟨_,⟨by omega,(Kn.mk nm card _).cells,hcell,rfl⟩,?_⟩
  refine⟨by show 0+1<=1;omega,[i64 card],rfl,?_⟩
  refine⟨by show 0+cs.length<=(cs.map i64).length;simp,cs.map i64,qAD (by simp),by show(cs.length+1) * 8<=140737488355328;have:=k2.eq;omega,(cs++[card]).map i64,by simp,?_⟩
  refine⟨((i+1:Nat):Int),by rw [Int.natCast_add];exact w6z,?_⟩
  exact⟨(i+1,rs++[Rf.mk nm 0 [] 0],cs++[card]),⟨by show i+1<=l.length;omega,k2.snoc (qYP hS.ok hS.len) hS.card h2⟩,qAC [] [(1,5),(2,7)] [] rfl ⟨rfl,rfl,rfl,⟨rfl,rfl⟩,congrArg (fun k:Nat=>AV.sl 5 4 0 k) (qAK rs _).symm,congrArg (fun k:Nat=>AV.sl 7 1 0 k) (qAK cs card).symm,rfl,trivial⟩ (sk) rfl,by show l.length - (i+1)<l.length - i;omega⟩
 cases g
 ·refine⟨(i:Int),wrap_u64 (by omega) (by omega),?_⟩
  refine⟨by omega,?_⟩
  have hs1:=qGo p.frm.toNat _ (qEx (min ((i:Int).toNat) (IntKind.u8.bits))) hf
  generalize (p.frm.toNat:Int).fdiv (2 ^ (min ((i:Int).toNat) (IntKind.u8.bits)))=sf at hs1 ⊢
  refine⟨by decide,?_⟩
  by_cases hz:sf.tmod 2=0
  ·refine And.intro (fun _=>?_) (fun h=>absurd hz h)
   refine⟨((i+1:Nat):Int),by rw [Int.natCast_add];exact w6z,?_⟩
   exact⟨(i+1,rs,cs),⟨by show i+1<=l.length;omega,k2⟩,qAC [] [] [] rfl (sk) (sk) rfl,by show l.length - (i+1)<l.length - i;omega⟩
  refine And.intro (fun h=>absurd h hz) (fun _=>?_)
  clear hz hs1
  refine⟨_,⟨by omega,(Kn.mk nm card _).cells,hcell,rfl⟩,?_⟩
  refine⟨((2 * i:Nat):Int),by show _=IntKind.i64.wrap (2 * (i:Int));rw [Int.natCast_mul];exact w6z,?_⟩
  refine⟨((2 * i:Nat):Int),wrap_u64 (by omega) (by omega),?_⟩
  refine⟨by omega,?_⟩
  have hs2:=qGo p.modes.toNat _ (qEx (min (((2 * i:Nat):Int).toNat) (IntKind.u8.bits))) hm
  generalize (p.modes.toNat:Int).fdiv (2 ^ (min (((2 * i:Nat):Int).toNat) (IntKind.u8.bits)))=sm at hs2 ⊢
  refine⟨sm,w6z,?_⟩
  refine⟨by decide,?_⟩
  have hs3:=qCX hs2.1 (show(0:Int)<4 by decide)
  generalize sm.tmod 4=m at hs3 ⊢
  refine⟨_,⟨by omega,(Kn.mk nm card _).cells,hcell,rfl⟩,?_⟩
  refine And.intro (fun h3=>?_) (fun h3=>?_)
  ·refine⟨by show 0+1<=1;omega,[[.str nm,i64 3, .str [],i64 0]],rfl,?_⟩
   refine⟨by show 0+rs.length<=(rs.map Rf.cells).length;simp,rs.map Rf.cells,qAD (by simp),by show(rs.length+1) * 48<=140737488355328;omega,(rs++[Rf.mk nm 3 [] 0]).map Rf.cells,by simp,?_⟩
   refine⟨_,⟨by omega,(Kn.mk nm card _).cells,hcell,rfl⟩,?_⟩
   refine⟨by show 0+1<=1;omega,[i64 card],rfl,?_⟩
   refine⟨by show 0+cs.length<=(cs.map i64).length;simp,cs.map i64,qAD (by simp),by show(cs.length+1) * 8<=140737488355328;have:=k2.eq;omega,(cs++[card]).map i64,by simp,?_⟩
   refine⟨((i+1:Nat):Int),by rw [Int.natCast_add];exact w6z,?_⟩
   exact⟨(i+1,rs++[Rf.mk nm 3 [] 0],cs++[card]),⟨by show i+1<=l.length;omega,k2.snoc (qYC hS.ok hS.len) hS.card h2⟩,qAC [] [(1,5),(2,7)] [] rfl ⟨rfl,rfl,rfl,⟨rfl,rfl⟩,congrArg (fun k:Nat=>AV.sl 5 4 0 k) (qAK rs _).symm,congrArg (fun k:Nat=>AV.sl 7 1 0 k) (qAK cs card).symm,rfl,trivial⟩ (sk) rfl,by show l.length - (i+1)<l.length - i;omega⟩
  ·refine qAf qYU (by kernel_rfl) ?_
   refine⟨by show ¬ sz=0;omega,?_⟩
   have hn:=qCX hs3.1 (show 0<sz by omega)
   generalize m.tmod sz=n at hn ⊢
   refine⟨by show 0+1<=1;omega,[[.str nm,i64 2, .str [],i64 n]],rfl,?_⟩
   refine⟨by show 0+rs.length<=(rs.map Rf.cells).length;simp,rs.map Rf.cells,qAD (by simp),by show(rs.length+1) * 48<=140737488355328;omega,(rs++[Rf.mk nm 2 [] n]).map Rf.cells,by simp,?_⟩
   refine⟨_,⟨by omega,(Kn.mk nm card _).cells,hcell,rfl⟩,?_⟩
   refine⟨by show 0+1<=1;omega,[i64 card],rfl,?_⟩
   refine⟨by show 0+cs.length<=(cs.map i64).length;simp,cs.map i64,qAD (by simp),by show(cs.length+1) * 8<=140737488355328;have:=k2.eq;omega,(cs++[card]).map i64,by simp,?_⟩
   refine⟨((i+1:Nat):Int),by rw [Int.natCast_add];exact w6z,?_⟩
   exact⟨(i+1,rs++[Rf.mk nm 2 [] n],cs++[card]),⟨by show i+1<=l.length;omega,k2.snoc (qYN hS.ok hS.len ⟨hn.1,by omega⟩) hS.card h2⟩,qAC [] [(1,5),(2,7)] [] rfl ⟨rfl,rfl,rfl,⟨rfl,rfl⟩,congrArg (fun k:Nat=>AV.sl 5 4 0 k) (qAK rs _).symm,congrArg (fun k:Nat=>AV.sl 7 1 0 k) (qAK cs card).symm,rfl,trivial⟩ (sk) rfl,by show l.length - (i+1)<l.length - i;omega⟩
 ·refine⟨(i:Int),wrap_u64 (by omega) (by omega),?_⟩
  refine⟨by omega,?_⟩
  have hs1:=qGo p.frm.toNat _ (qEx (min ((i:Int).toNat) (IntKind.u8.bits))) hf
  generalize (p.frm.toNat:Int).fdiv (2 ^ (min ((i:Int).toNat) (IntKind.u8.bits)))=sf at hs1 ⊢
  refine⟨by decide,?_⟩
  by_cases hz:sf.tmod 2=0
  ·refine And.intro (fun _=>?_) (fun h=>absurd hz h)
   refine⟨((i+1:Nat):Int),by rw [Int.natCast_add];exact w6z,?_⟩
   exact⟨(i+1,rs,cs),⟨by show i+1<=l.length;omega,k2⟩,qAC [] [] [] rfl (sk) (sk) rfl,by show l.length - (i+1)<l.length - i;omega⟩
  refine And.intro (fun h=>absurd h hz) (fun _=>?_)
  clear hz hs1
  refine⟨_,⟨by omega,(Kn.mk nm card _).cells,hcell,rfl⟩,?_⟩
  refine⟨((2 * i:Nat):Int),by show _=IntKind.i64.wrap (2 * (i:Int));rw [Int.natCast_mul];exact w6z,?_⟩
  refine⟨((2 * i:Nat):Int),wrap_u64 (by omega) (by omega),?_⟩
  refine⟨by omega,?_⟩
  have hs2:=qGo p.modes.toNat _ (qEx (min (((2 * i:Nat):Int).toNat) (IntKind.u8.bits))) hm
  generalize (p.modes.toNat:Int).fdiv (2 ^ (min (((2 * i:Nat):Int).toNat) (IntKind.u8.bits)))=sm at hs2 ⊢
  refine⟨sm,w6z,?_⟩
  refine⟨by decide,?_⟩
  have hs3:=qCX hs2.1 (show(0:Int)<4 by decide)
  generalize sm.tmod 4=m at hs3 ⊢
  refine⟨_,⟨by omega,(Kn.mk nm card _).cells,hcell,rfl⟩,?_⟩
  refine And.intro (fun h3=>?_) (fun h3=>?_)
  ·refine⟨by decide,?_⟩
   have hn:=qCX hs3.1 (show(0:Int)<2 by decide)
   generalize m.tmod 2=n at hn ⊢
   refine⟨by show 0+1<=1;omega,[[.str nm,i64 1, .str [112],i64 n]],rfl,?_⟩
   refine⟨by show 0+rs.length<=(rs.map Rf.cells).length;simp,rs.map Rf.cells,qAD (by simp),by show(rs.length+1) * 48<=140737488355328;omega,(rs++[Rf.mk nm 1 [112] n]).map Rf.cells,by simp,?_⟩
   refine⟨_,⟨by omega,(Kn.mk nm card _).cells,hcell,rfl⟩,?_⟩
   refine⟨by show 0+1<=1;omega,[i64 card],rfl,?_⟩
   refine⟨by show 0+cs.length<=(cs.map i64).length;simp,cs.map i64,qAD (by simp),by show(cs.length+1) * 8<=140737488355328;have:=k2.eq;omega,(cs++[card]).map i64,by simp,?_⟩
   refine⟨((i+1:Nat):Int),by rw [Int.natCast_add];exact w6z,?_⟩
   exact⟨(i+1,rs++[Rf.mk nm 1 [112] n],cs++[card]),⟨by show i+1<=l.length;omega,k2.snoc (qYO hS.ok hS.len hn) hS.card h2⟩,qAC [] [(1,5),(2,7)] [] rfl ⟨rfl,rfl,rfl,⟨rfl,rfl⟩,congrArg (fun k:Nat=>AV.sl 5 4 0 k) (qAK rs _).symm,congrArg (fun k:Nat=>AV.sl 7 1 0 k) (qAK cs card).symm,rfl,trivial⟩ (sk) rfl,by show l.length - (i+1)<l.length - i;omega⟩
  ·have h3:¬ m<3:=h3
   refine And.intro (fun h4=>?_) (fun h4=>absurd (show m=3 by omega) h4)
   refine⟨by show 0+1<=1;omega,[[.str nm,i64 3, .str [],i64 0]],rfl,?_⟩
   refine⟨by show 0+rs.length<=(rs.map Rf.cells).length;simp,rs.map Rf.cells,qAD (by simp),by show(rs.length+1) * 48<=140737488355328;omega,(rs++[Rf.mk nm 3 [] 0]).map Rf.cells,by simp,?_⟩
   refine⟨_,⟨by omega,(Kn.mk nm card _).cells,hcell,rfl⟩,?_⟩
   refine⟨by show 0+1<=1;omega,[i64 card],rfl,?_⟩
   refine⟨by show 0+cs.length<=(cs.map i64).length;simp,cs.map i64,qAD (by simp),by show(cs.length+1) * 8<=140737488355328;have:=k2.eq;omega,(cs++[card]).map i64,by simp,?_⟩
   refine⟨((i+1:Nat):Int),by rw [Int.natCast_add];exact w6z,?_⟩
   exact⟨(i+1,rs++[Rf.mk nm 3 [] 0],cs++[card]),⟨by show i+1<=l.length;omega,k2.snoc (qYC hS.ok hS.len) hS.card h2⟩,qAC [] [(1,5),(2,7)] [] rfl ⟨rfl,rfl,rfl,⟨rfl,rfl⟩,congrArg (fun k:Nat=>AV.sl 5 4 0 k) (qAK rs _).symm,congrArg (fun k:Nat=>AV.sl 7 1 0 k) (qAK cs card).symm,rfl,trivial⟩ (sk) rfl,by show l.length - (i+1)<l.length - i;omega⟩
abbrev qYI:OT:=(.pure 0 (.pure 1 (.pure 2 (.pure 3 (.pure 4 (.pure 5 (.pure 6 (.pure 7 (.pure 8 (.pure 9 (.pure 10 (.pure 11 (.pure 12 (.pure 13 (.pure 14 (.pure 15 (.pure 16 (.pure 17 (.eff 18 [15,11,10,8,3,1] (.eff 19 [] .fin .nil) .nil)))))))))))))))))))
abbrev qYH:OT:=(.pure 0 (.pure 1 (.pure 2 (.pure 3 (.pure 4 (.pure 5 (.pure 6 (.pure 7 (.pure 8 (.pure 9 (.pure 10 (.pure 11 (.pure 12 (.pure 13 (.pure 14 (.pure 15 (.pure 16 (.pure 17 (.pure 18 (.pure 19 (.pure 20 (.pure 21 (.pure 22 (.eff 23 [] .fin .nil))))))))))))))))))))))))
abbrev qYG:OT:=(.pure 0 (.pure 1 (.pure 2 (.pure 3 (.pure 4 (.pure 5 (.pure 6 (.eff 7 [3,2] (.pure 8 (.eff 9 [3,2] (.pure 10 (.eff 11 [] .fin .nil)) .nil)) .nil))))))))
abbrev qOv:OT:=(.pure 0 (.pure 1 (.pure 2 (.pure 3 (.pure 4 (.pure 5 (.pure 6 (.eff 7 [4,1] (.pure 8 (.eff 9 [4] (.pure 10 (.eff 11 [] .fin .nil)) .nil)) .nil))))))))
abbrev qOu:OT:=(.pure 0 (.pure 1 (.pure 2 (.pure 3 (.pure 4 (.pure 5 (.pure 6 (.pure 7 (.pure 8 (.eff 9 [5,3,1] (.eff 10 [3,1] (.pure 11 (.eff 12 [] .fin .nil)) .nil) .nil))))))))))
def LfQ (r:PEnd):Prop:=∃ (y:PV) (c:Cd),r=.ret [y]/\NilD y c.pv/\∀ d,CdS (d+1) c 1 18
def CdQ (r:PEnd):Prop:=∃ (y:PV) (c:Cd) (n:Nat),r=.ret [y]/\NilD y c.pv/\n<=3/\CdS 8 c n 43
structure RcA (rs:List Rf) (cs:List Int):Prop where
 ok:RcS rs cs
 pos:1<=rs.length
theorem qV7:∀ j,j<2->qHO (([0,1]:List Int).drop j)=true/\(([0,1]:List Int).drop j).length<=2/\∀ a∈([0,1]:List Int).drop j,a<=9:=by decide
theorem qTq {l:List Int} {k:Nat} (h:k<l.length):(l.map i64)[k]?=some (i64 (l.getD k 0)):=qEO 0 h
theorem qF3 (op:Int) {ys:List (List PV)} {l:List Cd} (h:NilDLL ys (qBV l)):NilD (.agg [i64 op,i64 0,i64 0,i64 0, .str [],i64 0, .str [],i64 0, .nils, .lsts 10 ys]) (Cd.mk op 0 0 0 rf0 [] l).pv:=by
 show NilD _ (.agg [i64 op,i64 0,i64 0,i64 0, .str [],i64 0, .str [],i64 0, .lst [], .lsts 10 (qBV l)])
 simp only [NilD,NilDL]
 exact⟨_,rfl,_,_,rfl,rfl,_,_,rfl,rfl,_,_,rfl,rfl,_,_,rfl,rfl,_,_,rfl,rfl,_,_,rfl,rfl,_,_,rfl,rfl,_,_,rfl,rfl,_,_,rfl, .inr (.inl rfl),_,_,rfl,⟨_,rfl,h⟩,rfl⟩
theorem qMK {a b:List PV} (h:NilD (.agg a) (.agg b)):NilDL a b:=by
 simp only [NilD] at h
 obtain⟨z,e,h⟩:=h
 injection e with e
 subst e
 exact h
theorem qMI {a:List PV} {c:Cd} (h:NilD (.agg a) c.pv):NilDLL [a] (qBV [c]):=by
 simp only [NilDLL,qBV]
 exact⟨_,_,rfl,qMK h,rfl⟩
theorem qGg {a b:List PV} {c d:Cd} (h:NilD (.agg a) c.pv) (h2:NilD (.agg b) d.pv):NilDLL [a,b] (qBV [c,d]):=by
 simp only [NilDLL,qBV]
 exact⟨_,_,rfl,qMK h,_,_,rfl,qMK h2,rfl⟩
theorem wrap_u8' {n:Nat} (h:n<256):(n:Int)=IntKind.u8.wrap (n:Int):=by
 show(n:Int)=(n:Int) % 256
 omega
theorem qGP (w:UInt8):((UInt8.ofNat (w.toNat+1)).toNat:Int)=IntKind.u8.wrap ((w.toNat:Int)+1):=by
 show((UInt8.ofNat (w.toNat+1)).toNat:Int)=((w.toNat:Int)+1) % 256
 rw [UInt8.toNat_ofNat']
 omega
theorem qGQ (n:UInt8):((UInt8.ofNat (n.toNat / 2)).toNat:Int)=IntKind.u8.wrap ((n.toNat:Int).tdiv 2):=by
 have hn:=n.toNat_lt
 rw [show(n.toNat:Int).tdiv 2=((n.toNat / 2:Nat):Int) from rfl,<- wrap_u8' (by omega),UInt8.toNat_ofNat']
 omega
theorem qPH (p:Pc) (rs:List Rf) (cs:List Int) (h:RcA rs cs) (hm3:3<=p.m.toNat % 8):Pure cx 66 [.agg p.cells,qBw rs,ints cs] LfQ:=by
 refine qAB Tryz.func66 rfl rfl rfl ?_
 obtain⟨w,o,n,m,x,y,z⟩:=p
 simp only [] at hm3
 have hl':(rs.map Rf.cells).length=rs.length:=List.length_map ..
 have hpos:=h.pos
 have hk:(w.toNat:Int).tmod ((rs.map Rf.cells).length:Nat)=((w.toNat % rs.length:Nat):Int):=by rw [hl'];rfl
 have hkl:w.toNat % rs.length<rs.length:=Nat.mod_lt _ (by omega)
 generalize w.toNat % rs.length=k at hk hkl
 have hcell:=qIW hkl
 have hkc:k<cs.length:=by have:=h.ok.eq;omega
 have qDM:=qTq hkc
 have hrf:=h.ok.refs _ (qAJ rf0 hkl)
 have hcd:=h.ok.nums _ (qAJ 0 hkc)
 generalize rs.getD k rf0=rf at hcell hrf
 generalize cs.getD k 0=cd at qDM hcd
 obtain⟨nm,md,pl,rn⟩:=rf
 have hw:=w.toNat_lt
 have ho:=o.toNat_lt
 have hn:=n.toNat_lt
 have hm:=m.toNat_lt
 have eo:((o.toNat % 4:Nat):Int)=IntKind.i64.wrap ((o.toNat:Int).tmod 4):=by
  rw [show(o.toNat:Int).tmod 4=((o.toNat % 4:Nat):Int) from rfl];exact w6z
 have en:(n.toNat:Int)=IntKind.i64.wrap (n.toNat:Int):=w6z
 have hv0:=qCX (Int.natCast_nonneg n.toNat) (show 0<cd by omega)
 have hv:=hv0
 have e8:(m.toNat:Int).tmod 8=((m.toNat % 8:Nat):Int):=rfl
 have f8:(o.toNat:Int).tmod 8=((o.toNat % 8:Nat):Int):=rfl
 have hok:=hrf.ok
 refine⟨(w.toNat:Int),w6z,?_⟩
 refine⟨by show ¬ (((rs.map Rf.cells).length:Nat):Int)=0;rw [hl'];omega,?_⟩
 generalize (w.toNat:Int).tmod ((rs.map Rf.cells).length:Nat)=kk at hk ⊢
 subst hk
 refine qAf qYI (by kernel_rfl) ?_
 refine⟨by decide,?_⟩
 refine⟨((o.toNat % 4:Nat):Int),eo,?_⟩
 refine⟨1+((o.toNat % 4:Nat):Int),w6z,?_⟩
 refine⟨_,⟨by omega,(⟨nm,md,pl,rn⟩:Rf).cells,hcell,rfl⟩,?_⟩
 refine⟨(n.toNat:Int),en,?_⟩
 refine⟨_,⟨by omega,i64 cd,qDM,rfl⟩,?_⟩
 refine⟨by show ¬ cd=0;omega,?_⟩
 generalize (n.toNat:Int).tmod cd=v at hv ⊢
 refine⟨⟨rfl,congrArg (fun z:Int=>AV.p (.int .i64 z)) en,rfl,rfl,congrArg (fun z:Int=>AV.p (.int .i64 z)) eo,rfl,trivial⟩,?_⟩
 refine⟨_,⟨by omega,(⟨nm,md,pl,rn⟩:Rf).cells,hcell,rfl⟩,?_⟩
 refine And.intro (fun h3=>?_) (fun h3=>?_)
 ·have h3:md=3:=h3
  refine qAf qYH (by kernel_rfl) ?_
  refine⟨_,⟨by omega,(⟨nm,md,pl,rn⟩:Rf).cells,hcell,rfl⟩,?_⟩
  refine⟨(n.toNat:Int),en,?_⟩
  refine⟨_,⟨by omega,i64 cd,qDM,rfl⟩,?_⟩
  refine⟨by show ¬ cd=0;omega,?_⟩
  clear hv
  have hv:=hv0
  generalize (n.toNat:Int).tmod cd=v at hv ⊢
  refine⟨by decide,?_⟩
  refine⟨((o.toNat % 4:Nat):Int),eo,?_⟩
  refine⟨1+((o.toNat % 4:Nat):Int),w6z,?_⟩
  refine⟨by decide,((n.toNat / 8:Nat):Int),wrap_u8' (by omega),?_⟩
  refine⟨((n.toNat / 8:Nat):Int),w6z,?_⟩
  refine⟨by decide,?_⟩
  have hq:=qCX (Int.natCast_nonneg (n.toNat / 8)) (show(0:Int)<4 by decide)
  generalize ((n.toNat / 8:Nat):Int).tmod 4=q at hq ⊢
  have hC1:∀ d,CdS (d+1) (.mk 6 q (1+((o.toNat % 4:Nat):Int)) v ⟨nm,md,pl,rn⟩ [] []) 1 18:=CdS.leaf (by decide) (by decide) (by decide) (by rw [qAT,if_neg (by decide),if_neg (by decide),if_pos rfl,hok,decide_eq_true h3,qCu hq.1 (by omega),qCu hv.1 (by omega),decide_eq_true (by omega),decide_eq_true (by omega)];rfl) hrf (by omega) (by omega) ⟨by decide,fun a ha=>by cases ha⟩
  refine⟨by decide,?_⟩
  refine And.intro (fun h=>absurd (show(m.toNat:Int).tmod 8=0 from h) (by rw [e8];omega)) (fun _=>?_)
  refine And.intro (fun h=>absurd (show(m.toNat:Int).tmod 8=1 from h) (by rw [e8];omega)) (fun _=>?_)
  refine And.intro (fun h=>absurd (show(m.toNat:Int).tmod 8=2 from h) (by rw [e8];omega)) (fun _=>?_)
  refine qAF (.agg [i64 6,i64 q,i64 (1+((o.toNat % 4:Nat):Int)),i64 v, .str nm,i64 md, .str pl,i64 rn, .nils, .nils]) rfl rfl ?_
  exact⟨_, .mk 6 q (1+((o.toNat % 4:Nat):Int)) v ⟨nm,md,pl,rn⟩ [] [],rfl,qAn 6 q (1+((o.toNat % 4:Nat):Int)) v ⟨nm,md,pl,rn⟩,hC1⟩
 ·refine⟨by decide,?_⟩
  by_cases h6:5<o.toNat % 8
  rotate_left
  ·refine And.intro (fun h=>absurd (show(5:Int)<(o.toNat:Int).tmod 8 from h) (by rw [f8];omega)) (fun _=>?_)
   have hC2:∀ d,CdS (d+1) (.mk (1+((o.toNat % 4:Nat):Int)) v 0 0 ⟨nm,md,pl,rn⟩ [] []) 1 18:=CdS.leaf (by omega) (by omega) (by omega) (qH7 (by omega) hok (qCu hv.1 (by omega))) hrf (by omega) (by decide) ⟨by decide,fun a ha=>by cases ha⟩
   refine⟨by decide,?_⟩
   refine And.intro (fun h=>absurd (show(m.toNat:Int).tmod 8=0 from h) (by rw [e8];omega)) (fun _=>?_)
   refine And.intro (fun h=>absurd (show(m.toNat:Int).tmod 8=1 from h) (by rw [e8];omega)) (fun _=>?_)
   refine And.intro (fun h=>absurd (show(m.toNat:Int).tmod 8=2 from h) (by rw [e8];omega)) (fun _=>?_)
   refine qAF (.agg [i64 (1+((o.toNat % 4:Nat):Int)),i64 v,i64 0,i64 0, .str nm,i64 md, .str pl,i64 rn, .nils, .nils]) rfl rfl ?_
   exact⟨_, .mk (1+((o.toNat % 4:Nat):Int)) v 0 0 ⟨nm,md,pl,rn⟩ [] [],rfl,qAn (1+((o.toNat % 4:Nat):Int)) v 0 0 ⟨nm,md,pl,rn⟩,hC2⟩
  refine And.intro (fun _=>?_) (fun h=>absurd (show(5:Int)<(o.toNat:Int).tmod 8 by rw [f8];omega) h)
  refine qAf qYG (by kernel_rfl) ?_
  refine⟨(n.toNat:Int),en,?_⟩
  refine⟨by decide,?_⟩
  have hj:(n.toNat:Int).tmod 2=((n.toNat % 2:Nat):Int):=rfl
  have hj2:n.toNat % 2<2:=Nat.mod_lt _ (by decide)
  generalize n.toNat % 2=j at hj hj2
  generalize (n.toNat:Int).tmod 2=jj at hj ⊢
  subst hj
  have s01:=qV7 j hj2
  refine⟨by show(0:Int)<=((j:Nat):Int)/\((j:Nat):Int)<=2;omega,?_⟩
  refine⟨⟨congrArg (fun z:Int=>AV.p (.int .i64 z)) en,rfl,trivial⟩,?_⟩
  refine⟨⟨congrArg (fun z:Int=>AV.p (.int .i64 z)) en,rfl,trivial⟩,?_⟩
  have hC3:∀ d,CdS (d+1) (.mk 5 0 0 0 ⟨nm,md,pl,rn⟩ (([0,1]:List Int).drop j) []) 1 18:=CdS.leaf (by decide) (by decide) (by decide) (qNy hok s01.1) hrf (by decide) (by decide) s01.2
  refine⟨by decide,?_⟩
  refine And.intro (fun h=>absurd (show(m.toNat:Int).tmod 8=0 from h) (by rw [e8];omega)) (fun _=>?_)
  refine And.intro (fun h=>absurd (show(m.toNat:Int).tmod 8=1 from h) (by rw [e8];omega)) (fun _=>?_)
  refine And.intro (fun h=>absurd (show(m.toNat:Int).tmod 8=2 from h) (by rw [e8];omega)) (fun _=>?_)
  refine qAF (.agg [i64 5,i64 0,i64 0,i64 0, .str nm,i64 md, .str pl,i64 rn, .lst ((([0,1]:List Int).map i64).drop j), .nils]) rfl rfl ?_
  exact⟨_, .mk 5 0 0 0 ⟨nm,md,pl,rn⟩ (([0,1]:List Int).drop j) [],rfl,qDF ⟨nm,md,pl,rn⟩ [0,1] j,hC3⟩
end Go.Proofs.YtohfoaplnjcihaaGreatDoor

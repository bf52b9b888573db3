/- Part 5 of the proof: Ve Ra Rb Rc Rd Vf Vg Jg Jh Ji Jj Jk Jl Gb Gc Gd Gf Gg Gh Ge Gi Ej Ea Eb Ec Ed -/
import Derived.Test.YtohfoaplnjcihaaGreatDoorQ4
namespace Go.Proofs.YtohfoaplnjcihaaGreatDoor
open Go Y
set_option maxRecDepth 100000
set_option maxHeartbeats 4000000
def qWX (c:Cs):AObj:=⟨qGx,false, .bx (c.cells.map .p)⟩
theorem qQg {l:List Cs} {k:Nat} (h:k<l.length):l.drop k=l.getD k cs0::l.drop (k+1):=by
 rw [List.getD_eq_getElem?_getD,List.getElem?_eq_getElem h];exact List.drop_eq_getElem_cons h
theorem qS8 {l:List Int} {k:Nat} (h:k<l.length):l.drop k=l.getD k 0::l.drop (k+1):=by
 rw [List.getD_eq_getElem?_getD,List.getElem?_eq_getElem h];exact List.drop_eq_getElem_cons h
theorem qKp {l:List Cs} {i:Nat} {c:Cd} {ns:List Int} (h:i+1=l.length) (hx:l.getD i cs0=⟨c,ns⟩):qBb (l.drop i)=[qCI]++([qAo]++qB5 ns):=by
 rw [qQg (by omega),hx,List.drop_eq_nil_of_le (show l.length≤i+1 by omega)];rfl
theorem qKo {l:List Cs} {i:Nat} {c:Cd} {ns:List Int} (h:i+1<l.length) (hx:l.getD i cs0=⟨c,ns⟩):qBb (l.drop i)=qAj c++([qAo]++(qB5 ns++([qAX]++qBb (l.drop (i+1))))):=by
 obtain⟨d,r,hd⟩:∃ d r,l.drop (i+1)=d::r:=⟨_,_,qQg h⟩
 rw [qQg (by omega),hx,hd];rfl
theorem qPI (st:Wst) (l:List Cs) (hv:qBP l=true) (hb0:st.sz+wt (qA4 l)≤100000000):HoldsG cx 72 [.ptr 0 0 0, .p (css l)] (wH true st) (WQ (puts st (qA4 l))):=by
 have h0:([]++[tLC])++(qBb (l.drop 0)++[tRC])=qA4 l:=rfl
 generalize qA4 l=G at h0 hb0 ⊢
 have hm:(l.map Cs.cells).length=l.length:=List.length_map ..
 simp only [qBP,Bool.and_eq_true,decide_eq_true_eq] at hv
 obtain⟨⟨v1,v2⟩,v3⟩:=hv
 refine qAA Tryz.func72 rfl rfl rfl ?_
 have hb:st.sz+wt ([]++[tLC])≤100000000:=by rw [← h0,qAL] at hb0;omega
 refine(qA2 true (puts st ([])) ([tLC]) (by simp) (by have hz:=qAI ([]) st;simp only [qAL,wt] at hb hz ⊢;omega)).holds.useT [] [] rfl (sk) (sk) fun e0 H0 hq=>?_
 rw [← qAE] at hq
 obtain⟨rfl,rfl⟩:=hq
 refine⟨rfl,_,⟨4,((3,bO (puts st ([]++[tLC])).s)::(0,wO 3 (puts st ([]++[tLC])))::[])⟩,rfl,rfl,?_⟩
 refine⟨qBT × Nat,fun x=>[(0, .ptr 0 0 0),(1, .p (css l)),(12, .p (css l)),(13, .p (i64 (l.map Cs.cells).length)),(14, .p (i64 x.2))],fun x=>wH' (puts st x.1),fun x=>x.2≤l.length∧qB2 (l.drop x.2)=true∧x.1++(qBb (l.drop x.2)++[tRC])=G,fun x=>l.length - x.2,?_,?_⟩
 ·exact⟨([]++[tLC],0),⟨Nat.zero_le _,v3,h0⟩,qAC [] [(2,3)] [] rfl (sk) (sk) rfl⟩
 clear h0 hb
 rintro⟨P,i⟩ ⟨i0,i2,i3⟩
 simp only [] at i0 i2 i3
 (first | refine qAP (fun j1=>?_) (fun j1=>?_) | refine qAQ (fun j1=>?_) (fun j1=>?_) | refine qAR (fun j1=>?_) (fun j1=>?_))
 rotate_left
 ·have j1:¬ (i:Int)<((l.map Cs.cells).length:Nat):=j1
  rw [hm] at j1
  rw [List.drop_eq_nil_of_le (by omega)] at i3
  have i3:P++[tRC]=G:=i3
  have hb:st.sz+wt (P++[tRC])≤100000000:=by rw [i3];exact hb0
  refine(qA2 true (puts st (P)) ([tRC]) (by simp) (by have hz:=qAI (P) st;simp only [qAL,wt] at hb hz ⊢;omega)).holds.useT [] [(1,2),(2,3)] rfl (sk) (sk) fun e0 H0 hq=>?_
  rw [← qAE] at hq
  obtain⟨rfl,rfl⟩:=hq
  refine⟨rfl,_,⟨5,((4,bO (puts st (P++[tRC])).s)::(0,wO 4 (puts st (P++[tRC])))::[])⟩,rfl,rfl,?_⟩
  exact⟨[],[(2,4)],[], .returned und,wH' (puts st (P++[tRC])),rfl,sk,sk,rfl,by rw [i3]⟩
 have j1:(i:Int)<((l.map Cs.cells).length:Nat):=j1
 rw [hm] at j1
 have i1:i<l.length:=by omega
 have hcell:=qNz i1
 have hstep:=fun h=>qDy (l:=l) (i:=i) h
 have hlast:=fun h=>qDz (l:=l) (i:=i) h
 rcases hx:l.getD i cs0 with ⟨⟨op,n,rel,val,r,s,ar⟩,nums⟩
 rw [hx] at hcell hstep hlast
 simp only [] at hstep hlast
 have hnm:(nums.map i64).length=nums.length:=List.length_map ..
 have hnums:qCU nums=true:=by
  rcases Nat.lt_or_ge (i+1) l.length with h3 | h3
  ·rw [hstep h3] at i2
   simp only [Bool.and_eq_true] at i2
   exact i2.1.1
  ·rw [hlast (by omega)] at i2
   simp only [Bool.and_eq_true] at i2
   exact i2.1
 obtain⟨_,_,hwt⟩:=qGG hnums
 refine⟨_,⟨by omega,(⟨.mk op n rel val r s ar,nums⟩:Cs).cells,hcell,rfl⟩,?_⟩
 refine⟨((l.length - 1:Nat):Int),by show _=IntKind.i64.wrap (((l.map Cs.cells).length:Int) - 1);rw [hm,show(l.length:Int) - 1=((l.length - 1:Nat):Int) by omega];exact w6z,?_⟩
 (first | refine qAP (fun m4=>?_) (fun m4=>?_) | refine qAQ (fun m4=>?_) (fun m4=>?_) | refine qAR (fun m4=>?_) (fun m4=>?_))
 ·have m4:(i:Int)=((l.length - 1:Nat):Int):=m4
  have hR:=qKp (by omega) hx
  rw [hR] at i3
  obtain⟨F,hF⟩:∃ F,((P++[qCI])++[qAo])++qB5 (nums.drop 0)=F:=⟨_,rfl⟩
  have hFG:F++[tRC]=G:=by rw [← hF,← i3];simp
  have hFw:st.sz+wt F≤100000000:=by rw [← hFG,qAL] at hb0;omega
  have hb:st.sz+wt ((P++[qCI])++[qAo])≤100000000:=by rw [← hF,qAL] at hFw;omega
  refine(qA2 true (puts st (P)) ([qCI]) (by simp) (by have hz:=qAI (P) st;simp only [qAL,wt] at hb hz ⊢;omega)).holds.useT [] [(1,2),(2,4)] rfl (sk) (sk) fun e0 H0 hq=>?_
  rw [← qAE] at hq
  obtain⟨rfl,rfl⟩:=hq
  refine⟨rfl,_,⟨6,((5,bO (puts st (P++[qCI])).s)::(0,wO 5 (puts st (P++[qCI])))::[(3,qWX ⟨.mk op n rel val r s ar,nums⟩)])⟩,rfl,rfl,?_⟩
  refine(qA2 true (puts st (P++[qCI])) ([qAo]) (by simp) (by have hz:=qAI (P++[qCI]) st;simp only [qAL,wt] at hb hz ⊢;omega)).holds.useT [] [(1,5),(2,6)] rfl (sk) (sk) fun e0 H0 hq=>?_
  rw [← qAE] at hq
  obtain⟨rfl,rfl⟩:=hq
  refine⟨rfl,_,⟨8,((7,bO (puts st (P++[qCI]++[qAo])).s)::(0,wO 7 (puts st (P++[qCI]++[qAo])))::[(3,qWX ⟨.mk op n rel val r s ar,nums⟩)])⟩,rfl,rfl,?_⟩
  refine⟨qBT × Nat,fun y=>[(0, .ptr 0 0 0),(1, .p (css l)),(6,vB true),(12, .p (css l)),(13, .p (i64 (l.map Cs.cells).length)),(14, .p (i64 i)),(36, .p (ints nums)),(37, .p (i64 (nums.map i64).length)),(38, .p (i64 y.2))],fun y=>wH' (puts st y.1),fun y=>y.2≤nums.length∧y.1++qB5 (nums.drop y.2)=F,fun y=>nums.length - y.2,?_,?_⟩
  ·exact⟨(((P++[qCI])++[qAo]),0),⟨Nat.zero_le _,hF⟩,qAC [] [(2,7)] [] rfl (sk) (sk) rfl⟩
  clear hb
  rintro⟨Q,k⟩ ⟨k1,k2⟩
  simp only [] at k1 k2
  (first | refine qAP (fun m1=>?_) (fun m1=>?_) | refine qAQ (fun m1=>?_) (fun m1=>?_) | refine qAR (fun m1=>?_) (fun m1=>?_))
  ·have m1:(k:Int)<((nums.map i64).length:Nat):=m1
   rw [hnm] at m1
   have hk:k<nums.length:=by omega
   have hw:=hwt _ (qAK 0 hk)
   have hcell2:=qED hk
   have hd:=qS8 hk
   generalize nums.getD k 0=x at hw hcell2 hd
   have e2:qB5 (nums.drop k)=qGM x++qB5 (nums.drop (k+1)):=by rw [hd];rfl
   rw [e2,← List.append_assoc] at k2
   have hb:st.sz+wt (Q++qGM x)≤100000000:=by rw [← k2,qAL] at hFw;omega
   simp only [qFy,Bool.and_eq_true,decide_eq_true_eq] at hw
   refine⟨_,⟨by omega,i64 x,hcell2,rfl⟩,?_⟩
   by_cases c:x<0
   ·have e3:qGM x=[qAs]++[qAZ (-x)]:=if_pos c
    rw [e3,← List.append_assoc] at k2 hb
    refine And.intro (fun _=>?_) (fun h=>absurd c h)
    refine(qA2 true (puts st (Q)) ([qAs]) (by simp) (by have hz:=qAI (Q) st;simp only [qAL,wt] at hb hz ⊢;omega)).holds.useT [] [(1,2),(2,3)] rfl (sk) (sk) fun e0 H0 hq=>?_
    rw [← qAE] at hq
    obtain⟨rfl,rfl⟩:=hq
    refine⟨rfl,_,⟨5,((4,bO (puts st (Q++[qAs])).s)::(0,wO 4 (puts st (Q++[qAs])))::[])⟩,rfl,rfl,?_⟩
    refine⟨-x,by rw [Int.zero_sub];exact w6z,?_⟩
    refine(qCe (-x) (by simp only [qBh,Bool.and_eq_true,decide_eq_true_eq];omega)).eq rfl ?_
    refine(qA2 true (puts st (Q++[qAs])) ([qAZ (-x)]) (by simp) (by have hz:=qAI (Q++[qAs]) st;simp only [qAL,wt] at hb hz ⊢;omega)).holds.useT [] [(1,4),(2,5)] rfl (sk) (sk) fun e0 H0 hq=>?_
    rw [← qAE] at hq
    obtain⟨rfl,rfl⟩:=hq
    refine⟨rfl,_,⟨7,((6,bO (puts st (Q++[qAs]++[qAZ (-x)])).s)::(0,wO 6 (puts st (Q++[qAs]++[qAZ (-x)])))::[])⟩,rfl,rfl,?_⟩
    refine⟨_,w6z,?_⟩
    exact⟨((Q++[qAs])++[qAZ (-x)],k+1),⟨hk,k2⟩,qAC [] [(2,6)] [] rfl (sk) (sk) rfl,by show nums.length - (k+1)<nums.length - k;omega⟩
   ·have e3:qGM x=[qAZ x]:=if_neg c
    rw [e3] at k2 hb
    refine And.intro (fun h=>absurd h c) (fun _=>?_)
    refine(qCe x (by simp only [qBh,Bool.and_eq_true,decide_eq_true_eq];omega)).eq rfl ?_
    refine(qA2 true (puts st (Q)) ([qAZ x]) (by simp) (by have hz:=qAI (Q) st;simp only [qAL,wt] at hb hz ⊢;omega)).holds.useT [] [(1,2),(2,3)] rfl (sk) (sk) fun e0 H0 hq=>?_
    rw [← qAE] at hq
    obtain⟨rfl,rfl⟩:=hq
    refine⟨rfl,_,⟨5,((4,bO (puts st (Q++[qAZ x])).s)::(0,wO 4 (puts st (Q++[qAZ x])))::[])⟩,rfl,rfl,?_⟩
    refine⟨_,w6z,?_⟩
    exact⟨(Q++[qAZ x],k+1),⟨hk,k2⟩,qAC [] [(2,4)] [] rfl (sk) (sk) rfl,by show nums.length - (k+1)<nums.length - k;omega⟩
  have m1:¬ (k:Int)<((nums.map i64).length:Nat):=m1
  rw [hnm] at m1
  rw [List.drop_eq_nil_of_le (by omega),show qB5 []=[] from rfl,List.append_nil] at k2
  subst k2
  refine⟨_,w6z,?_⟩
  exact⟨(Q,i+1),⟨by omega,by rw [List.drop_eq_nil_of_le (by omega)];rfl,by rw [List.drop_eq_nil_of_le (by omega)];exact hFG⟩,qAC [] [] [] rfl (sk) (sk) rfl,by show l.length - (i+1)<l.length - i;omega⟩
 have m4:¬ (i:Int)=((l.length - 1:Nat):Int):=m4
 have hR:=qKo (by omega) hx
 rw [hR] at i3
 rw [hstep (by omega)] at i2
 simp only [Bool.and_eq_true] at i2
 obtain⟨⟨_,i4⟩,i5⟩:=i2
 obtain⟨kk,hk8⟩:=Option.isSome_iff_exists.1 i4
 obtain⟨F,hF⟩:∃ F,((P++qAj (.mk op n rel val r s ar))++[qAo])++qB5 (nums.drop 0)=F:=⟨_,rfl⟩
 have hFG:(F++[qAX])++(qBb (l.drop (i+1))++[tRC])=G:=by rw [← hF,← i3];simp
 have hFs:st.sz+wt (F++[qAX])≤100000000:=by rw [← hFG,qAL] at hb0;omega
 have hFw:st.sz+wt F≤100000000:=by rw [qAL] at hFs;omega
 have hb:st.sz+wt ((P++qAj (.mk op n rel val r s ar))++[qAo])≤100000000:=by rw [← hF,qAL] at hFw;omega
 have hC:=qUV kk hk8 (puts st P) (by have hz:=qAI P st;simp only [qAL,wt] at hb ⊢;omega)
 generalize qAj (.mk op n rel val r s ar)=X at hC hF hb
 refine(hC).holds.useT [] [(1,2)] rfl (sk) (sk) fun e0 H0 hq=>?_
 unfold WQ at hq
 rw [← qAE] at hq
 obtain⟨rfl,rfl⟩:=hq
 refine⟨rfl,_,⟨5,((4,bO (puts st (P++X)).s)::(0,wO 4 (puts st (P++X)))::[(3,qWX ⟨.mk op n rel val r s ar,nums⟩)])⟩,rfl,rfl,?_⟩
 refine(qA2 true (puts st (P++X)) ([qAo]) (by simp) (by have hz:=qAI (P++X) st;simp only [qAL,wt] at hb hz ⊢;omega)).holds.useT [] [(1,4),(2,5)] rfl (sk) (sk) fun e0 H0 hq=>?_
 rw [← qAE] at hq
 obtain⟨rfl,rfl⟩:=hq
 refine⟨rfl,_,⟨7,((6,bO (puts st (P++X++[qAo])).s)::(0,wO 6 (puts st (P++X++[qAo])))::[(3,qWX ⟨.mk op n rel val r s ar,nums⟩)])⟩,rfl,rfl,?_⟩
 refine⟨qBT × Nat,fun y=>[(0, .ptr 0 0 0),(1, .p (css l)),(6,vB false),(12, .p (css l)),(13, .p (i64 (l.map Cs.cells).length)),(14, .p (i64 i)),(36, .p (ints nums)),(37, .p (i64 (nums.map i64).length)),(38, .p (i64 y.2))],fun y=>wH' (puts st y.1),fun y=>y.2≤nums.length∧y.1++qB5 (nums.drop y.2)=F,fun y=>nums.length - y.2,?_,?_⟩
 ·exact⟨(((P++X)++[qAo]),0),⟨Nat.zero_le _,hF⟩,qAC [] [(2,6)] [] rfl (sk) (sk) rfl⟩
 clear hb
 rintro⟨Q,k⟩ ⟨k1,k2⟩
 simp only [] at k1 k2
 (first | refine qAP (fun m1=>?_) (fun m1=>?_) | refine qAQ (fun m1=>?_) (fun m1=>?_) | refine qAR (fun m1=>?_) (fun m1=>?_))
 ·have m1:(k:Int)<((nums.map i64).length:Nat):=m1
  rw [hnm] at m1
  have hk:k<nums.length:=by omega
  have hw:=hwt _ (qAK 0 hk)
  have hcell2:=qED hk
  have hd:=qS8 hk
  generalize nums.getD k 0=x at hw hcell2 hd
  have e2:qB5 (nums.drop k)=qGM x++qB5 (nums.drop (k+1)):=by rw [hd];rfl
  rw [e2,← List.append_assoc] at k2
  have hb:st.sz+wt (Q++qGM x)≤100000000:=by rw [← k2,qAL] at hFw;omega
  simp only [qFy,Bool.and_eq_true,decide_eq_true_eq] at hw
  refine⟨_,⟨by omega,i64 x,hcell2,rfl⟩,?_⟩
  by_cases c:x<0
  ·have e3:qGM x=[qAs]++[qAZ (-x)]:=if_pos c
   rw [e3,← List.append_assoc] at k2 hb
   refine And.intro (fun _=>?_) (fun h=>absurd c h)
   refine(qA2 true (puts st (Q)) ([qAs]) (by simp) (by have hz:=qAI (Q) st;simp only [qAL,wt] at hb hz ⊢;omega)).holds.useT [] [(1,2),(2,3)] rfl (sk) (sk) fun e0 H0 hq=>?_
   rw [← qAE] at hq
   obtain⟨rfl,rfl⟩:=hq
   refine⟨rfl,_,⟨5,((4,bO (puts st (Q++[qAs])).s)::(0,wO 4 (puts st (Q++[qAs])))::[])⟩,rfl,rfl,?_⟩
   refine⟨-x,by rw [Int.zero_sub];exact w6z,?_⟩
   refine(qCe (-x) (by simp only [qBh,Bool.and_eq_true,decide_eq_true_eq];omega)).eq rfl ?_
   refine(qA2 true (puts st (Q++[qAs])) ([qAZ (-x)]) (by simp) (by have hz:=qAI (Q++[qAs]) st;simp only [qAL,wt] at hb hz ⊢;omega)).holds.useT [] [(1,4),(2,5)] rfl (sk) (sk) fun e0 H0 hq=>?_
   rw [← qAE] at hq
   obtain⟨rfl,rfl⟩:=hq
   refine⟨rfl,_,⟨7,((6,bO (puts st (Q++[qAs]++[qAZ (-x)])).s)::(0,wO 6 (puts st (Q++[qAs]++[qAZ (-x)])))::[])⟩,rfl,rfl,?_⟩
   refine⟨_,w6z,?_⟩
   exact⟨((Q++[qAs])++[qAZ (-x)],k+1),⟨hk,k2⟩,qAC [] [(2,6)] [] rfl (sk) (sk) rfl,by show nums.length - (k+1)<nums.length - k;omega⟩
  ·have e3:qGM x=[qAZ x]:=if_neg c
   rw [e3] at k2 hb
   refine And.intro (fun h=>absurd h c) (fun _=>?_)
   refine(qCe x (by simp only [qBh,Bool.and_eq_true,decide_eq_true_eq];omega)).eq rfl ?_
   refine(qA2 true (puts st (Q)) ([qAZ x]) (by simp) (by have hz:=qAI (Q) st;simp only [qAL,wt] at hb hz ⊢;omega)).holds.useT [] [(1,2),(2,3)] rfl (sk) (sk) fun e0 H0 hq=>?_
   rw [← qAE] at hq
   obtain⟨rfl,rfl⟩:=hq
   refine⟨rfl,_,⟨5,((4,bO (puts st (Q++[qAZ x])).s)::(0,wO 4 (puts st (Q++[qAZ x])))::[])⟩,rfl,rfl,?_⟩
   refine⟨_,w6z,?_⟩
   exact⟨(Q++[qAZ x],k+1),⟨hk,k2⟩,qAC [] [(2,4)] [] rfl (sk) (sk) rfl,by show nums.length - (k+1)<nums.length - k;omega⟩
 have m1:¬ (k:Int)<((nums.map i64).length:Nat):=m1
 rw [hnm] at m1
 rw [List.drop_eq_nil_of_le (by omega),show qB5 []=[] from rfl,List.append_nil] at k2
 subst k2
 have hb:=hFs
 refine(qA2 true (puts st (Q)) ([qAX]) (by simp) (by have hz:=qAI (Q) st;simp only [qAL,wt] at hb hz ⊢;omega)).holds.useT [] [(1,2),(2,3)] rfl (sk) (sk) fun e0 H0 hq=>?_
 rw [← qAE] at hq
 obtain⟨rfl,rfl⟩:=hq
 refine⟨rfl,_,⟨5,((4,bO (puts st (Q++[qAX])).s)::(0,wO 4 (puts st (Q++[qAX])))::[])⟩,rfl,rfl,?_⟩
 refine⟨_,w6z,?_⟩
 exact⟨(Q++[qAX],i+1),⟨by omega,i5,hFG⟩,qAC [] [(2,4)] [] rfl (sk) (sk) rfl,by show l.length - (i+1)<l.length - i;omega⟩
theorem qFb {a b:List UInt8} (h:a=b):PEnd.ret [.str a]=.ret [.str b]:=by rw [h]
theorem qRP {n:Int} (h0:-9223372036854775807≤n) (h1:n≤9223372036854775807):-n=IntKind.i64.wrap (0 - n):=by
 rw [Int.zero_sub]
 exact w6z
theorem qDK (n:Int):(qAZ n).length≤4:=qHu 4 n.toNat
theorem qSn (n:Int) (h:qBh n=true):Pure cx 26 [i64 n] (·=.ret [.str (qAZ n)]):=by
 simp only [qBh,Bool.and_eq_true,decide_eq_true_eq] at h
 obtain⟨m,rfl⟩:∃ m:Nat,n=m:=⟨n.toNat,by omega⟩
 have h4:m<10 ^ 4:=by
  have:(10:Nat) ^ 4=10000:=by decide
  omega
 have:=qNa 3 m (by omega) h4
 exact this
theorem qOn {n:Int} (h:qFy n=true):-9999≤n∧n≤9999:=by
 simpa only [qFy,Bool.and_eq_true,decide_eq_true_eq] using h
theorem qTv {n:Int} (h:qBh n=true):qFy n=true:=by
 simp only [qBh,qFy,Bool.and_eq_true,decide_eq_true_eq] at h ⊢
 omega
theorem qCh {n:Int} (h0:0≤n) (h:n≤9999):qBh n=true:=by
 simp only [qBh,Bool.and_eq_true,decide_eq_true_eq];omega
theorem qR6 {n:Int} (h:qBh n=true):qGM n=[qAZ n]:=by
 simp only [qBh,Bool.and_eq_true,decide_eq_true_eq] at h
 rw [qGM,if_neg (by omega)]
theorem qHj (n:Int) (h:qFy n=true):Pure cx 85 [i64 n] (·=.ret [.str (spW false (qGM n))]):=by
 refine qAB Tryz.func85 rfl rfl rfl ?_
 obtain⟨w1,w2⟩:=qOn h
 (first | refine qAP (fun h1=>?_) (fun h1=>?_) | refine qAQ (fun h1=>?_) (fun h1=>?_) | refine qAR (fun h1=>?_) (fun h1=>?_))
 ·have h1:n<0:=h1
  refine⟨-n,qRP (by omega) (by omega),?_⟩
  refine(qSn (-n) (qCh (by omega) (by omega))).eq rfl ?_
  have hl:=qDK (-n)
  refine⟨by show List.length _+List.length _≤9223372036854775807;(try simp) <;> omega,?_⟩
  exact qAF _ rfl rfl (qFb (by rw [qGM,if_pos h1];simp [spW]))
 ·have h1:¬ n<0:=h1
  refine(qSn n (qCh (by omega) (by omega))).eq rfl ?_
  exact qAF _ rfl rfl (qFb (by rw [qGM,if_neg h1];simp [spW]))
theorem qCW (n:Int) (h:qBh n=true):Pure cx 85 [i64 n] (·=.ret [.str (qAZ n)]):=by
 have:=qHj n (qTv h)
 rw [qR6 h] at this
 simpa [spW] using this
theorem qCl {t:List UInt8} (h:qAp t=true):t.length≤10:=(qJB (qDB h)).2
theorem qJ3 (r:Rf) (h:qBk r=true):Pure cx 129 [r.pv] (·=.ret [.str (spW false (qBW r))]):=by
 refine qAB Tryz.func129 rfl rfl rfl ?_
 obtain⟨nm,m,pl,n⟩:=r
 rw [qBk,Bool.and_eq_true] at h
 obtain⟨hn,h⟩:=h
 simp only [] at h hn
 have hnl:=qCl hn
 (first | refine qAP (fun h3=>?_) (fun h3=>?_) | refine qAQ (fun h3=>?_) (fun h3=>?_) | refine qAR (fun h3=>?_) (fun h3=>?_))
 ·have h3:m=3:=h3
  refine⟨by show List.length _+List.length _≤9223372036854775807;(try simp) <;> omega,?_⟩
  exact qAF _ rfl rfl (qFb (by simp [qBW,qEn,h3,spW]))
 have h3:¬ m=3:=h3
 (first | refine qAP (fun h2=>?_) (fun h2=>?_) | refine qAQ (fun h2=>?_) (fun h2=>?_) | refine qAR (fun h2=>?_) (fun h2=>?_))
 ·have h2:m=2:=h2
  rw [if_neg (by omega),if_neg (by omega),if_pos h2,Bool.and_eq_true] at h
  have hd:=qDK n
  refine VDraw.seq rfl ?_
  refine⟨by show List.length _+List.length _≤9223372036854775807;(try simp) <;> omega,?_⟩
  refine(qCW n h.2).eq rfl ?_
  refine⟨sk,?_⟩
  refine⟨by show List.length _+List.length _≤9223372036854775807;(try simp) <;> omega,?_⟩
  refine⟨by show List.length _+List.length _≤9223372036854775807;(try simp) <;> omega,?_⟩
  exact qAF _ rfl rfl (qFb (by simp [qBW,qEn,h2,spW]))
 have h2:¬ m=2:=h2
 (first | refine qAP (fun h1=>?_) (fun h1=>?_) | refine qAQ (fun h1=>?_) (fun h1=>?_) | refine qAR (fun h1=>?_) (fun h1=>?_))
 ·have h1:m=1:=h1
  rw [if_neg (by omega),if_pos h1,Bool.and_eq_true] at h
  have hd:=qDK n
  have hpl:=qCl h.1
  (first | refine qAP (fun h0=>?_) (fun h0=>?_) | refine qAQ (fun h0=>?_) (fun h0=>?_) | refine qAR (fun h0=>?_) (fun h0=>?_))
  ·have h0:0<n:=h0
   refine VDraw.seq rfl ?_
   refine⟨by show List.length _+List.length _≤9223372036854775807;(try simp) <;> omega,?_⟩
   refine⟨by show List.length _+List.length _≤9223372036854775807;(try simp) <;> omega,?_⟩
   refine⟨by show List.length _+List.length _≤9223372036854775807;(try simp) <;> omega,?_⟩
   refine(qCW n h.2).eq rfl ?_
   refine⟨sk,?_⟩
   refine⟨by show List.length _+List.length _≤9223372036854775807;(try simp) <;> omega,?_⟩
   refine⟨by show List.length _+List.length _≤9223372036854775807;(try simp) <;> omega,?_⟩
   exact qAF _ rfl rfl (qFb (by simp [qBW,qEn,h1,h0,spW]))
  ·have h0:¬ 0<n:=h0
   refine⟨by show List.length _+List.length _≤9223372036854775807;(try simp) <;> omega,?_⟩
   refine⟨by show List.length _+List.length _≤9223372036854775807;(try simp) <;> omega,?_⟩
   refine⟨by show List.length _+List.length _≤9223372036854775807;(try simp) <;> omega,?_⟩
   exact qAF _ rfl rfl (qFb (by simp [qBW,qEn,h1,h0,spW]))
 have h1:¬ m=1:=h1
 exact qAF _ rfl rfl (qFb (by simp [qBW,qEn,h1,h2,h3,spW]))
def sgnL:List (List UInt8):=[[],[32,61,32],[32,47,61,32],[32,60,32],[32,60,61,32]]
theorem qVG {k:Int} (h:1≤k∧k≤4):sgnL.getD k.toNat []=32::(qGD k++[32]):=by
 rcases (show k=1∨k=2∨k=3∨k=4 by omega) with rfl | rfl | rfl | rfl <;> decide
theorem qSf (k:Int) (h:1≤k∧k≤4):Pure cx 165 [i64 k] (·=.ret [.str (32::(qGD k++[32]))]):=by
 refine qAB Tryz.func165 rfl rfl rfl ?_
 refine⟨.p (.str (sgnL.getD k.toNat [])),⟨by show(0:Int)≤k∧k<5;omega, .str (sgnL.getD k.toNat []),qKY (by kernel_rfl) (by show(sgnL.map PV.str)[k.toNat * 1]?=some (PV.str (sgnL.getD k.toNat []));rw [Nat.mul_one,List.getElem?_map,List.getD_eq_getElem?_getD,List.getElem?_eq_getElem (show k.toNat<sgnL.length by show k.toNat<5;omega)];rfl),rfl⟩,?_⟩
 exact qAF _ rfl rfl (qFb (qVG h))
theorem qT4 (c:Cd):Pure cx 187 [c.pv] (·=.ret [i64 (lvl c.op)]):=by
 obtain⟨op,n,rel,val,r,st,ar⟩:=c
 refine qAB Tryz.func187 rfl rfl rfl ?_
 (first | refine qAP (fun h9=>?_) (fun h9=>?_) | refine qAQ (fun h9=>?_) (fun h9=>?_) | refine qAR (fun h9=>?_) (fun h9=>?_))
 ·have h9:op=9:=h9
  exact qAF _ rfl rfl (qEB (by show(1:Int)=((lvl op:Nat):Int);rw [lvl,if_pos h9];rfl))
 have h9:¬ op=9:=h9
 (first | refine qAP (fun h8=>?_) (fun h8=>?_) | refine qAQ (fun h8=>?_) (fun h8=>?_) | refine qAR (fun h8=>?_) (fun h8=>?_))
 ·have h8:op=8:=h8
  exact qAF _ rfl rfl (qEB (by show(2:Int)=((lvl op:Nat):Int);rw [lvl,if_neg h9,if_pos h8];rfl))
 have h8:¬ op=8:=h8
 (first | refine qAP (fun h7=>?_) (fun h7=>?_) | refine qAQ (fun h7=>?_) (fun h7=>?_) | refine qAR (fun h7=>?_) (fun h7=>?_))
 ·have h7:op=7:=h7
  exact qAF _ rfl rfl (qEB (by show(3:Int)=((lvl op:Nat):Int);rw [lvl,if_neg h9,if_neg h8,if_pos h7];rfl))
 have h7:¬ op=7:=h7
 exact qAF _ rfl rfl (qEB (by show(4:Int)=((lvl op:Nat):Int);rw [lvl,if_neg h9,if_neg h8,if_neg h7];rfl))
theorem qJr (c:Cd):qAj c ≠ []:=by
 obtain⟨op,n,rel,val,r,st,ar⟩:=c
 rw [qAj,qT5]
 split
 ·simp
 ·split
  ·simp
  ·split
   ·simp
   ·unfold qCC qBW
    split
    ·simp
    ·split <;> simp
theorem qFO (c:Cd) (k:Nat) (h:qFK (qAj c)) (hn:(qAj c).length≤1000) (hw:Pure cx 130 [c.pv] (·=.ret [.str (spW false (qAj c))])):Pure cx 164 [c.pv,i64 k] (·=.ret [.str (spW false (qAV k c))]):=by
 have hl:=qT4 c
 have hlen:=qBe false h
 have hm:qAV k c=if lvl c.op<k then tLP::(qAj c++[tRP]) else qAj c:=rfl
 generalize lvl c.op=m at hl hm
 have hx:=qJr c
 generalize qAj c=x at hw hm hlen hn h hx
 obtain⟨op,n,rel,val,r,st,ar⟩:=c
 refine qAB Tryz.func164 rfl rfl rfl ?_
 refine hl.eq rfl ?_
 (first | refine qAP (fun h1=>?_) (fun h1=>?_) | refine qAQ (fun h1=>?_) (fun h1=>?_) | refine qAR (fun h1=>?_) (fun h1=>?_))
 ·have h1:(m:Int)<(k:Nat):=h1
  refine hw.eq rfl ?_
  refine⟨by show List.length _+List.length _≤9223372036854775807;(try simp) <;> omega,?_⟩
  refine⟨by show List.length _+List.length _≤9223372036854775807;(try simp) <;> omega,?_⟩
  refine qAF _ rfl rfl (qFb ?_)
  rw [hm,if_pos (by omega)]
  show([40,32]++spW false x)++[32,41]=[]++(tLP++spW true (x++[tRP]))
  rw [qDQ,qGc hx]
  simp [spW]
 ·have h1:¬ (m:Int)<(k:Nat):=h1
  refine hw.eq rfl ?_
  exact qAF _ rfl rfl (qFb (by rw [hm,if_neg (by omega)]))
theorem qJF {x y:qBT} (t:List UInt8) (hx:x ≠ []) (hy:y ≠ []):spW false (x++t::y)=(spW false x++(32::(t++[32])))++spW false y:=by
 rw [qO8 hx]
 show spW false x++([32]++(t++spW true y))=_
 rw [qGc hy]
 simp
theorem qVs {k:Nat} {p:Int × qBT} (h:p.2 ≠ []):inT k p ≠ []:=by
 unfold inT
 split
 ·simp
 ·exact h
theorem qDX (k:Nat) (c:Cd):qAV k c ≠ []:=qVs (qJr c)
theorem qMo (k:Int):(qGD k).length≤2:=by
 unfold qGD
 split
 ·decide
 ·split
  ·decide
  ·split <;> decide
def qUr (l:List Int):List UInt8:=(l.flatMap fun n=>[32,44,32]++qAZ n)++[32,125]
def spN (k:Nat) (st:List Int):List UInt8:=if k=0 then qAZ (st.getD 0 0)++qUr (st.drop 1) else qUr (st.drop k)
theorem qUL {st:List Int} {k:Nat} (h:k<st.length):st.drop k=st.getD k 0::st.drop (k+1):=by
 rw [List.getD_eq_getElem?_getD,List.getElem?_eq_getElem h];exact List.drop_eq_getElem_cons h
theorem qRY {st:List Int} {k:Nat} (h:k<st.length):spN k st=(if 0<k then [32,44,32] else [])++(qAZ (st.getD k 0)++spN (k+1) st):=by
 have e:spN (k+1) st=qUr (st.drop (k+1)):=if_neg (by omega)
 rw [e]
 by_cases c:k=0
 ·subst c;rfl
 ·rw [spN,if_neg c,if_pos (by omega),qUL h]
  simp [qUr]
theorem qPD:∀ l:List Int,spW true ((l.flatMap fun b=>qAt::[qAZ b])++[tRC])=qUr l
 | []=>rfl
 | n::l=>by
  have ih:=qPD l
  rw [List.flatMap_cons,List.append_assoc,qDQ,ih]
  simp [qUr,spW]
theorem qRX {R:qBT} {st:List Int} (hR:R ≠ []) (hs:st ≠ []):(spW false R++[32,105,110,32,123,32])++spN 0 st=spW false (R++([tIn,tLC]++(qEv (fun n=>[qAZ n]) st++[tRC]))):=by
 cases st with
 | nil=>exact absurd rfl hs
 | cons n l=>
  show _=spW false (R++([tIn,tLC]++([qAZ n]++((l.flatMap fun b=>qAt::[qAZ b])++[tRC]))))
  rw [qO8 hR,qDQ,qDQ,qPD]
  simp [spN,spW]
def qWI (d:Nat):Prop:=∀ (c:Cd) (left k:Nat),qAn d c left=some k→left≤30→Pure cx 130 [c.pv] (·=.ret [.str (spW false (qAj c))])
theorem qFE {op n rel val:Int} {r:Rf} {st:List Int} (hb:qAS op n rel val r st=true):qBk r=true∧(op=6→qBh n=true∧qBh val=true∧1≤rel∧rel≤4)∧(op=5→qG0 st=true)∧(¬ op=5→¬ op=6→qBh n=true∧1≤op∧op≤4):=by
 unfold qAS at hb
 by_cases c6:op=6
 ·rw [if_neg (by omega),if_neg (by omega),if_pos c6] at hb
  simp only [Bool.and_eq_true,decide_eq_true_eq] at hb
  obtain⟨⟨⟨⟨⟨⟨b1,b2⟩,b3⟩,b4⟩,b5⟩,b6⟩,b7⟩:=hb
  exact⟨b1,fun _=>⟨b3,b4,b5,b6⟩,fun h=>by omega,fun _ h=>absurd c6 h⟩
 ·by_cases c5:op=5
  ·rw [if_neg (by omega),if_pos c5] at hb
   simp only [Bool.and_eq_true,decide_eq_true_eq] at hb
   obtain⟨⟨⟨⟨b1,b2⟩,b3⟩,b4⟩,b5⟩:=hb
   exact⟨b1,fun h=>absurd h c6,fun _=>b5,fun h=>absurd c5 h⟩
  ·by_cases c1:op=1∨op=2∨op=3∨op=4
   ·rw [if_pos c1] at hb
    simp only [Bool.and_eq_true,decide_eq_true_eq] at hb
    exact⟨hb.1.1.1.1,fun h=>absurd h c6,fun h=>absurd h c5,fun _ _=>⟨hb.1.1.1.2,by omega,by omega⟩⟩
   ·rw [if_neg c1,if_neg c5,if_neg c6] at hb
    cases hb
theorem qMO:∀ d,qWI d
 | 0=>fun _ _ _ h _=>by cases h
 | d+1=>fun c left k h hl=>by
  have hd:=qMO d
  cases qHv h with
  | conj a b l m k ha hb=>
   have ia:=qBa d a l m ha
   have ib:=qBa d b m k hb
   have wa:=qFO a 2 ia.1 (by omega) (hd a l m ha (by omega))
   have wb:=qFO b 3 ib.1 (by omega) (hd b m k hb (by omega))
   have la:=qBe false (qAv (k:=2) ia.1).1
   have lb:=qBe false (qAv (k:=3) ib.1).1
   have ta:=(qAv (k:=2) ia.1).2
   have tb:=(qAv (k:=3) ib.1).2
   have e:=qJF qDY (qDX 2 a) (qDX 3 b)
   rw [← qCY a b] at e
   generalize spW false (qAj (.mk _ 0 0 0 rf0 [] [a,b]))=R at e ⊢
   generalize spW false (qAV 2 a)=x at wa la e
   generalize spW false (qAV 3 b)=y at wb lb e
   have la:x.length≤20000:=by have:=ia.2;omega
   have lb:y.length≤20000:=by have:=ib.2;omega
   clear hd h ha hb ia ib ta tb
   obtain⟨ao,an,ar,av,af,at',aa⟩:=a
   obtain⟨bo,bn,br,bv,bf,bt,ba⟩:=b
   refine qAB Tryz.func130 rfl rfl rfl ?_
   refine And.intro (fun h=>absurd (show(8:Int)=9 from h) (by decide)) (fun _=>?_)
   refine And.intro (fun _=>?_) (fun h=>absurd rfl h)
   refine VDraw.seq rfl ?_
   refine⟨_,⟨by decide,_,rfl,rfl⟩,?_⟩
   refine⟨_,⟨by decide,_,rfl,rfl⟩,?_⟩
   refine wa.eq rfl ?_
   refine⟨sk,?_⟩
   refine⟨by show List.length _+List.length _≤9223372036854775807;first | ((try dsimp only);(repeat rw [List.length_append]);(repeat rw [List.length_cons]);(repeat rw [List.length_nil]);omega) | (simp only [List.length_append,List.length_cons,List.length_nil];omega),?_⟩
   refine wb.eq rfl ?_
   refine⟨by show List.length _+List.length _≤9223372036854775807;first | ((try dsimp only);(repeat rw [List.length_append]);(repeat rw [List.length_cons]);(repeat rw [List.length_nil]);omega) | (simp only [List.length_append,List.length_cons,List.length_nil];omega),?_⟩
   exact qAF _ rfl rfl (qFb e.symm)
  | disj a b l m k ha hb=>
   have ia:=qBa d a l m ha
   have ib:=qBa d b m k hb
   have wa:=qFO a 1 ia.1 (by omega) (hd a l m ha (by omega))
   have wb:=qFO b 2 ib.1 (by omega) (hd b m k hb (by omega))
   have la:=qBe false (qAv (k:=1) ia.1).1
   have lb:=qBe false (qAv (k:=2) ib.1).1
   have ta:=(qAv (k:=1) ia.1).2
   have tb:=(qAv (k:=2) ib.1).2
   have e:=qJF tOr (qDX 1 a) (qDX 2 b)
   rw [← qCX a b] at e
   generalize spW false (qAj (.mk _ 0 0 0 rf0 [] [a,b]))=R at e ⊢
   generalize spW false (qAV 1 a)=x at wa la e
   generalize spW false (qAV 2 b)=y at wb lb e
   have la:x.length≤20000:=by have:=ia.2;omega
   have lb:y.length≤20000:=by have:=ib.2;omega
   clear hd h ha hb ia ib ta tb
   obtain⟨ao,an,ar,av,af,at',aa⟩:=a
   obtain⟨bo,bn,br,bv,bf,bt,ba⟩:=b
   refine qAB Tryz.func130 rfl rfl rfl ?_
   refine And.intro (fun _=>?_) (fun h=>absurd rfl h)
   refine VDraw.seq rfl ?_
   refine⟨_,⟨by decide,_,rfl,rfl⟩,?_⟩
   refine⟨_,⟨by decide,_,rfl,rfl⟩,?_⟩
   refine wa.eq rfl ?_
   refine⟨sk,?_⟩
   refine⟨by show List.length _+List.length _≤9223372036854775807;first | ((try dsimp only);(repeat rw [List.length_append]);(repeat rw [List.length_cons]);(repeat rw [List.length_nil]);omega) | (simp only [List.length_append,List.length_cons,List.length_nil];omega),?_⟩
   refine wb.eq rfl ?_
   refine⟨by show List.length _+List.length _≤9223372036854775807;first | ((try dsimp only);(repeat rw [List.length_append]);(repeat rw [List.length_cons]);(repeat rw [List.length_nil]);omega) | (simp only [List.length_append,List.length_cons,List.length_nil];omega),?_⟩
   exact qAF _ rfl rfl (qFb e.symm)
  | neg a l k ha=>
   have ia:=qBa d a l k ha
   have wa:=qFO a 3 ia.1 (by omega) (hd a l k ha (by omega))
   have la:=qBe false (qAv (k:=3) ia.1).1
   have ta:=(qAv (k:=3) ia.1).2
   have e:spW false (qAj (.mk 7 0 0 0 rf0 [] [a]))=[110,111,116,32]++spW false (qAV 3 a):=by
    rw [qC5]
    show []++(qGq++spW true (qAV 3 a))=_
    rw [qGc (qDX 3 a)];simp
   generalize spW false (qAj (.mk 7 0 0 0 rf0 [] [a]))=R at e ⊢
   generalize spW false (qAV 3 a)=x at wa la e
   have la:x.length≤20000:=by have:=ia.2;omega
   clear hd h ha ia ta
   obtain⟨ao,an,ar,av,af,at',aa⟩:=a
   refine qAB Tryz.func130 rfl rfl rfl ?_
   refine And.intro (fun h=>absurd (show(7:Int)=9 from h) (by decide)) (fun _=>?_)
   refine And.intro (fun h=>absurd (show(7:Int)=8 from h) (by decide)) (fun _=>?_)
   refine And.intro (fun _=>?_) (fun h=>absurd rfl h)
   refine⟨_,⟨by decide,_,rfl,rfl⟩,?_⟩
   refine wa.eq rfl ?_
   refine⟨by show List.length _+List.length _≤9223372036854775807;first | ((try dsimp only);(repeat rw [List.length_append]);(repeat rw [List.length_cons]);(repeat rw [List.length_nil]);omega) | (simp only [List.length_append,List.length_cons,List.length_nil];omega),?_⟩
   exact qAF _ rfl rfl (qFb e.symm)
  | leaf op n rel val r st l h7 h8 h9 hb=>
   obtain⟨f1,f2,f3,f4⟩:=qFE hb
   have hR:=qJ3 r f1
   have lR:=qBe false (qBx f1).1
   have lR2:=(qBx f1).2
   have lN:=qCl (t:=r.name) (by rw [qBk,Bool.and_eq_true] at f1;exact f1.1)
   refine qAB Tryz.func130 rfl rfl rfl ?_
   refine And.intro (fun h=>absurd h h9) (fun _=>?_)
   refine And.intro (fun h=>absurd h h8) (fun _=>?_)
   refine And.intro (fun h=>absurd h h7) (fun _=>?_)
   (first | refine qAP (fun h6=>?_) (fun h6=>?_) | refine qAQ (fun h6=>?_) (fun h6=>?_) | refine qAR (fun h6=>?_) (fun h6=>?_))
   ·have h6:op=6:=h6
    obtain⟨g1,g2,g3⟩:=f2 h6
    have d1:=qDK n
    have d2:=qDK val
    have d3:=qMo rel
    refine VDraw.seq rfl ?_
    refine⟨by show List.length _+List.length _≤9223372036854775807;first | ((try dsimp only);(repeat rw [List.length_append]);(repeat rw [List.length_cons]);(repeat rw [List.length_nil]);omega) | (simp only [List.length_append,List.length_cons,List.length_nil];omega),?_⟩
    refine⟨by show List.length _+List.length _≤9223372036854775807;first | ((try dsimp only);(repeat rw [List.length_append]);(repeat rw [List.length_cons]);(repeat rw [List.length_nil]);omega) | (simp only [List.length_append,List.length_cons,List.length_nil];omega),?_⟩
    refine(qCW val g2).eq rfl ?_
    refine⟨sk,?_⟩
    refine⟨by show List.length _+List.length _≤9223372036854775807;first | ((try dsimp only);(repeat rw [List.length_append]);(repeat rw [List.length_cons]);(repeat rw [List.length_nil]);omega) | (simp only [List.length_append,List.length_cons,List.length_nil];omega),?_⟩
    refine⟨by show List.length _+List.length _≤9223372036854775807;first | ((try dsimp only);(repeat rw [List.length_append]);(repeat rw [List.length_cons]);(repeat rw [List.length_nil]);omega) | (simp only [List.length_append,List.length_cons,List.length_nil];omega),?_⟩
    refine(qSf rel g3).eq rfl ?_
    refine⟨sk,?_⟩
    refine⟨by show List.length _+List.length _≤9223372036854775807;first | ((try dsimp only);(repeat rw [List.length_append]);(repeat rw [List.length_cons]);(repeat rw [List.length_nil]);omega) | (simp only [List.length_append,List.length_cons,List.length_nil];omega),?_⟩
    refine(qCW n g1).eq rfl ?_
    refine⟨sk,?_⟩
    refine⟨by show List.length _+List.length _≤9223372036854775807;first | ((try dsimp only);(repeat rw [List.length_append]);(repeat rw [List.length_cons]);(repeat rw [List.length_nil]);omega) | (simp only [List.length_append,List.length_cons,List.length_nil];omega),?_⟩
    refine qAF _ rfl rfl (qFb ?_)
    have hm:qBW r=[r.name,tLB,qGz,tRB]:=by
     unfold qAS at hb
     rw [if_neg (by omega),if_neg (by omega),if_pos h6] at hb
     simp only [Bool.and_eq_true,decide_eq_true_eq] at hb
     rw [qBW,qEn,if_pos hb.1.1.1.1.1.2]
    rw [qBz h7 h8 h9,qCC,if_pos h6,hm]
    simp [spW]
   have h6:¬ op=6:=h6
   (first | refine qAP (fun h5=>?_) (fun h5=>?_) | refine qAQ (fun h5=>?_) (fun h5=>?_) | refine qAR (fun h5=>?_) (fun h5=>?_))
   ·have h5:op=5:=h5
    have hS:=f3 h5
    obtain⟨s1,s2,s3⟩:=qDZ hS
    have s8:st.length≤8:=by
     simp only [qG0,Bool.and_eq_true,decide_eq_true_eq] at hS
     exact hS.1.2
    have hT:qAj (.mk op n rel val r st [])=qBW r++([tIn,tLC]++(qEv (fun n=>[qAZ n]) st++[tRC])):=by
     rw [qBz h7 h8 h9,qCC,if_neg h6,if_pos h5]
    generalize qAj (.mk op n rel val r st [])=X at hT ⊢
    refine hR.eq rfl ?_
    have hRn:qBW r ≠ []:=by simp [qBW]
    generalize qBW r=R at lR lR2 hT hRn ⊢
    refine⟨by show List.length _+List.length _≤9223372036854775807;first | ((try dsimp only);(repeat rw [List.length_append]);(repeat rw [List.length_cons]);(repeat rw [List.length_nil]);omega) | (simp only [List.length_append,List.length_cons,List.length_nil];omega),?_⟩
    have hst:1≤st.length:=List.length_pos_iff.2 s1
    refine⟨List UInt8 × Nat,fun x=>[(1, .ptr 0 0 0),(3, .p (.str x.1)),(4, .p (i64 x.2))],fun _=>⟨1,[(0,cO ((Cd.mk op n rel val r st []).cells.map .p))]⟩,fun x=>x.2≤st.length∧x.1.length≤100+10 * x.2∧x.1++spN x.2 st=spW false X,fun x=>st.length - x.2,?_,?_⟩
    ·exact⟨(spW false R++[32,105,110,32,123,32],0),⟨Nat.zero_le _,by simp only [List.length_append,List.length_cons,List.length_nil];omega,by rw [hT];exact qRX hRn s1⟩,qAC [] [] [] rfl (sk) (sk) rfl⟩
    rintro⟨s,k⟩ ⟨i1,i2,i3⟩
    simp only [] at i1 i2 i3
    (first | refine qAP (fun c1=>?_) (fun c1=>?_) | refine qAQ (fun c1=>?_) (fun c1=>?_) | refine qAR (fun c1=>?_) (fun c1=>?_))
    rotate_left
    ·have c1:¬ (k:Int)<((st.map i64).length:Nat):=c1
     rw [List.length_map] at c1
     refine⟨by show List.length _+List.length _≤9223372036854775807;first | ((try dsimp only);(repeat rw [List.length_append]);(repeat rw [List.length_cons]);(repeat rw [List.length_nil]);omega) | (simp only [List.length_append,List.length_cons,List.length_nil];omega),?_⟩
     exact qAF _ rfl rfl (qFb (by rw [← i3,spN,if_neg (by omega),List.drop_eq_nil_of_le (by omega)];rfl))
    have c1:(k:Int)<((st.map i64).length:Nat):=c1
    rw [List.length_map] at c1
    have hk:k<st.length:=by omega
    have dk:=qDK (st.getD k 0)
    have hN:=qCW (st.getD k 0) (s2 _ (qAK 0 hk))
    have hsp:=qRY hk
    (first | refine qAP (fun c2=>?_) (fun c2=>?_) | refine qAQ (fun c2=>?_) (fun c2=>?_) | refine qAR (fun c2=>?_) (fun c2=>?_))
    ·have c2:(0:Int)<(k:Nat):=c2
     refine⟨by show List.length _+List.length _≤9223372036854775807;first | ((try dsimp only);(repeat rw [List.length_append]);(repeat rw [List.length_cons]);(repeat rw [List.length_nil]);omega) | (simp only [List.length_append,List.length_cons,List.length_nil];omega),?_⟩
     refine⟨_,⟨by omega,i64 (st.getD k 0),qED hk,rfl⟩,?_⟩
     refine hN.eq rfl ?_
     refine⟨by show List.length _+List.length _≤9223372036854775807;first | ((try dsimp only);(repeat rw [List.length_append]);(repeat rw [List.length_cons]);(repeat rw [List.length_nil]);omega) | (simp only [List.length_append,List.length_cons,List.length_nil];omega),?_⟩
     refine⟨_,w6z,?_⟩
     exact⟨((s++[32,44,32])++qAZ (st.getD k 0),k+1),⟨hk,by simp only [List.length_append,List.length_cons,List.length_nil];omega,by rw [← i3,hsp,if_pos (by omega)];simp⟩,qAC [] [] [] rfl (sk) (sk) rfl,by show st.length - (k+1)<st.length - k;omega⟩
    ·have c2:¬ (0:Int)<(k:Nat):=c2
     refine⟨_,⟨by omega,i64 (st.getD k 0),qED hk,rfl⟩,?_⟩
     refine hN.eq rfl ?_
     refine⟨by show List.length _+List.length _≤9223372036854775807;first | ((try dsimp only);(repeat rw [List.length_append]);(repeat rw [List.length_cons]);(repeat rw [List.length_nil]);omega) | (simp only [List.length_append,List.length_cons,List.length_nil];omega),?_⟩
     refine⟨_,w6z,?_⟩
     exact⟨(s++qAZ (st.getD k 0),k+1),⟨hk,by simp only [List.length_append];omega,by rw [← i3,hsp,if_neg (by omega)];simp⟩,qAC [] [] [] rfl (sk) (sk) rfl,by show st.length - (k+1)<st.length - k;omega⟩
   have h5:¬ op=5:=h5
   obtain⟨g1,g2⟩:=f4 h5 h6
   have d1:=qDK n
   have d3:=qMo op
   refine VDraw.seq rfl ?_
   refine hR.eq rfl ?_
   refine⟨sk,?_⟩
   refine(qSf op g2).eq rfl ?_
   refine⟨sk,?_⟩
   refine⟨by show List.length _+List.length _≤9223372036854775807;first | ((try dsimp only);(repeat rw [List.length_append]);(repeat rw [List.length_cons]);(repeat rw [List.length_nil]);omega) | (simp only [List.length_append,List.length_cons,List.length_nil];omega),?_⟩
   refine(qCW n g1).eq rfl ?_
   refine⟨by show List.length _+List.length _≤9223372036854775807;first | ((try dsimp only);(repeat rw [List.length_append]);(repeat rw [List.length_cons]);(repeat rw [List.length_nil]);omega) | (simp only [List.length_append,List.length_cons,List.length_nil];omega),?_⟩
   refine qAF _ rfl rfl (qFb ?_)
   rw [qBz h7 h8 h9,qCC,if_neg h6,if_neg h5,qO8 (by simp [qBW])]
   simp [spW]
def qTU (l:List Rf):List UInt8:=l.flatMap fun r=>[32,44,32]++spW false (qBW r)
def spF (k:Nat) (l:List Rf):List UInt8:=if k=0 then spW false (qEv qBW l) else qTU (l.drop k)
theorem qPX (r:Rf):qBW r ≠ []:=by simp [qBW]
theorem qMe:∀ l:List Rf,spW true (l.flatMap fun b=>qAt::qBW b)=qTU l
 | []=>rfl
 | r::l=>by
  have ih:=qMe l
  rw [List.flatMap_cons,qDQ,ih]
  show [32]++(qAt++spW true (qBW r))++qTU l=_
  rw [qGc (qPX r)]
  simp [qTU]
theorem qW6 {l:List Rf} {k:Nat} (h:k<l.length):l.drop k=l.getD k rf0::l.drop (k+1):=by
 rw [List.getD_eq_getElem?_getD,List.getElem?_eq_getElem h];exact List.drop_eq_getElem_cons h
theorem qRZ {l:List Rf} {k:Nat} (h:k<l.length):spF k l=(if 0<k then [32,44,32] else [])++(spW false (qBW (l.getD k rf0))++spF (k+1) l):=by
 have e:spF (k+1) l=qTU (l.drop (k+1)):=if_neg (by omega)
 rw [e]
 by_cases c:k=0
 ·subst c
  rw [spF,if_pos rfl]
  cases l with
  | nil=>simp at h
  | cons r l=>
   rw [qEv,qO8 (qPX r),qMe]
   rfl
 ·rw [spF,if_neg c,if_pos (by omega),qW6 h]
  simp [qTU]
theorem qVh (l:List Rf) (hv:∀ r∈l,qBk r=true) (h8:l.length≤8):Pure cx 86 [qBu l] (·=.ret [.str (spW false (qEv qBW l))]):=by
 have hF:=(qFY (f:=qBW) (b:=6) (l:=l) fun a ha=>qBx (hv a ha))
 have hF1:=qBe false hF.1
 have hF2:=hF.2
 have hm:(l.map Rf.cells).length=l.length:=List.length_map ..
 have h0:spF 0 l=spW false (qEv qBW l):=rfl
 generalize spW false (qEv qBW l)=F at hF1 h0 ⊢
 refine qAB Tryz.func86 rfl rfl rfl ?_
 refine⟨List UInt8 × Nat,fun x=>[(0, .p (qBu l)),(3, .p (.str x.1)),(4, .p (i64 x.2))],fun _=>⟨0,[]⟩,fun x=>x.2≤l.length∧x.1++spF x.2 l=F,fun x=>l.length - x.2,?_,?_⟩
 ·exact⟨([],0),⟨Nat.zero_le _,h0⟩,qB1 rfl ⟨rfl,rfl,rfl,trivial⟩ trivial rfl⟩
 rintro⟨s,k⟩ ⟨k1,k2⟩
 simp only [] at k1 k2
 have hs:s.length≤F.length:=by rw [← k2,List.length_append];omega
 (first | refine qAP (fun m1=>?_) (fun m1=>?_) | refine qAQ (fun m1=>?_) (fun m1=>?_) | refine qAR (fun m1=>?_) (fun m1=>?_))
 rotate_left
 ·have m1:¬ (k:Int)<((l.map Rf.cells).length:Nat):=m1
  rw [hm] at m1
  refine qAF _ rfl rfl (qFb ?_)
  rw [← k2]
  unfold spF
  split
  ·rename_i e
   have:l=[]:=List.length_eq_zero_iff.1 (by omega)
   rw [this];simp [qEv,spW]
  ·rw [List.drop_eq_nil_of_le (by omega)];simp [qTU]
 have m1:(k:Int)<((l.map Rf.cells).length:Nat):=m1
 rw [hm] at m1
 have hk:k<l.length:=by omega
 have hr:=hv _ (qAK rf0 hk)
 have hW:=qJ3 (l.getD k rf0) hr
 have hWl:=qBe false (qBx hr).1
 have hWl2:=(qBx hr).2
 have hsp:=qRZ hk
 (first | refine qAP (fun m2=>?_) (fun m2=>?_) | refine qAQ (fun m2=>?_) (fun m2=>?_) | refine qAR (fun m2=>?_) (fun m2=>?_))
 ·have m2:(0:Int)<(k:Nat):=m2
  rw [if_pos (by omega)] at hsp
  refine⟨by show List.length _+List.length _≤9223372036854775807;(try dsimp only);(repeat rw [List.length_append]);(repeat rw [List.length_cons]);(repeat rw [List.length_nil]);omega,?_⟩
  refine⟨_,⟨by omega,(l.getD k rf0).cells,qJP hk,rfl⟩,?_⟩
  refine hW.eq rfl ?_
  refine⟨by show List.length _+List.length _≤9223372036854775807;(try dsimp only);(repeat rw [List.length_append]);(repeat rw [List.length_cons]);(repeat rw [List.length_nil]);omega,?_⟩
  refine⟨_,w6z,?_⟩
  exact⟨(_,k+1),⟨hk,by rw [← k2,hsp];simp⟩,qB1 rfl ⟨rfl,rfl,rfl,trivial⟩ trivial rfl,by show l.length - (k+1)<l.length - k;omega⟩
 ·have m2:¬ (0:Int)<(k:Nat):=m2
  rw [if_neg (by omega)] at hsp
  refine⟨_,⟨by omega,(l.getD k rf0).cells,qJP hk,rfl⟩,?_⟩
  refine hW.eq rfl ?_
  refine⟨by show List.length _+List.length _≤9223372036854775807;(try dsimp only);(repeat rw [List.length_append]);(repeat rw [List.length_cons]);(repeat rw [List.length_nil]);omega,?_⟩
  refine⟨_,w6z,?_⟩
  exact⟨(_,k+1),⟨hk,by rw [← k2,hsp];simp⟩,qB1 rfl ⟨rfl,rfl,rfl,trivial⟩ trivial rfl,by show l.length - (k+1)<l.length - k;omega⟩
theorem qT8 (n:Int):qGM n ≠ []:=by
 unfold qGM
 split <;> simp
theorem qIY (n:Int) (l:List Int):spW true (qB5 (n::l))=32::(spW false (qGM n)++spW true (qB5 l)):=by
 show spW true (List.flatMap qGM (n::l))=_
 rw [List.flatMap_cons,qDQ,qGc (qT8 n)];rfl
theorem qUM {l:List Cs} {k:Nat} (h:k<l.length):l.drop k=l.getD k cs0::l.drop (k+1):=by
 rw [List.getD_eq_getElem?_getD,List.getElem?_eq_getElem h];exact List.drop_eq_getElem_cons h
def qGB (l:List Cs) (i:Nat):List UInt8:=spW true (qBb (l.drop i)++[tRC])
theorem qN1 {l:List Cs} {i:Nat} {c:Cd} {ns:List Int} (h:i+1=l.length) (hx:l.getD i cs0=⟨c,ns⟩):qGB l i=[32,101,108,115,101,32,58]++(spW true (qB5 ns)++qGB l (i+1)):=by
 rw [qGB,qGB,qUM (by omega),hx,List.drop_eq_nil_of_le (show l.length≤i+1 by omega)]
 show spW true ((qCI::qAo::qB5 ns)++[tRC])=_++(_++spW true [tRC])
 rw [show(qCI::qAo::qB5 ns)++[tRC]=[qCI,qAo]++(qB5 ns++[tRC]) by simp,qDQ,qDQ]
 simp [spW]
theorem qN0 {l:List Cs} {i:Nat} {c:Cd} {ns:List Int} (h:i+1<l.length) (hx:l.getD i cs0=⟨c,ns⟩):qGB l i=32::(spW false (qAj c)++([32,58]++(spW true (qB5 ns)++([32,59]++qGB l (i+1))))):=by
 obtain⟨d,r,hd⟩:∃ d r,l.drop (i+1)=d::r:=⟨_,_,qUM h⟩
 rw [qGB,qGB,qUM (by omega),hx,hd]
 show spW true ((qAj c++(qAo::(qB5 ns++(qAX::qBb (d::r)))))++[tRC])=_
 rw [show(qAj c++(qAo::(qB5 ns++(qAX::qBb (d::r)))))++[tRC]=qAj c++([qAo]++(qB5 ns++([qAX]++(qBb (d::r)++[tRC])))) by simp,qDQ,qDQ,qDQ,qDQ,qGc (qJr c)]
 simp [spW]
theorem qPL (l:List Cs) (hv:qBP l=true):Pure cx 87 [css l] (·=.ret [.str (spW false (qA4 l))]):=by
 have hF:=qEH hv
 have hF1:=qBe false hF.1
 have hF2:=hF.2
 have h0:[123]++qGB l 0=spW false (qA4 l):=by rw [qA4];rfl
 generalize spW false (qA4 l)=F at hF1 h0 ⊢
 have hm:(l.map Cs.cells).length=l.length:=List.length_map ..
 simp only [qBP,Bool.and_eq_true,decide_eq_true_eq] at hv
 obtain⟨⟨v1,v2⟩,v3⟩:=hv
 refine qAB Tryz.func87 rfl rfl rfl ?_
 refine⟨List UInt8 × Nat,fun x=>[(0, .p (css l)),(3, .p (.str x.1)),(4, .p (i64 x.2))],fun _=>⟨0,[]⟩,fun x=>x.2≤l.length∧qB2 (l.drop x.2)=true∧x.1++qGB l x.2=F,fun x=>l.length - x.2,?_,?_⟩
 ·exact⟨(_,0),⟨Nat.zero_le _,v3,h0⟩,qB1 rfl ⟨rfl,rfl,rfl,trivial⟩ trivial rfl⟩
 clear h0
 rintro⟨s0,i⟩ ⟨i0,i2,i3⟩
 simp only [] at i0 i2 i3
 have hs0:s0.length≤F.length:=by rw [← i3,List.length_append];omega
 (first | refine qAP (fun j1=>?_) (fun j1=>?_) | refine qAQ (fun j1=>?_) (fun j1=>?_) | refine qAR (fun j1=>?_) (fun j1=>?_))
 rotate_left
 ·have j1:¬ (i:Int)<((l.map Cs.cells).length:Nat):=j1
  rw [hm] at j1
  refine⟨by show List.length _+List.length _≤9223372036854775807;(try dsimp only);(repeat rw [List.length_append]);(repeat rw [List.length_cons]);(repeat rw [List.length_nil]);omega,?_⟩
  refine qAF _ rfl rfl (qFb ?_)
  rw [← i3,qGB,List.drop_eq_nil_of_le (by omega)]
  rfl
 have j1:(i:Int)<((l.map Cs.cells).length:Nat):=j1
 rw [hm] at j1
 have i1:i<l.length:=by omega
 have hcell:=qNz i1
 have hstep:=fun h=>qDy (l:=l) (i:=i) h
 have hlast:=fun h=>qDz (l:=l) (i:=i) h
 rcases hx:l.getD i cs0 with ⟨⟨op,n,rel,val,r,st,ar⟩,nums⟩
 rw [hx] at hcell hstep hlast
 simp only [] at hstep hlast
 have hnm:(nums.map i64).length=nums.length:=List.length_map ..
 have hnums:qCU nums=true:=by
  rcases Nat.lt_or_ge (i+1) l.length with h3 | h3
  ·rw [hstep h3] at i2
   simp only [Bool.and_eq_true] at i2
   exact i2.1.1
  ·rw [hlast (by omega)] at i2
   simp only [Bool.and_eq_true] at i2
   exact i2.1
 obtain⟨_,_,hwt⟩:=qGG hnums
 refine⟨((l.length - 1:Nat):Int),by show _=IntKind.i64.wrap (((l.map Cs.cells).length:Int) - 1);rw [hm,show(l.length:Int) - 1=((l.length - 1:Nat):Int) by omega];exact w6z,?_⟩
 (first | refine qAP (fun m4=>?_) (fun m4=>?_) | refine qAQ (fun m4=>?_) (fun m4=>?_) | refine qAR (fun m4=>?_) (fun m4=>?_))
 ·have m4:(i:Int)=((l.length - 1:Nat):Int):=m4
  have hR:=qN1 (by omega) hx
  obtain⟨T,hT⟩:∃ T,T=qGB l (i+1):=⟨_,rfl⟩
  rw [← hT] at hR
  refine⟨by show List.length _+List.length _≤9223372036854775807;(try dsimp only);(repeat rw [List.length_append]);(repeat rw [List.length_cons]);(repeat rw [List.length_nil]);omega,?_⟩
  refine⟨List UInt8 × Nat,fun y=>[(0, .p (css l)),(3, .p (.str y.1)),(4, .p (i64 i)),(5, .p (i64 y.2))],fun _=>⟨0,[]⟩,fun y=>y.2≤nums.length∧y.1++(spW true (qB5 (nums.drop y.2))++T)=F,fun y=>nums.length - y.2,?_,?_⟩
  ·exact⟨(_,0),⟨Nat.zero_le _,(by rw [← i3,hR];simp)⟩,qB1 rfl ⟨rfl,rfl,rfl,rfl,trivial⟩ trivial rfl⟩
  rintro⟨s,k⟩ ⟨k1,k2⟩
  simp only [] at k1 k2
  have hs:s.length≤F.length:=by rw [← k2,List.length_append];omega
  refine⟨_,⟨by omega,(⟨.mk op n rel val r st ar,nums⟩:Cs).cells,hcell,rfl⟩,?_⟩
  (first | refine qAP (fun m1=>?_) (fun m1=>?_) | refine qAQ (fun m1=>?_) (fun m1=>?_) | refine qAR (fun m1=>?_) (fun m1=>?_))
  ·have m1:(k:Int)<((nums.map i64).length:Nat):=m1
   rw [hnm] at m1
   have hk:k<nums.length:=by omega
   have hw:=hwt _ (qAK 0 hk)
   have hWl:=qBe false (qFm hw).1
   have hWl2:=(qFm hw).2
   refine⟨by show List.length _+List.length _≤9223372036854775807;(try dsimp only);(repeat rw [List.length_append]);(repeat rw [List.length_cons]);(repeat rw [List.length_nil]);omega,?_⟩
   refine⟨_,⟨by omega,(⟨.mk op n rel val r st ar,nums⟩:Cs).cells,hcell,rfl⟩,?_⟩
   refine⟨_,⟨by omega,i64 (nums.getD k 0),qED hk,rfl⟩,?_⟩
   refine(qHj _ hw).eq rfl ?_
   refine⟨by show List.length _+List.length _≤9223372036854775807;(try dsimp only);(repeat rw [List.length_append]);(repeat rw [List.length_cons]);(repeat rw [List.length_nil]);omega,?_⟩
   refine⟨_,w6z,?_⟩
   exact⟨(_,k+1),⟨hk,by rw [← k2,qUL hk,qIY];simp⟩,qB1 rfl ⟨rfl,rfl,rfl,rfl,trivial⟩ trivial rfl,by show nums.length - (k+1)<nums.length - k;omega⟩
  have m1:¬ (k:Int)<((nums.map i64).length:Nat):=m1
  rw [hnm] at m1
  rw [List.drop_eq_nil_of_le (by omega)] at k2
  have k2:s++T=F:=k2
  refine⟨((l.length - 1:Nat):Int),by show _=IntKind.i64.wrap (((l.map Cs.cells).length:Int) - 1);rw [hm,show(l.length:Int) - 1=((l.length - 1:Nat):Int) by omega];exact w6z,?_⟩
  skip
  refine And.intro (fun h=>absurd (show(i:Int)<((l.length - 1:Nat):Int) from h) (by omega)) (fun _=>?_)
  refine⟨_,w6z,?_⟩
  exact⟨(s,i+1),⟨by omega,by rw [List.drop_eq_nil_of_le (by omega)];rfl,by rw [← hT];exact k2⟩,qB1 rfl ⟨rfl,rfl,rfl,trivial⟩ trivial rfl,by show l.length - (i+1)<l.length - i;omega⟩
 have m4:¬ (i:Int)=((l.length - 1:Nat):Int):=m4
 have hR:=qN0 (by omega) hx
 obtain⟨T,hT⟩:∃ T,T=qGB l (i+1):=⟨_,rfl⟩
 rw [← hT] at hR
 rw [hstep (by omega)] at i2
 simp only [Bool.and_eq_true] at i2
 obtain⟨⟨_,i4⟩,i5⟩:=i2
 obtain⟨kk,hk8⟩:=Option.isSome_iff_exists.1 i4
 have hW:=qMO 8 (.mk op n rel val r st ar) 30 kk hk8 (by omega)
 have hct:=qBa 8 (.mk op n rel val r st ar) 30 kk hk8
 have hcl:=qBe false hct.1
 have hcl2:=hct.2
 generalize spW false (qAj (.mk op n rel val r st ar))=X at hW hcl hR
 refine⟨by show List.length _+List.length _≤9223372036854775807;(try dsimp only);(repeat rw [List.length_append]);(repeat rw [List.length_cons]);(repeat rw [List.length_nil]);omega,?_⟩
 refine⟨_,⟨by omega,(⟨.mk op n rel val r st ar,nums⟩:Cs).cells,hcell,rfl⟩,?_⟩
 refine hW.eq rfl ?_
 refine⟨by show List.length _+List.length _≤9223372036854775807;(try dsimp only);(repeat rw [List.length_append]);(repeat rw [List.length_cons]);(repeat rw [List.length_nil]);omega,?_⟩
 refine⟨by show List.length _+List.length _≤9223372036854775807;(try dsimp only);(repeat rw [List.length_append]);(repeat rw [List.length_cons]);(repeat rw [List.length_nil]);omega,?_⟩
 refine⟨List UInt8 × Nat,fun y=>[(0, .p (css l)),(3, .p (.str y.1)),(4, .p (i64 i)),(5, .p (i64 y.2))],fun _=>⟨0,[]⟩,fun y=>y.2≤nums.length∧y.1++(spW true (qB5 (nums.drop y.2))++([32,59]++T))=F,fun y=>nums.length - y.2,?_,?_⟩
 ·exact⟨(_,0),⟨Nat.zero_le _,(by rw [← i3,hR];simp)⟩,qB1 rfl ⟨rfl,rfl,rfl,rfl,trivial⟩ trivial rfl⟩
 rintro⟨s,k⟩ ⟨k1,k2⟩
 simp only [] at k1 k2
 have hs:s.length≤F.length:=by rw [← k2,List.length_append];omega
 refine⟨_,⟨by omega,(⟨.mk op n rel val r st ar,nums⟩:Cs).cells,hcell,rfl⟩,?_⟩
 (first | refine qAP (fun m1=>?_) (fun m1=>?_) | refine qAQ (fun m1=>?_) (fun m1=>?_) | refine qAR (fun m1=>?_) (fun m1=>?_))
 ·have m1:(k:Int)<((nums.map i64).length:Nat):=m1
  rw [hnm] at m1
  have hk:k<nums.length:=by omega
  have hw:=hwt _ (qAK 0 hk)
  have hWl:=qBe false (qFm hw).1
  have hWl2:=(qFm hw).2
  refine⟨by show List.length _+List.length _≤9223372036854775807;(try dsimp only);(repeat rw [List.length_append]);(repeat rw [List.length_cons]);(repeat rw [List.length_nil]);omega,?_⟩
  refine⟨_,⟨by omega,(⟨.mk op n rel val r st ar,nums⟩:Cs).cells,hcell,rfl⟩,?_⟩
  refine⟨_,⟨by omega,i64 (nums.getD k 0),qED hk,rfl⟩,?_⟩
  refine(qHj _ hw).eq rfl ?_
  refine⟨by show List.length _+List.length _≤9223372036854775807;(try dsimp only);(repeat rw [List.length_append]);(repeat rw [List.length_cons]);(repeat rw [List.length_nil]);omega,?_⟩
  refine⟨_,w6z,?_⟩
  exact⟨(_,k+1),⟨hk,by rw [← k2,qUL hk,qIY];simp⟩,qB1 rfl ⟨rfl,rfl,rfl,rfl,trivial⟩ trivial rfl,by show nums.length - (k+1)<nums.length - k;omega⟩
 have m1:¬ (k:Int)<((nums.map i64).length:Nat):=m1
 rw [hnm] at m1
 rw [List.drop_eq_nil_of_le (by omega)] at k2
 have k2:s++([32,59]++T)=F:=k2
 refine⟨((l.length - 1:Nat):Int),by show _=IntKind.i64.wrap (((l.map Cs.cells).length:Int) - 1);rw [hm,show(l.length:Int) - 1=((l.length - 1:Nat):Int) by omega];exact w6z,?_⟩
 skip
 refine And.intro (fun _=>?_) (fun h=>absurd (show(i:Int)<((l.length - 1:Nat):Int) by omega) h)
 refine⟨by show List.length _+List.length _≤9223372036854775807;(try dsimp only);(repeat rw [List.length_append]);(repeat rw [List.length_cons]);(repeat rw [List.length_nil]);omega,?_⟩
 refine⟨_,w6z,?_⟩
 exact⟨(s++[32,59],i+1),⟨by omega,i5,by rw [← hT,List.append_assoc];exact k2⟩,qB1 rfl ⟨rfl,rfl,rfl,trivial⟩ trivial rfl,by show l.length - (i+1)<l.length - i;omega⟩
theorem qJE {H:qBT} (h:H ≠ []):spW false H++[32,59,10]=spW false (H++[qAX])++[10]:=by
 rw [qO8 h];simp [spW]
theorem qMc {S:List UInt8} {H:qBT} {key:List UInt8} {rs:List Rf} (h:H ≠ []) (hS:S=spW false H) (hr:rs ≠ []):(S++(32::(key++[32])))++spW false (qEv qBW rs)=spW false (H++qAd key rs):=by
 have hs:qEv qBW rs ≠ []:=by
  cases rs with
  | nil=>exact absurd rfl hr
  | cons r rs=>rw [qEv];simp [qBW]
 rw [hS,qAd,if_neg hr,qJF key h hs]
theorem qRe (l:List Cs):qA4 l ≠ []:=by simp [qA4]
theorem qMb {S:List UInt8} {H:qBT} {cs:List Cs} (h:H ≠ []) (hS:S=spW false H):(S++[32,61,32])++spW false (qA4 cs)=spW false (H++tEq::qA4 cs):=by
 rw [hS,qJF tEq h (qRe cs)];rfl
theorem qKv {α:Type} {a b:List α} (h:a ≠ []):a++b ≠ []:=by
 cases a with
 | nil=>exact absurd rfl h
 | cons x a=>simp
theorem qLh {S:List UInt8} {H:qBT} {key:List UInt8} {rs:List Rf} {cs:List Cs} (h:H ≠ []) (hS:S=spW false H) (hr:rs ≠ []):((((S++(32::(key++[32])))++spW false (qEv qBW rs))++[32,61,32])++spW false (qA4 cs))++[32,59,10]=spW false ((H++(qAd key rs++tEq::qA4 cs))++[qAX])++[10]:=by
 rw [qMc h hS hr,qMb (qKv h) rfl,qJE (qKv (qKv h)),List.append_assoc H]
theorem qQA {S:List UInt8} {H:qBT} {key:List UInt8} {cs:List Cs} (h:H ≠ []) (hS:S=spW false H):((S++[32,61,32])++spW false (qA4 cs))++[32,59,10]=spW false ((H++(qAd key []++tEq::qA4 cs))++[qAX])++[10]:=by
 rw [qMb h hS,qJE (qKv h)];rfl
theorem qVi {S:List UInt8} {H:qBT} {key:List UInt8} {rs:List Rf} (h:H ≠ []) (hS:S=spW false H) (hr:rs ≠ []):((S++(32::(key++[32])))++spW false (qEv qBW rs))++[32,59,10]=spW false ((H++qAd key rs)++[qAX])++[10]:=by
 rw [qMc h hS hr,qJE (qKv h)]
theorem qQB {S:List UInt8} {H:qBT} (h:H ≠ []) (hS:S=spW false H):S++[32,59,10]=spW false (H++[qAX])++[10]:=by
 rw [hS,qJE h]
theorem qTZ (d:De) (hv:qBj d=true):Pure cx 53 [d.pv] (·=.ret [.str (qGu d)]):=by
 obtain⟨k,n,nm,pl,rs,cs⟩:=d
 simp only [qBj,Bool.and_eq_true,decide_eq_true_eq,List.all_eq_true] at hv
 obtain⟨⟨⟨v1,v2⟩,v3⟩,v4⟩:=hv
 have hN:=qCW n v1
 have hNl:=qDK n
 have hL:=qVh rs v3 v2
 have hLt:=(qFY (f:=qBW) (b:=6) (l:=rs) fun a ha=>qBx (v3 a ha))
 have hLl:=qBe false hLt.1
 have hLl2:=hLt.2
 unfold qAx at v4
 simp only [] at v4
 by_cases c1:k=1
 ·subst c1
  simp only [if_true,Bool.and_eq_true,decide_eq_true_eq] at v4
  obtain⟨⟨⟨rfl,rfl⟩,v5⟩,v6⟩:=v4
  have:=List.length_eq_zero_iff.1 v5
  have:=List.length_eq_zero_iff.1 v6
  subst rs cs
  refine qAB Tryz.func53 rfl rfl rfl ?_
  refine And.intro (fun _=>?_) (fun h=>absurd rfl h)
  refine hN.eq rfl ?_
  refine⟨by show List.length _+List.length _≤9223372036854775807;first | omega | (simp only [List.length_cons,List.length_nil];omega) | (simp only [List.length_append,List.length_cons,List.length_nil];omega),?_⟩
  refine And.intro (fun h=>absurd (show(0:Int)<((([]:List Rf).map Rf.cells).length:Nat) from h) (by decide)) (fun _=>?_)
  refine And.intro (fun h=>absurd (show(0:Int)<((([]:List Cs).map Cs.cells).length:Nat) from h) (by decide)) (fun _=>?_)
  refine⟨by show List.length _+List.length _≤9223372036854775807;first | omega | (simp only [List.length_cons,List.length_nil];omega) | (simp only [List.length_append,List.length_cons,List.length_nil];omega),?_⟩
  refine qAF _ rfl rfl (qFb ?_)
  exact qQB (H:=[qCL,qAZ n]) (by simp) (by simp [spW])
 rw [if_neg c1] at v4
 by_cases c2:k=2
 ·subst c2
  simp only [if_true,Bool.and_eq_true,decide_eq_true_eq] at v4
  obtain⟨⟨⟨v0,rfl⟩,v5⟩,v6⟩:=v4
  have:=List.length_eq_zero_iff.1 v5
  have:=List.length_eq_zero_iff.1 v6
  subst rs cs
  have hnl:=qCl v0
  refine qAB Tryz.func53 rfl rfl rfl ?_
  refine And.intro (fun h=>absurd (show(2:Int)=1 from h) (by decide)) (fun _=>?_)
  refine And.intro (fun _=>?_) (fun h=>absurd rfl h)
  refine VDraw.seq rfl ?_
  refine⟨by show List.length _+List.length _≤9223372036854775807;first | omega | (simp only [List.length_cons,List.length_nil];omega) | (simp only [List.length_append,List.length_cons,List.length_nil];omega),?_⟩
  refine⟨by show List.length _+List.length _≤9223372036854775807;first | omega | (simp only [List.length_cons,List.length_nil];omega) | (simp only [List.length_append,List.length_cons,List.length_nil];omega),?_⟩
  refine hN.eq rfl ?_
  refine⟨sk,?_⟩
  refine⟨by show List.length _+List.length _≤9223372036854775807;first | omega | (simp only [List.length_cons,List.length_nil];omega) | (simp only [List.length_append,List.length_cons,List.length_nil];omega),?_⟩
  refine And.intro (fun h=>absurd (show(0:Int)<((([]:List Rf).map Rf.cells).length:Nat) from h) (by decide)) (fun _=>?_)
  refine And.intro (fun h=>absurd (show(0:Int)<((([]:List Cs).map Cs.cells).length:Nat) from h) (by decide)) (fun _=>?_)
  refine⟨by show List.length _+List.length _≤9223372036854775807;first | omega | (simp only [List.length_cons,List.length_nil];omega) | (simp only [List.length_append,List.length_cons,List.length_nil];omega),?_⟩
  refine qAF _ rfl rfl (qFb ?_)
  exact qQB (H:=[qCK,nm,tEq,qAZ n]) (by simp) (by simp [spW])
 rw [if_neg c2] at v4
 by_cases c3:k=3
 ·subst c3
  simp only [if_true,Bool.and_eq_true,Bool.or_eq_true,decide_eq_true_eq] at v4
  obtain⟨⟨v0,v5⟩,v6⟩:=v4
  have hnl:=qCl v0
  have hC:=qPL cs v6
  have hCt:=qEH v6
  have hCl:=qBe false hCt.1
  have hCl2:=hCt.2
  have hcs:1≤cs.length:=by
   simp only [qBP,Bool.and_eq_true,decide_eq_true_eq] at v6
   exact v6.1.1
  refine qAB Tryz.func53 rfl rfl rfl ?_
  refine And.intro (fun h=>absurd (show(3:Int)=1 from h) (by decide)) (fun _=>?_)
  refine And.intro (fun h=>absurd (show(3:Int)=2 from h) (by decide)) (fun _=>?_)
  refine And.intro (fun _=>?_) (fun h=>absurd rfl h)
  refine⟨by show List.length _+List.length _≤9223372036854775807;first | omega | (simp only [List.length_cons,List.length_nil];omega) | (simp only [List.length_append,List.length_cons,List.length_nil];omega),?_⟩
  by_cases hp:pl=[]
  ·refine And.intro (fun _=>?_) (fun h=>absurd hp h)
   refine⟨by show List.length _+List.length _≤9223372036854775807;first | omega | (simp only [List.length_cons,List.length_nil];omega) | (simp only [List.length_append,List.length_cons,List.length_nil];omega),?_⟩
   refine hN.eq rfl ?_
   refine⟨by show List.length _+List.length _≤9223372036854775807;first | omega | (simp only [List.length_cons,List.length_nil];omega) | (simp only [List.length_append,List.length_cons,List.length_nil];omega),?_⟩
   have e:qLp ⟨3,n,nm,pl,rs,cs⟩=[qAk,nm,qAo,qAZ n]++(qAd qAg rs++tEq::qA4 cs):=by rw [hp];rfl
   rw [qGu,declT,e]
   by_cases hrs:rs=[]
   ·refine And.intro (fun h=>absurd (show(0:Int)<((rs.map Rf.cells).length:Nat) from h) (by rw [hrs];decide)) (fun _=>?_)
    refine And.intro (fun _=>?_) (fun h=>absurd (show(0:Int)<((cs.map Cs.cells).length:Nat) by rw [List.length_map];omega) h)
    refine⟨by show List.length _+List.length _≤9223372036854775807;first | omega | (simp only [List.length_cons,List.length_nil];omega) | (simp only [List.length_append,List.length_cons,List.length_nil];omega),?_⟩
    refine hC.eq rfl ?_
    refine⟨by show List.length _+List.length _≤9223372036854775807;first | omega | (simp only [List.length_cons,List.length_nil];omega) | (simp only [List.length_append,List.length_cons,List.length_nil];omega),?_⟩
    refine⟨by show List.length _+List.length _≤9223372036854775807;first | omega | (simp only [List.length_cons,List.length_nil];omega) | (simp only [List.length_append,List.length_cons,List.length_nil];omega),?_⟩
    refine qAF _ rfl rfl (qFb ?_)
    subst hrs
    refine qQA (H:=[qAk,nm,qAo,qAZ n]) (key:=qAg) (by simp) ?_
    simp [spW]
   ·refine And.intro (fun _=>?_) (fun h=>absurd (show(0:Int)<((rs.map Rf.cells).length:Nat) by rw [List.length_map];have:=List.length_pos_iff.2 hrs;omega) h)
    refine⟨by show List.length _+List.length _≤9223372036854775807;first | omega | (simp only [List.length_cons,List.length_nil];omega) | (simp only [List.length_append,List.length_cons,List.length_nil];omega),?_⟩
    refine hL.eq rfl ?_
    refine⟨by show List.length _+List.length _≤9223372036854775807;first | omega | (simp only [List.length_cons,List.length_nil];omega) | (simp only [List.length_append,List.length_cons,List.length_nil];omega),?_⟩
    refine And.intro (fun _=>?_) (fun h=>absurd (show(0:Int)<((cs.map Cs.cells).length:Nat) by rw [List.length_map];omega) h)
    refine⟨by show List.length _+List.length _≤9223372036854775807;first | omega | (simp only [List.length_cons,List.length_nil];omega) | (simp only [List.length_append,List.length_cons,List.length_nil];omega),?_⟩
    refine hC.eq rfl ?_
    refine⟨by show List.length _+List.length _≤9223372036854775807;first | omega | (simp only [List.length_cons,List.length_nil];omega) | (simp only [List.length_append,List.length_cons,List.length_nil];omega),?_⟩
    refine⟨by show List.length _+List.length _≤9223372036854775807;first | omega | (simp only [List.length_cons,List.length_nil];omega) | (simp only [List.length_append,List.length_cons,List.length_nil];omega),?_⟩
    refine qAF _ rfl rfl (qFb ?_)
    refine qLh (H:=[qAk,nm,qAo,qAZ n]) (key:=qAg) (by simp) ?_ hrs
    simp [spW]
  ·have hpl:=qCl (v5.resolve_left hp)
   refine And.intro (fun h=>absurd h hp) (fun _=>?_)
   refine⟨by show List.length _+List.length _≤9223372036854775807;first | omega | (simp only [List.length_cons,List.length_nil];omega) | (simp only [List.length_append,List.length_cons,List.length_nil];omega),?_⟩
   refine⟨by show List.length _+List.length _≤9223372036854775807;first | omega | (simp only [List.length_cons,List.length_nil];omega) | (simp only [List.length_append,List.length_cons,List.length_nil];omega),?_⟩
   refine⟨by show List.length _+List.length _≤9223372036854775807;first | omega | (simp only [List.length_cons,List.length_nil];omega) | (simp only [List.length_append,List.length_cons,List.length_nil];omega),?_⟩
   refine⟨by show List.length _+List.length _≤9223372036854775807;first | omega | (simp only [List.length_cons,List.length_nil];omega) | (simp only [List.length_append,List.length_cons,List.length_nil];omega),?_⟩
   refine hN.eq rfl ?_
   refine⟨by show List.length _+List.length _≤9223372036854775807;first | omega | (simp only [List.length_cons,List.length_nil];omega) | (simp only [List.length_append,List.length_cons,List.length_nil];omega),?_⟩
   have e:qLp ⟨3,n,nm,pl,rs,cs⟩=[qAk,nm,tLB,pl,tRB,qAo,qAZ n]++(qAd qAg rs++tEq::qA4 cs):=by
    show [qAk,nm]++((if pl=[] then [] else [tLB,pl,tRB])++([qAo,qAZ n]++(qAd qAg rs++(tEq::qA4 cs))))=_
    rw [if_neg hp];rfl
   rw [qGu,declT,e]
   by_cases hrs:rs=[]
   ·refine And.intro (fun h=>absurd (show(0:Int)<((rs.map Rf.cells).length:Nat) from h) (by rw [hrs];decide)) (fun _=>?_)
    refine And.intro (fun _=>?_) (fun h=>absurd (show(0:Int)<((cs.map Cs.cells).length:Nat) by rw [List.length_map];omega) h)
    refine⟨by show List.length _+List.length _≤9223372036854775807;first | omega | (simp only [List.length_cons,List.length_nil];omega) | (simp only [List.length_append,List.length_cons,List.length_nil];omega),?_⟩
    refine hC.eq rfl ?_
    refine⟨by show List.length _+List.length _≤9223372036854775807;first | omega | (simp only [List.length_cons,List.length_nil];omega) | (simp only [List.length_append,List.length_cons,List.length_nil];omega),?_⟩
    refine⟨by show List.length _+List.length _≤9223372036854775807;first | omega | (simp only [List.length_cons,List.length_nil];omega) | (simp only [List.length_append,List.length_cons,List.length_nil];omega),?_⟩
    refine qAF _ rfl rfl (qFb ?_)
    subst hrs
    refine qQA (H:=[qAk,nm,tLB,pl,tRB,qAo,qAZ n]) (key:=qAg) (by simp) ?_
    simp [spW]
   ·refine And.intro (fun _=>?_) (fun h=>absurd (show(0:Int)<((rs.map Rf.cells).length:Nat) by rw [List.length_map];have:=List.length_pos_iff.2 hrs;omega) h)
    refine⟨by show List.length _+List.length _≤9223372036854775807;first | omega | (simp only [List.length_cons,List.length_nil];omega) | (simp only [List.length_append,List.length_cons,List.length_nil];omega),?_⟩
    refine hL.eq rfl ?_
    refine⟨by show List.length _+List.length _≤9223372036854775807;first | omega | (simp only [List.length_cons,List.length_nil];omega) | (simp only [List.length_append,List.length_cons,List.length_nil];omega),?_⟩
    refine And.intro (fun _=>?_) (fun h=>absurd (show(0:Int)<((cs.map Cs.cells).length:Nat) by rw [List.length_map];omega) h)
    refine⟨by show List.length _+List.length _≤9223372036854775807;first | omega | (simp only [List.length_cons,List.length_nil];omega) | (simp only [List.length_append,List.length_cons,List.length_nil];omega),?_⟩
    refine hC.eq rfl ?_
    refine⟨by show List.length _+List.length _≤9223372036854775807;first | omega | (simp only [List.length_cons,List.length_nil];omega) | (simp only [List.length_append,List.length_cons,List.length_nil];omega),?_⟩
    refine⟨by show List.length _+List.length _≤9223372036854775807;first | omega | (simp only [List.length_cons,List.length_nil];omega) | (simp only [List.length_append,List.length_cons,List.length_nil];omega),?_⟩
    refine qAF _ rfl rfl (qFb ?_)
    refine qLh (H:=[qAk,nm,tLB,pl,tRB,qAo,qAZ n]) (key:=qAg) (by simp) ?_ hrs
    simp [spW]
 rw [if_neg c3] at v4
 by_cases c4:k=4
 ·subst c4
  simp only [if_true,Bool.and_eq_true,decide_eq_true_eq] at v4
  obtain⟨⟨v0,rfl⟩,v6⟩:=v4
  have:=List.length_eq_zero_iff.1 v6
  subst cs
  have hnl:=qCl v0
  refine qAB Tryz.func53 rfl rfl rfl ?_
  refine And.intro (fun h=>absurd (show(4:Int)=1 from h) (by decide)) (fun _=>?_)
  refine And.intro (fun h=>absurd (show(4:Int)=2 from h) (by decide)) (fun _=>?_)
  refine And.intro (fun h=>absurd (show(4:Int)=3 from h) (by decide)) (fun _=>?_)
  refine And.intro (fun _=>?_) (fun h=>absurd rfl h)
  refine VDraw.seq rfl ?_
  refine⟨by show List.length _+List.length _≤9223372036854775807;first | omega | (simp only [List.length_cons,List.length_nil];omega) | (simp only [List.length_append,List.length_cons,List.length_nil];omega),?_⟩
  refine⟨by show List.length _+List.length _≤9223372036854775807;first | omega | (simp only [List.length_cons,List.length_nil];omega) | (simp only [List.length_append,List.length_cons,List.length_nil];omega),?_⟩
  refine hN.eq rfl ?_
  refine⟨sk,?_⟩
  refine⟨by show List.length _+List.length _≤9223372036854775807;first | omega | (simp only [List.length_cons,List.length_nil];omega) | (simp only [List.length_append,List.length_cons,List.length_nil];omega),?_⟩
  by_cases hrs:rs=[]
  ·refine And.intro (fun h=>absurd (show(0:Int)<((rs.map Rf.cells).length:Nat) from h) (by rw [hrs];decide)) (fun _=>?_)
   refine And.intro (fun h=>absurd (show(0:Int)<((([]:List Cs).map Cs.cells).length:Nat) from h) (by decide)) (fun _=>?_)
   refine⟨by show List.length _+List.length _≤9223372036854775807;first | omega | (simp only [List.length_cons,List.length_nil];omega) | (simp only [List.length_append,List.length_cons,List.length_nil];omega),?_⟩
   refine qAF _ rfl rfl (qFb ?_)
   subst hrs
   exact qQB (H:=[qBK,nm,qAo,qAZ n]) (by simp) (by simp [spW])
  ·refine And.intro (fun _=>?_) (fun h=>absurd (show(0:Int)<((rs.map Rf.cells).length:Nat) by rw [List.length_map];have:=List.length_pos_iff.2 hrs;omega) h)
   refine⟨by show List.length _+List.length _≤9223372036854775807;first | omega | (simp only [List.length_cons,List.length_nil];omega) | (simp only [List.length_append,List.length_cons,List.length_nil];omega),?_⟩
   refine hL.eq rfl ?_
   refine⟨by show List.length _+List.length _≤9223372036854775807;first | omega | (simp only [List.length_cons,List.length_nil];omega) | (simp only [List.length_append,List.length_cons,List.length_nil];omega),?_⟩
   refine And.intro (fun h=>absurd (show(0:Int)<((([]:List Cs).map Cs.cells).length:Nat) from h) (by decide)) (fun _=>?_)
   refine⟨by show List.length _+List.length _≤9223372036854775807;first | omega | (simp only [List.length_cons,List.length_nil];omega) | (simp only [List.length_append,List.length_cons,List.length_nil];omega),?_⟩
   refine qAF _ rfl rfl (qFb ?_)
   refine qVi (H:=[qBK,nm,qAo,qAZ n]) (key:=qBn) (by simp) ?_ hrs
   simp [spW]
 rw [if_neg c4] at v4
 by_cases c5:k=5
 ·subst c5
  simp only [if_true,Bool.and_eq_true,decide_eq_true_eq] at v4
  obtain⟨⟨⟨rfl,rfl⟩,rfl⟩,v6⟩:=v4
  have hC:=qPL cs v6
  have hCt:=qEH v6
  have hCl:=qBe false hCt.1
  have hCl2:=hCt.2
  have hcs:1≤cs.length:=by
   simp only [qBP,Bool.and_eq_true,decide_eq_true_eq] at v6
   exact v6.1.1
  refine qAB Tryz.func53 rfl rfl rfl ?_
  refine And.intro (fun h=>absurd (show(5:Int)=1 from h) (by decide)) (fun _=>?_)
  refine And.intro (fun h=>absurd (show(5:Int)=2 from h) (by decide)) (fun _=>?_)
  refine And.intro (fun h=>absurd (show(5:Int)=3 from h) (by decide)) (fun _=>?_)
  refine And.intro (fun h=>absurd (show(5:Int)=4 from h) (by decide)) (fun _=>?_)
  have e:qLp ⟨5,0,[],[],rs,cs⟩=[qBo]++(qAd qAg rs++tEq::qA4 cs):=rfl
  rw [qGu,declT,e]
  by_cases hrs:rs=[]
  ·refine And.intro (fun h=>absurd (show(0:Int)<((rs.map Rf.cells).length:Nat) from h) (by rw [hrs];decide)) (fun _=>?_)
   refine And.intro (fun _=>?_) (fun h=>absurd (show(0:Int)<((cs.map Cs.cells).length:Nat) by rw [List.length_map];omega) h)
   refine⟨by show List.length _+List.length _≤9223372036854775807;first | omega | (simp only [List.length_cons,List.length_nil];omega) | (simp only [List.length_append,List.length_cons,List.length_nil];omega),?_⟩
   refine hC.eq rfl ?_
   refine⟨by show List.length _+List.length _≤9223372036854775807;first | omega | (simp only [List.length_cons,List.length_nil];omega) | (simp only [List.length_append,List.length_cons,List.length_nil];omega),?_⟩
   refine⟨by show List.length _+List.length _≤9223372036854775807;first | omega | (simp only [List.length_cons,List.length_nil];omega) | (simp only [List.length_append,List.length_cons,List.length_nil];omega),?_⟩
   refine qAF _ rfl rfl (qFb ?_)
   subst hrs
   refine qQA (H:=[qBo]) (key:=qAg) (by simp) ?_
   simp [spW]
  ·refine And.intro (fun _=>?_) (fun h=>absurd (show(0:Int)<((rs.map Rf.cells).length:Nat) by rw [List.length_map];have:=List.length_pos_iff.2 hrs;omega) h)
   refine⟨by show List.length _+List.length _≤9223372036854775807;first | omega | (simp only [List.length_cons,List.length_nil];omega) | (simp only [List.length_append,List.length_cons,List.length_nil];omega),?_⟩
   refine hL.eq rfl ?_
   refine⟨by show List.length _+List.length _≤9223372036854775807;first | omega | (simp only [List.length_cons,List.length_nil];omega) | (simp only [List.length_append,List.length_cons,List.length_nil];omega),?_⟩
   refine And.intro (fun _=>?_) (fun h=>absurd (show(0:Int)<((cs.map Cs.cells).length:Nat) by rw [List.length_map];omega) h)
   refine⟨by show List.length _+List.length _≤9223372036854775807;first | omega | (simp only [List.length_cons,List.length_nil];omega) | (simp only [List.length_append,List.length_cons,List.length_nil];omega),?_⟩
   refine hC.eq rfl ?_
   refine⟨by show List.length _+List.length _≤9223372036854775807;first | omega | (simp only [List.length_cons,List.length_nil];omega) | (simp only [List.length_append,List.length_cons,List.length_nil];omega),?_⟩
   refine⟨by show List.length _+List.length _≤9223372036854775807;first | omega | (simp only [List.length_cons,List.length_nil];omega) | (simp only [List.length_append,List.length_cons,List.length_nil];omega),?_⟩
   refine qAF _ rfl rfl (qFb ?_)
   refine qLh (H:=[qBo]) (key:=qAg) (by simp) ?_ hrs
   simp [spW]
 ·rw [if_neg c5] at v4
  cases v4
theorem qKT {d:De} (hv:qBj d=true):(qGu d).length≤200000:=by
 have:=qES hv
 have h2:=qBe false this.1
 rw [qGu,List.length_append]
 have h3:=this.2
 simp only [List.length_cons,List.length_nil]
 omega
theorem qIG (d:De) (ds:List De):qCA (d::ds)=qGu d++qCA ds:=rfl
theorem qHF:∀ {ds:List De},(∀ d∈ds,qBj d=true)→(qCA ds).length≤200000 * ds.length
 | [],_=>by simp [qCA]
 | d::ds,h=>by
  have h1:=qKT (h d (List.mem_cons_self ..))
  have h2:=qHF (ds:=ds) fun x hx=>h x (List.mem_cons_of_mem _ hx)
  rw [qIG,List.length_append,List.length_cons,Nat.mul_succ]
  omega
theorem qQv (ds:List De) (hv:qBg ds=true):Pure cx 20 [qEo ds] (·=.ret [.str (qCA ds)]):=by
 obtain⟨v1,v2⟩:=qF2 hv
 have hF:=qHF v2
 have h0:[]++qCA (ds.drop 0)=qCA ds:=rfl
 generalize qCA ds=F at hF h0 ⊢
 have hm:(ds.map De.cells).length=ds.length:=List.length_map ..
 refine qAB Tryz.func20 rfl rfl rfl ?_
 refine⟨List UInt8 × Nat,fun x=>[(1, .ptr 0 0 0),(3, .p (.str x.1)),(4, .p (i64 x.2))],fun _=>⟨1,[(0,srO (.p (des ds)))]⟩,fun x=>x.2≤ds.length∧x.1++qCA (ds.drop x.2)=F,fun x=>ds.length - x.2,?_,?_⟩
 ·exact⟨([],0),⟨Nat.zero_le _,h0⟩,qAC [] [] [] rfl (sk) (sk) rfl⟩
 rintro⟨s,k⟩ ⟨k1,k2⟩
 simp only [] at k1 k2
 have hs:s.length≤F.length:=by rw [← k2,List.length_append];omega
 (first | refine qAP (fun m1=>?_) (fun m1=>?_) | refine qAQ (fun m1=>?_) (fun m1=>?_) | refine qAR (fun m1=>?_) (fun m1=>?_))
 ·have m1:(k:Int)<((ds.map De.cells).length:Nat):=m1
  rw [hm] at m1
  have hk:k<ds.length:=by omega
  have hd:=v2 _ (qAK de0 hk)
  have hl:=qKT hd
  have hW:=qTZ (ds.getD k de0) hd
  have e:ds.drop k=ds.getD k de0::ds.drop (k+1):=by
   rw [List.getD_eq_getElem?_getD,List.getElem?_eq_getElem hk];exact List.drop_eq_getElem_cons hk
  refine⟨_,⟨by omega,(ds.getD k de0).cells,qIv hk,rfl⟩,?_⟩
  refine hW.eq rfl ?_
  refine⟨by show List.length _+List.length _≤9223372036854775807;first | omega | (simp only [List.length_cons,List.length_nil];omega) | (simp only [List.length_append,List.length_cons,List.length_nil];omega),?_⟩
  refine⟨_,w6z,?_⟩
  exact⟨(s++qGu (ds.getD k de0),k+1),⟨hk,by rw [← k2,e,qIG,List.append_assoc]⟩,qAC [] [] [] rfl (sk) (sk) rfl,by show ds.length - (k+1)<ds.length - k;omega⟩
 ·have m1:¬ (k:Int)<((ds.map De.cells).length:Nat):=m1
  rw [hm] at m1
  refine qAF _ rfl rfl (qFb ?_)
  rw [← k2,List.drop_eq_nil_of_le (by omega)];simp [qCA]
theorem qV2 (u:Bool) (st:Wst) (d:De) (hv:qBj d=true) (hb0:st.sz+wt (declT d)≤100000000):HoldsG cx 42 [.ptr 0 0 0, .p d.pv] (wH u st) (WQ (puts st (declT d))):=by
 obtain⟨k,n,nm,pl,rs,cs⟩:=d
 simp only [qBj,Bool.and_eq_true,decide_eq_true_eq,List.all_eq_true] at hv
 obtain⟨⟨⟨v1,v2⟩,v3⟩,v4⟩:=hv
 unfold qAx at v4
 simp only [] at v4
 by_cases c1:k=1
 ·subst c1
  have e:declT ⟨1,n,nm,pl,rs,cs⟩=([]++[qCL,qAZ n])++[qAX]:=rfl
  have hb:=hb0
  rw [e] at hb
  generalize declT ⟨1,n,nm,pl,rs,cs⟩=X at e ⊢
  refine qAA Tryz.func42 rfl rfl rfl ?_
  refine(qCe n v1).eq rfl ?_
  refine And.intro (fun _=>?_) (fun h=>absurd rfl h)
  refine(qA2 u (puts st ([])) ([qCL,qAZ n]) (by simp) (by have hz:=qAI ([]) st;simp only [qAL,wt] at hb hz ⊢;omega)).holds.useT [] [(2,3)] rfl (by first | (cases u <;> (exact sk)) | (exact sk)) (sk) fun e0 H0 hq=>?_
  rw [← qAE] at hq
  obtain⟨rfl,rfl⟩:=hq
  refine⟨rfl,_,⟨5,((4,bO (puts st ([]++[qCL,qAZ n])).s)::(0,wO 4 (puts st ([]++[qCL,qAZ n])))::[(2,deO _)])⟩,rfl,rfl,?_⟩
  refine(qA2 true (puts st ([]++[qCL,qAZ n])) ([qAX]) (by simp) (by have hz:=qAI ([]++[qCL,qAZ n]) st;simp only [qAL,wt] at hb hz ⊢;omega)).holds.useT [] [(1,4),(2,5)] rfl (sk) (sk) fun e0 H0 hq=>?_
  rw [← qAE] at hq
  obtain⟨rfl,rfl⟩:=hq
  refine⟨rfl,_,⟨7,((6,bO (puts st ([]++[qCL,qAZ n]++[qAX])).s)::(0,wO 6 (puts st ([]++[qCL,qAZ n]++[qAX])))::[(2,deO _)])⟩,rfl,rfl,?_⟩
  exact⟨[],[(2,6)],[], .returned und,wH' (puts st (([]++[qCL,qAZ n])++[qAX])),rfl,sk,sk,rfl,by rw [e]⟩
 rw [if_neg c1] at v4
 by_cases c2:k=2
 ·subst c2
  have e:declT ⟨2,n,nm,pl,rs,cs⟩=([]++[qCK,nm,tEq,qAZ n])++[qAX]:=rfl
  have hb:=hb0
  rw [e] at hb
  generalize declT ⟨2,n,nm,pl,rs,cs⟩=X at e ⊢
  refine qAA Tryz.func42 rfl rfl rfl ?_
  refine(qCe n v1).eq rfl ?_
  refine And.intro (fun h=>absurd (show(2:Int)=1 from h) (by decide)) (fun _=>?_)
  refine And.intro (fun _=>?_) (fun h=>absurd rfl h)
  refine(qA2 u (puts st ([])) ([qCK,nm,tEq,qAZ n]) (by simp) (by have hz:=qAI ([]) st;simp only [qAL,wt] at hb hz ⊢;omega)).holds.useT [] [(2,3)] rfl (by first | (cases u <;> (exact sk)) | (exact sk)) (sk) fun e0 H0 hq=>?_
  rw [← qAE] at hq
  obtain⟨rfl,rfl⟩:=hq
  refine⟨rfl,_,⟨5,((4,bO (puts st ([]++[qCK,nm,tEq,qAZ n])).s)::(0,wO 4 (puts st ([]++[qCK,nm,tEq,qAZ n])))::[(2,deO _)])⟩,rfl,rfl,?_⟩
  refine(qA2 true (puts st ([]++[qCK,nm,tEq,qAZ n])) ([qAX]) (by simp) (by have hz:=qAI ([]++[qCK,nm,tEq,qAZ n]) st;simp only [qAL,wt] at hb hz ⊢;omega)).holds.useT [] [(1,4),(2,5)] rfl (sk) (sk) fun e0 H0 hq=>?_
  rw [← qAE] at hq
  obtain⟨rfl,rfl⟩:=hq
  refine⟨rfl,_,⟨7,((6,bO (puts st ([]++[qCK,nm,tEq,qAZ n]++[qAX])).s)::(0,wO 6 (puts st ([]++[qCK,nm,tEq,qAZ n]++[qAX])))::[(2,deO _)])⟩,rfl,rfl,?_⟩
  exact⟨[],[(2,6)],[], .returned und,wH' (puts st (([]++[qCK,nm,tEq,qAZ n])++[qAX])),rfl,sk,sk,rfl,by rw [e]⟩
 rw [if_neg c2] at v4
 by_cases c3:k=3
 ·subst c3
  simp only [if_true,Bool.and_eq_true] at v4
  obtain⟨_,v6⟩:=v4
  by_cases hp:pl=[]
  ·have e:declT ⟨3,n,nm,pl,rs,cs⟩=((((([]++[qAk,nm])++[qAo,qAZ n])++qAd qAg rs)++[tEq])++qA4 cs)++[qAX]:=by
    show([qAk,nm]++((if pl=[] then [] else [tLB,pl,tRB])++([qAo,qAZ n]++(qAd qAg rs++(tEq::qA4 cs)))))++[qAX]=_
    rw [if_pos hp];simp
   have hb:=hb0
   rw [e] at hb
   generalize declT ⟨3,n,nm,pl,rs,cs⟩=X at e ⊢
   refine qAA Tryz.func42 rfl rfl rfl ?_
   refine(qCe n v1).eq rfl ?_
   refine And.intro (fun h=>absurd (show(3:Int)=1 from h) (by decide)) (fun _=>?_)
   refine And.intro (fun h=>absurd (show(3:Int)=2 from h) (by decide)) (fun _=>?_)
   refine And.intro (fun _=>?_) (fun h=>absurd rfl h)
   refine(qA2 u (puts st ([])) ([qAk,nm]) (by simp) (by have hz:=qAI ([]) st;simp only [qAL,wt] at hb hz ⊢;omega)).holds.useT [] [(2,3)] rfl (by first | (cases u <;> (exact sk)) | (exact sk)) (sk) fun e0 H0 hq=>?_
   rw [← qAE] at hq
   obtain⟨rfl,rfl⟩:=hq
   refine⟨rfl,_,⟨5,((4,bO (puts st ([]++[qAk,nm])).s)::(0,wO 4 (puts st ([]++[qAk,nm])))::[(2,deO _)])⟩,rfl,rfl,?_⟩
   refine And.intro (fun _=>?_) (fun h=>absurd hp h)
   refine(qA2 true (puts st ([]++[qAk,nm])) ([qAo,qAZ n]) (by simp) (by have hz:=qAI ([]++[qAk,nm]) st;simp only [qAL,wt] at hb hz ⊢;omega)).holds.useT [] [(1,4),(2,5)] rfl (sk) (sk) fun e0 H0 hq=>?_
   rw [← qAE] at hq
   obtain⟨rfl,rfl⟩:=hq
   refine⟨rfl,_,⟨7,((6,bO (puts st ([]++[qAk,nm]++[qAo,qAZ n])).s)::(0,wO 6 (puts st ([]++[qAk,nm]++[qAo,qAZ n])))::[(2,deO _)])⟩,rfl,rfl,?_⟩
   refine(qMp (puts st (([]++[qAk,nm])++[qAo,qAZ n])) qAg rs v3 v2 (by have hz:=qAI (([]++[qAk,nm])++[qAo,qAZ n]) st;simp only [qAL,wt] at hb hz ⊢;omega)).holds.useT [] [(1,6)] rfl (sk) (sk) fun e0 H0 hq=>?_
   unfold WQ at hq
   rw [← qAE] at hq
   obtain⟨rfl,rfl⟩:=hq
   refine⟨rfl,_,⟨8,((7,bO (puts st ((([]++[qAk,nm])++[qAo,qAZ n])++qAd qAg rs)).s)::(0,wO 7 (puts st ((([]++[qAk,nm])++[qAo,qAZ n])++qAd qAg rs)))::[(2,deO _)])⟩,rfl,rfl,?_⟩
   refine(qA2 true (puts st ((([]++[qAk,nm])++[qAo,qAZ n])++qAd qAg rs)) ([tEq]) (by simp) (by have hz:=qAI ((([]++[qAk,nm])++[qAo,qAZ n])++qAd qAg rs) st;simp only [qAL,wt] at hb hz ⊢;omega)).holds.useT [] [(1,7),(2,8)] rfl (sk) (sk) fun e0 H0 hq=>?_
   rw [← qAE] at hq
   obtain⟨rfl,rfl⟩:=hq
   refine⟨rfl,_,⟨10,((9,bO (puts st ((([]++[qAk,nm])++[qAo,qAZ n])++qAd qAg rs++[tEq])).s)::(0,wO 9 (puts st ((([]++[qAk,nm])++[qAo,qAZ n])++qAd qAg rs++[tEq])))::[(2,deO _)])⟩,rfl,rfl,?_⟩
   refine(qPI (puts st (((([]++[qAk,nm])++[qAo,qAZ n])++qAd qAg rs)++[tEq])) cs v6 (by have hz:=qAI (((([]++[qAk,nm])++[qAo,qAZ n])++qAd qAg rs)++[tEq]) st;simp only [qAL,wt] at hb hz ⊢;omega)).holds.useT [] [(1,9)] rfl (sk) (sk) fun e0 H0 hq=>?_
   unfold WQ at hq
   rw [← qAE] at hq
   obtain⟨rfl,rfl⟩:=hq
   refine⟨rfl,_,⟨11,((10,bO (puts st ((((([]++[qAk,nm])++[qAo,qAZ n])++qAd qAg rs)++[tEq])++qA4 cs)).s)::(0,wO 10 (puts st ((((([]++[qAk,nm])++[qAo,qAZ n])++qAd qAg rs)++[tEq])++qA4 cs)))::[(2,deO _)])⟩,rfl,rfl,?_⟩
   refine(qA2 true (puts st ((((([]++[qAk,nm])++[qAo,qAZ n])++qAd qAg rs)++[tEq])++qA4 cs)) ([qAX]) (by simp) (by have hz:=qAI ((((([]++[qAk,nm])++[qAo,qAZ n])++qAd qAg rs)++[tEq])++qA4 cs) st;simp only [qAL,wt] at hb hz ⊢;omega)).holds.useT [] [(1,10),(2,11)] rfl (sk) (sk) fun e0 H0 hq=>?_
   rw [← qAE] at hq
   obtain⟨rfl,rfl⟩:=hq
   refine⟨rfl,_,⟨13,((12,bO (puts st ((((([]++[qAk,nm])++[qAo,qAZ n])++qAd qAg rs)++[tEq])++qA4 cs++[qAX])).s)::(0,wO 12 (puts st ((((([]++[qAk,nm])++[qAo,qAZ n])++qAd qAg rs)++[tEq])++qA4 cs++[qAX])))::[(2,deO _)])⟩,rfl,rfl,?_⟩
   exact⟨[],[(2,12)],[], .returned und,wH' (puts st (((((([]++[qAk,nm])++[qAo,qAZ n])++qAd qAg rs)++[tEq])++qA4 cs)++[qAX])),rfl,sk,sk,rfl,by rw [e]⟩
  ·have e:declT ⟨3,n,nm,pl,rs,cs⟩=(((((([]++[qAk,nm])++[tLB,pl,tRB])++[qAo,qAZ n])++qAd qAg rs)++[tEq])++qA4 cs)++[qAX]:=by
    show([qAk,nm]++((if pl=[] then [] else [tLB,pl,tRB])++([qAo,qAZ n]++(qAd qAg rs++(tEq::qA4 cs)))))++[qAX]=_
    rw [if_neg hp];simp
   have hb:=hb0
   rw [e] at hb
   generalize declT ⟨3,n,nm,pl,rs,cs⟩=X at e ⊢
   refine qAA Tryz.func42 rfl rfl rfl ?_
   refine(qCe n v1).eq rfl ?_
   refine And.intro (fun h=>absurd (show(3:Int)=1 from h) (by decide)) (fun _=>?_)
   refine And.intro (fun h=>absurd (show(3:Int)=2 from h) (by decide)) (fun _=>?_)
   refine And.intro (fun _=>?_) (fun h=>absurd rfl h)
   refine(qA2 u (puts st ([])) ([qAk,nm]) (by simp) (by have hz:=qAI ([]) st;simp only [qAL,wt] at hb hz ⊢;omega)).holds.useT [] [(2,3)] rfl (by first | (cases u <;> (exact sk)) | (exact sk)) (sk) fun e0 H0 hq=>?_
   rw [← qAE] at hq
   obtain⟨rfl,rfl⟩:=hq
   refine⟨rfl,_,⟨5,((4,bO (puts st ([]++[qAk,nm])).s)::(0,wO 4 (puts st ([]++[qAk,nm])))::[(2,deO _)])⟩,rfl,rfl,?_⟩
   refine And.intro (fun h=>absurd h hp) (fun _=>?_)
   refine(qA2 true (puts st ([]++[qAk,nm])) ([tLB,pl,tRB]) (by simp) (by have hz:=qAI ([]++[qAk,nm]) st;simp only [qAL,wt] at hb hz ⊢;omega)).holds.useT [] [(1,4),(2,5)] rfl (sk) (sk) fun e0 H0 hq=>?_
   rw [← qAE] at hq
   obtain⟨rfl,rfl⟩:=hq
   refine⟨rfl,_,⟨7,((6,bO (puts st ([]++[qAk,nm]++[tLB,pl,tRB])).s)::(0,wO 6 (puts st ([]++[qAk,nm]++[tLB,pl,tRB])))::[(2,deO _)])⟩,rfl,rfl,?_⟩
   refine(qA2 true (puts st (([]++[qAk,nm])++[tLB,pl,tRB])) ([qAo,qAZ n]) (by simp) (by have hz:=qAI (([]++[qAk,nm])++[tLB,pl,tRB]) st;simp only [qAL,wt] at hb hz ⊢;omega)).holds.useT [] [(1,6),(2,7)] rfl (sk) (sk) fun e0 H0 hq=>?_
   rw [← qAE] at hq
   obtain⟨rfl,rfl⟩:=hq
   refine⟨rfl,_,⟨9,((8,bO (puts st (([]++[qAk,nm])++[tLB,pl,tRB]++[qAo,qAZ n])).s)::(0,wO 8 (puts st (([]++[qAk,nm])++[tLB,pl,tRB]++[qAo,qAZ n])))::[(2,deO _)])⟩,rfl,rfl,?_⟩
   refine(qMp (puts st ((([]++[qAk,nm])++[tLB,pl,tRB])++[qAo,qAZ n])) qAg rs v3 v2 (by have hz:=qAI ((([]++[qAk,nm])++[tLB,pl,tRB])++[qAo,qAZ n]) st;simp only [qAL,wt] at hb hz ⊢;omega)).holds.useT [] [(1,8)] rfl (sk) (sk) fun e0 H0 hq=>?_
   unfold WQ at hq
   rw [← qAE] at hq
   obtain⟨rfl,rfl⟩:=hq
   refine⟨rfl,_,⟨10,((9,bO (puts st (((([]++[qAk,nm])++[tLB,pl,tRB])++[qAo,qAZ n])++qAd qAg rs)).s)::(0,wO 9 (puts st (((([]++[qAk,nm])++[tLB,pl,tRB])++[qAo,qAZ n])++qAd qAg rs)))::[(2,deO _)])⟩,rfl,rfl,?_⟩
   refine(qA2 true (puts st (((([]++[qAk,nm])++[tLB,pl,tRB])++[qAo,qAZ n])++qAd qAg rs)) ([tEq]) (by simp) (by have hz:=qAI (((([]++[qAk,nm])++[tLB,pl,tRB])++[qAo,qAZ n])++qAd qAg rs) st;simp only [qAL,wt] at hb hz ⊢;omega)).holds.useT [] [(1,9),(2,10)] rfl (sk) (sk) fun e0 H0 hq=>?_
   rw [← qAE] at hq
   obtain⟨rfl,rfl⟩:=hq
   refine⟨rfl,_,⟨12,((11,bO (puts st (((([]++[qAk,nm])++[tLB,pl,tRB])++[qAo,qAZ n])++qAd qAg rs++[tEq])).s)::(0,wO 11 (puts st (((([]++[qAk,nm])++[tLB,pl,tRB])++[qAo,qAZ n])++qAd qAg rs++[tEq])))::[(2,deO _)])⟩,rfl,rfl,?_⟩
   refine(qPI (puts st ((((([]++[qAk,nm])++[tLB,pl,tRB])++[qAo,qAZ n])++qAd qAg rs)++[tEq])) cs v6 (by have hz:=qAI ((((([]++[qAk,nm])++[tLB,pl,tRB])++[qAo,qAZ n])++qAd qAg rs)++[tEq]) st;simp only [qAL,wt] at hb hz ⊢;omega)).holds.useT [] [(1,11)] rfl (sk) (sk) fun e0 H0 hq=>?_
   unfold WQ at hq
   rw [← qAE] at hq
   obtain⟨rfl,rfl⟩:=hq
   refine⟨rfl,_,⟨13,((12,bO (puts st (((((([]++[qAk,nm])++[tLB,pl,tRB])++[qAo,qAZ n])++qAd qAg rs)++[tEq])++qA4 cs)).s)::(0,wO 12 (puts st (((((([]++[qAk,nm])++[tLB,pl,tRB])++[qAo,qAZ n])++qAd qAg rs)++[tEq])++qA4 cs)))::[(2,deO _)])⟩,rfl,rfl,?_⟩
   refine(qA2 true (puts st (((((([]++[qAk,nm])++[tLB,pl,tRB])++[qAo,qAZ n])++qAd qAg rs)++[tEq])++qA4 cs)) ([qAX]) (by simp) (by have hz:=qAI (((((([]++[qAk,nm])++[tLB,pl,tRB])++[qAo,qAZ n])++qAd qAg rs)++[tEq])++qA4 cs) st;simp only [qAL,wt] at hb hz ⊢;omega)).holds.useT [] [(1,12),(2,13)] rfl (sk) (sk) fun e0 H0 hq=>?_
   rw [← qAE] at hq
   obtain⟨rfl,rfl⟩:=hq
   refine⟨rfl,_,⟨15,((14,bO (puts st (((((([]++[qAk,nm])++[tLB,pl,tRB])++[qAo,qAZ n])++qAd qAg rs)++[tEq])++qA4 cs++[qAX])).s)::(0,wO 14 (puts st (((((([]++[qAk,nm])++[tLB,pl,tRB])++[qAo,qAZ n])++qAd qAg rs)++[tEq])++qA4 cs++[qAX])))::[(2,deO _)])⟩,rfl,rfl,?_⟩
   exact⟨[],[(2,14)],[], .returned und,wH' (puts st ((((((([]++[qAk,nm])++[tLB,pl,tRB])++[qAo,qAZ n])++qAd qAg rs)++[tEq])++qA4 cs)++[qAX])),rfl,sk,sk,rfl,by rw [e]⟩
 rw [if_neg c3] at v4
 by_cases c4:k=4
 ·subst c4
  have e:declT ⟨4,n,nm,pl,rs,cs⟩=(([]++[qBK,nm,qAo,qAZ n])++qAd qBn rs)++[qAX]:=rfl
  have hb:=hb0
  rw [e] at hb
  generalize declT ⟨4,n,nm,pl,rs,cs⟩=X at e ⊢
  refine qAA Tryz.func42 rfl rfl rfl ?_
  refine(qCe n v1).eq rfl ?_
  refine And.intro (fun h=>absurd (show(4:Int)=1 from h) (by decide)) (fun _=>?_)
  refine And.intro (fun h=>absurd (show(4:Int)=2 from h) (by decide)) (fun _=>?_)
  refine And.intro (fun h=>absurd (show(4:Int)=3 from h) (by decide)) (fun _=>?_)
  refine And.intro (fun _=>?_) (fun h=>absurd rfl h)
  refine(qA2 u (puts st ([])) ([qBK,nm,qAo,qAZ n]) (by simp) (by have hz:=qAI ([]) st;simp only [qAL,wt] at hb hz ⊢;omega)).holds.useT [] [(2,3)] rfl (by first | (cases u <;> (exact sk)) | (exact sk)) (sk) fun e0 H0 hq=>?_
  rw [← qAE] at hq
  obtain⟨rfl,rfl⟩:=hq
  refine⟨rfl,_,⟨5,((4,bO (puts st ([]++[qBK,nm,qAo,qAZ n])).s)::(0,wO 4 (puts st ([]++[qBK,nm,qAo,qAZ n])))::[(2,deO _)])⟩,rfl,rfl,?_⟩
  refine(qMp (puts st ([]++[qBK,nm,qAo,qAZ n])) qBn rs v3 v2 (by have hz:=qAI ([]++[qBK,nm,qAo,qAZ n]) st;simp only [qAL,wt] at hb hz ⊢;omega)).holds.useT [] [(1,4)] rfl (sk) (sk) fun e0 H0 hq=>?_
  unfold WQ at hq
  rw [← qAE] at hq
  obtain⟨rfl,rfl⟩:=hq
  refine⟨rfl,_,⟨6,((5,bO (puts st (([]++[qBK,nm,qAo,qAZ n])++qAd qBn rs)).s)::(0,wO 5 (puts st (([]++[qBK,nm,qAo,qAZ n])++qAd qBn rs)))::[(2,deO _)])⟩,rfl,rfl,?_⟩
  refine(qA2 true (puts st (([]++[qBK,nm,qAo,qAZ n])++qAd qBn rs)) ([qAX]) (by simp) (by have hz:=qAI (([]++[qBK,nm,qAo,qAZ n])++qAd qBn rs) st;simp only [qAL,wt] at hb hz ⊢;omega)).holds.useT [] [(1,5),(2,6)] rfl (sk) (sk) fun e0 H0 hq=>?_
  rw [← qAE] at hq
  obtain⟨rfl,rfl⟩:=hq
  refine⟨rfl,_,⟨8,((7,bO (puts st (([]++[qBK,nm,qAo,qAZ n])++qAd qBn rs++[qAX])).s)::(0,wO 7 (puts st (([]++[qBK,nm,qAo,qAZ n])++qAd qBn rs++[qAX])))::[(2,deO _)])⟩,rfl,rfl,?_⟩
  exact⟨[],[(2,7)],[], .returned und,wH' (puts st ((([]++[qBK,nm,qAo,qAZ n])++qAd qBn rs)++[qAX])),rfl,sk,sk,rfl,by rw [e]⟩
 rw [if_neg c4] at v4
 by_cases c5:k=5
 ·subst c5
  simp only [if_true,Bool.and_eq_true] at v4
  obtain⟨_,v6⟩:=v4
  have e:declT ⟨5,n,nm,pl,rs,cs⟩=(((([]++[qBo])++qAd qAg rs)++[tEq])++qA4 cs)++[qAX]:=by
   show(qBo::(qAd qAg rs++(tEq::qA4 cs)))++[qAX]=_
   simp
  have hb:=hb0
  rw [e] at hb
  generalize declT ⟨5,n,nm,pl,rs,cs⟩=X at e ⊢
  refine qAA Tryz.func42 rfl rfl rfl ?_
  refine(qCe n v1).eq rfl ?_
  refine And.intro (fun h=>absurd (show(5:Int)=1 from h) (by decide)) (fun _=>?_)
  refine And.intro (fun h=>absurd (show(5:Int)=2 from h) (by decide)) (fun _=>?_)
  refine And.intro (fun h=>absurd (show(5:Int)=3 from h) (by decide)) (fun _=>?_)
  refine And.intro (fun h=>absurd (show(5:Int)=4 from h) (by decide)) (fun _=>?_)
  refine And.intro (fun _=>?_) (fun h=>absurd rfl h)
  refine(qA2 u (puts st ([])) ([qBo]) (by simp) (by have hz:=qAI ([]) st;simp only [qAL,wt] at hb hz ⊢;omega)).holds.useT [] [(2,3)] rfl (by first | (cases u <;> (exact sk)) | (exact sk)) (sk) fun e0 H0 hq=>?_
  rw [← qAE] at hq
  obtain⟨rfl,rfl⟩:=hq
  refine⟨rfl,_,⟨5,((4,bO (puts st ([]++[qBo])).s)::(0,wO 4 (puts st ([]++[qBo])))::[(2,deO _)])⟩,rfl,rfl,?_⟩
  refine(qMp (puts st ([]++[qBo])) qAg rs v3 v2 (by have hz:=qAI ([]++[qBo]) st;simp only [qAL,wt] at hb hz ⊢;omega)).holds.useT [] [(1,4)] rfl (sk) (sk) fun e0 H0 hq=>?_
  unfold WQ at hq
  rw [← qAE] at hq
  obtain⟨rfl,rfl⟩:=hq
  refine⟨rfl,_,⟨6,((5,bO (puts st (([]++[qBo])++qAd qAg rs)).s)::(0,wO 5 (puts st (([]++[qBo])++qAd qAg rs)))::[(2,deO _)])⟩,rfl,rfl,?_⟩
  refine(qA2 true (puts st (([]++[qBo])++qAd qAg rs)) ([tEq]) (by simp) (by have hz:=qAI (([]++[qBo])++qAd qAg rs) st;simp only [qAL,wt] at hb hz ⊢;omega)).holds.useT [] [(1,5),(2,6)] rfl (sk) (sk) fun e0 H0 hq=>?_
  rw [← qAE] at hq
  obtain⟨rfl,rfl⟩:=hq
  refine⟨rfl,_,⟨8,((7,bO (puts st (([]++[qBo])++qAd qAg rs++[tEq])).s)::(0,wO 7 (puts st (([]++[qBo])++qAd qAg rs++[tEq])))::[(2,deO _)])⟩,rfl,rfl,?_⟩
  refine(qPI (puts st ((([]++[qBo])++qAd qAg rs)++[tEq])) cs v6 (by have hz:=qAI ((([]++[qBo])++qAd qAg rs)++[tEq]) st;simp only [qAL,wt] at hb hz ⊢;omega)).holds.useT [] [(1,7)] rfl (sk) (sk) fun e0 H0 hq=>?_
  unfold WQ at hq
  rw [← qAE] at hq
  obtain⟨rfl,rfl⟩:=hq
  refine⟨rfl,_,⟨9,((8,bO (puts st (((([]++[qBo])++qAd qAg rs)++[tEq])++qA4 cs)).s)::(0,wO 8 (puts st (((([]++[qBo])++qAd qAg rs)++[tEq])++qA4 cs)))::[(2,deO _)])⟩,rfl,rfl,?_⟩
  refine(qA2 true (puts st (((([]++[qBo])++qAd qAg rs)++[tEq])++qA4 cs)) ([qAX]) (by simp) (by have hz:=qAI (((([]++[qBo])++qAd qAg rs)++[tEq])++qA4 cs) st;simp only [qAL,wt] at hb hz ⊢;omega)).holds.useT [] [(1,8),(2,9)] rfl (sk) (sk) fun e0 H0 hq=>?_
  rw [← qAE] at hq
  obtain⟨rfl,rfl⟩:=hq
  refine⟨rfl,_,⟨11,((10,bO (puts st (((([]++[qBo])++qAd qAg rs)++[tEq])++qA4 cs++[qAX])).s)::(0,wO 10 (puts st (((([]++[qBo])++qAd qAg rs)++[tEq])++qA4 cs++[qAX])))::[(2,deO _)])⟩,rfl,rfl,?_⟩
  exact⟨[],[(2,10)],[], .returned und,wH' (puts st ((((([]++[qBo])++qAd qAg rs)++[tEq])++qA4 cs)++[qAX])),rfl,sk,sk,rfl,by rw [e]⟩
 ·rw [if_neg c5] at v4
  cases v4
theorem qVk (u:Bool) (st:Wst):HoldsG cx 44 [.ptr 0 0 0] (wH u st) fun e H'=>e=.returned (.p (i64 st.s.length))∧H'=wH u st:=by
 refine qA3 Tryz.func44 rfl rfl rfl ?_
 exact⟨rfl,rfl⟩
theorem qSb (u:Bool) (st:Wst) (h0:st.s ≠ []) (hx:st.s.length≤100000000):HoldsG cx 45 [.ptr 0 0 0] (wH u st) fun e H'=>e=.returned (.p (.str st.s))∧H'=⟨2,[(0,wOu u 1 st)]⟩:=by
 obtain⟨s,n,g⟩:=st
 have h0:s ≠ []:=h0
 have hx:s.length≤100000000:=hx
 refine qAA Tryz.func45 rfl rfl rfl ?_
 refine VDraw.seq rfl ?_
 refine And.intro (fun h1=>?_) (fun h1=>?_)
 ·refine⟨sk,?_⟩
  refine⟨s,h0,rfl,by omega,by simp,by rw [List.take_of_length_le (by simp)],?_⟩
  exact⟨[],[],[], .returned (.p (.str s)),⟨2,[(0,wOu u 1 ⟨s,n,g⟩)]⟩,rfl,sk,by cases u <;> (exact sk),rfl,rfl⟩
 ·exact absurd (List.eq_nil_of_length_eq_zero h1) h0
theorem qO2 (u:Bool) (st:Wst) (h0:st.s=[]):HoldsG cx 45 [.ptr 0 0 0] (wH u st) fun e H'=>e=.returned (.p (.str []))∧H'=wH u st:=by
 obtain⟨s,n,g⟩:=st
 have h0:s=[]:=h0
 subst h0
 refine qAA Tryz.func45 rfl rfl rfl ?_
 refine VDraw.seq rfl ?_
 refine And.intro (fun h1=>?_) (fun h1=>?_)
 ·cases h1
 ·refine⟨sk,?_⟩
  refine⟨rfl,?_⟩
  exact⟨[],[],[], .returned (.p (.str [])),wH u ⟨[],n,g⟩,rfl,sk,by cases u <;> (exact sk),rfl,rfl⟩
theorem qSV:∀ {x:qBT},qFK x→wt x≤12 * x.length
 | [],_=>Nat.zero_le _
 | t::x,h=>by
  have h1:=qJB (h t (List.mem_cons_self ..))
  have h2:=qSV (x:=x) fun u hu=>h u (List.mem_cons_of_mem _ hu)
  rw [wt,List.length_cons];omega
theorem qUN {d:De} (h:qBj d=true):wt (declT d)≤130000:=by
 have h1:=qES h
 have h2:=qSV h1.1
 have:=h1.2
 omega
theorem qUO (S:List UInt8) (n:Nat) (d:De):qS6 (puts ⟨S,n,false⟩ (declT d))=⟨S++qGu d,n+(declT d).length,false⟩:=by
 obtain⟨h1,h2,h3⟩:=qMw (declT d) ⟨S,n,false⟩
 rw [qS6,h1,h2,qGu,List.append_assoc]
theorem qNx (ds:List De) (d:De):qCA (ds++[d])=qCA ds++qGu d:=by
 rw [qCA,List.flatMap_append];simp [qCA]
theorem qQr (ds:List De) (d:De):qJ2 (ds++[d])=qJ2 ds+(declT d).length:=by
 rw [qJ2,List.map_append,List.sum_append];simp [qJ2]
theorem qNb:∀ {ds:List De},(∀ d∈ds,qBj d=true)→qJ2 ds≤10400 * ds.length
 | [],_=>Nat.zero_le _
 | d::ds,h=>by
  have h1:=(qES (h d (List.mem_cons_self ..))).2
  have h2:=qNb (ds:=ds) fun x hx=>h x (List.mem_cons_of_mem _ hx)
  show(declT d).length+qJ2 ds≤_
  rw [List.length_cons];omega
theorem qTn (ds:List De) (hb:BigP ds):Pure cx 13 [qEo ds] (·=.ret (txtV ds)):=by
 have hR:=qM1 ds hb
 refine qAB Tryz.func13 rfl rfl rfl ?_
 by_cases hv:qBg ds=true
 rotate_left
 ·have e:txtV ds=[.str [],i64 380]:=by rw [txtV,if_neg hv]
  rw [qTC,if_neg hv] at hR
  refine hR.eq rfl ?_
  refine And.intro (fun h=>absurd (show(380:Int)=0 from h) (by decide)) (fun _=>?_)
  exact qDJ (.str []) (i64 380) rfl rfl rfl (by rw [e] <;> rfl)
 rw [qTC,if_pos hv] at hR
 refine hR.eq rfl ?_
 refine And.intro (fun _=>?_) (fun h=>absurd rfl h)
 obtain⟨v1,v2⟩:=qF2 hv
 have hm:(ds.map De.cells).length=ds.length:=List.length_map ..
 have e1:(qCA ds).length≤8000∧qJ2 ds≤1500→txtV ds=[.str (qCA ds),i64 0]:=fun h=>by rw [txtV,if_pos hv,if_pos h]
 have e2:¬ ((qCA ds).length≤8000∧qJ2 ds≤1500)→txtV ds=[.str [],i64 3]:=fun h=>by rw [txtV,if_pos hv,if_neg h]
 generalize txtV ds=X at e1 e2 ⊢
 refine⟨Wst × Nat × Bool,fun x=>[(5, .ptr 0 0 0),(14, .p (des ds)),(15, .p (i64 (ds.map De.cells).length)),(16, .p (i64 x.2.1))],fun x=>wH x.2.2 x.1,fun x=>x.2.1≤ds.length∧x.1=⟨qCA (ds.take x.2.1),qJ2 (ds.take x.2.1),false⟩,fun x=>ds.length - x.2.1,?_,?_⟩
 ·exact⟨(⟨[],0,false⟩,0,false),⟨Nat.zero_le _,rfl⟩,qAC [] [(0,1)] [(1,1)] rfl (sk) (sk) rfl⟩
 rintro⟨st,i,u⟩ ⟨k1,k2⟩
 simp only [] at k1 k2
 have hst:st.sz≤10000000:=by
  have t1:=qHF (ds:=ds.take i) fun d hd=>v2 d (List.mem_of_mem_take hd)
  have t2:=qNb (ds:=ds.take i) fun d hd=>v2 d (List.mem_of_mem_take hd)
  have t3:(ds.take i).length≤30:=by rw [List.length_take];omega
  rw [k2]
  show qJ2 (ds.take i)+(qCA (ds.take i)).length≤_
  omega
 (first | refine qAP (fun m1=>?_) (fun m1=>?_) | refine qAQ (fun m1=>?_) (fun m1=>?_) | refine qAR (fun m1=>?_) (fun m1=>?_))
 ·have m1:(i:Int)<((ds.map De.cells).length:Nat):=m1
  rw [hm] at m1
  have hi:i<ds.length:=by omega
  have hd:=v2 _ (qAK de0 hi)
  have hcell:=qIv hi
  have ht:=qAW de0 hi
  generalize ds.getD i de0=d at hd hcell ht
  have hw:=qUN hd
  have hn:(⟨qCA (ds.take (i+1)),qJ2 (ds.take (i+1)),false⟩:Wst)=qS6 (puts st (declT d)):=by
   rw [ht,qNx,qQr,k2,qUO]
  have hD:=qV2 u st d hd (by omega)
  have hz:=qAI (declT d) st
  clear ht hd
  obtain⟨k,n,nm,pl,rs,cs⟩:=d
  generalize declT ⟨k,n,nm,pl,rs,cs⟩=Y at hD hw hn hz
  refine⟨_,⟨by omega,(⟨k,n,nm,pl,rs,cs⟩:De).cells,hcell,rfl⟩,?_⟩
  refine hD.holds.useT [] [] rfl (by cases u <;> (exact sk)) (sk) fun e0 H0 hq=>?_
  obtain⟨rfl,rfl⟩:=hq
  refine⟨rfl,_,⟨4,((3,bO (puts st Y).s)::(0,wO 3 (puts st Y))::[(2,deO _)])⟩,rfl,rfl,?_⟩
  refine(qW3 (puts st Y) (by omega)).holds.useT [] [(1,3)] rfl (sk) (sk) fun e0 H0 hq=>?_
  obtain⟨rfl,rfl⟩:=hq
  refine⟨rfl,_,⟨5,((4,bO (qS6 (puts st Y)).s)::(0,wO 4 (qS6 (puts st Y)))::[(2,deO _)])⟩,rfl,rfl,?_⟩
  refine⟨_,w6z,?_⟩
  exact⟨(qS6 (puts st Y),i+1,true),⟨hi,hn.symm⟩,qAC [] [(1,4)] [] rfl (sk) (sk) rfl,by show ds.length - (i+1)<ds.length - i;omega⟩
 ·have m1:¬ (i:Int)<((ds.map De.cells).length:Nat):=m1
  rw [hm] at m1
  rw [qBY (by omega)] at k2
  have ks:st.s=qCA ds:=by rw [k2]
  have kn:st.n=qJ2 ds:=by rw [k2]
  rw [← ks,← kn] at e1 e2
  clear k2 ks kn
  cases u
  ·refine(qVk false st).holds.useT [] [] rfl (sk) (sk) fun e0 H0 hq=>?_
   obtain⟨rfl,rfl⟩:=hq
   refine⟨rfl,_,wH false st,rfl,rfl,?_⟩
   have hsl:st.s.length≤10000000:=by
    have:st.n+st.s.length≤10000000:=hst
    omega
   (first | refine qAP (fun c1=>?_) (fun c1=>?_) | refine qAQ (fun c1=>?_) (fun c1=>?_) | refine qAR (fun c1=>?_) (fun c1=>?_))
   ·have c1:(8000:Int)<(st.s.length:Nat):=c1
    exact qDJ (.str []) (i64 3) rfl rfl rfl (by rw [e2 (by omega)] <;> rfl)
   have c1:¬ (8000:Int)<(st.s.length:Nat):=c1
   (first | refine qAP (fun c2=>?_) (fun c2=>?_) | refine qAQ (fun c2=>?_) (fun c2=>?_) | refine qAR (fun c2=>?_) (fun c2=>?_))
   ·have c2:(1500:Int)<(st.n:Nat):=c2
    exact qDJ (.str []) (i64 3) rfl rfl rfl (by rw [e2 (by omega)] <;> rfl)
   have c2:¬ (1500:Int)<(st.n:Nat):=c2
   have e3:=e1 (by omega)
   by_cases hs:st.s=[]
   ·refine(qO2 false st hs).holds.useT [] [] rfl (sk) (sk) fun e0 H0 hq=>?_
    obtain⟨rfl,rfl⟩:=hq
    refine⟨rfl,_,wH false st,rfl,rfl,?_⟩
    exact qDJ (.str []) (i64 0) rfl rfl rfl (by rw [e3,hs] <;> rfl)
   ·refine(qSb false st hs (by omega)).holds.useT [] [] rfl (sk) (sk) fun e0 H0 hq=>?_
    obtain⟨rfl,rfl⟩:=hq
    refine⟨rfl,_,⟨2,[(0,wOu false 1 st)]⟩,rfl,rfl,?_⟩
    exact qDJ (.str st.s) (i64 0) rfl rfl rfl (by rw [e3] <;> rfl)
  ·refine(qVk true st).holds.useT [] [] rfl (sk) (sk) fun e0 H0 hq=>?_
   obtain⟨rfl,rfl⟩:=hq
   refine⟨rfl,_,wH true st,rfl,rfl,?_⟩
   have hsl:st.s.length≤10000000:=by
    have:st.n+st.s.length≤10000000:=hst
    omega
   (first | refine qAP (fun c1=>?_) (fun c1=>?_) | refine qAQ (fun c1=>?_) (fun c1=>?_) | refine qAR (fun c1=>?_) (fun c1=>?_))
   ·have c1:(8000:Int)<(st.s.length:Nat):=c1
    exact qDJ (.str []) (i64 3) rfl rfl rfl (by rw [e2 (by omega)] <;> rfl)
   have c1:¬ (8000:Int)<(st.s.length:Nat):=c1
   (first | refine qAP (fun c2=>?_) (fun c2=>?_) | refine qAQ (fun c2=>?_) (fun c2=>?_) | refine qAR (fun c2=>?_) (fun c2=>?_))
   ·have c2:(1500:Int)<(st.n:Nat):=c2
    exact qDJ (.str []) (i64 3) rfl rfl rfl (by rw [e2 (by omega)] <;> rfl)
   have c2:¬ (1500:Int)<(st.n:Nat):=c2
   have e3:=e1 (by omega)
   by_cases hs:st.s=[]
   ·refine(qO2 true st hs).holds.useT [] [] rfl (sk) (sk) fun e0 H0 hq=>?_
    obtain⟨rfl,rfl⟩:=hq
    refine⟨rfl,_,wH true st,rfl,rfl,?_⟩
    exact qDJ (.str []) (i64 0) rfl rfl rfl (by rw [e3,hs] <;> rfl)
   ·refine(qSb true st hs (by omega)).holds.useT [] [] rfl (sk) (sk) fun e0 H0 hq=>?_
    obtain⟨rfl,rfl⟩:=hq
    refine⟨rfl,_,⟨2,[(0,wOu true 1 st)]⟩,rfl,rfl,?_⟩
    exact qDJ (.str st.s) (i64 0) rfl rfl rfl (by rw [e3] <;> rfl)
set_option maxHeartbeats 40000000
theorem qAf {C : Cx} {rd : Bool} {n0 N : Nat} {all : List Oper} {σ : Sg} {ds : List AD} {H : Hp} {K : Sg → List AD → Hp → Prop} {X : List AP → Sg → List AD → Hp → Prop} (ot : OT)
    (h : (C.P.follows .mixedOrders && qCN N all (masks all []) && qGi all (masks all []) ot [] [] []) = true) (hv : vD C rd all σ K X ot [] ds H) :
    ∃ ot, (C.P.follows .mixedOrders && qCN N all (masks all []) && qGi all (masks all []) ot [] [] []) = true ∧
    ((vD C rd all σ K X ot [] ds H) ∨
     ∃ (α : Type) (sl : α → List (Nat × AV)) (hp : α → Hp) (pr : α → Prop),
      vD C rd all σ (fun σ' ds' H' => ∃ x, pr x ∧ Ent C n0 N σ' ds' H' (sets (fun _ => .junk) (sl x)) ds (hp x)) X ot [] ds H ∧
      ∀ x, pr x → K (sets (fun _ => .junk) (sl x)) ds (hp x)) := ⟨_, h, .inl hv⟩
theorem qEY {C : Cx} {rd : Bool} {n0 N : Nat} {all : List Oper} {σ : Sg} {ds : List AD} {H : Hp} {K : Sg → List AD → Hp → Prop} {X : List AP → Sg → List AD → Hp → Prop} (sl : List (Nat × AV)) (hp : Hp) (ot : OT)
    (h : (C.P.follows .mixedOrders && qCN N all (masks all []) && qGi all (masks all []) ot [] [] []) = true)
    (hv : vD C rd all σ (fun σ' ds' H' => Ent C n0 N σ' ds' H' (sets (fun _ => .junk) sl) ds hp) X ot [] ds H) (hk : K (sets (fun _ => .junk) sl) ds hp) :
    ∃ ot, (C.P.follows .mixedOrders && qCN N all (masks all []) && qGi all (masks all []) ot [] [] []) = true ∧
    ((vD C rd all σ K X ot [] ds H) ∨
     ∃ (α : Type) (sl : α → List (Nat × AV)) (hp : α → Hp) (pr : α → Prop),
      vD C rd all σ (fun σ' ds' H' => ∃ x, pr x ∧ Ent C n0 N σ' ds' H' (sets (fun _ => .junk) (sl x)) ds (hp x)) X ot [] ds H ∧
      ∀ x, pr x → K (sets (fun _ => .junk) (sl x)) ds (hp x)) :=
  ⟨_, h, .inr ⟨Unit, fun _ => sl, fun _ => hp, fun _ => True, by
    have e : (fun σ' ds' H' => ∃ _x : Unit, True ∧ Ent C n0 N σ' ds' H' (sets (fun _ => .junk) sl) ds hp) = fun σ' ds' H' => Ent C n0 N σ' ds' H' (sets (fun _ => .junk) sl) ds hp := by
      funext a b c
      exact propext ⟨fun ⟨_, _, h⟩ => h, fun h => ⟨(), trivial, h⟩⟩
    rw [e]; exact hv, fun _ _ => hk⟩⟩
abbrev otI:OT:=(.pure 0 (.pure 1 (.pure 2 (.pure 3 (.pure 4 (.pure 5 (.pure 6 (.pure 7 (.pure 8 (.pure 9 (.pure 10 (.pure 11 (.pure 12 (.pure 13 (.pure 14 (.pure 15 (.pure 16 (.pure 17 (.pure 18 (.pure 19 (.pure 20 (.pure 21 (.pure 22 (.pure 23 (.pure 24 (.pure 25 (.pure 26 (.pure 27 (.pure 28 (.pure 29 (.pure 30 (.eff 31 [] (.pure 32 (.pure 33 (.pure 34 .fin))) .nil))))))))))))))))))))))))))))))))
theorem Out.val {α:Type} {b:Bool} {p:Nat} {r:Rd α} {a a':α} {q:Nat} {b':Bool} (h:Out b p r a q b') (e:b'=false→a=a'):Out b p r a' q b':=by
 cases b'
 ·rw [← e rfl];exact h
 ·cases b
  ·exact h
  ·exact h
theorem Out.live {α:Type} {b:Bool} {p:Nat} {r:Rd α} {a:α} {q:Nat} (h:Out b p r a q false):b=false:=by
 cases b
 ·rfl
 ·exact absurd h.1 (by decide)
theorem qFl {ws:List Wd} {b0 b b2:Bool} {q0 q q2:Nat} {R:Rd (List Int)} {acc:List Int} {v:Int} (k:LK b0 q0 R (fun f=>(qIn ws q).then fun n q'=>qDt ws f (acc++[n]) q') ws.length q b) (o:Out b q (qIn ws q) v q2 b2) (hs:b2=false→¬ (txt ws q2=qAs∨knd ws q2=3)):Out b0 q0 R (acc++[v]) q2 b2:=by
 obtain⟨f,hf,hk⟩:=k
 refine hk _ _ _ (o.then ?_)
 cases b2
 ·have:=hf o.live
  obtain⟨g,rfl⟩:∃ g,f=g+1:=⟨f - 1,by omega⟩
  rw [qDt,if_neg (hs rfl)]
  exact Out.same
 ·exact Out.bad
theorem qLK (ws:List Wd) (F q0:Nat) (b0:Bool) (hF:ws.length<F) (hg:GoodW ws) (hq0:q0≤ws.length):HoldsG cx 140 [.ptr 0 0 0] (rrH ws q0 b0) (RQ ws b0 q0 (qDp ws F q0) fun l=>.p (ints l)):=by
 refine qAA Tryz.func140 rfl rfl rfl ?_
 have hl:=hg.len
 have hl':(ws.map Wd.cells).length=ws.length:=List.length_map ..
 refine⟨List Int × Nat × Bool,fun x=>[(0, .ptr 0 0 0),(3, .sl 1 1 0 x.1.length)],fun x=>⟨2,[(1,iO x.1),(0,rrO ws x.2.1 x.2.2)]⟩,fun x=>x.2.1≤ws.length∧(x.2.2=true→x.1=[])∧x.1.length≤x.2.1∧LK b0 q0 (qDp ws F q0) (fun f=>(qIn ws x.2.1).then fun n q'=>qDt ws f (x.1++[n]) q') ws.length x.2.1 x.2.2,fun x=>ws.length - x.2.1,?_,?_⟩
 ·exact⟨([],q0,b0),⟨hq0,fun _=>rfl,by simp,F,fun _=>by simp only [];omega,fun l q' b' ho=>ho⟩,qAC [] [] [(1,1)] rfl (sk) (sk) rfl⟩
 rintro⟨acc,q,b⟩ ⟨k1,k2,k3,k4⟩
 simp only [] at k1 k2 k3 k4
 by_cases c:Tk ws b q qAs
 ·have q1l:q+1≤ws.length:=qAi (by rw [c.2];decide)
  refine(qAy ws q b qAs hg k1 (by decide) (by decide)).holds.useT [] [] rfl (sk) (sk) fun e0 H0 hq=>?_
  obtain⟨rfl,rfl⟩:=hq.1 c
  refine⟨rfl,_,⟨2,(0,rrO ws (q+1) false)::[(1,iO acc)]⟩,rfl,rfl,?_⟩
  refine(qDE ws (q+1) false hg q1l).holds.useT [] [] rfl (sk) (sk) fun e0 H0 hq=>?_
  obtain⟨n,q2,b2,q2l,o2,rfl,rfl⟩:=hq
  obtain⟨v,hv⟩:∃ v,v=IntKind.i64.wrap ((-1) * n):=⟨_,rfl⟩
  have hvn:b2=false→-n=v:=fun e=>by
   subst e
   have:=qPu hg (qBZ o2)
   rw [hv,show(-1) * n=-n by omega]
   exact w6z
  have o:Out b q (qIn ws q) v q2 b2:=Out.yes c (o2.then (by
   cases b2
   ·exact Out.ret (hvn rfl)
   ·exact Out.bad)).mv
  clear hvn o2
  cases b2
  ·refine⟨rfl,_,⟨2,(0,rrO ws q2 false)::[(1,iO acc)]⟩,rfl,rfl,?_⟩
   refine⟨v,hv,?_⟩
   have hb:=o.live
   have k5:LK b0 q0 (qDp ws F q0) (fun f=>(qIn ws q).then fun n q'=>qDt ws f (acc++[n]) q') ws.length q false:=by rw [← hb];exact k4
   have o5:Out false q (qIn ws q) v q2 false:=by rw [hb] at o;exact o
   have hlt:=int_lt (qBZ o5)
   refine⟨by show 0+1≤1;omega,[i64 v],rfl,?_⟩
   refine⟨by show 0+acc.length≤(acc.map i64).length;simp,acc.map i64,qAD (by simp),by show(acc.length+1) * 8≤140737488355328;omega,(acc++[v]).map i64,by simp,?_⟩
   by_cases hs:txt ws q2=qAs∨knd ws q2=3
   ·have hql:q2<ws.length:=by
     rcases hs with h | h
     ·exact qAi (ws:=ws) (q:=q2) (by rw [h];decide)
     ·exact qFk (ws:=ws) (q:=q2) (by rw [h];decide)
    refine qEY [(0, .ptr 0 0 0),(3, .sl 3 1 0 (acc.length+1)),(48,vB false)] ⟨4,[(3,iO (acc++[v])),(0,rrO ws q2 false)]⟩ otI (by kernel_rfl) ?_ ?_
    ·refine And.intro (fun h=>absurd (show((ws.map Wd.cells).length:Int)≤(q2:Nat) from h) (by rw [hl'];omega)) (fun _=>?_)
     refine⟨_,⟨by omega,(wat ws q2).cells,qCb (by omega),rfl⟩,?_⟩
     refine And.intro (fun h2=>?_) (fun h2=>?_)
     ·exact qAC [] [] [] rfl (sk) (sk) rfl
     have h2:¬ knd ws q2=3:=h2
     have c2:Tk ws false q2 qAs:=⟨rfl,hs.resolve_right h2⟩
     refine(qT7 ws q2 false qAs hg q2l (by decide) (by decide)).holds.useT [] [] rfl (sk) (sk) fun e0 H0 hq=>?_
     obtain⟨rfl,rfl⟩:=hq.1 c2
     refine⟨rfl,_,⟨4,[(0,rrO ws q2 false),(3,iO (acc++[v])),(2,iO [v])]⟩,rfl,rfl,?_⟩
     exact qAC [] [] [] rfl (sk) (sk) rfl
    exact⟨(acc++[v],q2,false),⟨q2l,fun e=>absurd (show false=true from e) (by decide),by show(acc++[v]).length≤q2;rw [qAJ];omega,k5.step (fun f l q' b' ho=>o5.then (by rw [qDt,if_pos hs];exact ho)) (fun _=>⟨hlt,q2l⟩)⟩,qAC [] [(1,3)] [] rfl ⟨⟨rfl,rfl⟩,congrArg (fun k:Nat=>AV.sl 3 1 0 k) (qAJ acc v).symm,trivial⟩ (sk) rfl,by show ws.length - q2<ws.length - q;omega⟩
   ·refine qEY [(0, .ptr 0 0 0),(3, .sl 3 1 0 (acc.length+1)),(48,vB true)] ⟨4,[(3,iO (acc++[v])),(0,rrO ws q2 false)]⟩ otI (by kernel_rfl) ?_ ?_
    ·(first | refine qAP (fun h1=>?_) (fun h1=>?_) | refine qAQ (fun h1=>?_) (fun h1=>?_) | refine qAR (fun h1=>?_) (fun h1=>?_))
     ·exact qAC [] [] [] rfl (sk) (sk) rfl
     have h1:¬ ((ws.map Wd.cells).length:Int)≤(q2:Nat):=h1
     rw [hl'] at h1
     refine⟨_,⟨by omega,(wat ws q2).cells,qCb (by omega),rfl⟩,?_⟩
     refine And.intro (fun h2=>absurd (.inr h2) hs) (fun _=>?_)
     refine(qT7 ws q2 false qAs hg q2l (by decide) (by decide)).holds.useT [] [] rfl (sk) (sk) fun e0 H0 hq=>?_
     obtain⟨rfl,rfl⟩:=hq.2 (fun c2=>hs (.inl c2.2))
     refine⟨rfl,_,⟨4,[(0,rrO ws q2 false),(3,iO (acc++[v])),(2,iO [v])]⟩,rfl,rfl,?_⟩
     exact qAC [] [] [] rfl (sk) (sk) rfl
    exact⟨[3],[],[], .returned (.p (ints (acc++[v]))),rrH ws q2 false,rfl,⟨_,rfl,⟨_,rfl,by show 0+(acc.length+1)≤((acc++[v]).map i64).length;simp,qAD (by simp)⟩⟩,sk,acc++[v],q2,false,q2l,qFl k4 o (fun _=>hs),rfl,rfl⟩
  ·refine⟨rfl,_,⟨2,(0,rrO ws q2 true)::[(1,iO acc)]⟩,rfl,rfl,?_⟩
   refine⟨v,hv,?_⟩
   refine⟨by show 0+1≤1;omega,[i64 v],rfl,?_⟩
   refine⟨by show 0+acc.length≤(acc.map i64).length;simp,acc.map i64,qAD (by simp),by show(acc.length+1) * 8≤140737488355328;omega,(acc++[v]).map i64,by simp,?_⟩
   refine qAf otI (by kernel_rfl) ?_
   exact⟨[3],[],[], .returned (.p (ints (acc++[v]))),rrH ws q2 true,rfl,⟨_,rfl,⟨_,rfl,by show 0+(acc.length+1)≤((acc++[v]).map i64).length;simp,qAD (by simp)⟩⟩,sk,acc++[v],q2,true,q2l,qFl k4 o (fun e=>by cases e),rfl,rfl⟩
 ·refine(qAy ws q b qAs hg k1 (by decide) (by decide)).holds.useT [] [] rfl (sk) (sk) fun e0 H0 hq=>?_
  obtain⟨rfl,rfl⟩:=hq.2 c
  refine⟨rfl,_,⟨2,(0,rrO ws q b)::[(1,iO acc)]⟩,rfl,rfl,?_⟩
  refine(qDE ws q b hg k1).holds.useT [] [] rfl (sk) (sk) fun e0 H0 hq=>?_
  obtain⟨n,q2,b2,q2l,o2,rfl,rfl⟩:=hq
  obtain⟨v,hv⟩:∃ v,v=IntKind.i64.wrap (1 * n):=⟨_,rfl⟩
  have hvn:b2=false→n=v:=fun e=>by
   subst e
   have hb:=o2.live
   subst hb
   have:=qPu hg (qBZ o2)
   rw [hv,Int.one_mul]
   exact w6z
  have o:Out b q (qIn ws q) v q2 b2:=Out.no c (o2.val hvn)
  clear hvn o2
  cases b2
  ·refine⟨rfl,_,⟨2,(0,rrO ws q2 false)::[(1,iO acc)]⟩,rfl,rfl,?_⟩
   refine⟨v,hv,?_⟩
   have hb:=o.live
   have k5:LK b0 q0 (qDp ws F q0) (fun f=>(qIn ws q).then fun n q'=>qDt ws f (acc++[n]) q') ws.length q false:=by rw [← hb];exact k4
   have o5:Out false q (qIn ws q) v q2 false:=by rw [hb] at o;exact o
   have hlt:=int_lt (qBZ o5)
   refine⟨by show 0+1≤1;omega,[i64 v],rfl,?_⟩
   refine⟨by show 0+acc.length≤(acc.map i64).length;simp,acc.map i64,qAD (by simp),by show(acc.length+1) * 8≤140737488355328;omega,(acc++[v]).map i64,by simp,?_⟩
   by_cases hs:txt ws q2=qAs∨knd ws q2=3
   ·have hql:q2<ws.length:=by
     rcases hs with h | h
     ·exact qAi (ws:=ws) (q:=q2) (by rw [h];decide)
     ·exact qFk (ws:=ws) (q:=q2) (by rw [h];decide)
    refine qEY [(0, .ptr 0 0 0),(3, .sl 3 1 0 (acc.length+1)),(48,vB false)] ⟨4,[(3,iO (acc++[v])),(0,rrO ws q2 false)]⟩ otI (by kernel_rfl) ?_ ?_
    ·refine And.intro (fun h=>absurd (show((ws.map Wd.cells).length:Int)≤(q2:Nat) from h) (by rw [hl'];omega)) (fun _=>?_)
     refine⟨_,⟨by omega,(wat ws q2).cells,qCb (by omega),rfl⟩,?_⟩
     refine And.intro (fun h2=>?_) (fun h2=>?_)
     ·exact qAC [] [] [] rfl (sk) (sk) rfl
     have h2:¬ knd ws q2=3:=h2
     have c2:Tk ws false q2 qAs:=⟨rfl,hs.resolve_right h2⟩
     refine(qT7 ws q2 false qAs hg q2l (by decide) (by decide)).holds.useT [] [] rfl (sk) (sk) fun e0 H0 hq=>?_
     obtain⟨rfl,rfl⟩:=hq.1 c2
     refine⟨rfl,_,⟨4,[(0,rrO ws q2 false),(3,iO (acc++[v])),(2,iO [v])]⟩,rfl,rfl,?_⟩
     exact qAC [] [] [] rfl (sk) (sk) rfl
    exact⟨(acc++[v],q2,false),⟨q2l,fun e=>absurd (show false=true from e) (by decide),by show(acc++[v]).length≤q2;rw [qAJ];omega,k5.step (fun f l q' b' ho=>o5.then (by rw [qDt,if_pos hs];exact ho)) (fun _=>⟨hlt,q2l⟩)⟩,qAC [] [(1,3)] [] rfl ⟨⟨rfl,rfl⟩,congrArg (fun k:Nat=>AV.sl 3 1 0 k) (qAJ acc v).symm,trivial⟩ (sk) rfl,by show ws.length - q2<ws.length - q;omega⟩
   ·refine qEY [(0, .ptr 0 0 0),(3, .sl 3 1 0 (acc.length+1)),(48,vB true)] ⟨4,[(3,iO (acc++[v])),(0,rrO ws q2 false)]⟩ otI (by kernel_rfl) ?_ ?_
    ·(first | refine qAP (fun h1=>?_) (fun h1=>?_) | refine qAQ (fun h1=>?_) (fun h1=>?_) | refine qAR (fun h1=>?_) (fun h1=>?_))
     ·exact qAC [] [] [] rfl (sk) (sk) rfl
     have h1:¬ ((ws.map Wd.cells).length:Int)≤(q2:Nat):=h1
     rw [hl'] at h1
     refine⟨_,⟨by omega,(wat ws q2).cells,qCb (by omega),rfl⟩,?_⟩
     refine And.intro (fun h2=>absurd (.inr h2) hs) (fun _=>?_)
     refine(qT7 ws q2 false qAs hg q2l (by decide) (by decide)).holds.useT [] [] rfl (sk) (sk) fun e0 H0 hq=>?_
     obtain⟨rfl,rfl⟩:=hq.2 (fun c2=>hs (.inl c2.2))
     refine⟨rfl,_,⟨4,[(0,rrO ws q2 false),(3,iO (acc++[v])),(2,iO [v])]⟩,rfl,rfl,?_⟩
     exact qAC [] [] [] rfl (sk) (sk) rfl
    exact⟨[3],[],[], .returned (.p (ints (acc++[v]))),rrH ws q2 false,rfl,⟨_,rfl,⟨_,rfl,by show 0+(acc.length+1)≤((acc++[v]).map i64).length;simp,qAD (by simp)⟩⟩,sk,acc++[v],q2,false,q2l,qFl k4 o (fun _=>hs),rfl,rfl⟩
  ·refine⟨rfl,_,⟨2,(0,rrO ws q2 true)::[(1,iO acc)]⟩,rfl,rfl,?_⟩
   refine⟨v,hv,?_⟩
   refine⟨by show 0+1≤1;omega,[i64 v],rfl,?_⟩
   refine⟨by show 0+acc.length≤(acc.map i64).length;simp,acc.map i64,qAD (by simp),by show(acc.length+1) * 8≤140737488355328;omega,(acc++[v]).map i64,by simp,?_⟩
   refine qAf otI (by kernel_rfl) ?_
   exact⟨[3],[],[], .returned (.p (ints (acc++[v]))),rrH ws q2 true,rfl,⟨_,rfl,⟨_,rfl,by show 0+(acc.length+1)≤((acc++[v]).map i64).length;simp,qAD (by simp)⟩⟩,sk,acc++[v],q2,true,q2l,qFl k4 o (fun e=>by cases e),rfl,rfl⟩
set_option maxHeartbeats 4000000
theorem qRa (l:List Int) (n:Int):qOg (l++[n])=qHk (qOg l) n:=by rw [qOg,qOg,List.foldl_append];rfl
def RQN (ws:List Wd) (b:Bool) (q:Nat) (r:Rd Cd) (e:AE) (H':Hp):Prop:=∃ c q' b',q'≤ws.length∧Out b q r c q' b'∧(∃ y,e=.returned (.p y)∧NilD y c.pv)∧H'=rrH ws q' b'
abbrev RC (ws:List Wd) (b:Bool) (q:Nat) (r:Rd Cd):AE→Hp→Prop:=RQ ws b q r fun c=>.p c.pv
theorem qRg {ws:List Wd} {b:Bool} {q:Nat} {g:FuncId} {args:List AV} {H:Hp} {r:Rd Cd} (h:HoldsG cx g args H (RQN ws b q r)):HoldsG cx g args H (RC ws b q r):=
 h.weak fun e H' hq=>by
  obtain⟨c,q',b',h1,h2,⟨y,rfl,h3⟩,rfl⟩:=hq
  exact⟨.returned (.p c.pv),⟨_,rfl,by simp only [NilA];exact⟨_,rfl,h3⟩⟩,c,q',b',h1,h2,rfl,rfl⟩
abbrev lfI (rf:Rf) (s:List Int):AObj:=cO [.p (i64 5), .p (i64 0), .p (i64 0), .p (i64 0), .p (.str rf.name), .p (i64 rf.mode), .p (.str rf.plate), .p (i64 rf.n), .p (ints s), .p .nils]
abbrev qMK (ws:List Wd) (F:Nat) (q:Nat) (b:Bool):Prop:=HoldsG cx 139 [.ptr 0 0 0] (rrH ws q b) (RC ws b q (qC6 ws F q))
theorem qTt (n:Int):NilDL [.nils,i64 n] [ints [],i64 n]:=by
 simp only [NilDL,NilD]
 exact⟨_,_,rfl, .inr (.inl rfl),_,_,rfl,rfl,rfl⟩
theorem qTW (ws:List Wd) (F q0:Nat) (b0:Bool) (hg:GoodW ws) (hq0:q0≤ws.length) (hF:4 * (ws.length - q0)+1≤F+1) (hC:∀ q,q≤ws.length→4 * (ws.length - q)+4≤F→qMK ws F q false) :
  HoldsG cx 203 [.ptr 0 0 0] (rrH ws q0 b0) (RC ws b0 q0 (qD9 ws (F+1) q0)):=by
 refine qRg ?_
 refine qAA Tryz.func203 rfl rfl rfl ?_
 have hl:=hg.len
 by_cases c1:Tk ws b0 q0 tLP
 ·have q1l:q0+1≤ws.length:=qAi (by rw [c1.2];decide)
  refine(qAy ws q0 b0 tLP hg hq0 (by decide) (by decide)).holds.useT [] [] rfl (sk) (sk) fun e0 H0 hq=>?_
  obtain⟨rfl,rfl⟩:=hq.1 c1
  refine⟨rfl,_,⟨2,(0,rrO ws (q0+1) false)::[(1,zc)]⟩,rfl,rfl,?_⟩
  refine(hC (q0+1) q1l (by omega)).holds.useT [] [] rfl (sk) (sk) fun e0 H0 hq=>?_
  obtain⟨⟨o,n,rl,vl,rf,st,ar⟩,q2,b2,q2l,o2,rfl,rfl⟩:=hq
  refine⟨rfl,_,⟨2,(0,rrO ws q2 b2)::[(1,zc)]⟩,rfl,rfl,?_⟩
  refine(qA9 ws q2 b2 tRP hg q2l (by decide) (by decide)).holds.useT [] [] rfl (sk) (sk) fun e0 H0 hq=>?_
  obtain⟨u3,q3,b3,q3l,o3,rfl,rfl⟩:=hq
  refine⟨rfl,_,⟨3,(0,rrO ws q3 b3)::[(2,cO ((Cd.mk o n rl vl rf st ar).cells.map .p)),(1,zc)]⟩,rfl,rfl,?_⟩
  exact⟨[],[],[], .returned (.p (Cd.mk o n rl vl rf st ar).pv),rrH ws q3 b3,rfl,sk,sk,_,q3,b3,q3l,by rw [qD9];exact Out.yes c1 (o2.then (o3.then Out.same)).mv,⟨_,rfl,NilD.refl _⟩,rfl⟩
 refine(qAy ws q0 b0 tLP hg hq0 (by decide) (by decide)).holds.useT [] [] rfl (sk) (sk) fun e0 H0 hq=>?_
 obtain⟨rfl,rfl⟩:=hq.2 c1
 refine⟨rfl,_,⟨2,(0,rrO ws q0 b0)::[(1,zc)]⟩,rfl,rfl,?_⟩
 by_cases c2:Tk ws b0 q0 qBt
 ·have q1l:q0+1≤ws.length:=qAi (by rw [c2.2];decide)
  refine(qAy ws q0 b0 qBt hg hq0 (by decide) (by decide)).holds.useT [] [] rfl (sk) (sk) fun e0 H0 hq=>?_
  obtain⟨rfl,rfl⟩:=hq.1 c2
  refine⟨rfl,_,⟨3,(0,rrO ws (q0+1) false)::[(2,zc),(1,zc)]⟩,rfl,rfl,?_⟩
  refine(qA9 ws (q0+1) false tLP hg q1l (by decide) (by decide)).holds.useT [] [] rfl (sk) (sk) fun e0 H0 hq=>?_
  obtain⟨u2,q2,b2,q2l,o2,rfl,rfl⟩:=hq
  refine⟨rfl,_,⟨3,(0,rrO ws q2 b2)::[(2,lf 6 0 0 0 rf0),(1,zc)]⟩,rfl,rfl,?_⟩
  refine(qE6 ws q2 b2 hg q2l).holds.useT [] [] rfl (sk) (sk) fun e0 H0 hq=>?_
  obtain⟨nm,q3,b3,q3l,o3,rfl,rfl⟩:=hq
  refine⟨rfl,_,⟨3,(0,rrO ws q3 b3)::[(2,lf 6 0 0 0 rf0),(1,zc)]⟩,rfl,rfl,?_⟩
  refine(qA9 ws q3 b3 tLB hg q3l (by decide) (by decide)).holds.useT [] [] rfl (sk) (sk) fun e0 H0 hq=>?_
  obtain⟨u4,q4,b4,q4l,o4,rfl,rfl⟩:=hq
  refine⟨rfl,_,⟨3,(0,rrO ws q4 b4)::[(2,lf 6 0 0 0 ⟨nm,3,[],0⟩),(1,zc)]⟩,rfl,rfl,?_⟩
  refine(qA9 ws q4 b4 qGz hg q4l (by decide) (by decide)).holds.useT [] [] rfl (sk) (sk) fun e0 H0 hq=>?_
  obtain⟨u5,q5,b5,q5l,o5,rfl,rfl⟩:=hq
  refine⟨rfl,_,⟨3,(0,rrO ws q5 b5)::[(2,lf 6 0 0 0 ⟨nm,3,[],0⟩),(1,zc)]⟩,rfl,rfl,?_⟩
  refine(qA9 ws q5 b5 tRB hg q5l (by decide) (by decide)).holds.useT [] [] rfl (sk) (sk) fun e0 H0 hq=>?_
  obtain⟨u6,q6,b6,q6l,o6,rfl,rfl⟩:=hq
  refine⟨rfl,_,⟨3,(0,rrO ws q6 b6)::[(2,lf 6 0 0 0 ⟨nm,3,[],0⟩),(1,zc)]⟩,rfl,rfl,?_⟩
  refine(qA9 ws q6 b6 tEq hg q6l (by decide) (by decide)).holds.useT [] [] rfl (sk) (sk) fun e0 H0 hq=>?_
  obtain⟨u7,q7,b7,q7l,o7,rfl,rfl⟩:=hq
  refine⟨rfl,_,⟨3,(0,rrO ws q7 b7)::[(2,lf 6 0 0 0 ⟨nm,3,[],0⟩),(1,zc)]⟩,rfl,rfl,?_⟩
  refine(qDE ws q7 b7 hg q7l).holds.useT [] [] rfl (sk) (sk) fun e0 H0 hq=>?_
  obtain⟨v,q8,b8,q8l,o8,rfl,rfl⟩:=hq
  refine⟨rfl,_,⟨3,(0,rrO ws q8 b8)::[(2,lf 6 0 0 0 ⟨nm,3,[],0⟩),(1,zc)]⟩,rfl,rfl,?_⟩
  refine(qA9 ws q8 b8 tRP hg q8l (by decide) (by decide)).holds.useT [] [] rfl (sk) (sk) fun e0 H0 hq=>?_
  obtain⟨u9,q9,b9,q9l,o9,rfl,rfl⟩:=hq
  refine⟨rfl,_,⟨3,(0,rrO ws q9 b9)::[(2,lf 6 0 0 v ⟨nm,3,[],0⟩),(1,zc)]⟩,rfl,rfl,?_⟩
  refine(qSi ws q9 b9 hg q9l).holds.useT [] [] rfl (sk) (sk) fun e0 H0 hq=>?_
  obtain⟨r,q10,b10,q10l,o10,rfl,rfl⟩:=hq
  refine⟨rfl,_,⟨3,(0,rrO ws q10 b10)::[(2,lf 6 0 0 v ⟨nm,3,[],0⟩),(1,zc)]⟩,rfl,rfl,?_⟩
  refine(qDE ws q10 b10 hg q10l).holds.useT [] [] rfl (sk) (sk) fun e0 H0 hq=>?_
  obtain⟨n,q11,b11,q11l,o11,rfl,rfl⟩:=hq
  refine⟨rfl,_,⟨3,(0,rrO ws q11 b11)::[(2,lf 6 0 r v ⟨nm,3,[],0⟩),(1,zc)]⟩,rfl,rfl,?_⟩
  have om:Out b3 q3 (qAu ws [tLB,qGz,tRB,tEq] q3) () q7 b7:=o4.then (o5.then (o6.then (o7.then Out.same)))
  exact⟨[],[],[], .returned (.p (.agg [i64 6,i64 n,i64 r,i64 v, .str nm,i64 3, .str [],i64 0, .nils, .nils])),rrH ws q11 b11,rfl,sk,sk, .mk 6 n r v ⟨nm,3,[],0⟩ [] [],q11,b11,q11l,by rw [qD9];exact Out.no c1 (Out.yes c2 (o2.then (o3.then (om.then (o8.then (o9.then (o10.then (o11.then Out.same))))))).mv),⟨_,rfl,qAm 6 n r v ⟨nm,3,[],0⟩⟩,rfl⟩
 refine(qAy ws q0 b0 qBt hg hq0 (by decide) (by decide)).holds.useT [] [] rfl (sk) (sk) fun e0 H0 hq=>?_
 obtain⟨rfl,rfl⟩:=hq.2 c2
 refine⟨rfl,_,⟨3,(0,rrO ws q0 b0)::[(2,zc),(1,zc)]⟩,rfl,rfl,?_⟩
 refine(qPM ws q0 b0 hg hq0).holds.useT [] [] rfl (sk) (sk) fun e0 H0 hq=>?_
 obtain⟨rf,q1,b1,q1l,o1,rfl,rfl⟩:=hq
 refine⟨rfl,_,⟨3,(0,rrO ws q1 b1)::[(2,zc),(1,zc)]⟩,rfl,rfl,?_⟩
 by_cases c3:Tk ws b1 q1 tIn
 rotate_left
 ·refine(qAy ws q1 b1 tIn hg q1l (by decide) (by decide)).holds.useT [] [] rfl (sk) (sk) fun e0 H0 hq=>?_
  obtain⟨rfl,rfl⟩:=hq.2 c3
  refine⟨rfl,_,⟨3,(0,rrO ws q1 b1)::[(2,lf 0 0 0 0 rf),(1,zc)]⟩,rfl,rfl,?_⟩
  refine(qSi ws q1 b1 hg q1l).holds.useT [] [] rfl (sk) (sk) fun e0 H0 hq=>?_
  obtain⟨o,q2,b2,q2l,o2,rfl,rfl⟩:=hq
  refine⟨rfl,_,⟨3,(0,rrO ws q2 b2)::[(2,lf 0 0 0 0 rf),(1,zc)]⟩,rfl,rfl,?_⟩
  refine(qDE ws q2 b2 hg q2l).holds.useT [] [] rfl (sk) (sk) fun e0 H0 hq=>?_
  obtain⟨n,q3,b3,q3l,o3,rfl,rfl⟩:=hq
  refine⟨rfl,_,⟨3,(0,rrO ws q3 b3)::[(2,lf o 0 0 0 rf),(1,zc)]⟩,rfl,rfl,?_⟩
  exact⟨[],[],[], .returned (.p (.agg [i64 o,i64 n,i64 0,i64 0, .str rf.name,i64 rf.mode, .str rf.plate,i64 rf.n, .nils, .nils])),rrH ws q3 b3,rfl,sk,sk, .mk o n 0 0 rf [] [],q3,b3,q3l,by rw [qD9];exact Out.no c1 (Out.no c2 (o1.then (Out.no c3 (o2.then (o3.then Out.same))))),⟨_,rfl,qAm o n 0 0 rf⟩,rfl⟩
 have q2l:q1+1≤ws.length:=qAi (by rw [c3.2];decide)
 refine(qAy ws q1 b1 tIn hg q1l (by decide) (by decide)).holds.useT [] [] rfl (sk) (sk) fun e0 H0 hq=>?_
 obtain⟨rfl,rfl⟩:=hq.1 c3
 refine⟨rfl,_,⟨3,(0,rrO ws (q1+1) false)::[(2,lf 0 0 0 0 rf),(1,zc)]⟩,rfl,rfl,?_⟩
 refine(qA9 ws (q1+1) false tLC hg q2l (by decide) (by decide)).holds.useT [] [] rfl (sk) (sk) fun e0 H0 hq=>?_
 obtain⟨u3,q3,b3,q3l,o3,rfl,rfl⟩:=hq
 refine⟨rfl,_,⟨3,(0,rrO ws q3 b3)::[(2,lf 5 0 0 0 rf),(1,zc)]⟩,rfl,rfl,?_⟩
 refine(qDE ws q3 b3 hg q3l).holds.useT [] [] rfl (sk) (sk) fun e0 H0 hq=>?_
 obtain⟨n0,q4,b4,q4l,o4,rfl,rfl⟩:=hq
 refine⟨rfl,_,⟨3,(0,rrO ws q4 b4)::[(2,lf 5 0 0 0 rf),(1,zc)]⟩,rfl,rfl,?_⟩
 refine((qNM [] n0 List.Pairwise.nil (by simp)).arg (qTt n0)).eq rfl ?_
 have hlt1:b1=false:=c3.1
 have hFq:b3=false→ws.length - q4<F∧(b4=false→q3<q4):=fun e=>by
  subst e
  have h3:=qAq (qBZ o3)
  subst hlt1
  have hb0:=o1.live
  subst hb0
  have h1:=qGg (qBZ o1)
  refine⟨?_,fun e=>?_⟩
  ·cases b4
   ·have:=qCP (qBZ o4)
    omega
   ·have:q3≤q4:=by
     have h4:qCk ws q3=.inl q4:=o4
     rw [qCk] at h4
     split at h4
     ·cases h4
     ·injection h4 with h4;omega
    omega
  ·subst e;exact qCP (qBZ o4)
 have hlist:LK b3 q3 (qFB ws (qCk ws) F q3) (fun f=>qDU ws (qCk ws) f [n0] q4) ws.length q4 b4:=⟨F,fun e=>by subst e;exact(hFq o4.live).1,fun l q' b' ho=>o4.then ho⟩
 refine⟨List Int × List Int × Nat × Bool,fun x=>[(0, .ptr 0 0 0),(2, .ptr 1 0 0),(4, .ptr 2 0 0)],fun x=>⟨3,[(0,rrO ws x.2.2.1 x.2.2.2),(2,lfI rf x.2.1),(1,zc)]⟩,fun x=>x.2.2.1≤ws.length∧(x.2.2.2=false→x.1.length≤x.2.2.1)∧x.1.length≤1501∧(x.2.1=qOg x.1∧Inc x.2.1∧x.2.1.length≤x.1.length)∧LK b3 q3 (qFB ws (qCk ws) F q3) (fun f=>qDU ws (qCk ws) f x.1 x.2.2.1) ws.length x.2.2.1 x.2.2.2,fun x=>if x.2.2.2=true then 0 else ws.length+1 - x.2.2.1,?_,?_⟩
 ·exact⟨([n0],[n0],q4,b4),⟨q4l,fun e=>by simp only [] at e;have:=(hFq (by subst e;exact o4.live)).2 e;simp only [List.length_singleton];omega,by simp,⟨rfl,by simp [Inc],by simp⟩,hlist⟩,qAC [] [] [] rfl (sk) (sk) rfl⟩
 clear hlist hFq
 rintro⟨acc,s,q,b⟩ ⟨k1,k2,k3,⟨k5,k6,k7⟩,k4⟩
 simp only [] at k1 k2 k3 k4 k5 k6 k7
 by_cases c:Tk ws b q qAt
 ·have ql:q+1≤ws.length:=qAi (by rw [c.2];decide)
  refine(qAy ws q b qAt hg k1 (by decide) (by decide)).holds.useT [] [] rfl (sk) (sk) fun e0 H0 hq=>?_
  obtain⟨rfl,rfl⟩:=hq.1 c
  refine⟨rfl,_,⟨3,(0,rrO ws (q+1) false)::[(2,lfI rf s),(1,zc)]⟩,rfl,rfl,?_⟩
  refine VDraw.seq rfl ?_
  refine(qDE ws (q+1) false hg ql).holds.useT [] [] rfl (sk) (sk) fun e0 H0 hq=>?_
  obtain⟨n,q5,b5,q5l,o5,rfl,rfl⟩:=hq
  refine⟨rfl,_,⟨3,(0,rrO ws q5 b5)::[(2,lfI rf s),(1,zc)]⟩,rfl,rfl,?_⟩
  refine⟨sk,?_⟩
  refine(qNM s n k6 (by omega)).eq rfl ?_
  have hal:=k2 c.1
  have hlt:b5=false→q+1<q5:=fun e=>by subst e;exact qCP (qBZ o5)
  have hil:=qQN s n
  have c':=c
  obtain⟨rfl,ct⟩:=c'
  exact⟨(acc++[n],qHk s n,q5,b5),⟨q5l,fun e=>by have:=hlt e;show(acc++[n]).length≤q5;rw [qAJ];omega,by show(acc++[n]).length≤1501;rw [qAJ];omega,⟨by show qHk s n=qOg (acc++[n]);rw [qRa,k5],qQO s n k6,by show(qHk s n).length≤(acc++[n]).length;rw [qAJ];omega⟩,k4.step (fun f l q' b' ho=>by rw [qDU];exact Out.yes ⟨rfl,ct⟩ (o5.then ho).mv) (fun e=>⟨by have:=hlt e;show q<q5;omega,q5l⟩)⟩,qAC [] [] [] rfl (sk) (sk) rfl,by show(if b5=true then 0 else ws.length+1 - q5)<(if false=true then 0 else ws.length+1 - q);cases b5 <;> simp <;> (try have:=hlt rfl) <;> omega⟩
 ·refine(qAy ws q b qAt hg k1 (by decide) (by decide)).holds.useT [] [] rfl (sk) (sk) fun e0 H0 hq=>?_
  obtain⟨rfl,rfl⟩:=hq.2 c
  refine⟨rfl,_,⟨3,(0,rrO ws q b)::[(2,lfI rf s),(1,zc)]⟩,rfl,rfl,?_⟩
  have ol:=k4.stop (fun e f=>by rw [qDU,if_neg (fun h=>c ⟨e,h⟩)])
  refine(qA9 ws q b tRC hg k1 (by decide) (by decide)).holds.useT [] [] rfl (sk) (sk) fun e0 H0 hq=>?_
  obtain⟨u6,q6,b6,q6l,o6,rfl,rfl⟩:=hq
  refine⟨rfl,_,⟨3,(0,rrO ws q6 b6)::[(2,lfI rf s),(1,zc)]⟩,rfl,rfl,?_⟩
  exact⟨[],[],[], .returned (.p (.agg [i64 5,i64 0,i64 0,i64 0, .str rf.name,i64 rf.mode, .str rf.plate,i64 rf.n,ints s, .nils])),rrH ws q6 b6,rfl,sk,sk, .mk 5 0 0 0 rf s [],q6,b6,q6l,by rw [qD9];exact Out.no c1 (Out.no c2 (o1.then (Out.yes c3 (o3.then (ol.then (o6.then (Out.ret (by rw [k5]))))).mv))),⟨_,rfl,qM6 5 0 0 0 rf s⟩,rfl⟩
structure RAll (ws:List Wd) (f:Nat):Prop where
 cond:∀ q b,q≤ws.length→4 * (ws.length - q)+4≤f→qMK ws f q b
 conj:∀ q b,q≤ws.length→4 * (ws.length - q)+3≤f→HoldsG cx 173 [.ptr 0 0 0] (rrH ws q b) (RC ws b q (qCo ws f q))
 neg:∀ q b,q≤ws.length→4 * (ws.length - q)+2≤f→HoldsG cx 194 [.ptr 0 0 0] (rrH ws q b) (RC ws b q (qG5 ws f q))
 test:∀ q b,q≤ws.length→4 * (ws.length - q)+1≤f→HoldsG cx 203 [.ptr 0 0 0] (rrH ws q b) (RC ws b q (qD9 ws f q))
theorem qVJ (ws:List Wd) (F q0:Nat) (b0:Bool) (hg:GoodW ws) (hq0:q0≤ws.length) (hF:4 * (ws.length - q0)+2≤F+1) (ih:RAll ws F) :
  HoldsG cx 194 [.ptr 0 0 0] (rrH ws q0 b0) (RC ws b0 q0 (qG5 ws (F+1) q0)):=by
 refine qAA Tryz.func194 rfl rfl rfl ?_
 have hl:=hg.len
 by_cases c1:Tk ws b0 q0 qGq
 ·have q1l:q0+1≤ws.length:=qAi (by rw [c1.2];decide)
  refine(qAy ws q0 b0 qGq hg hq0 (by decide) (by decide)).holds.useT [] [] rfl (sk) (sk) fun e0 H0 hq=>?_
  obtain⟨rfl,rfl⟩:=hq.1 c1
  refine⟨rfl,_,⟨2,(0,rrO ws (q0+1) false)::[(1,zc)]⟩,rfl,rfl,?_⟩
  refine(ih.neg (q0+1) false q1l (by omega)).holds.useT [] [] rfl (sk) (sk) fun e0 H0 hq=>?_
  obtain⟨⟨o,n,rl,vl,rf,st,ar⟩,q2,b2,q2l,o2,rfl,rfl⟩:=hq
  refine⟨rfl,_,⟨2,(0,rrO ws q2 b2)::[(1,zc)]⟩,rfl,rfl,?_⟩
  exact⟨[2],[],[], .returned (.p (Cd.mk 7 0 0 0 rf0 [] [.mk o n rl vl rf st ar]).pv),rrH ws q2 b2,rfl,⟨_,rfl,⟨_,rfl,_,_,rfl,rfl,_,_,rfl,rfl,_,_,rfl,rfl,_,_,rfl,rfl,_,_,rfl,rfl,_,_,rfl,rfl,_,_,rfl,rfl,_,_,rfl,rfl,_,_,rfl, .inr (.inl rfl),_,_,rfl,⟨_,rfl,by show 0+1≤1;omega,rfl⟩,rfl⟩⟩,sk,_,q2,b2,q2l,by rw [qG5];exact Out.yes c1 (o2.then Out.same).mv,rfl,rfl⟩
 refine(qAy ws q0 b0 qGq hg hq0 (by decide) (by decide)).holds.useT [] [] rfl (sk) (sk) fun e0 H0 hq=>?_
 obtain⟨rfl,rfl⟩:=hq.2 c1
 refine⟨rfl,_,⟨2,(0,rrO ws q0 b0)::[(1,zc)]⟩,rfl,rfl,?_⟩
 refine(ih.test q0 b0 hq0 (by omega)).holds.useT [] [] rfl (sk) (sk) fun e0 H0 hq=>?_
 obtain⟨⟨o,n,rl,vl,rf,st,ar⟩,q2,b2,q2l,o2,rfl,rfl⟩:=hq
 refine⟨rfl,_,⟨2,(0,rrO ws q2 b2)::[(1,zc)]⟩,rfl,rfl,?_⟩
 exact⟨[],[],[], .returned (.p (Cd.mk o n rl vl rf st ar).pv),rrH ws q2 b2,rfl,sk,sk,_,q2,b2,q2l,by rw [qG5];exact Out.no c1 o2,rfl,rfl⟩
theorem qTi (ws:List Wd) (F q0:Nat) (b0:Bool) (hg:GoodW ws) (hq0:q0≤ws.length) (hF:4 * (ws.length - q0)+3≤F+1) (ih:∀ f,f≤F→RAll ws f) :
  HoldsG cx 173 [.ptr 0 0 0] (rrH ws q0 b0) (RC ws b0 q0 (qCo ws (F+1) q0)):=by
 refine qAA Tryz.func173 rfl rfl rfl ?_
 have hl:=hg.len
 refine((ih F (Nat.le_refl _)).neg q0 b0 hq0 (by omega)).holds.useT [] [] rfl (sk) (sk) fun e0 H0 hq=>?_
 obtain⟨⟨o,n,rl,vl,rf,st,ar⟩,q1,b1,q1l,o1,rfl,rfl⟩:=hq
 refine⟨rfl,_,⟨2,(0,rrO ws q1 b1)::[(1,zc)]⟩,rfl,rfl,?_⟩
 have hlt1:b1=false→q0<q1:=fun e=>by
  subst e
  have:=o1.live
  subst this
  exact qM9 F (qBZ o1)
 refine⟨Cd × Nat × Bool,fun x=>[(0, .ptr 0 0 0),(2, .ptr 1 0 0),(3, .ptr 2 0 0)],fun x=>⟨3,[(2,cO (x.1.cells.map .p)),(0,rrO ws x.2.1 x.2.2),(1,zc)]⟩,fun x=>x.2.1≤ws.length∧∃ f,f≤F∧(x.2.2=false→4 * (ws.length - x.2.1)+2≤f)∧∀ l q' b',Out x.2.2 x.2.1 (qK8 ws f x.1 x.2.1) l q' b'→Out b0 q0 (qCo ws (F+1) q0) l q' b',fun x=>if x.2.2=true then 0 else ws.length+1 - x.2.1,?_,?_⟩
 ·exact⟨(.mk o n rl vl rf st ar,q1,b1),⟨q1l,F,Nat.le_refl _,fun e=>by simp only [] at e ⊢;have:=hlt1 e;omega,fun l q' b' ho=>by rw [qCo];exact o1.then ho⟩,qAC [] [] [] rfl (sk) (sk) rfl⟩
 clear o1 hlt1
 rintro⟨⟨o,n,rl,vl,rf,st,ar⟩,q,b⟩ ⟨k1,f,k0,k2,k3⟩
 simp only [] at k1 k0 k2 k3
 by_cases c1:Tk ws b q qDY
 ·have ql:q+1≤ws.length:=qAi (by rw [c1.2];decide)
  have hf:=k2 c1.1
  obtain⟨f,rfl⟩:∃ g,f=g+1:=⟨f - 1,by omega⟩
  refine(qAy ws q b qDY hg k1 (by decide) (by decide)).holds.useT [] [] rfl (sk) (sk) fun e0 H0 hq=>?_
  obtain⟨rfl,rfl⟩:=hq.1 c1
  refine⟨rfl,_,⟨3,(0,rrO ws (q+1) false)::[(2,cO ((Cd.mk o n rl vl rf st ar).cells.map .p)),(1,zc)]⟩,rfl,rfl,?_⟩
  refine VDraw.seq rfl ?_
  refine((ih f (by omega)).neg (q+1) false ql (by omega)).holds.useT [] [] rfl (sk) (sk) fun e0 H0 hq=>?_
  obtain⟨⟨o',n',rl',vl',rf',st',ar'⟩,q2,b2,q2l,o2,rfl,rfl⟩:=hq
  have hlt2:b2=false→q+1<q2:=fun e=>by subst e;exact qM9 f (qBZ o2)
  refine⟨rfl,_,⟨3,(0,rrO ws q2 b2)::[(2,cO ((Cd.mk o n rl vl rf st ar).cells.map .p)),(1,zc)]⟩,rfl,rfl,?_⟩
  refine⟨sk,?_⟩
  have c':=c1
  obtain⟨rfl,ct⟩:=c'
  exact⟨(.mk 8 0 0 0 rf0 [] [.mk o n rl vl rf st ar, .mk o' n' rl' vl' rf' st' ar'],q2,b2),⟨q2l,f,by omega,fun e=>by simp only [] at e ⊢;have:=hlt2 e;omega,fun l q' b' ho=>k3 l q' b' (by rw [qK8];exact Out.yes ⟨rfl,ct⟩ (o2.then ho).mv)⟩,qAC [3] [] [] rfl ⟨⟨rfl,rfl⟩,⟨rfl,rfl⟩,⟨rfl,rfl⟩,trivial⟩
   ⟨⟨_,rfl,rfl,rfl,_,rfl,_,_,rfl,rfl,_,_,rfl,rfl,_,_,rfl,rfl,_,_,rfl,rfl,_,_,rfl,rfl,_,_,rfl,rfl,_,_,rfl,rfl,_,_,rfl,rfl,_,_,rfl, .inr (.inl rfl),_,_,rfl,⟨_,rfl,by show 0+2≤2;omega,rfl⟩,rfl⟩,sk⟩ rfl,by show(if b2=true then 0 else ws.length+1 - q2)<(if false=true then 0 else ws.length+1 - q);cases b2 <;> simp <;> (try have:=hlt2 rfl) <;> omega⟩
 ·refine(qAy ws q b qDY hg k1 (by decide) (by decide)).holds.useT [] [] rfl (sk) (sk) fun e0 H0 hq=>?_
  obtain⟨rfl,rfl⟩:=hq.2 c1
  refine⟨rfl,_,⟨3,(0,rrO ws q b)::[(2,cO ((Cd.mk o n rl vl rf st ar).cells.map .p)),(1,zc)]⟩,rfl,rfl,?_⟩
  have hst:Out b q (qK8 ws f (.mk o n rl vl rf st ar) q) (.mk o n rl vl rf st ar) q b:=by
   cases b
   ·have hf:=k2 rfl
    obtain⟨f,rfl⟩:∃ g,f=g+1:=⟨f - 1,by omega⟩
    rw [qK8,if_neg (fun h=>c1 ⟨rfl,h⟩)]
    exact Out.same
   ·exact Out.bad
  exact⟨[],[],[], .returned (.p (Cd.mk o n rl vl rf st ar).pv),rrH ws q b,rfl,sk,sk,_,q,b,k1,k3 _ _ _ hst,rfl,rfl⟩
theorem qTj (ws:List Wd) (F q0:Nat) (b0:Bool) (hg:GoodW ws) (hq0:q0≤ws.length) (hF:4 * (ws.length - q0)+4≤F+1) (ih:∀ f,f≤F→RAll ws f) :
  HoldsG cx 139 [.ptr 0 0 0] (rrH ws q0 b0) (RC ws b0 q0 (qC6 ws (F+1) q0)):=by
 refine qAA Tryz.func139 rfl rfl rfl ?_
 have hl:=hg.len
 refine((ih F (Nat.le_refl _)).conj q0 b0 hq0 (by omega)).holds.useT [] [] rfl (sk) (sk) fun e0 H0 hq=>?_
 obtain⟨⟨o,n,rl,vl,rf,st,ar⟩,q1,b1,q1l,o1,rfl,rfl⟩:=hq
 refine⟨rfl,_,⟨2,(0,rrO ws q1 b1)::[(1,zc)]⟩,rfl,rfl,?_⟩
 have hlt1:b1=false→q0<q1:=fun e=>by
  subst e
  have:=o1.live
  subst this
  exact qJq F (qBZ o1)
 refine⟨Cd × Nat × Bool,fun x=>[(0, .ptr 0 0 0),(2, .ptr 1 0 0),(3, .ptr 2 0 0)],fun x=>⟨3,[(2,cO (x.1.cells.map .p)),(0,rrO ws x.2.1 x.2.2),(1,zc)]⟩,fun x=>x.2.1≤ws.length∧∃ f,f≤F∧(x.2.2=false→4 * (ws.length - x.2.1)+3≤f)∧∀ l q' b',Out x.2.2 x.2.1 (orR ws f x.1 x.2.1) l q' b'→Out b0 q0 (qC6 ws (F+1) q0) l q' b',fun x=>if x.2.2=true then 0 else ws.length+1 - x.2.1,?_,?_⟩
 ·exact⟨(.mk o n rl vl rf st ar,q1,b1),⟨q1l,F,Nat.le_refl _,fun e=>by simp only [] at e ⊢;have:=hlt1 e;omega,fun l q' b' ho=>by rw [qC6];exact o1.then ho⟩,qAC [] [] [] rfl (sk) (sk) rfl⟩
 clear o1 hlt1
 rintro⟨⟨o,n,rl,vl,rf,st,ar⟩,q,b⟩ ⟨k1,f,k0,k2,k3⟩
 simp only [] at k1 k0 k2 k3
 by_cases c1:Tk ws b q tOr
 ·have ql:q+1≤ws.length:=qAi (by rw [c1.2];decide)
  have hf:=k2 c1.1
  obtain⟨f,rfl⟩:∃ g,f=g+1:=⟨f - 1,by omega⟩
  refine(qAy ws q b tOr hg k1 (by decide) (by decide)).holds.useT [] [] rfl (sk) (sk) fun e0 H0 hq=>?_
  obtain⟨rfl,rfl⟩:=hq.1 c1
  refine⟨rfl,_,⟨3,(0,rrO ws (q+1) false)::[(2,cO ((Cd.mk o n rl vl rf st ar).cells.map .p)),(1,zc)]⟩,rfl,rfl,?_⟩
  refine VDraw.seq rfl ?_
  refine((ih f (by omega)).conj (q+1) false ql (by omega)).holds.useT [] [] rfl (sk) (sk) fun e0 H0 hq=>?_
  obtain⟨⟨o',n',rl',vl',rf',st',ar'⟩,q2,b2,q2l,o2,rfl,rfl⟩:=hq
  have hlt2:b2=false→q+1<q2:=fun e=>by subst e;exact qJq f (qBZ o2)
  refine⟨rfl,_,⟨3,(0,rrO ws q2 b2)::[(2,cO ((Cd.mk o n rl vl rf st ar).cells.map .p)),(1,zc)]⟩,rfl,rfl,?_⟩
  refine⟨sk,?_⟩
  have c':=c1
  obtain⟨rfl,ct⟩:=c'
  exact⟨(.mk 9 0 0 0 rf0 [] [.mk o n rl vl rf st ar, .mk o' n' rl' vl' rf' st' ar'],q2,b2),⟨q2l,f,by omega,fun e=>by simp only [] at e ⊢;have:=hlt2 e;omega,fun l q' b' ho=>k3 l q' b' (by rw [orR];exact Out.yes ⟨rfl,ct⟩ (o2.then ho).mv)⟩,qAC [3] [] [] rfl ⟨⟨rfl,rfl⟩,⟨rfl,rfl⟩,⟨rfl,rfl⟩,trivial⟩
   ⟨⟨_,rfl,rfl,rfl,_,rfl,_,_,rfl,rfl,_,_,rfl,rfl,_,_,rfl,rfl,_,_,rfl,rfl,_,_,rfl,rfl,_,_,rfl,rfl,_,_,rfl,rfl,_,_,rfl,rfl,_,_,rfl, .inr (.inl rfl),_,_,rfl,⟨_,rfl,by show 0+2≤2;omega,rfl⟩,rfl⟩,sk⟩ rfl,by show(if b2=true then 0 else ws.length+1 - q2)<(if false=true then 0 else ws.length+1 - q);cases b2 <;> simp <;> (try have:=hlt2 rfl) <;> omega⟩
 ·refine(qAy ws q b tOr hg k1 (by decide) (by decide)).holds.useT [] [] rfl (sk) (sk) fun e0 H0 hq=>?_
  obtain⟨rfl,rfl⟩:=hq.2 c1
  refine⟨rfl,_,⟨3,(0,rrO ws q b)::[(2,cO ((Cd.mk o n rl vl rf st ar).cells.map .p)),(1,zc)]⟩,rfl,rfl,?_⟩
  have hst:Out b q (orR ws f (.mk o n rl vl rf st ar) q) (.mk o n rl vl rf st ar) q b:=by
   cases b
   ·have hf:=k2 rfl
    obtain⟨f,rfl⟩:∃ g,f=g+1:=⟨f - 1,by omega⟩
    rw [orR,if_neg (fun h=>c1 ⟨rfl,h⟩)]
    exact Out.same
   ·exact Out.bad
  exact⟨[],[],[], .returned (.p (Cd.mk o n rl vl rf st ar).pv),rrH ws q b,rfl,sk,sk,_,q,b,k1,k3 _ _ _ hst,rfl,rfl⟩
theorem qSp (ws:List Wd) (hg:GoodW ws):∀ F f,f≤F→RAll ws f
 | 0,f,hf=>by
  have:f=0:=by omega
  subst this
  exact⟨fun q _ _ h=>absurd h (by omega),fun q _ _ h=>absurd h (by omega),fun q _ _ h=>absurd h (by omega),fun q _ _ h=>absurd h (by omega)⟩
 | F+1,f,hf=>by
  have ih:=qSp ws hg F
  by_cases h:f≤F
  ·exact ih f h
  have:f=F+1:=by omega
  subst this
  exact⟨fun q b hq hb=>qTj ws F q b hg hq hb ih,fun q b hq hb=>qTi ws F q b hg hq hb ih,fun q b hq hb=>qVJ ws F q b hg hq hb (ih F (Nat.le_refl _)),fun q b hq hb=>qTW ws F q b hg hq hb fun q hq hb=>(ih F (Nat.le_refl _)).cond q false hq hb⟩
theorem qPa (ws:List Wd) (F q:Nat) (b:Bool) (hg:GoodW ws) (hq:q≤ws.length) (hF:4 * (ws.length - q)+4≤F):qMK ws F q b:=(qSp ws hg F F (Nat.le_refl _)).cond q b hq hF
def RQG {α:Type} (ws:List Wd) (b:Bool) (q:Nat) (r:Rd α) (val:α→PV) (e:AE) (H':Hp):Prop:=∃ a q' b',q'≤ws.length∧Out b q r a q' b'∧(∃ y,e=.returned (.p y)∧NilD y (val a))∧H'=rrH ws q' b'
theorem qMj {α:Type} {ws:List Wd} {b:Bool} {q:Nat} {g:FuncId} {args:List AV} {H:Hp} {r:Rd α} {val:α→PV} (h:HoldsG cx g args H (RQG ws b q r val)):HoldsG cx g args H (RQ ws b q r fun a=>.p (val a)):=
 h.weak fun e H' hq=>by
  obtain⟨c,q',b',h1,h2,⟨y,rfl,h3⟩,rfl⟩:=hq
  exact⟨.returned (.p (val c)),⟨_,rfl,by simp only [NilA];exact⟨_,rfl,h3⟩⟩,c,q',b',h1,h2,rfl,rfl⟩
def cC (c:Cd) (v:PV):AObj:=⟨qGx,false, .bx (c.cells.map .p++[.p v])⟩
theorem qLI (ws:List Wd) (F q0:Nat) (b0:Bool) (hF:4 * ws.length+8≤F) (hg:GoodW ws) (hq0:q0≤ws.length):HoldsG cx 101 [.ptr 0 0 0] (rrH ws q0 b0) (RQ ws b0 q0 (qF9 ws F q0) fun l=>.p (css l)):=by
 refine qMj ?_
 refine qAA Tryz.func101 rfl rfl rfl ?_
 have hl:=hg.len
 refine(qA9 ws q0 b0 tLC hg hq0 (by decide) (by decide)).holds.useT [] [] rfl (sk) (sk) fun e0 H0 hq=>?_
 obtain⟨u1,q1,b1,q1l,o1,rfl,rfl⟩:=hq
 refine⟨rfl,_,⟨1,(0,rrO ws q1 b1)::[]⟩,rfl,rfl,?_⟩
 refine⟨List Cs × Nat × Bool,fun x=>[(0, .ptr 0 0 0),(3, .sl 1 11 0 x.1.length)],fun x=>⟨2,[(1,csO x.1),(0,rrO ws x.2.1 x.2.2)]⟩,fun x=>x.2.1≤ws.length∧(x.2.2=false→x.1.length≤x.2.1)∧x.1.length≤1501∧LK b1 q1 (qDL ws F F [] q1) (fun f=>qDL ws F f x.1 x.2.1) ws.length x.2.1 x.2.2,fun x=>if x.2.2=true then 0 else ws.length+1 - x.2.1,?_,?_⟩
 ·exact⟨([],q1,b1),⟨q1l,fun _=>by simp,by simp,F,fun _=>by simp only [];omega,fun l q' b' ho=>ho⟩,qAC [] [] [(1,11)] rfl (sk) (sk) rfl⟩
 rintro⟨acc,q,b⟩ ⟨k1,k2,k3,k4⟩
 simp only [] at k1 k2 k3 k4
 have hend:(b=true∨b=false∧txt ws q=qCI)→∀ {L:List Cs} {q9:Nat} {b9:Bool},Out b q ((qBs ws qCI q).then fun _ q=>qGA ws F acc q) L q9 b9→Out b1 q1 (qDL ws F F [] q1) L q9 b9:=by
  intro hh L q9 b9 ho
  obtain⟨f,hf,hk⟩:=k4
  refine hk _ _ _ ?_
  rcases hh with rfl | ⟨rfl,ht⟩
  ·exact ho
  ·have:=hf rfl
   obtain⟨f,rfl⟩:∃ g,f=g+1:=⟨f - 1,by omega⟩
   simp only [] at ho ⊢
   rw [qDL,if_pos ht]
   rw [qBs,if_pos ht] at ho
   exact ho
 cases b
 rotate_left
 ·refine(qA9 ws q true qCI hg k1 (by decide) (by decide)).holds.useT [] [] rfl (sk) (sk) fun e0 H0 hq=>?_
  obtain⟨u2,q2,b2,q2l,o2,rfl,rfl⟩:=hq
  refine⟨rfl,_,⟨2,(0,rrO ws q2 b2)::[(1,csO acc)]⟩,rfl,rfl,?_⟩
  refine(qA9 ws q2 b2 qAo hg q2l (by decide) (by decide)).holds.useT [] [] rfl (sk) (sk) fun e0 H0 hq=>?_
  obtain⟨u3,q3,b3,q3l,o3,rfl,rfl⟩:=hq
  refine⟨rfl,_,⟨2,(0,rrO ws q3 b3)::[(1,csO acc)]⟩,rfl,rfl,?_⟩
  refine(qLK ws F q3 b3 (by omega) hg q3l).holds.useT [] [] rfl (sk) (sk) fun e0 H0 hq=>?_
  obtain⟨l,q4,b4,q4l,o4,rfl,rfl⟩:=hq
  refine⟨rfl,_,⟨2,(0,rrO ws q4 b4)::[(1,csO acc)]⟩,rfl,rfl,?_⟩
  refine⟨by show 0+1≤1;omega,[qIt l],rfl,?_⟩
  refine⟨by show 0+acc.length≤(acc.map Cs.cells).length;simp,acc.map Cs.cells,qAD (by simp),by show(acc.length+1) * 152≤140737488355328;omega,acc.map Cs.cells++[qIt l],rfl,?_⟩
  refine(qA9 ws q4 b4 tRC hg q4l (by decide) (by decide)).holds.useT [] [] rfl (sk) (sk) fun e0 H0 hq=>?_
  obtain⟨u5,q5,b5,q5l,o5,rfl,rfl⟩:=hq
  refine⟨rfl,_,⟨4,(0,rrO ws q5 b5)::[(3,⟨qGx,false, .pus (acc.map Cs.cells++[qIt l])⟩),(2,⟨qGx,false, .pus [qIt l]⟩)]⟩,rfl,rfl,?_⟩
  exact⟨[3],[],[], .returned (.p (.lsts 11 (acc.map Cs.cells++[qIt l]))),rrH ws q5 b5,rfl,⟨_,rfl,⟨_,rfl,by show 0+(acc.length+1)≤(acc.map Cs.cells++[qIt l]).length;simp,qAD (by simp)⟩⟩,sk,acc++[⟨cd0,l⟩],q5,b5,q5l,o1.then (hend (.inl rfl) (o2.then (o3.then (o4.then (o5.then Out.same))))),⟨_,rfl,qLa acc l⟩,rfl⟩
 by_cases c:Tk ws false q qCI
 ·refine(qT7 ws q false qCI hg k1 (by decide) (by decide)).holds.useT [] [] rfl (sk) (sk) fun e0 H0 hq=>?_
  obtain⟨rfl,rfl⟩:=hq.1 c
  refine⟨rfl,_,⟨2,(0,rrO ws q false)::[(1,csO acc)]⟩,rfl,rfl,?_⟩
  refine(qA9 ws q false qCI hg k1 (by decide) (by decide)).holds.useT [] [] rfl (sk) (sk) fun e0 H0 hq=>?_
  obtain⟨u2,q2,b2,q2l,o2,rfl,rfl⟩:=hq
  refine⟨rfl,_,⟨2,(0,rrO ws q2 b2)::[(1,csO acc)]⟩,rfl,rfl,?_⟩
  refine(qA9 ws q2 b2 qAo hg q2l (by decide) (by decide)).holds.useT [] [] rfl (sk) (sk) fun e0 H0 hq=>?_
  obtain⟨u3,q3,b3,q3l,o3,rfl,rfl⟩:=hq
  refine⟨rfl,_,⟨2,(0,rrO ws q3 b3)::[(1,csO acc)]⟩,rfl,rfl,?_⟩
  refine(qLK ws F q3 b3 (by omega) hg q3l).holds.useT [] [] rfl (sk) (sk) fun e0 H0 hq=>?_
  obtain⟨l,q4,b4,q4l,o4,rfl,rfl⟩:=hq
  refine⟨rfl,_,⟨2,(0,rrO ws q4 b4)::[(1,csO acc)]⟩,rfl,rfl,?_⟩
  refine⟨by show 0+1≤1;omega,[qIt l],rfl,?_⟩
  refine⟨by show 0+acc.length≤(acc.map Cs.cells).length;simp,acc.map Cs.cells,qAD (by simp),by show(acc.length+1) * 152≤140737488355328;omega,acc.map Cs.cells++[qIt l],rfl,?_⟩
  refine(qA9 ws q4 b4 tRC hg q4l (by decide) (by decide)).holds.useT [] [] rfl (sk) (sk) fun e0 H0 hq=>?_
  obtain⟨u5,q5,b5,q5l,o5,rfl,rfl⟩:=hq
  refine⟨rfl,_,⟨4,(0,rrO ws q5 b5)::[(3,⟨qGx,false, .pus (acc.map Cs.cells++[qIt l])⟩),(2,⟨qGx,false, .pus [qIt l]⟩)]⟩,rfl,rfl,?_⟩
  exact⟨[3],[],[], .returned (.p (.lsts 11 (acc.map Cs.cells++[qIt l]))),rrH ws q5 b5,rfl,⟨_,rfl,⟨_,rfl,by show 0+(acc.length+1)≤(acc.map Cs.cells++[qIt l]).length;simp,qAD (by simp)⟩⟩,sk,acc++[⟨cd0,l⟩],q5,b5,q5l,o1.then (hend (.inr c) (o2.then (o3.then (o4.then (o5.then Out.same))))),⟨_,rfl,qLa acc l⟩,rfl⟩
 refine(qT7 ws q false qCI hg k1 (by decide) (by decide)).holds.useT [] [] rfl (sk) (sk) fun e0 H0 hq=>?_
 obtain⟨rfl,rfl⟩:=hq.2 c
 refine⟨rfl,_,⟨2,(0,rrO ws q false)::[(1,csO acc)]⟩,rfl,rfl,?_⟩
 clear hend
 have hal:=k2 rfl
 refine(qPa ws F q false hg k1 (by omega)).holds.useT [] [] rfl (sk) (sk) fun e0 H0 hq=>?_
 obtain⟨⟨o,n,rl,vl,rf,st,ar⟩,q2,b2,q2l,o2,rfl,rfl⟩:=hq
 refine⟨rfl,_,⟨2,(0,rrO ws q2 b2)::[(1,csO acc)]⟩,rfl,rfl,?_⟩
 refine(qA9 ws q2 b2 qAo hg q2l (by decide) (by decide)).holds.useT [] [] rfl (sk) (sk) fun e0 H0 hq=>?_
 obtain⟨u3,q3,b3,q3l,o3,rfl,rfl⟩:=hq
 refine⟨rfl,_,⟨3,(0,rrO ws q3 b3)::[(2,cC (.mk o n rl vl rf st ar) .nils),(1,csO acc)]⟩,rfl,rfl,?_⟩
 refine(qLK ws F q3 b3 (by omega) hg q3l).holds.useT [] [] rfl (sk) (sk) fun e0 H0 hq=>?_
 obtain⟨l,q4,b4,q4l,o4,rfl,rfl⟩:=hq
 refine⟨rfl,_,⟨3,(0,rrO ws q4 b4)::[(2,cC (.mk o n rl vl rf st ar) .nils),(1,csO acc)]⟩,rfl,rfl,?_⟩
 refine(qA9 ws q4 b4 qAX hg q4l (by decide) (by decide)).holds.useT [] [] rfl (sk) (sk) fun e0 H0 hq=>?_
 obtain⟨u5,q5,b5,q5l,o5,rfl,rfl⟩:=hq
 refine⟨rfl,_,⟨3,(0,rrO ws q5 b5)::[(2,cC (.mk o n rl vl rf st ar) (ints l)),(1,csO acc)]⟩,rfl,rfl,?_⟩
 obtain⟨x,hx⟩:∃ x:Cs,x=⟨.mk o n rl vl rf st ar,l⟩:=⟨_,rfl⟩
 refine⟨by show 0+1≤1;omega,[x.cells],by rw [hx];rfl,?_⟩
 refine⟨by show 0+acc.length≤(acc.map Cs.cells).length;simp,acc.map Cs.cells,qAD (by simp),by show(acc.length+1) * 152≤140737488355328;omega,(acc++[x]).map Cs.cells,by simp,?_⟩
 have hlt:b5=false→q+1≤q5:=fun e=>by
  subst e
  have h5:=o5.live
  subst h5
  have h4:=o4.live
  subst h4
  have h3:=o3.live
  subst h3
  have h2:=o2.live
  have g2:=qL1 F (qBZ o2)
  have g3:=qAq (qBZ o3)
  have g4:=qJX (qBZ o4)
  have g5:=qAq (qBZ o5)
  omega
 exact⟨(acc++[x],q5,b5),⟨q5l,fun e=>by have:=hlt e;show(acc++[x]).length≤q5;rw [qAJ];omega,by show(acc++[x]).length≤1501;rw [qAJ];omega,k4.step (fun f l' q' b' ho=>by rw [qDL,if_neg (fun h=>c ⟨rfl,h⟩)];exact o2.then (o3.then (o4.then (o5.then (by rw [hx] at ho;exact ho))))) (fun e=>⟨by have:=hlt e;show q<q5;omega,q5l⟩)⟩,qAC [] [(1,4)] [] rfl ⟨⟨rfl,rfl⟩,congrArg (fun k:Nat=>AV.sl 4 11 0 k) (qAJ acc x).symm,trivial⟩ (sk) rfl,by show(if b5=true then 0 else ws.length+1 - q5)<(if false=true then 0 else ws.length+1 - q);cases b5 <;> simp <;> (try have:=hlt rfl) <;> omega⟩
def qQk (ws:List Wd) (F q:Nat):Rd De:=(qCJ ws F q).then fun d q=>(qBs ws qAX q).then fun _ q=>.inr (d,q)
def rdO (k n:Int) (nm pl:List UInt8) (rs cs:PV):AObj:=⟨qRC,false, .bx [.p (i64 k), .p (i64 n), .p (.str nm), .p (.str pl), .p rs, .p cs]⟩
abbrev dz:AObj:=rdO 0 0 [] [] .nils .nils
theorem qE5 {k n:Int} {nm pl:List UInt8} {l:List Rf} {cs:List Cs} {rs c2:PV} (h1:NilD rs (qBu l)) (h2:NilD c2 (css cs)):NilD (.agg [i64 k,i64 n, .str nm, .str pl,rs,c2]) (De.pv ⟨k,n,nm,pl,l,cs⟩):=by
 show NilD _ (.agg [i64 k,i64 n, .str nm, .str pl,qBu l,css cs])
 simp only [NilD,NilDL]
 exact⟨_,rfl,_,_,rfl,rfl,_,_,rfl,rfl,_,_,rfl,rfl,_,_,rfl,rfl,_,_,rfl,h1,_,_,rfl,h2,rfl⟩
theorem qBr (s:Nat):NilD .nils (.lsts s []):=by simp only [NilD];exact .inr (.inr ⟨s,rfl⟩)
theorem qTg (ws:List Wd) (F q0:Nat) (b0:Bool) (hF:4 * ws.length+8≤F) (hg:GoodW ws) (hq0:q0≤ws.length):HoldsG cx 56 [.ptr 0 0 0] (rrH ws q0 b0) (RQ ws b0 q0 (qQk ws F q0) fun d=>.p d.pv):=by
 refine qMj ?_
 refine qAA Tryz.func56 rfl rfl rfl ?_
 have hl:=hg.len
 by_cases c1:Tk ws b0 q0 qCL
 ·have q1l:q0+1≤ws.length:=qAi (by rw [c1.2];decide)
  refine(qAy ws q0 b0 qCL hg hq0 (by decide) (by decide)).holds.useT [] [] rfl (sk) (sk) fun e0 H0 hq=>?_
  obtain⟨rfl,rfl⟩:=hq.1 c1
  refine⟨rfl,_,⟨3,(0,rrO ws (q0+1) false)::[(2,dz),(1,dz)]⟩,rfl,rfl,?_⟩
  refine(qDE ws (q0+1) false hg q1l).holds.useT [] [] rfl (sk) (sk) fun e0 H0 hq=>?_
  obtain⟨n,q2,b2,q2l,o2,rfl,rfl⟩:=hq
  refine⟨rfl,_,⟨3,(0,rrO ws q2 b2)::[(2,dz),(1,dz)]⟩,rfl,rfl,?_⟩
  refine(qA9 ws q2 b2 qAX hg q2l (by decide) (by decide)).holds.useT [] [] rfl (sk) (sk) fun e0 H0 hq=>?_
  obtain⟨u9,q9,b9,q9l,o9,rfl,rfl⟩:=hq
  refine⟨rfl,_,⟨3,(0,rrO ws q9 b9)::[(2,rdO 1 n [] [] .nils .nils),(1,dz)]⟩,rfl,rfl,?_⟩
  exact⟨[],[],[], .returned (.p (.agg [i64 1,i64 n, .str [], .str [], .nils, .nils])),rrH ws q9 b9,rfl,sk,sk,⟨1,n,[],[],[],[]⟩,q9,b9,q9l,Out.then (by rw [qCJ];exact Out.yes c1 (o2.then Out.same).mv) (o9.then Out.same),⟨_,rfl,qE5 (by first | exact NilD.refl _ | exact qBr 4) (by first | exact NilD.refl _ | exact qBr 11)⟩,rfl⟩
 refine(qAy ws q0 b0 qCL hg hq0 (by decide) (by decide)).holds.useT [] [] rfl (sk) (sk) fun e0 H0 hq=>?_
 obtain⟨rfl,rfl⟩:=hq.2 c1
 refine⟨rfl,_,⟨3,(0,rrO ws q0 b0)::[(2,dz),(1,dz)]⟩,rfl,rfl,?_⟩
 by_cases c2:Tk ws b0 q0 qCK
 ·have q1l:q0+1≤ws.length:=qAi (by rw [c2.2];decide)
  refine(qAy ws q0 b0 qCK hg hq0 (by decide) (by decide)).holds.useT [] [] rfl (sk) (sk) fun e0 H0 hq=>?_
  obtain⟨rfl,rfl⟩:=hq.1 c2
  refine⟨rfl,_,⟨3,(0,rrO ws (q0+1) false)::[(2,dz),(1,dz)]⟩,rfl,rfl,?_⟩
  refine(qE6 ws (q0+1) false hg q1l).holds.useT [] [] rfl (sk) (sk) fun e0 H0 hq=>?_
  obtain⟨nm,q2,b2,q2l,o2,rfl,rfl⟩:=hq
  refine⟨rfl,_,⟨3,(0,rrO ws q2 b2)::[(2,dz),(1,dz)]⟩,rfl,rfl,?_⟩
  refine(qA9 ws q2 b2 tEq hg q2l (by decide) (by decide)).holds.useT [] [] rfl (sk) (sk) fun e0 H0 hq=>?_
  obtain⟨u3,q3,b3,q3l,o3,rfl,rfl⟩:=hq
  refine⟨rfl,_,⟨3,(0,rrO ws q3 b3)::[(2,rdO 2 0 nm [] .nils .nils),(1,dz)]⟩,rfl,rfl,?_⟩
  refine(qDE ws q3 b3 hg q3l).holds.useT [] [] rfl (sk) (sk) fun e0 H0 hq=>?_
  obtain⟨n,q4,b4,q4l,o4,rfl,rfl⟩:=hq
  refine⟨rfl,_,⟨3,(0,rrO ws q4 b4)::[(2,rdO 2 0 nm [] .nils .nils),(1,dz)]⟩,rfl,rfl,?_⟩
  refine(qA9 ws q4 b4 qAX hg q4l (by decide) (by decide)).holds.useT [] [] rfl (sk) (sk) fun e0 H0 hq=>?_
  obtain⟨u9,q9,b9,q9l,o9,rfl,rfl⟩:=hq
  refine⟨rfl,_,⟨3,(0,rrO ws q9 b9)::[(2,rdO 2 n nm [] .nils .nils),(1,dz)]⟩,rfl,rfl,?_⟩
  exact⟨[],[],[], .returned (.p (.agg [i64 2,i64 n, .str nm, .str [], .nils, .nils])),rrH ws q9 b9,rfl,sk,sk,⟨2,n,nm,[],[],[]⟩,q9,b9,q9l,Out.then (by rw [qCJ];exact Out.no c1 (Out.yes c2 (o2.then (o3.then (o4.then Out.same))).mv)) (o9.then Out.same),⟨_,rfl,qE5 (by first | exact NilD.refl _ | exact qBr 4) (by first | exact NilD.refl _ | exact qBr 11)⟩,rfl⟩
 refine(qAy ws q0 b0 qCK hg hq0 (by decide) (by decide)).holds.useT [] [] rfl (sk) (sk) fun e0 H0 hq=>?_
 obtain⟨rfl,rfl⟩:=hq.2 c2
 refine⟨rfl,_,⟨3,(0,rrO ws q0 b0)::[(2,dz),(1,dz)]⟩,rfl,rfl,?_⟩
 by_cases c3:Tk ws b0 q0 qAk
 ·have q1l:q0+1≤ws.length:=qAi (by rw [c3.2];decide)
  refine(qAy ws q0 b0 qAk hg hq0 (by decide) (by decide)).holds.useT [] [] rfl (sk) (sk) fun e0 H0 hq=>?_
  obtain⟨rfl,rfl⟩:=hq.1 c3
  refine⟨rfl,_,⟨3,(0,rrO ws (q0+1) false)::[(2,dz),(1,dz)]⟩,rfl,rfl,?_⟩
  refine(qE6 ws (q0+1) false hg q1l).holds.useT [] [] rfl (sk) (sk) fun e0 H0 hq=>?_
  obtain⟨nm,q2,b2,q2l,o2,rfl,rfl⟩:=hq
  refine⟨rfl,_,⟨3,(0,rrO ws q2 b2)::[(2,dz),(1,dz)]⟩,rfl,rfl,?_⟩
  have hb:∀ {d:De} {q9:Nat} {b9:Bool},Out b2 q2 (if txt ws q2=tLB then(qCg ws (q2+1)).then fun pl q=>(qBs ws tRB q).then fun _ q=>qB9 ws F nm pl q else qB9 ws F nm [] q2) d q9 b9→Out b0 q0 (qCJ ws F q0) d q9 b9:=
   fun ho=>by rw [qCJ];exact Out.no c1 (Out.no c2 (Out.yes c3 (o2.then ho).mv))
  by_cases c4:Tk ws b2 q2 tLB
  ·have q3l:q2+1≤ws.length:=qAi (by rw [c4.2];decide)
   refine(qAy ws q2 b2 tLB hg q2l (by decide) (by decide)).holds.useT [] [] rfl (sk) (sk) fun e0 H0 hq=>?_
   obtain⟨rfl,rfl⟩:=hq.1 c4
   refine⟨rfl,_,⟨3,(0,rrO ws (q2+1) false)::[(2,rdO 3 0 nm [] .nils .nils),(1,dz)]⟩,rfl,rfl,?_⟩
   refine(qE6 ws (q2+1) false hg q3l).holds.useT [] [] rfl (sk) (sk) fun e0 H0 hq=>?_
   obtain⟨pl,q3a,b3a,q3al,o3a,rfl,rfl⟩:=hq
   refine⟨rfl,_,⟨3,(0,rrO ws q3a b3a)::[(2,rdO 3 0 nm [] .nils .nils),(1,dz)]⟩,rfl,rfl,?_⟩
   refine(qA9 ws q3a b3a tRB hg q3al (by decide) (by decide)).holds.useT [] [] rfl (sk) (sk) fun e0 H0 hq=>?_
   obtain⟨u3,q3,b3,q3l,o3,rfl,rfl⟩:=hq
   refine⟨rfl,_,⟨3,(0,rrO ws q3 b3)::[(2,rdO 3 0 nm pl .nils .nils),(1,dz)]⟩,rfl,rfl,?_⟩
   have hb2:∀ {d:De} {q9:Nat} {b9:Bool},Out b3 q3 (qB9 ws F nm pl q3) d q9 b9→Out b0 q0 (qCJ ws F q0) d q9 b9:=fun ho=>hb (Out.yes c4 (o3a.then (o3.then ho)).mv)
   refine(qA9 ws q3 b3 qAo hg q3l (by decide) (by decide)).holds.useT [] [] rfl (sk) (sk) fun e0 H0 hq=>?_
   obtain⟨u4,q4,b4,q4l,o4,rfl,rfl⟩:=hq
   refine⟨rfl,_,⟨3,(0,rrO ws q4 b4)::[(2,rdO 3 0 nm pl .nils .nils),(1,dz)]⟩,rfl,rfl,?_⟩
   refine(qDE ws q4 b4 hg q4l).holds.useT [] [] rfl (sk) (sk) fun e0 H0 hq=>?_
   obtain⟨n,q5,b5,q5l,o5,rfl,rfl⟩:=hq
   refine⟨rfl,_,⟨3,(0,rrO ws q5 b5)::[(2,rdO 3 0 nm pl .nils .nils),(1,dz)]⟩,rfl,rfl,?_⟩
   refine(qJJ ws F q5 b5 qAg (by decide) (by decide) (by omega) hg q5l).holds.useT [] [] rfl (sk) (sk) fun e0 H0 hq=>?_
   obtain⟨l,q6,b6,q6l,o6,rfl,rfl⟩:=hq
   refine⟨rfl,_,⟨3,(0,rrO ws q6 b6)::[(2,rdO 3 n nm pl .nils .nils),(1,dz)]⟩,rfl,rfl,?_⟩
   refine(qA9 ws q6 b6 tEq hg q6l (by decide) (by decide)).holds.useT [] [] rfl (sk) (sk) fun e0 H0 hq=>?_
   obtain⟨u7,q7,b7,q7l,o7,rfl,rfl⟩:=hq
   refine⟨rfl,_,⟨3,(0,rrO ws q7 b7)::[(2,rdO 3 n nm pl (qBu l) .nils),(1,dz)]⟩,rfl,rfl,?_⟩
   refine(qLI ws F q7 b7 hF hg q7l).holds.useT [] [] rfl (sk) (sk) fun e0 H0 hq=>?_
   obtain⟨cs,q8,b8,q8l,o8,rfl,rfl⟩:=hq
   refine⟨rfl,_,⟨3,(0,rrO ws q8 b8)::[(2,rdO 3 n nm pl (qBu l) .nils),(1,dz)]⟩,rfl,rfl,?_⟩
   refine(qA9 ws q8 b8 qAX hg q8l (by decide) (by decide)).holds.useT [] [] rfl (sk) (sk) fun e0 H0 hq=>?_
   obtain⟨u9,q9,b9,q9l,o9,rfl,rfl⟩:=hq
   refine⟨rfl,_,⟨3,(0,rrO ws q9 b9)::[(2,rdO 3 n nm pl (qBu l) (css cs)),(1,dz)]⟩,rfl,rfl,?_⟩
   exact⟨[],[],[], .returned (.p (.agg [i64 3,i64 n, .str nm, .str pl,(qBu l),(css cs)])),rrH ws q9 b9,rfl,sk,sk,⟨3,n,nm,pl,l,cs⟩,q9,b9,q9l,Out.then (hb2 (o4.then (o5.then (o6.then (o7.then (o8.then Out.same)))))) (o9.then Out.same),⟨_,rfl,qE5 (by first | exact NilD.refl _ | exact qBr 4) (by first | exact NilD.refl _ | exact qBr 11)⟩,rfl⟩
  ·refine(qAy ws q2 b2 tLB hg q2l (by decide) (by decide)).holds.useT [] [] rfl (sk) (sk) fun e0 H0 hq=>?_
   obtain⟨rfl,rfl⟩:=hq.2 c4
   refine⟨rfl,_,⟨3,(0,rrO ws q2 b2)::[(2,rdO 3 0 nm [] .nils .nils),(1,dz)]⟩,rfl,rfl,?_⟩
   have hb2:∀ {d:De} {q9:Nat} {b9:Bool},Out b2 q2 (qB9 ws F nm [] q2) d q9 b9→Out b0 q0 (qCJ ws F q0) d q9 b9:=fun ho=>hb (Out.no c4 ho)
   refine(qA9 ws q2 b2 qAo hg q2l (by decide) (by decide)).holds.useT [] [] rfl (sk) (sk) fun e0 H0 hq=>?_
   obtain⟨u4,q4,b4,q4l,o4,rfl,rfl⟩:=hq
   refine⟨rfl,_,⟨3,(0,rrO ws q4 b4)::[(2,rdO 3 0 nm [] .nils .nils),(1,dz)]⟩,rfl,rfl,?_⟩
   refine(qDE ws q4 b4 hg q4l).holds.useT [] [] rfl (sk) (sk) fun e0 H0 hq=>?_
   obtain⟨n,q5,b5,q5l,o5,rfl,rfl⟩:=hq
   refine⟨rfl,_,⟨3,(0,rrO ws q5 b5)::[(2,rdO 3 0 nm [] .nils .nils),(1,dz)]⟩,rfl,rfl,?_⟩
   refine(qJJ ws F q5 b5 qAg (by decide) (by decide) (by omega) hg q5l).holds.useT [] [] rfl (sk) (sk) fun e0 H0 hq=>?_
   obtain⟨l,q6,b6,q6l,o6,rfl,rfl⟩:=hq
   refine⟨rfl,_,⟨3,(0,rrO ws q6 b6)::[(2,rdO 3 n nm [] .nils .nils),(1,dz)]⟩,rfl,rfl,?_⟩
   refine(qA9 ws q6 b6 tEq hg q6l (by decide) (by decide)).holds.useT [] [] rfl (sk) (sk) fun e0 H0 hq=>?_
   obtain⟨u7,q7,b7,q7l,o7,rfl,rfl⟩:=hq
   refine⟨rfl,_,⟨3,(0,rrO ws q7 b7)::[(2,rdO 3 n nm [] (qBu l) .nils),(1,dz)]⟩,rfl,rfl,?_⟩
   refine(qLI ws F q7 b7 hF hg q7l).holds.useT [] [] rfl (sk) (sk) fun e0 H0 hq=>?_
   obtain⟨cs,q8,b8,q8l,o8,rfl,rfl⟩:=hq
   refine⟨rfl,_,⟨3,(0,rrO ws q8 b8)::[(2,rdO 3 n nm [] (qBu l) .nils),(1,dz)]⟩,rfl,rfl,?_⟩
   refine(qA9 ws q8 b8 qAX hg q8l (by decide) (by decide)).holds.useT [] [] rfl (sk) (sk) fun e0 H0 hq=>?_
   obtain⟨u9,q9,b9,q9l,o9,rfl,rfl⟩:=hq
   refine⟨rfl,_,⟨3,(0,rrO ws q9 b9)::[(2,rdO 3 n nm [] (qBu l) (css cs)),(1,dz)]⟩,rfl,rfl,?_⟩
   exact⟨[],[],[], .returned (.p (.agg [i64 3,i64 n, .str nm, .str [],(qBu l),(css cs)])),rrH ws q9 b9,rfl,sk,sk,⟨3,n,nm,[],l,cs⟩,q9,b9,q9l,Out.then (hb2 (o4.then (o5.then (o6.then (o7.then (o8.then Out.same)))))) (o9.then Out.same),⟨_,rfl,qE5 (by first | exact NilD.refl _ | exact qBr 4) (by first | exact NilD.refl _ | exact qBr 11)⟩,rfl⟩
 refine(qAy ws q0 b0 qAk hg hq0 (by decide) (by decide)).holds.useT [] [] rfl (sk) (sk) fun e0 H0 hq=>?_
 obtain⟨rfl,rfl⟩:=hq.2 c3
 refine⟨rfl,_,⟨3,(0,rrO ws q0 b0)::[(2,dz),(1,dz)]⟩,rfl,rfl,?_⟩
 by_cases c4:Tk ws b0 q0 qBK
 ·have q1l:q0+1≤ws.length:=qAi (by rw [c4.2];decide)
  refine(qAy ws q0 b0 qBK hg hq0 (by decide) (by decide)).holds.useT [] [] rfl (sk) (sk) fun e0 H0 hq=>?_
  obtain⟨rfl,rfl⟩:=hq.1 c4
  refine⟨rfl,_,⟨3,(0,rrO ws (q0+1) false)::[(2,dz),(1,dz)]⟩,rfl,rfl,?_⟩
  refine(qE6 ws (q0+1) false hg q1l).holds.useT [] [] rfl (sk) (sk) fun e0 H0 hq=>?_
  obtain⟨nm,q2,b2,q2l,o2,rfl,rfl⟩:=hq
  refine⟨rfl,_,⟨3,(0,rrO ws q2 b2)::[(2,dz),(1,dz)]⟩,rfl,rfl,?_⟩
  refine(qA9 ws q2 b2 qAo hg q2l (by decide) (by decide)).holds.useT [] [] rfl (sk) (sk) fun e0 H0 hq=>?_
  obtain⟨u3,q3,b3,q3l,o3,rfl,rfl⟩:=hq
  refine⟨rfl,_,⟨3,(0,rrO ws q3 b3)::[(2,rdO 4 0 nm [] .nils .nils),(1,dz)]⟩,rfl,rfl,?_⟩
  refine(qDE ws q3 b3 hg q3l).holds.useT [] [] rfl (sk) (sk) fun e0 H0 hq=>?_
  obtain⟨n,q4,b4,q4l,o4,rfl,rfl⟩:=hq
  refine⟨rfl,_,⟨3,(0,rrO ws q4 b4)::[(2,rdO 4 0 nm [] .nils .nils),(1,dz)]⟩,rfl,rfl,?_⟩
  refine(qJJ ws F q4 b4 qBn (by decide) (by decide) (by omega) hg q4l).holds.useT [] [] rfl (sk) (sk) fun e0 H0 hq=>?_
  obtain⟨l,q5,b5,q5l,o5,rfl,rfl⟩:=hq
  refine⟨rfl,_,⟨3,(0,rrO ws q5 b5)::[(2,rdO 4 n nm [] .nils .nils),(1,dz)]⟩,rfl,rfl,?_⟩
  refine(qA9 ws q5 b5 qAX hg q5l (by decide) (by decide)).holds.useT [] [] rfl (sk) (sk) fun e0 H0 hq=>?_
  obtain⟨u9,q9,b9,q9l,o9,rfl,rfl⟩:=hq
  refine⟨rfl,_,⟨3,(0,rrO ws q9 b9)::[(2,rdO 4 n nm [] (qBu l) .nils),(1,dz)]⟩,rfl,rfl,?_⟩
  exact⟨[],[],[], .returned (.p (.agg [i64 4,i64 n, .str nm, .str [],(qBu l), .nils])),rrH ws q9 b9,rfl,sk,sk,⟨4,n,nm,[],l,[]⟩,q9,b9,q9l,Out.then (by rw [qCJ];exact Out.no c1 (Out.no c2 (Out.no c3 (Out.yes c4 (o2.then (o3.then (o4.then (o5.then Out.same)))).mv)))) (o9.then Out.same),⟨_,rfl,qE5 (by first | exact NilD.refl _ | exact qBr 4) (by first | exact NilD.refl _ | exact qBr 11)⟩,rfl⟩
 refine(qAy ws q0 b0 qBK hg hq0 (by decide) (by decide)).holds.useT [] [] rfl (sk) (sk) fun e0 H0 hq=>?_
 obtain⟨rfl,rfl⟩:=hq.2 c4
 refine⟨rfl,_,⟨3,(0,rrO ws q0 b0)::[(2,dz),(1,dz)]⟩,rfl,rfl,?_⟩
 by_cases c5:Tk ws b0 q0 qBo
 ·have q1l:q0+1≤ws.length:=qAi (by rw [c5.2];decide)
  refine(qAy ws q0 b0 qBo hg hq0 (by decide) (by decide)).holds.useT [] [] rfl (sk) (sk) fun e0 H0 hq=>?_
  obtain⟨rfl,rfl⟩:=hq.1 c5
  refine⟨rfl,_,⟨3,(0,rrO ws (q0+1) false)::[(2,dz),(1,dz)]⟩,rfl,rfl,?_⟩
  refine(qJJ ws F (q0+1) false qAg (by decide) (by decide) (by omega) hg q1l).holds.useT [] [] rfl (sk) (sk) fun e0 H0 hq=>?_
  obtain⟨l,q2,b2,q2l,o2,rfl,rfl⟩:=hq
  refine⟨rfl,_,⟨3,(0,rrO ws q2 b2)::[(2,rdO 5 0 [] [] .nils .nils),(1,dz)]⟩,rfl,rfl,?_⟩
  refine(qA9 ws q2 b2 tEq hg q2l (by decide) (by decide)).holds.useT [] [] rfl (sk) (sk) fun e0 H0 hq=>?_
  obtain⟨u3,q3,b3,q3l,o3,rfl,rfl⟩:=hq
  refine⟨rfl,_,⟨3,(0,rrO ws q3 b3)::[(2,rdO 5 0 [] [] (qBu l) .nils),(1,dz)]⟩,rfl,rfl,?_⟩
  refine(qLI ws F q3 b3 hF hg q3l).holds.useT [] [] rfl (sk) (sk) fun e0 H0 hq=>?_
  obtain⟨cs,q4,b4,q4l,o4,rfl,rfl⟩:=hq
  refine⟨rfl,_,⟨3,(0,rrO ws q4 b4)::[(2,rdO 5 0 [] [] (qBu l) .nils),(1,dz)]⟩,rfl,rfl,?_⟩
  refine(qA9 ws q4 b4 qAX hg q4l (by decide) (by decide)).holds.useT [] [] rfl (sk) (sk) fun e0 H0 hq=>?_
  obtain⟨u9,q9,b9,q9l,o9,rfl,rfl⟩:=hq
  refine⟨rfl,_,⟨3,(0,rrO ws q9 b9)::[(2,rdO 5 0 [] [] (qBu l) (css cs)),(1,dz)]⟩,rfl,rfl,?_⟩
  exact⟨[],[],[], .returned (.p (.agg [i64 5,i64 0, .str [], .str [],(qBu l),(css cs)])),rrH ws q9 b9,rfl,sk,sk,⟨5,0,[],[],l,cs⟩,q9,b9,q9l,Out.then (by rw [qCJ];exact Out.no c1 (Out.no c2 (Out.no c3 (Out.no c4 (Out.yes c5 (o2.then (o3.then (o4.then Out.same))).mv))))) (o9.then Out.same),⟨_,rfl,qE5 (by first | exact NilD.refl _ | exact qBr 4) (by first | exact NilD.refl _ | exact qBr 11)⟩,rfl⟩
 refine(qAy ws q0 b0 qBo hg hq0 (by decide) (by decide)).holds.useT [] [] rfl (sk) (sk) fun e0 H0 hq=>?_
 obtain⟨rfl,rfl⟩:=hq.2 c5
 refine⟨rfl,_,⟨3,(0,rrO ws q0 b0)::[(2,dz),(1,dz)]⟩,rfl,rfl,?_⟩
 have od:Out b0 q0 (qCJ ws F q0) (⟨0,0,[],[],[],[]⟩:De) q0 true:=by
  cases b0
  ·show qCJ ws F q0=.inl q0
   rw [qCJ,if_neg (fun h=>c1 ⟨rfl,h⟩),if_neg (fun h=>c2 ⟨rfl,h⟩),if_neg (fun h=>c3 ⟨rfl,h⟩),if_neg (fun h=>c4 ⟨rfl,h⟩),if_neg (fun h=>c5 ⟨rfl,h⟩)]
  ·exact Out.bad
 have q0l:=hq0
 refine(qA9 ws q0 true qAX hg q0l (by decide) (by decide)).holds.useT [] [] rfl (sk) (sk) fun e0 H0 hq=>?_
 obtain⟨u9,q9,b9,q9l,o9,rfl,rfl⟩:=hq
 refine⟨rfl,_,⟨3,(0,rrO ws q9 b9)::[(2,rdO 0 0 [] [] .nils .nils),(1,dz)]⟩,rfl,rfl,?_⟩
 exact⟨[],[],[], .returned (.p (.agg [i64 0,i64 0, .str [], .str [], .nils, .nils])),rrH ws q9 b9,rfl,sk,sk,⟨0,0,[],[],[],[]⟩,q9,b9,q9l,Out.then od (o9.then Out.same),⟨_,rfl,qE5 (by first | exact NilD.refl _ | exact qBr 4) (by first | exact NilD.refl _ | exact qBr 11)⟩,rfl⟩
theorem qSK {ws:List Wd} {F q q':Nat} {d:De} (h:qQk ws F q=.inr (d,q')):q<q':=by
 rw [qQk] at h
 cases h1:qCJ ws F q with
 | inl e=>rw [h1] at h;cases h
 | inr x=>
  obtain⟨a,p⟩:=x
  rw [h1] at h
  have h:(qBs ws qAX p).then _=_:=h
  have:=qGS h1
  cases h2:qBs ws qAX p with
  | inl e=>rw [h2] at h;cases h
  | inr x=>
   obtain⟨u,p2⟩:=x
   rw [h2] at h
   have h:Sum.inr (a,p2)=(Sum.inr (d,q'):Rd De):=h
   have:=qAq h2
   injection h with h
   injection h with _ h
   omega
abbrev rpH (ws:List Wd) (acc:List De) (q:Nat) (b:Bool):Hp:=⟨4,[(3,qLy acc),(2,srO (.sl 3 6 0 acc.length)),(1,rrO ws q b),(0,srO (.p .nils))]⟩
theorem qRr (s:List UInt8):Pure cx 23 [.str s] (·=.ret (qXO (qD4 s))):=by
 have hRd:=qLR s
 refine qAB Tryz.func23 rfl rfl rfl ?_
 by_cases h0:8000<s.length
 ·rw [qCO,if_pos h0] at hRd
  refine hRd.eq rfl ?_
  have e:qD4 s=.inl ((0,0),3):=by rw [qD4,if_pos h0]
  refine And.intro (fun h=>absurd (show(3:Int)=0 from h) (by decide)) (fun _=>?_)
  exact qJl (qEo []) (i64 0) (i64 0) (i64 3) rfl ⟨_,rfl,_,_,rfl, .inr (.inr ⟨6,rfl⟩),rfl⟩ rfl rfl rfl (by rw [e] <;> rfl)
 cases hr:qEJ s with
 | err p c=>
  rw [qCO,if_neg h0,hr] at hRd
  refine hRd.eq rfl ?_
  have e:qD4 s=.inl ((p.1,p.2),c):=by rw [qD4,if_neg h0,hr]
  have hc:¬ c=0:=by
   have:=qEb s _ _ _ _ _ hr
   omega
  refine And.intro (fun h=>absurd (show c=0 from h) hc) (fun _=>?_)
  exact qJl (qEo []) (i64 p.1) (i64 p.2) (i64 c) rfl ⟨_,rfl,_,_,rfl, .inr (.inr ⟨6,rfl⟩),rfl⟩ rfl rfl rfl (by rw [e] <;> rfl)
 | ok ws=>
  have hg:=qHQ hr
  have hl:=hg.len
  have hl':(ws.map Wd.cells).length=ws.length:=List.length_map ..
  rw [qCO,if_neg h0,hr] at hRd
  refine hRd.eq rfl ?_
  refine And.intro (fun _=>?_) (fun h=>absurd rfl h)
  obtain⟨F,hF⟩:∃ F,F=qHn ws:=⟨_,rfl⟩
  have hF8:4 * ws.length+8≤F:=by rw [hF];exact Nat.le_refl _
  have hFb:F≤100000:=by rw [hF,qHn];omega
  have e:qD4 s=match qC8 ws F F [] 0 with
    | .inl q=>.inl (((wat ws q).line,(wat ws q).col),381)
    | .inr (ds,_)=>if qBg ds=true then .inr ds else .inl ((0,0),3):=by rw [qD4,if_neg h0,hr,hF] <;> rfl
  clear hF
  refine⟨List De × Nat × Bool,fun x=>[(2, .ptr 0 0 0),(6, .p (.lsts 4 (ws.map Wd.cells))),(10, .ptr 1 0 0),(11, .ptr 2 0 0)],fun x=>rpH ws x.1 x.2.1 x.2.2,fun x=>x.2.1≤ws.length∧(x.2.2=false→x.1.length≤x.2.1)∧x.1.length≤1501∧LK false 0 (qC8 ws F F [] 0) (fun f=>qC8 ws F f x.1 x.2.1) ws.length x.2.1 x.2.2,fun x=>if x.2.2=true then 0 else ws.length+1 - x.2.1,?_,?_⟩
  ·exact⟨([],0,false),⟨Nat.zero_le _,fun _=>by simp,by simp,F,fun _=>by simp only [];omega,fun l q' b' ho=>ho⟩,qAC [] [] [(3,6)] rfl (sk) (sk) rfl⟩
  rintro⟨acc,q,b⟩ ⟨k1,k2,k3,k4⟩
  simp only [] at k1 k2 k3 k4
  cases b
  rotate_left
  ·have o:qC8 ws F F [] 0=.inl q:=k4.stop (l:=[]) (fun e=>by cases e)
   rw [o] at e
   by_cases hq:q<ws.length
   ·refine And.intro (fun _=>?_) (fun h=>absurd (show(q:Int)<((ws.map Wd.cells).length:Nat) by rw [hl'];omega) h)
    refine VDraw.seq rfl ?_
    refine⟨_,⟨by omega,(wat ws q).cells,qCb hq,rfl⟩,?_⟩
    refine⟨_,⟨by omega,(wat ws q).cells,qCb hq,rfl⟩,?_⟩
    refine⟨sk,?_⟩
    exact qJl (qEo []) (i64 (wat ws q).line) (i64 (wat ws q).col) (i64 381) rfl ⟨_,rfl,_,_,rfl, .inr (.inr ⟨6,rfl⟩),rfl⟩ rfl rfl rfl (by rw [e] <;> rfl)
   ·refine And.intro (fun h=>absurd (show(q:Int)<((ws.map Wd.cells).length:Nat) from h) (by rw [hl'];omega)) (fun _=>?_)
    have hw:wat ws q=wd0:=qF1 (by omega)
    have e:qD4 s=.inl (((wat ws q).line,(wat ws q).col),381):=e
    rw [hw] at e
    exact qJl (qEo []) (i64 0) (i64 0) (i64 381) rfl ⟨_,rfl,_,_,rfl, .inr (.inr ⟨6,rfl⟩),rfl⟩ rfl rfl rfl (by rw [e] <;> rfl)
  by_cases hq:q<ws.length
  rotate_left
  ·have o:qC8 ws F F [] 0=.inr (acc,q):=k4.stop (fun _ f=>by rw [qC8,if_neg hq])
   refine And.intro (fun h=>absurd (show(q:Int)<((ws.map Wd.cells).length:Nat) from h) (by rw [hl'];omega)) (fun _=>?_)
   have hC:=qWi acc (qHT hg hFb o)
   rw [o] at e
   have hR:qCt (Res (marks (rpH ws acc q false).l [3]) 5) [.agg [.sl 3 6 0 acc.length]] [qEo acc]:=⟨_,_,rfl,⟨_,rfl,_,_,rfl,⟨_,rfl,by show 0+acc.length≤(acc.map De.cells).length;simp,qAD (by simp)⟩,rfl⟩,rfl⟩
   by_cases hv:qBg acc=true
   ·rw [hv] at hC
    refine hC.lends [3] rfl hR ?_
    have e:qD4 s=.inr acc:=e.trans (if_pos hv)
    exact qJl (qEo acc) (i64 0) (i64 0) (i64 0) rfl ⟨_,rfl,_,_,rfl,⟨_,rfl,by show 0+acc.length≤(acc.map De.cells).length;simp,qAD (by simp)⟩,rfl⟩ rfl rfl rfl (by rw [e] <;> rfl)
   ·have e:qD4 s=.inl ((0,0),3):=e.trans (if_neg hv)
    rw [Bool.not_eq_true] at hv
    rw [hv] at hC
    refine hC.lends [3] rfl hR ?_
    exact qJl (qEo []) (i64 0) (i64 0) (i64 3) rfl ⟨_,rfl,_,_,rfl, .inr (.inr ⟨6,rfl⟩),rfl⟩ rfl rfl rfl (by rw [e] <;> rfl)
  refine And.intro (fun _=>?_) (fun h=>absurd (show(q:Int)<((ws.map Wd.cells).length:Nat) by rw [hl'];omega) h)
  refine VDraw.seq rfl ?_
  have hal:=k2 rfl
  refine(qTg ws F q false hF8 hg k1).holds.useT [] [(0,1)] rfl (sk) (sk) fun e0 H0 hq0=>?_
  obtain⟨d,q2,b2,q2l,o2,rfl,rfl⟩:=hq0
  refine⟨rfl,_,⟨4,(1,rrO ws q2 b2)::[(3,qLy acc),(2,srO (.sl 3 6 0 acc.length)),(0,srO (.p .nils))]⟩,rfl,rfl,?_⟩
  refine⟨sk,?_⟩
  refine⟨sk,?_⟩
  refine⟨by show 0+1≤1;omega,[d.cells],rfl,?_⟩
  refine⟨by show 0+acc.length≤(acc.map De.cells).length;simp,acc.map De.cells,qAD (by simp),by show(acc.length+1) * 96≤140737488355328;omega,(acc++[d]).map De.cells,by simp,?_⟩
  have hlt:b2=false→q<q2:=fun e=>by subst e;exact qSK (qBZ o2)
  exact⟨(acc++[d],q2,b2),⟨q2l,fun e=>by have:=hlt e;show(acc++[d]).length≤q2;rw [qAJ];omega,by show(acc++[d]).length≤1501;rw [qAJ];omega,k4.step (fun f l q' b' ho=>by
   have e1:qC8 ws F (f+1) acc q=(qQk ws F q).then fun d q=>qC8 ws F f (acc++[d]) q:=by
    rw [qC8,if_pos hq,qQk,qIF]
    congr 1
    funext d q
    rw [qIF];rfl
   rw [e1]
   exact o2.then ho) (fun e=>⟨hlt e,q2l⟩)⟩,qAC [] [(3,5)] [] rfl (sk) ⟨⟨_,rfl,rfl,rfl,rfl⟩,⟨_,rfl,rfl,rfl,_,rfl,_,_,rfl,congrArg (fun k:Nat=>AV.sl 5 6 0 k) (qAJ acc d).symm,rfl⟩,sk⟩ rfl,by show(if b2=true then 0 else ws.length+1 - q2)<(if false=true then 0 else ws.length+1 - q);cases b2 <;> simp <;> (try have:=hlt rfl) <;> omega⟩
set_option maxHeartbeats 40000000
abbrev otS:OT:=(.pure 0 (.pure 1 (.pure 2 (.pure 3 (.pure 4 (.pure 5 (.pure 6 (.pure 7 (.pure 8 (.pure 9 (.pure 10 (.pure 11 (.eff 12 [] (.pure 13 (.pure 14 (.pure 15 (.pure 16 (.pure 17 (.pure 18 (.pure 19 (.pure 20 (.pure 21 (.pure 22 (.pure 23 (.pure 24 (.pure 25 (.pure 26 (.eff 27 [] (.pure 28 (.pure 29 .fin)) .nil))))))))))))))) .nil)))))))))))))
theorem qIB {k n k' n':Int} {nm pl nm' pl':List UInt8} {rs rs':List Rf} {cs cs':List Cs}:((⟨k,n,nm,pl,rs,cs⟩:De)=⟨k',n',nm',pl',rs',cs'⟩) ↔ (k=k'∧n=n'∧nm=nm'∧pl=pl'∧rs=rs'∧cs=cs'):=by
 constructor
 ·intro h;injection h with h1 h2 h3 h4 h5 h6;exact⟨h1,h2,h3,h4,h5,h6⟩
 ·rintro⟨rfl,rfl,rfl,rfl,rfl,rfl⟩;rfl
theorem qUQ {c c':Cd} {l l':List Int}:((⟨c,l⟩:Cs)=⟨c',l'⟩) ↔ (c=c'∧l=l'):=by
 constructor
 ·intro h;injection h with h1 h2;exact⟨h1,h2⟩
 ·rintro⟨rfl,rfl⟩;rfl
abbrev smH (a b:List De) (x y:De):Hp:=⟨4,[(3,deO y),(2,deO x),(1,srO (.p (des b))),(0,srO (.p (des a)))]⟩
theorem qLG (a b:List De) (ha:BigP a) (hb:BigP b):Pure cx 24 [qEo a,qEo b] (·=.ret [.bool (cb (a=b))]):=by
 have hla:(a.map De.cells).length=a.length:=List.length_map ..
 have hlb:(b.map De.cells).length=b.length:=List.length_map ..
 have a1:=ha.len
 refine qAB Tryz.func24 rfl rfl rfl ?_
 refine And.intro (fun h1=>?_) (fun h1=>?_)
 rotate_left
 ·have h1:¬ ((a.map De.cells).length:Int)=((b.map De.cells).length:Nat):=h1
  rw [hla,hlb] at h1
  exact qAF _ rfl rfl (by rw [qGv (fun e=>h1 (by rw [e]))])
 have h1:((a.map De.cells).length:Int)=((b.map De.cells).length:Nat):=h1
 rw [hla,hlb] at h1
 have hl:a.length=b.length:=by omega
 refine⟨Nat,fun k=>[(2, .ptr 0 0 0),(3, .ptr 1 0 0),(5, .p (i64 k))],fun _=>⟨2,[(1,srO (.p (des b))),(0,srO (.p (des a)))]⟩,fun k=>k≤a.length∧a.take k=b.take k,fun k=>a.length - k,?_,?_⟩
 ·exact⟨0,⟨Nat.zero_le _,rfl⟩,qAC [] [] [] rfl (sk) (sk) rfl⟩
 rintro k ⟨k1,k2⟩
 refine And.intro (fun m1=>?_) (fun m1=>?_)
 rotate_left
 ·have m1:¬ (k:Int)<((a.map De.cells).length:Nat):=m1
  rw [hla] at m1
  exact qAF _ rfl rfl (by rw [qRM (qFV hl (by omega) k2)])
 have m1:(k:Int)<((a.map De.cells).length:Nat):=m1
 rw [hla] at m1
 have hk:k<a.length:=by omega
 have hk':k<b.length:=by omega
 have c1:=qIv hk
 have c2:=qIv hk'
 have bx:=ha.decl _ (qAK de0 hk)
 have bY:=hb.decl _ (qAK de0 hk')
 have hn:=qEF de0 hk hk' k2
 have hd:¬ a.getD k de0=b.getD k de0→¬ a=b:=fun h e=>h (by rw [e])
 generalize a.getD k de0=x at c1 bx hn hd
 generalize b.getD k de0=y at c2 bY hn hd
 obtain⟨x1,x2,x3,x4,x5,x6⟩:=x
 obtain⟨y1,y2,y3,y4,y5,y6⟩:=y
 have l5:(x5.map Rf.cells).length=x5.length:=List.length_map ..
 have l5':(y5.map Rf.cells).length=y5.length:=List.length_map ..
 have l6:(x6.map Cs.cells).length=x6.length:=List.length_map ..
 have l6':(y6.map Cs.cells).length=y6.length:=List.length_map ..
 have bx5:=bx.len
 have bx6:=bx.cases
 have by6:=bY.cases
 simp only [] at bx5 bx6 by6
 refine VDraw.altTo [(2, .ptr 0 0 0),(3, .ptr 1 0 0),(5, .p (i64 k)),(6, .ptr 2 0 0),(7, .ptr 3 0 0)] (smH a b ⟨x1,x2,x3,x4,x5,x6⟩ ⟨y1,y2,y3,y4,y5,y6⟩) (by kernel_rfl) ?_ ?_
 ·refine⟨_,⟨by omega,(⟨x1,x2,x3,x4,x5,x6⟩:De).cells,c1,rfl⟩,?_⟩
  refine⟨_,⟨by omega,(⟨y1,y2,y3,y4,y5,y6⟩:De).cells,c2,rfl⟩,?_⟩
  refine And.intro ?_ ?_
  ·refine⟨(by repeat' first | exact trivial | exact rfl | exact⟨rfl,rfl⟩ | exact⟨by omega,_,c1,rfl⟩ | exact⟨by omega,_,c2,rfl⟩ | refine And.intro ?_ ?_),?_⟩
   refine⟨(by repeat' first | exact trivial | exact rfl | exact⟨rfl,rfl⟩ | exact⟨by omega,_,c1,rfl⟩ | exact⟨by omega,_,c2,rfl⟩ | refine And.intro ?_ ?_),?_⟩
   refine⟨(by repeat' first | exact trivial | exact rfl | exact⟨rfl,rfl⟩ | exact⟨by omega,_,c1,rfl⟩ | exact⟨by omega,_,c2,rfl⟩ | refine And.intro ?_ ?_),?_⟩
   exact qAC [] [] [] rfl (sk) (sk) rfl
  ·refine⟨(by repeat' first | exact trivial | exact rfl | exact⟨rfl,rfl⟩ | exact⟨by omega,_,c1,rfl⟩ | exact⟨by omega,_,c2,rfl⟩ | refine And.intro ?_ ?_),?_⟩
   refine⟨(by repeat' first | exact trivial | exact rfl | exact⟨rfl,rfl⟩ | exact⟨by omega,_,c1,rfl⟩ | exact⟨by omega,_,c2,rfl⟩ | refine And.intro ?_ ?_),?_⟩
   refine⟨(by repeat' first | exact trivial | exact rfl | exact⟨rfl,rfl⟩ | exact⟨by omega,_,c1,rfl⟩ | exact⟨by omega,_,c2,rfl⟩ | refine And.intro ?_ ?_),?_⟩
   exact qAC [] [(2,3),(3,2)] [] rfl (sk) (sk) rfl
 refine And.intro (fun h1=>?_) (fun h1=>qAF _ rfl rfl (by rw [qGv (hd (fun e=>h1 (qIB.1 e).1))]))
 have h1:x1=y1:=h1
 refine And.intro (fun h2=>?_) (fun h2=>qAF _ rfl rfl (by rw [qGv (hd (fun e=>h2 (qIB.1 e).2.1))]))
 have h2:x2=y2:=h2
 refine And.intro (fun h3=>?_) (fun h3=>qAF _ rfl rfl (by rw [qGv (hd (fun e=>h3 (qIB.1 e).2.2.1))]))
 have h3:x3=y3:=h3
 refine And.intro (fun h4=>?_) (fun h4=>qAF _ rfl rfl (by rw [qGv (hd (fun e=>h4 (qIB.1 e).2.2.2.1))]))
 have h4:x4=y4:=h4
 refine And.intro (fun h5=>?_) (fun h5=>?_)
 rotate_left
 ·have h5:¬ ((x5.map Rf.cells).length:Int)=((y5.map Rf.cells).length:Nat):=h5
  rw [l5,l5'] at h5
  exact qAF _ rfl rfl (by rw [qGv (hd (fun e=>h5 (by rw [(qIB.1 e).2.2.2.2.1])))])
 have h5:((x5.map Rf.cells).length:Int)=((y5.map Rf.cells).length:Nat):=h5
 rw [l5,l5'] at h5
 have hl5:x5.length=y5.length:=by omega
 refine And.intro (fun h6=>?_) (fun h6=>?_)
 rotate_left
 ·have h6:¬ ((x6.map Cs.cells).length:Int)=((y6.map Cs.cells).length:Nat):=h6
  rw [l6,l6'] at h6
  exact qAF _ rfl rfl (by rw [qGv (hd (fun e=>h6 (by rw [(qIB.1 e).2.2.2.2.2])))])
 have h6:((x6.map Cs.cells).length:Int)=((y6.map Cs.cells).length:Nat):=h6
 rw [l6,l6'] at h6
 have hl6:x6.length=y6.length:=by omega
 refine⟨Nat,fun j=>[(2, .ptr 0 0 0),(3, .ptr 1 0 0),(5, .p (i64 k)),(6, .ptr 2 0 0),(7, .ptr 3 0 0),(8, .p (i64 j))],fun _=>smH a b ⟨x1,x2,x3,x4,x5,x6⟩ ⟨y1,y2,y3,y4,y5,y6⟩,fun j=>j≤x5.length∧x5.take j=y5.take j,fun j=>x5.length - j,?_,?_⟩
 ·exact⟨0,⟨Nat.zero_le _,rfl⟩,qAC [] [] [] rfl (sk) (sk) rfl⟩
 rintro j ⟨j1,j2⟩
 refine And.intro (fun m2=>?_) (fun m2=>?_)
 ·have m2:(j:Int)<((x5.map Rf.cells).length:Nat):=m2
  rw [l5] at m2
  have hj:j<x5.length:=by omega
  have hj':j<y5.length:=by omega
  have r1:=qJP hj
  have r2:=qJP hj'
  have hn2:=qEF rf0 hj hj' j2
  have hd2:¬ x5.getD j rf0=y5.getD j rf0→¬ x5=y5:=fun h e=>h (by rw [e])
  generalize x5.getD j rf0=u at r1 hn2 hd2
  generalize y5.getD j rf0=w at r2 hn2 hd2
  refine VDraw.seq rfl ?_
  refine⟨_,⟨by omega,u.cells,r1,rfl⟩,?_⟩
  refine⟨_,⟨by omega,w.cells,r2,rfl⟩,?_⟩
  refine⟨⟨by kernel_rfl,by kernel_rfl⟩,fun h7=>?_,fun h7=>?_⟩
  rotate_left
  ·exact qAF _ rfl rfl (by rw [qGv (hd (fun e=>hd2 (fun e=>h7 (by rw [e])) (qIB.1 e).2.2.2.2.1))])
  have h7:u=w:=qSk (by first | exact h7 | (injection h7))
  refine⟨_,w6z,?_⟩
  exact⟨j+1,⟨hj,hn2 h7⟩,qAC [] [] [] rfl (sk) (sk) rfl,by show x5.length - (j+1)<x5.length - j;omega⟩
 have m2:¬ (j:Int)<((x5.map Rf.cells).length:Nat):=m2
 rw [l5] at m2
 have h7:x5=y5:=qFV hl5 (by omega) j2
 refine⟨Nat,fun j=>[(2, .ptr 0 0 0),(3, .ptr 1 0 0),(5, .p (i64 k)),(6, .ptr 2 0 0),(7, .ptr 3 0 0),(9, .p (i64 j))],fun _=>smH a b ⟨x1,x2,x3,x4,x5,x6⟩ ⟨y1,y2,y3,y4,y5,y6⟩,fun j=>j≤x6.length∧x6.take j=y6.take j,fun j=>x6.length - j,?_,?_⟩
 ·exact⟨0,⟨Nat.zero_le _,rfl⟩,qAC [] [] [] rfl (sk) (sk) rfl⟩
 rintro j ⟨j1,j2⟩
 refine And.intro (fun m2=>?_) (fun m2=>?_)
 rotate_left
 ·have m2:¬ (j:Int)<((x6.map Cs.cells).length:Nat):=m2
  rw [l6] at m2
  have h8:x6=y6:=qFV hl6 (by omega) j2
  refine⟨_,w6z,?_⟩
  exact⟨k+1,⟨hk,hn (qIB.2 ⟨h1,h2,h3,h4,h7,h8⟩)⟩,qAC [] [] [] rfl (sk) (sk) rfl,by show a.length - (k+1)<a.length - k;omega⟩
 have m2:(j:Int)<((x6.map Cs.cells).length:Nat):=m2
 rw [l6] at m2
 have hj:j<x6.length:=by omega
 have hj':j<y6.length:=by omega
 have hlx:=bx6.len
 have s1:=qNz hj
 have s2:=qNz hj'
 have hm:=qAK cs0 hj
 have hm':=qAK cs0 hj'
 have hn2:=qEF cs0 hj hj' j2
 have hd2:¬ x6.getD j cs0=y6.getD j cs0→¬ x6=y6:=fun h e=>h (by rw [e])
 have hC:=qTV _ _ (bx6.cond _ hm) (by6.cond _ hm')
 have hI:=qO9 _ _ (bx6.nums _ hm) (by6.nums _ hm')
 generalize x6.getD j cs0=u at s1 hn2 hd2 hC hI
 generalize y6.getD j cs0=w at s2 hn2 hd2 hC hI
 obtain⟨⟨u1,u2,u3,u4,u5,u6,u7⟩,u8⟩:=u
 obtain⟨⟨w1,w2,w3,w4,w5,w6,w7⟩,w8⟩:=w
 simp only [] at hC hI
 refine qAf otS (by kernel_rfl) ?_
 refine⟨_,⟨by omega,(⟨.mk u1 u2 u3 u4 u5 u6 u7,u8⟩:Cs).cells,s1,rfl⟩,?_⟩
 refine⟨_,⟨by omega,(⟨.mk w1 w2 w3 w4 w5 w6 w7,w8⟩:Cs).cells,s2,rfl⟩,?_⟩
 refine(Classical.em (Cd.mk u1 u2 u3 u4 u5 u6 u7=.mk w1 w2 w3 w4 w5 w6 w7)).elim (fun e1=>?_) (fun e1=>?_)
 rotate_left
 ·rw [qGv e1] at hC
  refine hC.eq rfl ?_
  exact qAF _ rfl rfl (by rw [qGv (hd (fun e=>hd2 (fun e=>e1 (qUQ.1 e).1) (qIB.1 e).2.2.2.2.2))])
 rw [qRM e1] at hC
 refine hC.eq rfl ?_
 refine⟨_,⟨by omega,(⟨.mk u1 u2 u3 u4 u5 u6 u7,u8⟩:Cs).cells,s1,rfl⟩,?_⟩
 refine⟨_,⟨by omega,(⟨.mk w1 w2 w3 w4 w5 w6 w7,w8⟩:Cs).cells,s2,rfl⟩,?_⟩
 refine(Classical.em (u8=w8)).elim (fun e2=>?_) (fun e2=>?_)
 rotate_left
 ·rw [qGv e2] at hI
  refine hI.eq rfl ?_
  exact qAF _ rfl rfl (by rw [qGv (hd (fun e=>hd2 (fun e=>e2 (qUQ.1 e).2) (qIB.1 e).2.2.2.2.2))])
 rw [qRM e2] at hI
 refine hI.eq rfl ?_
 refine⟨_,w6z,?_⟩
 exact⟨j+1,⟨hj,hn2 (qUQ.2 ⟨e1,e2⟩)⟩,qAC [] [] [] rfl (sk) (sk) rfl,by show x6.length - (j+1)<x6.length - j;omega⟩
set_option maxHeartbeats 4000000
def qWV:List UInt8:=[103,114,97,105,110,32,49,50,32,59,32,110,111,100,101,32,120,32,58,32,50,32,61,32,123,32,101,108,115,101,32,58,32,51,32,57,32,125,32,59]
def qXl:List De:=[⟨1,12,[],[],[],[]⟩,⟨3,2,[120],[],[],[⟨cd0,[3,9]⟩]⟩]
theorem qWv:qD4 qWV=.inr qXl:=by kernel_rfl
def qWU:List UInt8:=[110,111,100,101,32,121,32,91,32,112,32,93,32,58,32,50,32,102,114,111,109,32,120,32,44,32,121,32,91,32,112,32,43,32,49,32,93,32,61,32,123,32,120,32,61,32,49,32,97,110,100,32,110,111,116,32,121,32,91,32,112,32,43,32,49,32,93,32,105,110,32,123,32,49,32,44,32,48,32,44,32,49,32,125,32,58,32,49,32,59,32,101,108,115,101,32,58,32,45,32,50,32,125,32,59]
def qXk:List De:=[⟨3,2,[121],[112],[⟨[120],0,[],0⟩,⟨[121],1,[112],1⟩],[⟨.mk 8 0 0 0 rf0 [] [.mk 1 1 0 0 ⟨[120],0,[],0⟩ [] [], .mk 7 0 0 0 rf0 [] [.mk 5 0 0 0 ⟨[121],1,[112],1⟩ [0,1] []]],[1]⟩,⟨cd0,[(-2)]⟩]⟩]
theorem qWu:qD4 qWU=.inr qXk:=by kernel_rfl
def qXi:List UInt8:=[103,97,105,110,32,61,32,123,32,99,111,117,110,116,32,40,32,120,32,91,32,97,108,108,32,93,32,61,32,49,32,41,32,60,61,32,50,32,58,32,53,32,59,32,101,108,115,101,32,58,32,48,32,125,32,59]
def qXj:List De:=[⟨5,0,[],[],[],[⟨.mk 6 2 4 1 ⟨[120],3,[],0⟩ [] [],[5]⟩,⟨cd0,[0]⟩]⟩]
theorem qWt:qD4 qXi=.inr qXj:=by kernel_rfl
theorem qW0:qD4 [110,111,100,101,32,120,32,58,32,50,32,59]=.inl ((1,12),381):=by kernel_rfl
theorem qWz:qD4 [103,97,105,110,32,61,32,123,32,120,32,61,32,49,32,58,32,50,32,125,32,59]=.inl ((1,20),381):=by kernel_rfl
theorem qWy:qD4 [112,108,97,116,101,32,112,32,61,32,59]=.inl ((1,11),381):=by kernel_rfl
theorem qWx:qD4 [99,104,111,111,115,101,32,100,32,58,32,50,32,115,101,101,105,110,103,32,120]=.inl ((0,0),381):=by kernel_rfl
theorem qWw:qD4 [99,111,117,110,116]=.inl ((1,1),381):=by kernel_rfl
def qW2:Cd:=.mk 8 0 0 0 rf0 [] [.mk 9 0 0 0 rf0 [] [.mk 1 1 0 0 ⟨[97],0,[],0⟩ [] [], .mk 1 1 0 0 ⟨[98],0,[],0⟩ [] []], .mk 1 1 0 0 ⟨[99],0,[],0⟩ [] []]
theorem qWs:txtV [⟨5,0,[],[],[],[⟨qW2,[5]⟩,⟨cd0,[0]⟩]⟩]=[.str [103,97,105,110,32,61,32,123,32,40,32,97,32,61,32,49,32,111,114,32,98,32,61,32,49,32,41,32,97,110,100,32,99,32,61,32,49,32,58,32,53,32,59,32,101,108,115,101,32,58,32,48,32,125,32,59,10],i64 0]:=by kernel_rfl
def qW1:Cd:=.mk 7 0 0 0 rf0 [] [.mk 8 0 0 0 rf0 [] [.mk 1 1 0 0 ⟨[97],0,[],0⟩ [] [], .mk 3 2 0 0 ⟨[98],0,[],0⟩ [] []]]
theorem qWr:txtV [⟨5,0,[],[],[],[⟨qW1,[5]⟩,⟨cd0,[0]⟩]⟩]=[.str [103,97,105,110,32,61,32,123,32,110,111,116,32,40,32,97,32,61,32,49,32,97,110,100,32,98,32,60,32,50,32,41,32,58,32,53,32,59,32,101,108,115,101,32,58,32,48,32,125,32,59,10],i64 0]:=by kernel_rfl
set_option maxHeartbeats 40000000
abbrev otW:OT:=(.pure 0 (.pure 1 (.pure 2 (.pure 4 (.pure 5 (.pure 6 (.pure 7 (.pure 11 (.pure 13 (.pure 14 (.eff 3 [4,1] (.eff 8 [1] (.pure 9 (.eff 10 [1] (.pure 12 (.pure 15 (.pure 16 (.pure 17 (.eff 18 [] (.pure 19 .fin) .nil))))) .nil)) .nil) .nil)))))))))))
theorem qV9 {p q:Prop} (h:p ↔ q):cb p=cb q:=by rw [propext h]
theorem qG4 {s:List UInt8} {ds:List De} (h:qD4 s=.inr ds):BigP ds:=by
 unfold qD4 at h
 split at h
 ·cases h
 ·cases hr:qEJ s with
  | err p c=>rw [hr] at h;cases h
  | ok ws=>
   rw [hr] at h
   have hg:=qHQ hr
   have hl:=hg.len
   cases hp:qC8 ws (qHn ws) (qHn ws) [] 0 with
   | inl q=>simp only [hp] at h;cases h
   | inr x=>
    obtain⟨l,q⟩:=x
    simp only [hp] at h
    split at h
    ·injection h with h
     subst h
     exact qHT hg (by rw [qHn];omega) hp
    ·cases h
theorem qRx {s:List UInt8} {p:Int × Int} {e:Int} (h:qD4 s=.inl (p,e)):e=3∨e=370∨e=381:=by
 unfold qD4 at h
 split at h
 ·injection h with h;injection h with _ h;exact .inl h.symm
 ·cases hr:qEJ s with
  | err p c=>
   rw [hr] at h
   injection h with h;injection h with _ h
   have:=qEb s _ _ _ _ _ hr
   omega
  | ok ws=>
   rw [hr] at h
   cases hp:qC8 ws (qHn ws) (qHn ws) [] 0 with
   | inl q=>simp only [hp] at h;injection h with h;injection h with _ h;omega
   | inr x=>
    obtain⟨l,q⟩:=x
    simp only [hp] at h
    split at h
    ·cases h
    ·injection h with h;injection h with _ h;omega
theorem qC1 (s:List UInt8) (l c e:Int) (h:qD4 s=.inl ((l,c),e)):Pure cx 28 [.str s,i64 l,i64 c,i64 e] (·=.ret [.bool true]):=by
 have hP:=qLV s
 rw [h] at hP
 refine qAB Tryz.func28 rfl rfl rfl ?_
 refine hP.eq rfl ?_
 refine And.intro (fun _=>?_) (fun h=>absurd rfl h)
 refine And.intro (fun _=>?_) (fun h=>absurd rfl h)
 refine And.intro (fun _=>?_) (fun h=>absurd rfl h)
 refine And.intro (fun _=>?_) (fun h=>absurd rfl h)
 exact qAF _ rfl rfl rfl
theorem qTe (s:List UInt8) (want:List De) (hw:BigP want):Pure cx 37 [.str s,des want] (·=.ret [.bool (cb (qD4 s=.inr want))]):=by
 have hP:=qLV s
 cases hp:qD4 s with
 | inl x=>
  obtain⟨⟨l,c⟩,e⟩:=x
  rw [hp] at hP
  have he:=qRx hp
  refine qAB Tryz.func37 rfl rfl rfl ?_
  refine hP.eq rfl ?_
  refine And.intro (fun h=>absurd (show e=0 from h) (by omega)) (fun _=>?_)
  exact qAF _ rfl rfl (by rw [qGv (fun e=>by cases e)])
 | inr ds=>
  rw [hp] at hP
  have hS:=qLG ds want (qG4 hp) hw
  rw [qV9 (q:=(Sum.inr ds:Sum ((Int × Int) × Int) (List De))=.inr want) ⟨fun e=>by rw [e],fun e=>by injection e⟩] at hS
  refine qAB Tryz.func37 rfl rfl rfl ?_
  refine hP.eq rfl ?_
  refine And.intro (fun _=>?_) (fun h=>absurd rfl h)
  refine And.intro (fun _=>?_) (fun h=>absurd rfl h)
  refine And.intro (fun _=>?_) (fun h=>absurd rfl h)
  refine hS.eq rfl ?_
  exact qAF _ rfl rfl rfl
theorem qHP {s:List UInt8} {want:List De} (h:qD4 s=.inr want):Pure cx 37 [.str s,des want] (·=.ret [.bool true]):=by
 have:=qTe s want (qG4 h)
 rw [qRM h] at this
 exact this
theorem qUw (nm:List UInt8) (op n:Int):Pure cx 31 [.str nm,i64 op,i64 n] (·=.ret [(Cd.mk op n 0 0 ⟨nm,0,[],0⟩ [] []).pv]):=by
 refine Pure.nil (r:=.ret [.agg [i64 op,i64 n,i64 0,i64 0, .str nm,i64 0, .str [],i64 0, .nils, .nils]]) ?_ ⟨_,rfl,_,_,rfl,qAm op n 0 0 ⟨nm,0,[],0⟩,rfl⟩
 refine qAB Tryz.func31 rfl rfl rfl ?_
 exact qAF _ rfl rfl rfl
theorem qIz (op:Int) (l:List Cd):Pure cx 32 [i64 op, .lsts 10 (qBS l)] (·=.ret [(Cd.mk op 0 0 0 rf0 [] l).pv]):=by
 refine Pure.nil (r:=.ret [.agg [i64 op,i64 0,i64 0,i64 0, .str [],i64 0, .str [],i64 0, .nils, .lsts 10 (qBS l)]]) ?_ ⟨_,rfl,_,_,rfl,?_,rfl⟩
 ·refine qAB Tryz.func32 rfl rfl rfl ?_
  exact qAF _ rfl rfl rfl
 ·show NilD _ (.agg [i64 op,i64 0,i64 0,i64 0, .str [],i64 0, .str [],i64 0, .lst [], .lsts 10 (qBS l)])
  simp only [NilD,NilDL]
  exact⟨_,rfl,_,_,rfl,rfl,_,_,rfl,rfl,_,_,rfl,rfl,_,_,rfl,rfl,_,_,rfl,rfl,_,_,rfl,rfl,_,_,rfl,rfl,_,_,rfl,rfl,_,_,rfl, .inr (.inl rfl),_,_,rfl,⟨_,rfl,NilDLL.refl _⟩,rfl⟩
def qSD (c:Cd):De:=⟨5,0,[],[],[],[⟨c,[5]⟩,⟨cd0,[0]⟩]⟩
abbrev zc0:List PV:=[i64 0,i64 0,i64 0,i64 0, .str [],i64 0, .str [],i64 0, .nils, .nils]
theorem qM5 (l:List Int):NilDL (zc0++[.lst (l.map i64)]) (⟨cd0,l⟩:Cs).cells:=by
 show NilDL [i64 0,i64 0,i64 0,i64 0, .str [],i64 0, .str [],i64 0, .nils, .nils, .lst (l.map i64)] [i64 0,i64 0,i64 0,i64 0, .str [],i64 0, .str [],i64 0, .lst [], .lsts 10 [], .lst (l.map i64)]
 simp only [NilD,NilDL]
 exact⟨_,_,rfl,rfl,_,_,rfl,rfl,_,_,rfl,rfl,_,_,rfl,rfl,_,_,rfl,rfl,_,_,rfl,rfl,_,_,rfl,rfl,_,_,rfl,rfl,_,_,rfl, .inr (.inl rfl),_,_,rfl, .inr (.inr ⟨10,rfl⟩),_,_,rfl,⟨_,rfl,NilDL.refl _⟩,rfl⟩
theorem qS3 (c:Cd):Pure cx 30 [c.pv] (·=.ret [(qSD c).pv]):=by
 refine Pure.nil (r:=.ret [.agg [i64 5,i64 0, .str [], .str [], .nils, .lsts 11 [c.cells++[.lst [i64 5]],zc0++[.lst [i64 0]]]]]) ?_ ⟨_,rfl,_,_,rfl,?_,rfl⟩
 ·obtain⟨o,n,r,v,rf,st,ar⟩:=c
  refine qAB Tryz.func30 rfl rfl rfl ?_
  refine qAF _ rfl ⟨_,rfl,_,_,rfl,rfl,_,_,rfl,rfl,_,_,rfl,rfl,_,_,rfl,rfl,_,_,rfl, .inl rfl,_,_,rfl,⟨_,rfl,Nat.le_refl _,⟨_,_,rfl,?_,_,_,rfl,?_,rfl⟩⟩,rfl⟩ rfl
  ·exact⟨_,_,rfl,rfl,_,_,rfl,rfl,_,_,rfl,rfl,_,_,rfl,rfl,_,_,rfl,rfl,_,_,rfl,rfl,_,_,rfl,rfl,_,_,rfl,rfl,_,_,rfl,rfl,_,_,rfl,rfl,_,_,rfl,⟨_,rfl,Nat.le_refl _,rfl⟩,rfl⟩
  ·exact⟨_,_,rfl,rfl,_,_,rfl,rfl,_,_,rfl,rfl,_,_,rfl,rfl,_,_,rfl,rfl,_,_,rfl,rfl,_,_,rfl,rfl,_,_,rfl,rfl,_,_,rfl, .inl rfl,_,_,rfl, .inl rfl,_,_,rfl,⟨_,rfl,Nat.le_refl _,rfl⟩,rfl⟩
 ·show NilD _ (.agg [i64 5,i64 0, .str [], .str [], .lsts 4 [], .lsts 11 [(⟨c,[5]⟩:Cs).cells,(⟨cd0,[0]⟩:Cs).cells]])
  simp only [NilD,NilDL]
  refine⟨_,rfl,_,_,rfl,rfl,_,_,rfl,rfl,_,_,rfl,rfl,_,_,rfl,rfl,_,_,rfl, .inr (.inr ⟨4,rfl⟩),_,_,rfl,⟨_,rfl,?_⟩,rfl⟩
  simp only [NilDLL]
  exact⟨_,_,rfl,NilDL.refl _,_,_,rfl,qM5 [0],rfl⟩
theorem qSC {c:Cd} (h:qDk c):BigP [qSD c]:=by
 refine⟨by show 1≤9223372036854775807;decide,fun d hd=>?_⟩
 rw [List.mem_singleton] at hd
 subst hd
 have hl:BigL [⟨c,[5]⟩,⟨cd0,[0]⟩]:=by
  refine⟨by show 2≤9223372036854775807;decide,fun x hx=>?_,fun x hx=>?_⟩
  ·rcases List.mem_cons.1 hx with rfl | hx
   ·exact h
   ·rw [List.mem_singleton.1 hx]
    exact qCp ⟨qBN,qBN⟩ (by decide)
  ·rcases List.mem_cons.1 hx with rfl | hx
   ·show 1≤9223372036854775807;decide
   ·rw [List.mem_singleton.1 hx];show 1≤9223372036854775807;decide
 exact⟨qBN,qBN,by show 0≤9223372036854775807;decide,(fun r hr=>by cases hr),hl⟩
abbrev gnA:List UInt8:=[103,97,105,110,32,61,32,123,32]
abbrev gnB:List UInt8:=[32,58,32,53,32,59,32,101,108,115,101,32,58,32,48,32,125,32,59,10]
theorem qIC (c:Cd) (want:List UInt8) (hb:qDk c) (hl:want.length≤8000) (h:txtV [qSD c]=[.str ((gnA++want)++gnB),i64 0]):Pure cx 49 [c.pv, .str want] (·=.ret [.bool true]):=by
 have hT:=qTn [qSD c] (qSC hb)
 rw [h] at hT
 have hG:=qS3 c
 clear h hb
 obtain⟨o,n,r,v,rf,st,ar⟩:=c
 refine qAB Tryz.func49 rfl rfl rfl ?_
 refine hG.eq rfl ?_
 refine hT.lends [1] rfl ⟨_,_,rfl,⟨_,rfl,_,_,rfl,⟨_,rfl,Nat.le_refl _,rfl⟩,rfl⟩,rfl⟩ ?_
 refine And.intro (fun _=>?_) (fun h=>absurd rfl h)
 refine⟨by show List.length _+List.length _≤9223372036854775807;(try simp) <;> omega,?_⟩
 refine⟨by show List.length _+List.length _≤9223372036854775807;(try simp) <;> omega,?_⟩
 refine And.intro (fun _=>?_) (fun h=>absurd rfl h)
 exact qAF _ rfl rfl rfl
theorem qFj {nm:List UInt8} {op n:Int} (h:qK7 nm):qDk (.mk op n 0 0 ⟨nm,0,[],0⟩ [] []):=qCp ⟨h,qBN⟩ (by decide)
theorem qWD:qDk qW2:=qGV (qGV (qFj (by decide)) (qFj (by decide))) (qFj (by decide))
theorem qWC:qDk qW1:=qL8 (qGV (qFj (by decide)) (qFj (by decide)))
theorem works_c:Pure cx 17 [] (·=.ret [.bool true]):=by
 have w0:=qIC qW2 [40,32,97,32,61,32,49,32,111,114,32,98,32,61,32,49,32,41,32,97,110,100,32,99,32,61,32,49] qWD (by decide) qWs
 have w1:=qIC qW1 [110,111,116,32,40,32,97,32,61,32,49,32,97,110,100,32,98,32,60,32,50,32,41] qWC (by decide) qWr
 refine qAB Tryz.func17 rfl rfl rfl ?_
 refine((qHP qWv).arg (args':=[.str qWV, .lsts 6 [[i64 1,i64 12, .str [], .str [], .nils, .nils],[i64 3,i64 2, .str [120], .str [], .nils, .lsts 11 [zc0++[.lst [i64 3,i64 9]]]]]]) ?_).lends [0,1,2] rfl ?_ ?_
 ·show NilDL [.str qWV, .lsts 6 [[i64 1,i64 12, .str [], .str [], .nils, .nils],[i64 3,i64 2, .str [120], .str [], .nils, .lsts 11 [zc0++[.lst [i64 3,i64 9]]]]]] [.str qWV, .lsts 6 [[i64 1,i64 12, .str [], .str [], .lsts 4 [], .lsts 11 []],[i64 3,i64 2, .str [120], .str [], .lsts 4 [], .lsts 11 [(⟨cd0,[3,9]⟩:Cs).cells]]]]
  simp only [NilDL,NilD,NilDLL]
  exact⟨_,_,rfl,rfl,_,_,rfl,⟨_,rfl,⟨_,_,rfl,⟨_,_,rfl,rfl,_,_,rfl,rfl,_,_,rfl,rfl,_,_,rfl,rfl,_,_,rfl, .inr (.inr ⟨4,rfl⟩),_,_,rfl, .inr (.inr ⟨11,rfl⟩),rfl⟩,_,_,rfl,⟨_,_,rfl,rfl,_,_,rfl,rfl,_,_,rfl,rfl,_,_,rfl,rfl,_,_,rfl, .inr (.inr ⟨4,rfl⟩),_,_,rfl,⟨_,rfl,⟨_,_,rfl,qM5 [3,9],rfl⟩⟩,rfl⟩,rfl⟩⟩,rfl⟩
 ·refine⟨_,_,rfl,rfl,_,_,rfl,⟨_,rfl,Nat.le_refl _,⟨_,_,rfl,?_,_,_,rfl,?_,rfl⟩⟩,rfl⟩
  ·exact⟨_,_,rfl,rfl,_,_,rfl,rfl,_,_,rfl,rfl,_,_,rfl,rfl,_,_,rfl, .inl rfl,_,_,rfl, .inl rfl,rfl⟩
  ·refine⟨_,_,rfl,rfl,_,_,rfl,rfl,_,_,rfl,rfl,_,_,rfl,rfl,_,_,rfl, .inl rfl,_,_,rfl,⟨_,rfl,Nat.le_refl _,⟨_,_,rfl,?_,rfl⟩⟩,rfl⟩
   exact⟨_,_,rfl,rfl,_,_,rfl,rfl,_,_,rfl,rfl,_,_,rfl,rfl,_,_,rfl,rfl,_,_,rfl,rfl,_,_,rfl,rfl,_,_,rfl,rfl,_,_,rfl, .inl rfl,_,_,rfl, .inl rfl,_,_,rfl,⟨_,rfl,Nat.le_refl _,rfl⟩,rfl⟩
 refine qAf otW (by kernel_rfl) ?_
 refine(qUw [120] 1 1).eq rfl ?_
 refine⟨sk,?_⟩
 refine((qIz 7 [.mk 5 0 0 0 ⟨[121],1,[112],1⟩ [0,1] []]).arg (args':=[i64 7, .lsts 10 [[i64 5,i64 0,i64 0,i64 0, .str [121],i64 1, .str [112],i64 1, .lst [i64 0,i64 1], .nils]]]) ?_).eq rfl ?_
 ·simp only [NilD,NilDL,NilDLL]
  repeat' first | exact rfl | exact NilDL.refl _ | exact NilD.refl _ | exact .inr (.inl rfl) | exact .inr (.inr ⟨_,rfl⟩) | refine⟨_,_,rfl,?_,?_⟩ | refine⟨_,rfl,?_⟩ | refine And.intro ?_ ?_
 refine⟨sk,?_⟩
 refine(qIz 8 [.mk 1 1 0 0 ⟨[120],0,[],0⟩ [] [], .mk 7 0 0 0 rf0 [] [.mk 5 0 0 0 ⟨[121],1,[112],1⟩ [0,1] []]]).eq rfl ?_
 refine⟨sk,?_⟩
 refine((qHP qWu).arg (args':=[.str qWU, .lsts 6 [[i64 3,i64 2, .str [121], .str [112], .lsts 4 [[.str [120],i64 0, .str [],i64 0],[.str [121],i64 1, .str [112],i64 1]], .lsts 11 [(Cd.cells (.mk 8 0 0 0 rf0 [] [.mk 1 1 0 0 ⟨[120],0,[],0⟩ [] [], .mk 7 0 0 0 rf0 [] [.mk 5 0 0 0 ⟨[121],1,[112],1⟩ [0,1] []]]))++[.lst [i64 1]],zc0++[.lst [i64 (-2)]]]]]]) ?_).eq rfl ?_
 ·show NilDL [.str qWU, .lsts 6 [[i64 3,i64 2, .str [121], .str [112], .lsts 4 [[.str [120],i64 0, .str [],i64 0],[.str [121],i64 1, .str [112],i64 1]], .lsts 11 [(Cd.cells (.mk 8 0 0 0 rf0 [] [.mk 1 1 0 0 ⟨[120],0,[],0⟩ [] [], .mk 7 0 0 0 rf0 [] [.mk 5 0 0 0 ⟨[121],1,[112],1⟩ [0,1] []]]))++[.lst [i64 1]],zc0++[.lst [i64 (-2)]]]]]] [.str qWU, .lsts 6 [[i64 3,i64 2, .str [121], .str [112], .lsts 4 [[.str [120],i64 0, .str [],i64 0],[.str [121],i64 1, .str [112],i64 1]], .lsts 11 [(⟨.mk 8 0 0 0 rf0 [] [.mk 1 1 0 0 ⟨[120],0,[],0⟩ [] [], .mk 7 0 0 0 rf0 [] [.mk 5 0 0 0 ⟨[121],1,[112],1⟩ [0,1] []]],[1]⟩:Cs).cells,(⟨cd0,[-2]⟩:Cs).cells]]]]
  simp only [NilD,NilDL,NilDLL]
  repeat' first | exact rfl | exact NilDL.refl _ | exact NilD.refl _ | exact .inr (.inl rfl) | exact .inr (.inr ⟨_,rfl⟩) | refine⟨_,_,rfl,?_,?_⟩ | refine⟨_,rfl,?_⟩ | refine And.intro ?_ ?_
 refine(qUw [97] 1 1).eq rfl ?_
 refine(qUw [98] 1 1).eq rfl ?_
 refine(qIz 9 [.mk 1 1 0 0 ⟨[97],0,[],0⟩ [] [], .mk 1 1 0 0 ⟨[98],0,[],0⟩ [] []]).uses [4] rfl ⟨_,_,rfl,rfl,_,_,rfl,⟨_,rfl,Nat.le_refl _,rfl⟩,rfl⟩ ?_
 refine(qUw [99] 1 1).eq rfl ?_
 refine(qIz 8 [.mk 9 0 0 0 rf0 [] [.mk 1 1 0 0 ⟨[97],0,[],0⟩ [] [], .mk 1 1 0 0 ⟨[98],0,[],0⟩ [] []], .mk 1 1 0 0 ⟨[99],0,[],0⟩ [] []]).uses [5] rfl ⟨_,_,rfl,rfl,_,_,rfl,⟨_,rfl,Nat.le_refl _,rfl⟩,rfl⟩ ?_
 refine w0.eq rfl ?_
 refine(qUw [97] 1 1).eq rfl ?_
 refine(qUw [98] 3 2).eq rfl ?_
 refine(qIz 8 [.mk 1 1 0 0 ⟨[97],0,[],0⟩ [] [], .mk 3 2 0 0 ⟨[98],0,[],0⟩ [] []]).uses [6] rfl ⟨_,_,rfl,rfl,_,_,rfl,⟨_,rfl,Nat.le_refl _,rfl⟩,rfl⟩ ?_
 refine(qIz 7 [.mk 8 0 0 0 rf0 [] [.mk 1 1 0 0 ⟨[97],0,[],0⟩ [] [], .mk 3 2 0 0 ⟨[98],0,[],0⟩ [] []]]).uses [7] rfl ⟨_,_,rfl,rfl,_,_,rfl,⟨_,rfl,Nat.le_refl _,rfl⟩,rfl⟩ ?_
 refine w1.eq rfl ?_
 refine(qC1 _ _ _ _ qW0).eq rfl ?_
 refine(qC1 _ _ _ _ qWz).eq rfl ?_
 refine(qC1 _ _ _ _ qWy).eq rfl ?_
 refine(qC1 _ _ _ _ qWx).eq rfl ?_
 refine(qC1 _ _ _ _ qWw).eq rfl ?_
 refine((qS3 (.mk 6 2 4 1 ⟨[120],3,[],0⟩ [] [])).arg (args':=[.agg [i64 6,i64 2,i64 4,i64 1, .str [120],i64 3, .str [],i64 0, .nils, .nils]]) ⟨_,_,rfl,qAm 6 2 4 1 ⟨[120],3,[],0⟩,rfl⟩).eq rfl ?_
 refine(qHP qWt).lends [8] rfl ⟨_,_,rfl,rfl,_,_,rfl,⟨_,rfl,Nat.le_refl _,rfl⟩,rfl⟩ ?_
 exact qAF _ rfl rfl rfl
structure Small (d:Nat) (c:Cd) (n:Nat):Prop where
 pos:1≤n
 valid:∀ left,n≤left→qAn d c left=some (left - n)
 big:qDk c
 len:(spW true (qAj c)).length≤240 * n
theorem qR3 {op n rel val:Int} {r:Rf} {st:List Int} (hb:qAS op n rel val r st=true) (hs:st.length≤4):(qCC op n rel val r st).length≤21:=by
 unfold qAS at hb
 unfold qCC
 by_cases c6:op=6
 ·rw [if_neg (by omega),if_neg (by omega),if_pos c6] at hb
  simp only [Bool.and_eq_true,decide_eq_true_eq] at hb
  have hr:=qBx hb.1.1.1.1.1.1
  rw [if_pos c6]
  simp only [List.length_append,List.length_cons,List.length_nil];omega
 ·rw [if_neg c6]
  by_cases c5:op=5
  ·rw [if_neg (by omega),if_pos c5] at hb
   simp only [Bool.and_eq_true,decide_eq_true_eq] at hb
   obtain⟨⟨⟨⟨b1,b2⟩,b3⟩,b4⟩,b5⟩:=hb
   rw [if_pos c5]
   have hr:=qBx b1
   have hset:=qDZ b5
   have hs:=qFY (f:=fun n=>[qAZ n]) (b:=1) (l:=st) fun a ha=>⟨qAH (qDP (hset.2.1 a ha)) qA7,by simp⟩
   simp only [List.length_append,List.length_cons,List.length_nil];omega
  ·rw [if_neg c5]
   by_cases c1:op=1∨op=2∨op=3∨op=4
   ·rw [if_pos c1] at hb
    simp only [Bool.and_eq_true,decide_eq_true_eq] at hb
    have hr:=qBx hb.1.1.1.1
    simp only [List.length_append,List.length_cons,List.length_nil];omega
   ·rw [if_neg c1,if_neg c5,if_neg c6] at hb
    cases hb
theorem qMr {r:Rf} (h:qBk r=true):BigR r:=by
 obtain⟨nm,m,pl,n⟩:=r
 rw [qBk,Bool.and_eq_true] at h
 have h1:=qCl h.1
 refine⟨by show nm.length≤_;have h1:nm.length≤10:=h1;omega,?_⟩
 have h2:=h.2
 simp only [] at h2
 show pl.length≤_
 split at h2
 ·simp only [Bool.and_eq_true,decide_eq_true_eq] at h2
  rw [h2.1];simp
 ·split at h2
  ·simp only [Bool.and_eq_true] at h2
   have:=qCl h2.1
   omega
  ·split at h2
   ·simp only [Bool.and_eq_true,decide_eq_true_eq] at h2
    rw [h2.1];simp
   ·cases h2
theorem qQG {op n rel val:Int} {r:Rf} {st:List Int} (hb:qAS op n rel val r st=true):qBk r=true:=(qFE hb).1
theorem qBl {op n rel val:Int} {r:Rf} {st:List Int} (h7:¬ op=7) (h8:¬ op=8) (h9:¬ op=9) (hb:qAS op n rel val r st=true) (hs:st.length≤4) (d:Nat):Small (d+1) (.mk op n rel val r st []) 1:=by
 refine⟨Nat.le_refl _,fun left hl=>?_,qCp (qMr (qQG hb)) (by omega),?_⟩
 ·rw [qAn,if_neg (by omega),if_pos]
  ·rfl
  ·have h0:qAb op=0:=by rw [qAb,if_neg h7,if_neg (by omega)]
   rw [qAa,if_pos h0,hb];rfl
 ·rw [qBz h7 h8 h9]
  have h1:=qR3 hb hs
  have h2:=qBe true (qKX hb).1
  omega
theorem qKW (k:Nat) (p:Int × qBT):(spW true (inT k p)).length≤(spW true p.2).length+4:=by
 unfold inT
 split
 ·show(spW true ([tLP]++(p.2++[tRP]))).length≤_
  rw [qDQ,qDQ]
  simp [spW]
 ·omega
theorem qJ7 {d na nb:Nat} {a b:Cd} {op:Int} (ho:op=8∨op=9) (ha:Small d a na) (hb:Small d b nb):Small (d+1) (.mk op 0 0 0 rf0 [] [a,b]) (1+na+nb):=by
 have h1:=ha.pos
 have h2:=hb.pos
 have l1:=ha.len
 have l2:=hb.len
 refine⟨by omega,fun left hl=>?_,qGV ha.big hb.big,?_⟩
 ·rw [qAn,if_neg (by omega),if_pos]
  ·show(do
    let l ← qAn d a (left - 1)
    let l ← qAn d b l
    some l)=_
   rw [ha.valid _ (by omega)]
   show(do
    let l ← qAn d b (left - 1 - na)
    some l)=_
   rw [hb.valid _ (by omega)]
   show some _=some _
   congr 1;omega
  ·rcases ho with rfl | rfl <;> rfl
 ·rcases ho with rfl | rfl
  ·rw [qCY,qDQ]
   have k1:=qKW 2 (a.op,qAj a)
   have k2:=qKW 3 (b.op,qAj b)
   simp only [] at k1 k2
   show((spW true (inT 2 (a.op,qAj a)))++spW true ([qDY]++inT 3 (b.op,qAj b))).length≤_
   rw [qDQ,List.length_append,List.length_append]
   have k3:(spW true [qDY]).length=4:=rfl
   omega
  ·rw [qCX,qDQ]
   have k1:=qKW 1 (a.op,qAj a)
   have k2:=qKW 2 (b.op,qAj b)
   simp only [] at k1 k2
   show((spW true (inT 1 (a.op,qAj a)))++spW true ([tOr]++inT 2 (b.op,qAj b))).length≤_
   rw [qDQ,List.length_append,List.length_append]
   have k3:(spW true [tOr]).length=3:=rfl
   omega
theorem qKQ {d na:Nat} {a:Cd} (ha:Small d a na):Small (d+1) (.mk 7 0 0 0 rf0 [] [a]) (1+na):=by
 have h1:=ha.pos
 have l1:=ha.len
 refine⟨by omega,fun left hl=>?_,qL8 ha.big,?_⟩
 ·rw [qAn,if_neg (by omega),if_pos]
  ·show(do
    let l ← qAn d a (left - 1)
    some l)=_
   rw [ha.valid _ (by omega)]
   show some _=some _
   congr 1;omega
  ·rfl
 ·rw [qC5]
  have k1:=qKW 3 (a.op,qAj a)
  simp only [] at k1
  show(spW true ([qGq]++inT 3 (a.op,qAj a))).length≤_
  rw [qDQ,List.length_append]
  have k3:(spW true [qGq]).length=4:=rfl
  omega
def abxy:List UInt8:=[97,98,120,121]
def GrQ (d:Nat) (l:List UInt8) (r:PEnd):Prop:=∃ (c:Cd) (n:Nat) (rest:List UInt8),r=.ret [c.pv, .lst (rest.map u8)]∧Small d c n∧n+2 * rest.length≤2 * l.length+1
def qXF (d:Nat):Prop:=∀ (p:Nat) (l:List UInt8),p+d=9→l.length≤1000→Pure cx 68 [.lst (l.map u8),i64 p] (GrQ d l)
def GrN (d:Nat) (l:List UInt8) (r:PEnd):Prop:=∃ (y z:PV) (c:Cd) (n:Nat) (rest:List UInt8),r=.ret [y,z]∧NilD y c.pv∧NilD z (.lst (rest.map u8))∧Small d c n∧n+2 * rest.length≤2 * l.length+1
theorem qUA {d:Nat} {l:List UInt8} {g:FuncId} {args:List PV} (h:Pure cx g args (GrN d l)):Pure cx g args (GrQ d l):=
 h.weak fun r hr=>by
  obtain⟨y,z,c,n,rest,rfl,h1,h2,h3,h4⟩:=hr
  exact⟨.ret [c.pv, .lst (rest.map u8)],⟨_,rfl,_,_,rfl,h1,_,_,rfl,h2,rfl⟩,c,n,rest,rfl,h3,h4⟩
theorem qWH:qAp [97]=true:=by decide
theorem qPq:qAp [112]=true:=by decide
theorem qRm {nm:List UInt8} (h:qAp nm=true):qBk ⟨nm,0,[],0⟩=true:=by rw [qBk,h];rfl
theorem qVN {nm:List UInt8} (h:qAp nm=true):qBk ⟨nm,3,[],0⟩=true:=by rw [qBk,h];rfl
theorem qTc {nm:List UInt8} {n:Int} (h:qAp nm=true) (hn:qBh n=true):qBk ⟨nm,2,[],n⟩=true:=by
 show(qAp nm && (decide (([]:List UInt8)=[]) && qBh n))=true
 rw [h,hn];rfl
theorem qTd {nm pl:List UInt8} {n:Int} (h:qAp nm=true) (hp:qAp pl=true) (hn:qBh n=true):qBk ⟨nm,1,pl,n⟩=true:=by
 show(qAp nm && (qAp pl && qBh n))=true
 rw [h,hp,hn];rfl
theorem qHi {op n:Int} {r:Rf} (ho:1≤op∧op≤4) (hr:qBk r=true) (hn:qBh n=true):qAS op n 0 0 r []=true:=by
 unfold qAS
 rw [if_pos (by omega),hr,hn];rfl
theorem qS0 {n rel val:Int} {nm:List UInt8} (h:qAp nm=true) (hn:qBh n=true) (hv:qBh val=true) (hr:1≤rel∧rel≤4):qAS 6 n rel val ⟨nm,3,[],0⟩ []=true:=by
 unfold qAS
 rw [if_neg (by decide),if_neg (by decide),if_pos rfl,qVN h,hn,hv,decide_eq_true hr.1,decide_eq_true hr.2];rfl
theorem qNE {r:Rf} {st:List Int} (hr:qBk r=true) (hs:qG0 st=true):qAS 5 0 0 0 r st=true:=by
 unfold qAS
 rw [if_neg (by decide),if_pos rfl,hr,hs];rfl
abbrev otG:OT:=(.pure 0 (.pure 1 (.pure 2 (.pure 3 (.pure 4 (.pure 5 (.pure 6 (.pure 7 (.eff 8 [] (.pure 9 .fin) .nil)))))))))
theorem qKD:∀ j,j<4→qG0 (([0,1,2,9999]:List Int).drop j)=true:=by decide
theorem qW8:∀ j,j<4→qAp ((abxy.drop j).take (j+1 - j))=true:=by decide
theorem qOI (v k:Nat) (hv:v<256):qBh ((v / k:Nat):Int)=true:=qCh (Int.natCast_nonneg _) (Int.le_trans (Int.ofNat_le.2 (Nat.div_le_self v k)) (by omega))
theorem qIg (v a k:Nat) (hv:v<256):qBh ((v / a % k:Nat):Int)=true:=qCh (Int.natCast_nonneg _) (Int.le_trans (Int.ofNat_le.2 (Nat.le_trans (Nat.mod_le (v / a) k) (Nat.div_le_self v a))) (by omega))
theorem qC2 (rf:Rf) (L:List Int) (j:Nat):NilD (.agg [i64 5,i64 0,i64 0,i64 0, .str rf.name,i64 rf.mode, .str rf.plate,i64 rf.n, .lst ((L.map i64).drop j), .nils]) (Cd.mk 5 0 0 0 rf (L.drop j) []).pv:=by
 rw [← List.map_drop]
 exact qM6 5 0 0 0 rf (L.drop j)
theorem qPw (op:Int) (l:List Cd):NilD (.agg [i64 op,i64 0,i64 0,i64 0, .str [],i64 0, .str [],i64 0, .nils, .lsts 10 (qBS l)]) (Cd.mk op 0 0 0 rf0 [] l).pv:=by
 show NilD _ (.agg [i64 op,i64 0,i64 0,i64 0, .str [],i64 0, .str [],i64 0, .lst [], .lsts 10 (qBS l)])
 simp only [NilD,NilDL]
 exact⟨_,rfl,_,_,rfl,rfl,_,_,rfl,rfl,_,_,rfl,rfl,_,_,rfl,rfl,_,_,rfl,rfl,_,_,rfl,rfl,_,_,rfl,rfl,_,_,rfl,rfl,_,_,rfl, .inr (.inl rfl),_,_,rfl,⟨_,rfl,NilDLL.refl _⟩,rfl⟩
def nmV (v:Nat):List UInt8:=(abxy.drop (v / 16 % 4)).take (v / 16 % 4+1 - v / 16 % 4)
abbrev l9:List Int:=[0,1,2,9999]
theorem grow_step (d:Nat) (ih:d ≠ 0→qXF d):qXF (d+1):=by
 intro p l hp hl
 refine qUA ?_
 have hl':(l.map u8).length=l.length:=List.length_map ..
 refine qAB Tryz.func68 rfl rfl rfl ?_
 by_cases h0:l=[]
 ·subst h0
  refine And.intro (fun _=>?_) (fun h=>absurd rfl h)
  refine qDJ (.agg [i64 1,i64 0,i64 0,i64 0, .str [97],i64 0, .str [],i64 0, .nils, .nils]) .nils rfl rfl (.inl rfl) ?_
  exact⟨_,_, .mk 1 0 0 0 ⟨[97],0,[],0⟩ [] [],1,[],rfl,qAm 1 0 0 0 ⟨[97],0,[],0⟩,by simp [NilD],qBl (by decide) (by decide) (by decide) (qHi (by decide) (qRm qWH) (by decide)) (by decide) d,by simp⟩
 obtain⟨b,t,rfl⟩:∃ b t,l=b::t:=by
  cases l with
  | nil=>exact absurd rfl h0
  | cons b t=>exact⟨b,t,rfl⟩
 refine And.intro (fun h=>absurd (show(((b::t).map u8).length:Int)=0 from h) (by rw [hl'];simp only [List.length_cons];omega)) (fun _=>?_)
 have hv:b.toNat<256:=b.toNat_lt
 obtain⟨v,hve⟩:∃ v,v=b.toNat:=⟨_,rfl⟩
 rw [← hve] at hv
 simp only [List.length_cons] at hl
 refine⟨_,⟨by decide,u8 b,rfl,rfl⟩,?_⟩
 refine⟨(v:Int),by rw [hve];exact w6z,?_⟩
 clear hve
 refine⟨by show(0:Int)≤1∧(1:Int)≤(((b::t).map u8).length:Nat);rw [hl'];simp only [List.length_cons];omega,?_⟩
 have e8:(v:Int).tmod 8=((v % 8:Nat):Int):=rfl
 have e4:((v / 16:Nat):Int).tmod 4=((v / 16 % 4:Nat):Int):=rfl
 have hn:qAp (nmV v)=true:=qW8 _ (by omega)
 refine⟨by decide,((v / 16:Nat):Int),by show _=IntKind.i64.wrap ((v:Int).tdiv 16);rw [show(v:Int).tdiv 16=((v / 16:Nat):Int) from rfl];exact w6z,?_⟩
 refine⟨by decide,?_⟩
 refine⟨by decide,((v / 16:Nat):Int),by show _=IntKind.i64.wrap ((v:Int).tdiv 16);rw [show(v:Int).tdiv 16=((v / 16:Nat):Int) from rfl];exact w6z,?_⟩
 refine⟨by decide,?_⟩
 refine⟨((v / 16 % 4+1:Nat):Int),by show _=IntKind.i64.wrap (((v / 16:Nat):Int).tmod 4+1);rw [e4,Int.natCast_add];exact w6z,?_⟩
 refine⟨by show(0:Int)≤((v / 16:Nat):Int).tmod 4∧((v / 16:Nat):Int).tmod 4≤((v / 16 % 4+1:Nat):Int)∧((v / 16 % 4+1:Nat):Int)≤4;rw [e4];omega,?_⟩
 by_cases c1:p<8
 ·refine And.intro (fun _=>?_) (fun h=>absurd (show(p:Int)<8 by first | (rw [e8];omega) | omega) h)
  refine⟨by decide,?_⟩
  by_cases c2:v % 8<2
  ·refine And.intro (fun _=>?_) (fun h=>absurd (show(v:Int).tmod 8<2 by first | (rw [e8];omega) | omega) h)
   refine⟨((p+1:Nat):Int),by rw [Int.natCast_add];exact w6z,?_⟩
   refine(ih (by omega) (p+1) t (by omega) (by omega)).at fun r hr=>?_
   obtain⟨⟨ao,an,ar,av,af,as',aa⟩,na,t2,rfl,sa,la⟩:=hr
   refine⟨((p+1:Nat):Int),by rw [Int.natCast_add];exact w6z,?_⟩
   refine(ih (by omega) (p+1) t2 (by omega) (by omega)).at fun r hr=>?_
   obtain⟨⟨bo,bn,br,bv,bf,bs,ba⟩,nb,t3,rfl,sb,lb⟩:=hr
   refine⟨by decide,?_⟩
   refine⟨8+((v % 2:Nat):Int),by show _=IntKind.i64.wrap (8+(v:Int).tmod 2);rw [show(v:Int).tmod 2=((v % 2:Nat):Int) from rfl];exact w6z,?_⟩
   refine qDJ (.agg [i64 (8+((v % 2:Nat):Int)),i64 0,i64 0,i64 0, .str [],i64 0, .str [],i64 0, .nils, .lsts 10 (qBS [.mk ao an ar av af as' aa, .mk bo bn br bv bf bs ba])]) (.lst (t3.map u8)) rfl ⟨_,rfl,_,_,rfl,rfl,_,_,rfl,rfl,_,_,rfl,rfl,_,_,rfl,rfl,_,_,rfl,rfl,_,_,rfl,rfl,_,_,rfl,rfl,_,_,rfl,rfl,_,_,rfl, .inl rfl,_,_,rfl,⟨_,rfl,Nat.le_refl _,rfl⟩,rfl⟩ rfl ?_
   exact⟨_,_, .mk (8+((v % 2:Nat):Int)) 0 0 0 rf0 [] [.mk ao an ar av af as' aa, .mk bo bn br bv bf bs ba],_,t3,rfl,qPw _ _,NilD.refl _,qJ7 (by omega) sa sb,by simp only [List.length_cons];omega⟩
  ·refine And.intro (fun h=>absurd (show(v:Int).tmod 8<2 from h) (by first | (rw [e8];omega) | omega)) (fun _=>?_)
   refine And.intro (fun _=>?_) (fun h=>absurd (show(p:Int)<8 by first | (rw [e8];omega) | omega) h)
   refine⟨by decide,?_⟩
   by_cases c3:v % 8=2
   ·refine And.intro (fun _=>?_) (fun h=>absurd (show(v:Int).tmod 8=2 by first | (rw [e8];omega) | omega) h)
    refine⟨((p+1:Nat):Int),by rw [Int.natCast_add];exact w6z,?_⟩
    refine(ih (by omega) (p+1) t (by omega) (by omega)).at fun r hr=>?_
    obtain⟨⟨ao,an,ar,av,af,as',aa⟩,na,t2,rfl,sa,la⟩:=hr
    refine qDJ (.agg [i64 7,i64 0,i64 0,i64 0, .str [],i64 0, .str [],i64 0, .nils, .lsts 10 (qBS [.mk ao an ar av af as' aa])]) (.lst (t2.map u8)) rfl ⟨_,rfl,_,_,rfl,rfl,_,_,rfl,rfl,_,_,rfl,rfl,_,_,rfl,rfl,_,_,rfl,rfl,_,_,rfl,rfl,_,_,rfl,rfl,_,_,rfl,rfl,_,_,rfl, .inl rfl,_,_,rfl,⟨_,rfl,Nat.le_refl _,rfl⟩,rfl⟩ rfl ?_
    exact⟨_,_, .mk 7 0 0 0 rf0 [] [.mk ao an ar av af as' aa],_,t2,rfl,qPw 7 _,NilD.refl _,qKQ sa,by simp only [List.length_cons];omega⟩
   ·refine And.intro (fun h=>absurd (show(v:Int).tmod 8=2 from h) (by first | (rw [e8];omega) | omega)) (fun _=>?_)
    refine⟨by decide,?_⟩
    by_cases k3:v % 8=3
    ·refine And.intro (fun _=>?_) (fun h=>absurd (show(v:Int).tmod 8=3 by first | (rw [e8];omega) | omega) h)
     refine⟨by decide,((v / 64:Nat):Int),by show _=IntKind.i64.wrap ((v:Int).tdiv 64);rw [show(v:Int).tdiv 64=((v / 64:Nat):Int) from rfl];exact w6z,?_⟩
     refine⟨by decide,((v / 8:Nat):Int),by show _=IntKind.i64.wrap ((v:Int).tdiv 8);rw [show(v:Int).tdiv 8=((v / 8:Nat):Int) from rfl];exact w6z,?_⟩
     refine⟨by decide,?_⟩
     refine⟨1+((v / 8 % 4:Nat):Int),by show _=IntKind.i64.wrap (1+((v / 8:Nat):Int).tmod 4);rw [show((v / 8:Nat):Int).tmod 4=((v / 8 % 4:Nat):Int) from rfl];exact w6z,?_⟩
     refine⟨by decide,((v / 32:Nat):Int),by show _=IntKind.i64.wrap ((v:Int).tdiv 32);rw [show(v:Int).tdiv 32=((v / 32:Nat):Int) from rfl];exact w6z,?_⟩
     refine⟨by decide,?_⟩
     refine qDJ (.agg [i64 6,i64 ((v / 32 % 3:Nat):Int),i64 (1+((v / 8 % 4:Nat):Int)),i64 ((v / 64:Nat):Int), .str (nmV v),i64 3, .str [],i64 0, .nils, .nils]) (.lst (t.map u8)) rfl rfl rfl ?_
     exact⟨_,_, .mk 6 ((v / 32 % 3:Nat):Int) (1+((v / 8 % 4:Nat):Int)) ((v / 64:Nat):Int) ⟨nmV v,3,[],0⟩ [] [],1,t,rfl,qAm 6 _ _ _ ⟨nmV v,3,[],0⟩,NilD.refl _,qBl (by decide) (by decide) (by decide) (qS0 hn (qIg v 32 3 hv) (qOI v 64 hv) (by omega)) (by decide) d,by simp only [List.length_cons];omega⟩
    refine And.intro (fun h=>absurd (show(v:Int).tmod 8=3 from h) (by first | (rw [e8];omega) | omega)) (fun _=>?_)
    refine⟨by decide,?_⟩
    by_cases k4:v % 8=4
    ·refine And.intro (fun _=>?_) (fun h=>absurd (show(v:Int).tmod 8=4 by first | (rw [e8];omega) | omega) h)
     refine⟨by decide,((v / 32:Nat):Int),by show _=IntKind.i64.wrap ((v:Int).tdiv 32);rw [show(v:Int).tdiv 32=((v / 32:Nat):Int) from rfl];exact w6z,?_⟩
     refine⟨by decide,?_⟩
     refine qAf otG (by kernel_rfl) ?_
     refine⟨by decide,((v / 8:Nat):Int),by show _=IntKind.i64.wrap ((v:Int).tdiv 8);rw [show(v:Int).tdiv 8=((v / 8:Nat):Int) from rfl];exact w6z,?_⟩
     refine⟨by decide,?_⟩
     refine⟨by show(0:Int)≤((v / 8:Nat):Int).tmod 4∧((v / 8:Nat):Int).tmod 4≤4;rw [show((v / 8:Nat):Int).tmod 4=((v / 8 % 4:Nat):Int) from rfl];omega,?_⟩
     refine qDJ (.agg [i64 5,i64 0,i64 0,i64 0, .str (nmV v),i64 1, .str [112],i64 ((v / 32 % 3:Nat):Int), .lst ((l9.map i64).drop (v / 8 % 4)), .nils]) (.lst (t.map u8)) rfl rfl rfl ?_
     exact⟨_,_, .mk 5 0 0 0 ⟨nmV v,1,[112],((v / 32 % 3:Nat):Int)⟩ (l9.drop (v / 8 % 4)) [],1,t,rfl,qC2 ⟨nmV v,1,[112],((v / 32 % 3:Nat):Int)⟩ l9 (v / 8 % 4),NilD.refl _,qBl (by decide) (by decide) (by decide) (qNE (qTd hn qPq (qIg v 32 3 hv)) (qKD _ (by omega))) (by rw [List.length_drop];show 4 - _≤4;omega) d,by simp only [List.length_cons];omega⟩
    refine And.intro (fun h=>absurd (show(v:Int).tmod 8=4 from h) (by first | (rw [e8];omega) | omega)) (fun _=>?_)
    refine⟨by decide,?_⟩
    by_cases k5:v % 8=5
    ·refine And.intro (fun _=>?_) (fun h=>absurd (show(v:Int).tmod 8=5 by first | (rw [e8];omega) | omega) h)
     refine⟨by decide,((v / 8:Nat):Int),by show _=IntKind.i64.wrap ((v:Int).tdiv 8);rw [show(v:Int).tdiv 8=((v / 8:Nat):Int) from rfl];exact w6z,?_⟩
     refine⟨by decide,?_⟩
     refine⟨by decide,((v / 8:Nat):Int),by show _=IntKind.i64.wrap ((v:Int).tdiv 8);rw [show(v:Int).tdiv 8=((v / 8:Nat):Int) from rfl];exact w6z,?_⟩
     refine⟨by decide,?_⟩
     refine⟨1+((v / 8 % 4:Nat):Int),by show _=IntKind.i64.wrap (1+((v / 8:Nat):Int).tmod 4);rw [show((v / 8:Nat):Int).tmod 4=((v / 8 % 4:Nat):Int) from rfl];exact w6z,?_⟩
     refine⟨by decide,((v / 64:Nat):Int),by show _=IntKind.i64.wrap ((v:Int).tdiv 64);rw [show(v:Int).tdiv 64=((v / 64:Nat):Int) from rfl];exact w6z,?_⟩
     refine qDJ (.agg [i64 (1+((v / 8 % 4:Nat):Int)),i64 ((v / 64:Nat):Int),i64 0,i64 0, .str (nmV v),i64 2, .str [],i64 ((v / 8 % 4:Nat):Int), .nils, .nils]) (.lst (t.map u8)) rfl rfl rfl ?_
     exact⟨_,_, .mk (1+((v / 8 % 4:Nat):Int)) ((v / 64:Nat):Int) 0 0 ⟨nmV v,2,[],((v / 8 % 4:Nat):Int)⟩ [] [],1,t,rfl,qAm _ _ 0 0 ⟨nmV v,2,[],((v / 8 % 4:Nat):Int)⟩,NilD.refl _,qBl (by omega) (by omega) (by omega) (qHi (by omega) (qTc hn (qIg v 8 4 hv)) (qOI v 64 hv)) (by decide) d,by simp only [List.length_cons];omega⟩
    refine And.intro (fun h=>absurd (show(v:Int).tmod 8=5 from h) (by first | (rw [e8];omega) | omega)) (fun _=>?_)
    refine⟨by decide,((v / 8:Nat):Int),by show _=IntKind.i64.wrap ((v:Int).tdiv 8);rw [show(v:Int).tdiv 8=((v / 8:Nat):Int) from rfl];exact w6z,?_⟩
    refine⟨by decide,?_⟩
    refine⟨1+((v / 8 % 4:Nat):Int),by show _=IntKind.i64.wrap (1+((v / 8:Nat):Int).tmod 4);rw [show((v / 8:Nat):Int).tmod 4=((v / 8 % 4:Nat):Int) from rfl];exact w6z,?_⟩
    refine⟨by decide,((v / 64:Nat):Int),by show _=IntKind.i64.wrap ((v:Int).tdiv 64);rw [show(v:Int).tdiv 64=((v / 64:Nat):Int) from rfl];exact w6z,?_⟩
    refine qDJ (.agg [i64 (1+((v / 8 % 4:Nat):Int)),i64 ((v / 64:Nat):Int),i64 0,i64 0, .str (nmV v),i64 0, .str [],i64 0, .nils, .nils]) (.lst (t.map u8)) rfl rfl rfl ?_
    exact⟨_,_, .mk (1+((v / 8 % 4:Nat):Int)) ((v / 64:Nat):Int) 0 0 ⟨nmV v,0,[],0⟩ [] [],1,t,rfl,qAm _ _ 0 0 ⟨nmV v,0,[],0⟩,NilD.refl _,qBl (by omega) (by omega) (by omega) (qHi (by omega) (qRm hn) (qOI v 64 hv)) (by decide) d,by simp only [List.length_cons];omega⟩
 ·refine And.intro (fun h=>absurd (show(p:Int)<8 from h) (by first | (rw [e8];omega) | omega)) (fun _=>?_)
  refine And.intro (fun h=>absurd (show(p:Int)<8 from h) (by first | (rw [e8];omega) | omega)) (fun _=>?_)
  refine⟨by decide,?_⟩
  by_cases k3:v % 8=3
  ·refine And.intro (fun _=>?_) (fun h=>absurd (show(v:Int).tmod 8=3 by first | (rw [e8];omega) | omega) h)
   refine⟨by decide,((v / 64:Nat):Int),by show _=IntKind.i64.wrap ((v:Int).tdiv 64);rw [show(v:Int).tdiv 64=((v / 64:Nat):Int) from rfl];exact w6z,?_⟩
   refine⟨by decide,((v / 8:Nat):Int),by show _=IntKind.i64.wrap ((v:Int).tdiv 8);rw [show(v:Int).tdiv 8=((v / 8:Nat):Int) from rfl];exact w6z,?_⟩
   refine⟨by decide,?_⟩
   refine⟨1+((v / 8 % 4:Nat):Int),by show _=IntKind.i64.wrap (1+((v / 8:Nat):Int).tmod 4);rw [show((v / 8:Nat):Int).tmod 4=((v / 8 % 4:Nat):Int) from rfl];exact w6z,?_⟩
   refine⟨by decide,((v / 32:Nat):Int),by show _=IntKind.i64.wrap ((v:Int).tdiv 32);rw [show(v:Int).tdiv 32=((v / 32:Nat):Int) from rfl];exact w6z,?_⟩
   refine⟨by decide,?_⟩
   refine qDJ (.agg [i64 6,i64 ((v / 32 % 3:Nat):Int),i64 (1+((v / 8 % 4:Nat):Int)),i64 ((v / 64:Nat):Int), .str (nmV v),i64 3, .str [],i64 0, .nils, .nils]) (.lst (t.map u8)) rfl rfl rfl ?_
   exact⟨_,_, .mk 6 ((v / 32 % 3:Nat):Int) (1+((v / 8 % 4:Nat):Int)) ((v / 64:Nat):Int) ⟨nmV v,3,[],0⟩ [] [],1,t,rfl,qAm 6 _ _ _ ⟨nmV v,3,[],0⟩,NilD.refl _,qBl (by decide) (by decide) (by decide) (qS0 hn (qIg v 32 3 hv) (qOI v 64 hv) (by omega)) (by decide) d,by simp only [List.length_cons];omega⟩
  refine And.intro (fun h=>absurd (show(v:Int).tmod 8=3 from h) (by first | (rw [e8];omega) | omega)) (fun _=>?_)
  refine⟨by decide,?_⟩
  by_cases k4:v % 8=4
  ·refine And.intro (fun _=>?_) (fun h=>absurd (show(v:Int).tmod 8=4 by first | (rw [e8];omega) | omega) h)
   refine⟨by decide,((v / 32:Nat):Int),by show _=IntKind.i64.wrap ((v:Int).tdiv 32);rw [show(v:Int).tdiv 32=((v / 32:Nat):Int) from rfl];exact w6z,?_⟩
   refine⟨by decide,?_⟩
   refine qAf otG (by kernel_rfl) ?_
   refine⟨by decide,((v / 8:Nat):Int),by show _=IntKind.i64.wrap ((v:Int).tdiv 8);rw [show(v:Int).tdiv 8=((v / 8:Nat):Int) from rfl];exact w6z,?_⟩
   refine⟨by decide,?_⟩
   refine⟨by show(0:Int)≤((v / 8:Nat):Int).tmod 4∧((v / 8:Nat):Int).tmod 4≤4;rw [show((v / 8:Nat):Int).tmod 4=((v / 8 % 4:Nat):Int) from rfl];omega,?_⟩
   refine qDJ (.agg [i64 5,i64 0,i64 0,i64 0, .str (nmV v),i64 1, .str [112],i64 ((v / 32 % 3:Nat):Int), .lst ((l9.map i64).drop (v / 8 % 4)), .nils]) (.lst (t.map u8)) rfl rfl rfl ?_
   exact⟨_,_, .mk 5 0 0 0 ⟨nmV v,1,[112],((v / 32 % 3:Nat):Int)⟩ (l9.drop (v / 8 % 4)) [],1,t,rfl,qC2 ⟨nmV v,1,[112],((v / 32 % 3:Nat):Int)⟩ l9 (v / 8 % 4),NilD.refl _,qBl (by decide) (by decide) (by decide) (qNE (qTd hn qPq (qIg v 32 3 hv)) (qKD _ (by omega))) (by rw [List.length_drop];show 4 - _≤4;omega) d,by simp only [List.length_cons];omega⟩
  refine And.intro (fun h=>absurd (show(v:Int).tmod 8=4 from h) (by first | (rw [e8];omega) | omega)) (fun _=>?_)
  refine⟨by decide,?_⟩
  by_cases k5:v % 8=5
  ·refine And.intro (fun _=>?_) (fun h=>absurd (show(v:Int).tmod 8=5 by first | (rw [e8];omega) | omega) h)
   refine⟨by decide,((v / 8:Nat):Int),by show _=IntKind.i64.wrap ((v:Int).tdiv 8);rw [show(v:Int).tdiv 8=((v / 8:Nat):Int) from rfl];exact w6z,?_⟩
   refine⟨by decide,?_⟩
   refine⟨by decide,((v / 8:Nat):Int),by show _=IntKind.i64.wrap ((v:Int).tdiv 8);rw [show(v:Int).tdiv 8=((v / 8:Nat):Int) from rfl];exact w6z,?_⟩
   refine⟨by decide,?_⟩
   refine⟨1+((v / 8 % 4:Nat):Int),by show _=IntKind.i64.wrap (1+((v / 8:Nat):Int).tmod 4);rw [show((v / 8:Nat):Int).tmod 4=((v / 8 % 4:Nat):Int) from rfl];exact w6z,?_⟩
   refine⟨by decide,((v / 64:Nat):Int),by show _=IntKind.i64.wrap ((v:Int).tdiv 64);rw [show(v:Int).tdiv 64=((v / 64:Nat):Int) from rfl];exact w6z,?_⟩
   refine qDJ (.agg [i64 (1+((v / 8 % 4:Nat):Int)),i64 ((v / 64:Nat):Int),i64 0,i64 0, .str (nmV v),i64 2, .str [],i64 ((v / 8 % 4:Nat):Int), .nils, .nils]) (.lst (t.map u8)) rfl rfl rfl ?_
   exact⟨_,_, .mk (1+((v / 8 % 4:Nat):Int)) ((v / 64:Nat):Int) 0 0 ⟨nmV v,2,[],((v / 8 % 4:Nat):Int)⟩ [] [],1,t,rfl,qAm _ _ 0 0 ⟨nmV v,2,[],((v / 8 % 4:Nat):Int)⟩,NilD.refl _,qBl (by omega) (by omega) (by omega) (qHi (by omega) (qTc hn (qIg v 8 4 hv)) (qOI v 64 hv)) (by decide) d,by simp only [List.length_cons];omega⟩
  refine And.intro (fun h=>absurd (show(v:Int).tmod 8=5 from h) (by first | (rw [e8];omega) | omega)) (fun _=>?_)
  refine⟨by decide,((v / 8:Nat):Int),by show _=IntKind.i64.wrap ((v:Int).tdiv 8);rw [show(v:Int).tdiv 8=((v / 8:Nat):Int) from rfl];exact w6z,?_⟩
  refine⟨by decide,?_⟩
  refine⟨1+((v / 8 % 4:Nat):Int),by show _=IntKind.i64.wrap (1+((v / 8:Nat):Int).tmod 4);rw [show((v / 8:Nat):Int).tmod 4=((v / 8 % 4:Nat):Int) from rfl];exact w6z,?_⟩
  refine⟨by decide,((v / 64:Nat):Int),by show _=IntKind.i64.wrap ((v:Int).tdiv 64);rw [show(v:Int).tdiv 64=((v / 64:Nat):Int) from rfl];exact w6z,?_⟩
  refine qDJ (.agg [i64 (1+((v / 8 % 4:Nat):Int)),i64 ((v / 64:Nat):Int),i64 0,i64 0, .str (nmV v),i64 0, .str [],i64 0, .nils, .nils]) (.lst (t.map u8)) rfl rfl rfl ?_
  exact⟨_,_, .mk (1+((v / 8 % 4:Nat):Int)) ((v / 64:Nat):Int) 0 0 ⟨nmV v,0,[],0⟩ [] [],1,t,rfl,qAm _ _ 0 0 ⟨nmV v,0,[],0⟩,NilD.refl _,qBl (by omega) (by omega) (by omega) (qHi (by omega) (qRm hn) (qOI v 64 hv)) (by decide) d,by simp only [List.length_cons];omega⟩
theorem qNO:∀ d,qXF (d+1)
 | 0=>grow_step 0 fun h=>absurd rfl h
 | d+1=>grow_step (d+1) fun _=>qNO d
theorem qU9 (l:List UInt8) (hl:l.length≤9223372036854775807):Pure cx 41 [.lst (l.map u8)] fun r=>∃ (c:Cd) (n:Nat),r=.ret [c.pv]∧Small 8 c n∧n≤29:=by
 refine qAB Tryz.func41 rfl rfl rfl ?_
 have hl':(l.map u8).length=l.length:=List.length_map ..
 obtain⟨k,hk⟩:∃ k,k=min l.length 14:=⟨_,rfl⟩
 have em:(if (14:Int)<((l.map u8).length:Nat) then(14:Int) else((l.map u8).length:Nat))=(k:Nat):=by
  rw [hl',hk];split <;> omega
 refine⟨by show(0:Int)≤(if (14:Int)<((l.map u8).length:Nat) then(14:Int) else((l.map u8).length:Nat))∧(if (14:Int)<((l.map u8).length:Nat) then(14:Int) else((l.map u8).length:Nat))≤((l.map u8).length:Nat);rw [em,hl'];omega,?_⟩
 have hg:=qNO 7 1 (l.take k) rfl (by rw [List.length_take];omega)
 have ea:[PV.lst ((l.take k).map u8),i64 ((1:Nat):Int)]=[PV.lst ((l.map u8).take (if (14:Int)<((l.map u8).length:Nat) then(14:Int) else((l.map u8).length:Nat)).toNat),i64 1]:=by
  rw [em,List.map_take];rfl
 rw [ea] at hg
 refine hg.at fun r hr=>?_
 obtain⟨⟨ao,an,ar,av,af,as',aa⟩,n,rest,rfl,hs,hn⟩:=hr
 exact qAF _ rfl rfl ⟨_,n,rfl,hs,by rw [List.length_take] at hn;omega⟩
abbrev qDl (c:Cd):De:=⟨5,0,[],[],[],[⟨c,[1]⟩,⟨cd0,[-1,0]⟩]⟩
theorem qU2 (l:List UInt8) (hl:l.length≤9223372036854775807):Pure cx 12 [.lst (l.map u8)] fun r=>∃ (c:Cd) (n:Nat),r=.ret [qEo [qDl c]]∧Small 8 c n∧n≤29:=by
 refine Pure.weak (Q:=fun r=>∃ (c:Cd) (n:Nat),r=.ret [.agg [.lsts 6 [[i64 5,i64 0, .str [], .str [], .nils, .lsts 11 [c.cells++[.lst [i64 1]],zc0++[.lst [i64 (-1),i64 0]]]]]]]∧Small 8 c n∧n≤29) ?_ ?_
 ·refine qAB Tryz.func12 rfl rfl rfl ?_
  refine(qU9 l hl).at fun r hr=>?_
  obtain⟨⟨ao,an,ar,av,af,as',aa⟩,n,rfl,hs,hn⟩:=hr
  refine qAF _ rfl ⟨_,rfl,_,_,rfl,⟨_,rfl,Nat.le_refl _,⟨_,_,rfl,⟨_,_,rfl,rfl,_,_,rfl,rfl,_,_,rfl,rfl,_,_,rfl,rfl,_,_,rfl, .inl rfl,_,_,rfl,⟨_,rfl,Nat.le_refl _,⟨_,_,rfl,?_,_,_,rfl,?_,rfl⟩⟩,rfl⟩,rfl⟩⟩,rfl⟩ ⟨_,n,rfl,hs,hn⟩
  ·exact⟨_,_,rfl,rfl,_,_,rfl,rfl,_,_,rfl,rfl,_,_,rfl,rfl,_,_,rfl,rfl,_,_,rfl,rfl,_,_,rfl,rfl,_,_,rfl,rfl,_,_,rfl,rfl,_,_,rfl,rfl,_,_,rfl,⟨_,rfl,Nat.le_refl _,rfl⟩,rfl⟩
  ·exact⟨_,_,rfl,rfl,_,_,rfl,rfl,_,_,rfl,rfl,_,_,rfl,rfl,_,_,rfl,rfl,_,_,rfl,rfl,_,_,rfl,rfl,_,_,rfl,rfl,_,_,rfl, .inl rfl,_,_,rfl, .inl rfl,_,_,rfl,⟨_,rfl,Nat.le_refl _,rfl⟩,rfl⟩
 ·rintro r ⟨c,n,rfl,hs,hn⟩
  refine⟨_,⟨_,rfl,_,_,rfl,?_,rfl⟩,c,n,rfl,hs,hn⟩
  show NilD _ (.agg [.lsts 6 [[i64 5,i64 0, .str [], .str [], .lsts 4 [], .lsts 11 [(⟨c,[1]⟩:Cs).cells,(⟨cd0,[-1,0]⟩:Cs).cells]]]])
  simp only [NilD,NilDL,NilDLL]
  exact⟨_,rfl,_,_,rfl,⟨_,rfl,_,_,rfl,⟨_,_,rfl,rfl,_,_,rfl,rfl,_,_,rfl,rfl,_,_,rfl,rfl,_,_,rfl, .inr (.inr ⟨4,rfl⟩),_,_,rfl,⟨_,rfl,_,_,rfl,NilDL.refl _,_,_,rfl,qM5 [-1,0],rfl⟩,rfl⟩,rfl⟩,rfl⟩
set_option maxHeartbeats 4000000
def qS1 (t:List UInt8):Nat:=if t=tLP then 1 else 0
def lpP (ws:List Wd):Nat→Nat
 | 0=>0
 | q+1=>lpP ws q+qS1 (txt ws q)
def pn (k:Nat) (p:Int × Nat):Nat:=p.2+if lvl p.1<k then 1 else 0
def cpJ (op:Int) (ps:List (Int × Nat)):Nat:=
 if op=9 then pn 1 (ps.getD 0 (0,0))+pn 2 (ps.getD 1 (0,0)) else if op=8 then pn 2 (ps.getD 0 (0,0))+pn 3 (ps.getD 1 (0,0)) else if op=7 then pn 3 (ps.getD 0 (0,0)) else if op=6 then 1 else 0
mutual
def cp:Cd→Nat
 | .mk op _ _ _ _ _ ar=>cpJ op (cpL ar)
def cpL:List Cd→List (Int × Nat)
 | []=>[]
 | c::r=>(c.op,cp c)::cpL r
end
def pin (k:Nat) (c:Cd):Nat:=pn k (c.op,cp c)
theorem qUR (a b:Cd):cp (.mk 9 0 0 0 rf0 [] [a,b])=pin 1 a+pin 2 b:=by rw [cp,cpL,cpL,cpL];rfl
theorem qUS (a b:Cd):cp (.mk 8 0 0 0 rf0 [] [a,b])=pin 2 a+pin 3 b:=by rw [cp,cpL,cpL,cpL];rfl
theorem qV3 (a:Cd):cp (.mk 7 0 0 0 rf0 [] [a])=pin 3 a:=by rw [cp,cpL,cpL];rfl
theorem qQn {op n rel val:Int} {r:Rf} {st:List Int} (h7:¬ op=7) (h8:¬ op=8) (h9:¬ op=9):cp (.mk op n rel val r st [])=if op=6 then 1 else 0:=by
 rw [cp,cpJ,if_neg h9,if_neg h8,if_neg h7]
theorem qVT {k:Nat} {c:Cd} (h:¬ lvl c.op<k):pin k c=cp c:=by
 unfold pin pn
 rw [if_neg h];rfl
structure CLp (ws:List Wd) (F:Nat):Prop where
 cond:∀ {q c q'},qC6 ws F q=.inr (c,q')→lpP ws q+pin 1 c≤lpP ws q'
 orr:∀ {d q c q'},orR ws F d q=.inr (c,q')→∀ s,s+pin 1 d≤lpP ws q→s+pin 1 c≤lpP ws q'
 conj:∀ {q c q'},qCo ws F q=.inr (c,q')→lpP ws q+pin 2 c≤lpP ws q'
 andr:∀ {d q c q'},qK8 ws F d q=.inr (c,q')→∀ s,s+pin 2 d≤lpP ws q→s+pin 2 c≤lpP ws q'
 neg:∀ {q c q'},qG5 ws F q=.inr (c,q')→lpP ws q+pin 3 c≤lpP ws q'
 test:∀ {q c q'},qD9 ws F q=.inr (c,q')→lpP ws q+pin 4 c≤lpP ws q'
def lpT (x:qBT):Nat:=(x.map qS1).sum
def wgh (t:List UInt8):Int:=if t=tLP then 1 else if t=tRP then -1 else 0
def tot (x:qBT):Int:=(x.map wgh).sum
theorem qGK (x y:qBT):lpT (x++y)=lpT x+lpT y:=by rw [lpT,List.map_append,List.sum_append];rfl
theorem qJA (x y:qBT):tot (x++y)=tot x+tot y:=by rw [tot,List.map_append,List.sum_append];rfl
theorem qEg (t:List UInt8) (x:qBT):lpT (t::x)=qS1 t+lpT x:=by simp [lpT]
theorem qI9 (t:List UInt8) (x:qBT):tot (t::x)=wgh t+tot x:=by simp [tot]
structure Bal (x:qBT):Prop where
 all:tot x=0
 pre:∀ n,0≤tot (x.take n)
theorem Bal.app {x y:qBT} (hx:Bal x) (hy:Bal y):Bal (x++y):=by
 refine⟨by rw [qJA,hx.all,hy.all];rfl,fun n=>?_⟩
 rw [List.take_append,qJA]
 have:=hx.pre n
 have:=hy.pre (n - x.length)
 omega
def Pl (t:List UInt8):Prop:=t ≠ tLP∧t ≠ tRP
theorem qVQ {t:List UInt8} (h:Pl t):wgh t=0:=by rw [wgh,if_neg h.1,if_neg h.2]
theorem qWk {t:List UInt8} (h:Pl t):qS1 t=0:=if_neg h.1
theorem qEh:∀ {x:qBT},(∀ t∈x,Pl t)→tot x=0∧lpT x=0
 | [],_=>⟨rfl,rfl⟩
 | t::x,h=>by
  have h1:=h t (List.mem_cons_self ..)
  have h2:=qEh (x:=x) fun u hu=>h u (List.mem_cons_of_mem _ hu)
  rw [qI9,qEg,qVQ h1,qWk h1,h2.1,h2.2];exact⟨rfl,rfl⟩
theorem qG7 {x:qBT} (h:∀ t∈x,Pl t):Bal x:=
 ⟨(qEh h).1,fun n=>by rw [(qEh fun t ht=>h t (List.mem_of_mem_take ht)).1];exact Int.le_refl _⟩
theorem Bal.par {x:qBT} (h:Bal x):Bal (tLP::(x++[tRP])):=by
 have e1:wgh tLP=1:=rfl
 have e2:tot [tRP]=-1:=rfl
 refine⟨by rw [qI9,qJA,h.all,e1,e2];rfl,fun n=>?_⟩
 cases n with
 | zero=>exact Int.le_refl _
 | succ n=>
  rw [List.take_succ_cons,qI9,e1,List.take_append,qJA]
  have:=h.pre n
  have h3:-1≤tot ([tRP].take (n - x.length)):=by
   cases n - x.length with
   | zero=>decide
   | succ m=>rw [List.take_of_length_le (by simp)];decide
  omega
theorem qLU {t:List UInt8} (h:qAp t=true):Pl t:=⟨qP1 h (by decide),qP1 h (by decide)⟩
theorem qHW {n:Int} (h:qBh n=true):Pl (qAZ n):=⟨qSw (qJo h).1 (by decide),qSw (qJo h).1 (by decide)⟩
theorem qA5 {t:List UInt8} {x:qBT} (h:Pl t) (hx:∀ u∈x,Pl u):∀ u∈t::x,Pl u:=fun u hu=>by
 rcases List.mem_cons.1 hu with rfl | hu
 ·exact h
 ·exact hx u hu
theorem qDG:∀ u∈([]:qBT),Pl u:=fun u hu=>by cases hu
theorem qIT {x y:qBT} (hx:∀ u∈x,Pl u) (hy:∀ u∈y,Pl u):∀ u∈x++y,Pl u:=fun u hu=>by
 rcases List.mem_append.1 hu with hu | hu
 ·exact hx u hu
 ·exact hy u hu
theorem qVS {r:Rf} (h:qBk r=true):∀ u∈qBW r,Pl u:=by
 obtain⟨nm,m,pl,n⟩:=r
 rw [qBk,Bool.and_eq_true] at h
 obtain⟨hn,h⟩:=h
 simp only [] at h hn
 refine qA5 (qLU hn) ?_
 unfold qEn
 simp only []
 by_cases h3:m=3
 ·rw [if_pos h3]
  exact qA5 ⟨by decide,by decide⟩ (qA5 ⟨by decide,by decide⟩ (qA5 ⟨by decide,by decide⟩ qDG))
 rw [if_neg h3]
 by_cases h2:m=2
 ·rw [if_neg (by omega),if_neg (by omega),if_pos h2,Bool.and_eq_true] at h
  rw [if_pos h2]
  exact qA5 ⟨by decide,by decide⟩ (qA5 (qHW h.2) (qA5 ⟨by decide,by decide⟩ qDG))
 rw [if_neg h2]
 by_cases h1:m=1
 ·rw [if_neg (by omega),if_pos h1,Bool.and_eq_true] at h
  rw [if_pos h1]
  split
  ·exact qA5 ⟨by decide,by decide⟩ (qA5 (qLU h.1) (qA5 ⟨by decide,by decide⟩ (qA5 (qHW h.2) (qA5 ⟨by decide,by decide⟩ qDG))))
  ·exact qA5 ⟨by decide,by decide⟩ (qA5 (qLU h.1) (qA5 ⟨by decide,by decide⟩ qDG))
 ·rw [if_neg h1];exact qDG
theorem qSv (k:Int):Pl (qGD k):=by
 unfold qGD
 split
 ·exact⟨by decide,by decide⟩
 ·split
  ·exact⟨by decide,by decide⟩
  ·split <;> exact⟨by decide,by decide⟩
theorem qTp {l:List Int} (h:∀ n∈l,qBh n=true):∀ u∈l.flatMap (fun b=>qAt::[qAZ b]),Pl u:=fun u hu=>by
 obtain⟨b,hb,hu⟩:=List.mem_flatMap.1 hu
 exact qA5 ⟨by decide,by decide⟩ (qA5 (qHW (h b hb)) qDG) u hu
theorem qVR {l:List Int} (h:∀ n∈l,qBh n=true):∀ u∈qEv (fun n=>[qAZ n]) l,Pl u:=by
 cases l with
 | nil=>exact qDG
 | cons a l=>exact qIT (qA5 (qHW (h a (List.mem_cons_self ..))) qDG) (qTp fun n hn=>h n (List.mem_cons_of_mem _ hn))
structure CanP (c:Cd):Prop where
 bal:Bal (qAj c)
 lp:lpT (qAj c)=cp c
theorem qKq {c:Cd} (h:CanP c) (k:Nat):Bal (qAV k c)∧lpT (qAV k c)=pin k c:=by
 by_cases hl:lvl c.op<k
 ·rw [qF0 hl]
  refine⟨h.bal.par,?_⟩
  rw [qEg,qGK,h.lp,pin,pn,if_pos hl]
  have e1:qS1 tLP=1:=rfl
  have e2:lpT [tRP]=0:=rfl
  rw [e1,e2];show 1+(cp c+0)=cp c+1;omega
 ·rw [qCx hl,qVT hl]
  exact⟨h.bal,h.lp⟩
theorem qJw {t:List UInt8} (h:Pl t):Bal [t]:=qG7 (qA5 h qDG)
theorem qSN {c:Cd} (h:Sh CanP c):CanP c:=by
 cases h with
 | leaf op n rel val r st h7 h8 h9 hb=>
  obtain⟨f1,f2,f3,f4⟩:=qFE hb
  have hr:=qVS f1
  rw [show CanP (.mk op n rel val r st []) ↔ Bal (qCC op n rel val r st)∧lpT (qCC op n rel val r st)=if op=6 then 1 else 0 from⟨fun h=>by rw [← qBz h7 h8 h9,← qQn (n:=n) (rel:=rel) (val:=val) (r:=r) (st:=st) h7 h8 h9];exact⟨h.bal,h.lp⟩,fun h=>by rw [← qBz h7 h8 h9,← qQn (n:=n) (rel:=rel) (val:=val) (r:=r) (st:=st) h7 h8 h9] at h;exact⟨h.1,h.2⟩⟩]
  by_cases h6:op=6
  ·obtain⟨g1,g2,g3⟩:=f2 h6
   have e:qCC op n rel val r st=[qBt]++((tLP::((qBW r++[tEq,qAZ val])++[tRP]))++[qGD rel,qAZ n]):=by
    rw [qCC,if_pos h6];simp
   have hx:∀ u∈qBW r++[tEq,qAZ val],Pl u:=qIT hr (qA5 ⟨by decide,by decide⟩ (qA5 (qHW g2) qDG))
   have hy:∀ u∈[qGD rel,qAZ n],Pl u:=qA5 (qSv rel) (qA5 (qHW g1) qDG)
   rw [e,if_pos h6]
   refine⟨(qJw ⟨by decide,by decide⟩).app ((qG7 hx).par.app (qG7 hy)),?_⟩
   have h1:lpT [qBt]=0:=rfl
   rw [qGK,qGK,h1,qEg,qGK,(qEh hx).2,(qEh hy).2];rfl
  ·rw [if_neg h6]
   have hall:∀ u∈qCC op n rel val r st,Pl u:=by
    rw [qCC,if_neg h6]
    by_cases h5:op=5
    ·rw [if_pos h5]
     exact qIT hr (qIT (qA5 ⟨by decide,by decide⟩ (qA5 ⟨by decide,by decide⟩ qDG)) (qIT (qVR (qDZ (f3 h5)).2.1) (qA5 ⟨by decide,by decide⟩ qDG)))
    ·rw [if_neg h5]
     exact qIT hr (qA5 (qSv op) (qA5 (qHW (f4 h5 h6).1) qDG))
   exact⟨qG7 hall,(qEh hall).2⟩
 | neg a ha=>
  have h3:=qKq ha 3
  refine⟨?_,?_⟩
  ·rw [qC5]
   exact(qJw (t:=qGq) ⟨by decide,by decide⟩).app h3.1
  ·rw [qC5,qV3,qEg,h3.2]
   have:qS1 qGq=0:=rfl
   omega
 | conj a b ha hb=>
  have h2:=qKq ha 2
  have h3:=qKq hb 3
  refine⟨?_,?_⟩
  ·rw [qCY]
   exact h2.1.app ((qJw (t:=qDY) ⟨by decide,by decide⟩).app h3.1)
  ·rw [qCY,qUS,qGK,qEg,h2.2,h3.2]
   have:qS1 qDY=0:=rfl
   omega
 | disj a b ha hb=>
  have h2:=qKq ha 1
  have h3:=qKq hb 2
  refine⟨?_,?_⟩
  ·rw [qCX]
   exact h2.1.app ((qJw (t:=tOr) ⟨by decide,by decide⟩).app h3.1)
  ·rw [qCX,qUR,qGK,qEg,h2.2,h3.2]
   have:qS1 tOr=0:=rfl
   omega
theorem qQw:∀ (d:Nat) (c:Cd) (left k:Nat),qAn d c left=some k→CanP c
 | 0,_,_,_,h=>by cases h
 | d+1,c,left,k,h=>qSN ((qIw h).mono fun a ⟨l,k,h⟩=>qQw d a l k h)
theorem qU3 (c:Cd):declT (qDl c)=[qBo,tEq,tLC]++(qAj c++[qAo,[49],qAX,qCI,qAo,qAs,[49],[48],tRC,qAX]):=by
 show(qBo::(qAd qAg []++(tEq::qA4 [⟨c,[1]⟩,⟨cd0,[-1,0]⟩])))++[qAX]=_
 have e:qBb [⟨c,[1]⟩,⟨cd0,[-1,0]⟩]=qAj c++[qAo,[49],qAX,qCI,qAo,qAs,[49],[48]]:=rfl
 rw [qA4,e]
 simp [qAd]
def qN2 (x:qBT):List UInt8:=x.flatMap fun t=>t++[32]
set_option maxHeartbeats 40000000
inductive ParS (s:List UInt8):Prop
 | no (l c e:Int) (h:qD4 s=.inl ((l,c),e)) (h1:Pure cx 22 [.str s] (·=.ret [qEo [],i64 l,i64 c,i64 e])) (h2:Pure cx 23 [.str s] (·=.ret [qEo [],i64 l,i64 c,i64 e])) (h3:Pure cx 24 [qEo [],qEo []] (·=.ret [.bool true])):ParS s
 | yes (ds:List De) (h:qD4 s=.inr ds) (h1:Pure cx 22 [.str s] (·=.ret [qEo ds,i64 0,i64 0,i64 0])) (h2:Pure cx 23 [.str s] (·=.ret [qEo ds,i64 0,i64 0,i64 0])) (h3:Pure cx 24 [qEo ds,qEo ds] (·=.ret [.bool true])):ParS s
theorem qM8:BigP []:=⟨by simp,fun d hd=>by cases hd⟩
theorem parS (s:List UInt8):ParS s:=by
 have h1:=qLV s
 have h2:=qRr s
 cases hp:qD4 s with
 | inl x=>
  obtain⟨⟨l,c⟩,e⟩:=x
  rw [hp] at h1 h2
  have h3:=qLG [] [] qM8 qM8
  rw [qRM rfl] at h3
  exact .no l c e hp h1 h2 h3
 | inr ds=>
  rw [hp] at h1 h2
  have h3:=qLG ds ds (qG4 hp) (qG4 hp)
  rw [qRM rfl] at h3
  exact .yes ds hp h1 h2 h3
theorem qMm:∀ x:qBT,qN2 x=[]∨(qN2 x).length=(spW true x).length
 | []=>.inl rfl
 | t::x=>by
  refine .inr ?_
  rcases qMm x with h | h
  ·cases x with
   | nil=>show(t++[32]++[]).length=([32]++(t++[])).length;simp
   | cons u y=>rw [show qN2 (u::y)=(u++[32])++qN2 y from rfl] at h;simp at h
  ·show(t++[32]++qN2 x).length=([32]++(t++spW true x)).length
   simp only [List.length_append,List.length_cons,List.length_nil];omega
structure WithF (c:Cd):Prop where
 valid:qBg [qDl c]=true
 all:qFK (declT (qDl c))
 num:(declT (qDl c)).length≤1500
 txt:(qCA [qDl c]).length≤8000
 len:(qN2 (declT (qDl c))).length≤8000
 can:CanP c
 big:BigP [qDl c]
theorem qNt {c:Cd} (h:(qAn 8 c 30).isSome=true):qBg [qDl c]=true:=by
 have e1:qCU [1]=true:=by decide
 have e2:qB2 [⟨cd0,[-1,0]⟩]=true:=by decide
 have e3:qBP [⟨c,[1]⟩,⟨cd0,[-1,0]⟩]=true:=by
  rw [qBP,qB2]
  show(_ && (qCU [1] && (qAn 8 c 30).isSome && qB2 [⟨cd0,[-1,0]⟩]))=true
  rw [e1,e2,h];rfl
 have e4:qAx (qDl c)=true:=by
  simp [qAx,e3]
 have e5:qBj (qDl c)=true:=by
  rw [qBj,e4];rfl
 rw [qBg,List.all_cons,e5];rfl
theorem qNu {c:Cd} {n:Nat} (hs:Small 8 c n) (hn:n≤29):WithF c:=by
 have hc:=hs.valid 30 (by omega)
 have hv:=qNt (c:=c) (by rw [hc];rfl)
 have hd:=qES (d:=qDl c) ((qF2 hv).2 _ (List.mem_singleton.2 rfl))
 have hk:=(qBa 8 c 30 _ hc).2
 have hlen:(declT (qDl c)).length≤1500:=by
  rw [qU3]
  simp only [List.length_append,List.length_cons,List.length_nil];omega
 have hsp:(spW true (declT (qDl c))).length≤7500:=by
  rw [qU3,qDQ,qDQ,List.length_append,List.length_append]
  have h1:(spW true [qBo,tEq,tLC]).length=9:=rfl
  have h2:(spW true [qAo,[49],qAX,qCI,qAo,qAs,[49],[48],tRC,qAX]).length=23:=rfl
  have h3:=hs.len
  omega
 refine⟨hv,hd.1,hlen,?_,?_,qQw 8 c 30 _ hc,?_⟩
 ·have:qCA [qDl c]=(spW false (declT (qDl c))++[10])++[]:=rfl
  rw [qGc (qQj _),List.length_cons] at hsp
  rw [this]
  simp only [List.length_append,List.length_cons,List.length_nil];omega
 ·rcases qMm (declT (qDl c)) with h | h
  ·rw [h];decide
  ·omega
 ·refine⟨by show 1≤9223372036854775807;decide,fun d hd=>?_⟩
  rw [List.mem_singleton] at hd
  subst hd
  refine⟨by simp,by simp,by simp,fun r hr=>(by cases hr),?_⟩
  refine⟨by show 2≤9223372036854775807;decide,fun x hx=>?_,fun x hx=>?_⟩
  ·rcases List.mem_cons.1 hx with rfl | hx
   ·exact hs.big
   ·rw [List.mem_singleton.1 hx];exact qCp ⟨by decide,by decide⟩ (by decide)
  ·rcases List.mem_cons.1 hx with rfl | hx
   ·show 1≤9223372036854775807;decide
   ·rw [List.mem_singleton.1 hx];show 2≤9223372036854775807;decide
set_option maxHeartbeats 4000000
def lw:qBT→Nat
 | []=>0
 | x::l=>x.length+lw l
theorem qBF (t:List UInt8) (x:qBT):lw (t::x)=t.length+lw x:=rfl
theorem qLe:lw []=0:=rfl
theorem qCi:∀ a b:qBT,lw (a++b)=lw a+lw b
 | [],b=>by simp [lw]
 | x::a,b=>by rw [List.cons_append,lw,lw,qCi a b];omega
def nbB (c:UInt8):Bool:=decide (c.toNat ≠ 32) && decide (c.toNat ≠ 10)
def nb (s:List UInt8):Nat:=(s.filter nbB).length
def PLt (p q:Nat × Nat):Prop:=p.1<q.1∨(p.1=q.1∧p.2<q.2)
theorem PLt.trans {p q r:Nat × Nat} (h:PLt p q) (k:PLt q r):PLt p r:=by
 unfold PLt at *;omega
structure WSp (s:List UInt8) (k:Nat) (acc:List Wd):Prop where
 pl:∀ w∈acc,∃ o,o<k∧o≤s.length∧w.line=(at_ s o).1∧w.col=(at_ s o).2
 ne:∀ i j,i<j→j<acc.length→¬ ((wat acc i).line=(wat acc j).line∧(wat acc i).col=(wat acc j).col)
 lw:lw (acc.map Wd.text)≤nb (s.take k)
theorem qIk (n:Int):(qAZ n).length≤4:=qHu 4 _
theorem qJc {n:Int} (h:n≤9):(qAZ n).length≤1:=by
 rw [qAZ,digN,if_pos (by omega)]
 exact Nat.le_refl _
theorem qLf {α:Type} {f:α→qBT} {b:Nat}:∀ {l:List α},(∀ a∈l,lw (f a)≤b)→lw (l.flatMap f)≤b * l.length
 | [],_=>Nat.zero_le _
 | a::l,h=>by
  have h1:=h a (List.mem_cons_self ..)
  have h2:=qLf (l:=l) fun x hx=>h x (List.mem_cons_of_mem _ hx)
  rw [List.flatMap_cons,qCi,List.length_cons,Nat.mul_succ];omega
theorem qSx {α:Type} {f:α→qBT} {b:Nat}:∀ {l:List α},(∀ a∈l,lw (f a)≤b)→lw (qEv f l)≤(b+1) * l.length
 | [],_=>Nat.zero_le _
 | a::l,h=>by
  have h1:=h a (List.mem_cons_self ..)
  have h2:=qLf (l:=l) (f:=fun b=>qAt::f b) (b:=b+1) fun x hx=>by
   have:=h x (List.mem_cons_of_mem _ hx)
   simp only [qBF,List.length_cons,List.length_nil];omega
  show lw (f a++l.flatMap fun b=>qAt::f b)≤_
  rw [qCi,List.length_cons,Nat.mul_succ];omega
structure RfS (r:Rf):Prop where
 ok:qBk r=true
 nm:r.name.length=1
 pl:r.plate.length≤1
 n:r.n≤9
theorem qT0 {r:Rf} (h:r.plate.length≤1) (hn:r.n≤9):lw (qEn r)≤5:=by
 have h1:=qJc hn
 unfold qEn
 split
 ·decide
 ·split
  ·simp only [qBF,qLe,List.length_cons,List.length_nil];omega
  ·split
   ·split <;> simp only [qBF,qLe,List.length_cons,List.length_nil] <;> omega
   ·exact Nat.zero_le _
theorem qSz {r:Rf} (h:RfS r):lw (qBW r)≤6:=by
 have h1:=qT0 h.pl h.n
 have h2:=h.nm
 rw [qBW,qBF];omega
theorem qSy (k:Int):(qGD k).length≤2:=by
 unfold qGD
 split
 ·decide
 ·split
  ·decide
  ·split <;> decide
theorem qT1 {op n rel val:Int} {r:Rf} {st:List Int} (h:RfS r) (hn:n≤9) (hv:val≤9) (hs:st.length≤2∧∀ a∈st,a≤9):lw (qCC op n rel val r st)≤18:=by
 have h0:=qSz h
 have h1:=qJc hn
 have h2:=qJc hv
 have h3:=qSy rel
 have h4:=qSy op
 have h5:=qSx (f:=fun n=>[qAZ n]) (b:=1) (l:=st) fun a ha=>by
  have:=qJc (hs.2 a ha)
  simp only [qBF,qLe];omega
 have hs1:=hs.1
 unfold qCC
 split
 ·simp only [qCi,qBF,qLe,List.length_cons,List.length_nil];omega
 ·split
  ·simp only [qCi,qBF,qLe,List.length_cons,List.length_nil];omega
  ·simp only [qCi,qBF,qLe];omega
structure CdS (d:Nat) (c:Cd) (n k:Nat):Prop where
 sm:Small d c n
 wt:lw (qAj c)≤k
theorem CdS.leaf {op n rel val:Int} {r:Rf} {st:List Int} (h7:¬ op=7) (h8:¬ op=8) (h9:¬ op=9) (hb:qAS op n rel val r st=true) (hr:RfS r) (hn:n≤9) (hv:val≤9) (hs:st.length≤2∧∀ a∈st,a≤9) (d:Nat):CdS (d+1) (.mk op n rel val r st []) 1 18:=
 ⟨qBl h7 h8 h9 hb (by have:=hs.1;omega) d,by rw [qBz h7 h8 h9];exact qT1 hr hn hv hs⟩
theorem qP7 (k:Nat) (p:Int × qBT):lw (inT k p)≤lw p.2+2:=by
 unfold inT
 split
 ·simp only [qCi,qBF,qLe,List.length_cons,List.length_nil];omega
 ·omega
theorem CdS.neg {d n k:Nat} {a:Cd} (ha:CdS d a n k):CdS (d+1) (.mk 7 0 0 0 rf0 [] [a]) (1+n) (k+5):=by
 refine⟨qKQ ha.sm,?_⟩
 rw [qC5]
 have h1:=ha.wt
 have h2:=qP7 3 (a.op,qAj a)
 simp only [] at h2
 show lw (qGq::inT 3 (a.op,qAj a))≤_
 rw [qBF]
 simp only [List.length_cons,List.length_nil];omega
theorem CdS.two {d na nb ka kb:Nat} {a b:Cd} {op:Int} (ho:op=8∨op=9) (ha:CdS d a na ka) (hb:CdS d b nb kb):CdS (d+1) (.mk op 0 0 0 rf0 [] [a,b]) (1+na+nb) (ka+kb+7):=by
 refine⟨qJ7 ho ha.sm hb.sm,?_⟩
 have h1:=ha.wt
 have h2:=hb.wt
 rcases ho with rfl | rfl
 ·rw [qCY]
  have k1:=qP7 2 (a.op,qAj a)
  have k2:=qP7 3 (b.op,qAj b)
  simp only [] at k1 k2
  show lw (inT 2 (a.op,qAj a)++(qDY::inT 3 (b.op,qAj b)))≤_
  rw [qCi,qBF]
  simp only [List.length_cons,List.length_nil];omega
 ·rw [qCX]
  have k1:=qP7 1 (a.op,qAj a)
  have k2:=qP7 2 (b.op,qAj b)
  simp only [] at k1 k2
  show lw (inT 1 (a.op,qAj a)++(tOr::inT 2 (b.op,qAj b)))≤_
  rw [qCi,qBF]
  simp only [List.length_cons,List.length_nil];omega
theorem CdS.le {d n k k':Nat} {a:Cd} (h:CdS d a n k) (hk:k≤k'):CdS d a n k':=⟨h.sm,Nat.le_trans h.wt hk⟩
structure NuS (l:List Int):Prop where
 ok:qCU l=true
 wt:lw (qB5 l)≤6
theorem NuS.len {l:List Int} (h:NuS l):l.length≤8:=by
 have:=h.ok
 simp only [qCU,Bool.and_eq_true,decide_eq_true_eq] at this
 exact this.1.2
structure CsS (c:Cs):Prop where
 cd:∃ n,n≤3∧CdS 8 c.cond n 43
 nu:NuS c.nums
structure LsS (c:Cs):Prop where
 cd:c.cond=cd0
 nu:NuS c.nums
theorem qUZ:qDk cd0:=qCp ⟨by decide,by decide⟩ (by decide)
structure RuS (l:List Cs):Prop where
 ok:qBP l=true
 wt:lw (qA4 l)≤166
 big:BigL l
theorem qSs (last:Cs) (hl:LsS last):∀ pre:List Cs,(∀ c∈pre,CsS c)→qB2 (pre++[last])=true∧lw (qBb (pre++[last]))≤51 * pre.length+11∧(∀ c∈pre++[last],qDk c.cond∧c.nums.length≤9223372036854775807)
 | [],_=>by
  refine⟨?_,?_,fun c hc=>?_⟩
  ·show(qCU last.nums && qEr last.cond)=true
   rw [hl.nu.ok,hl.cd];rfl
  ·have:=hl.nu.wt
   show lw (qCI::qAo::qB5 last.nums)≤_
   simp only [qBF,List.length_cons,List.length_nil];omega
  ·have:=List.mem_singleton.1 hc
   subst this
   have:=hl.nu.len
   exact⟨by rw [hl.cd];exact qUZ,by omega⟩
 | c::pre,h=>by
  obtain⟨h1,h2,h3⟩:=qSs last hl pre fun x hx=>h x (List.mem_cons_of_mem _ hx)
  obtain⟨⟨n,hn,hc⟩,hu⟩:=h c (List.mem_cons_self ..)
  obtain⟨y,t,e⟩:∃ y t,pre++[last]=y::t:=by
   cases pre with
   | nil=>exact⟨_,_,rfl⟩
   | cons a b=>exact⟨_,_,rfl⟩
  rw [e] at h1 h2 h3
  rw [List.cons_append,e]
  refine⟨?_,?_,fun x hx=>?_⟩
  ·rw [qB2,hu.ok,hc.sm.valid 30 (by omega),h1];rfl
  ·have h4:=hc.wt
   have h5:=hu.wt
   rw [qBb]
   simp only [qCi,qBF,List.length_cons,List.length_nil];omega
  ·rcases List.mem_cons.1 hx with rfl | hx
   ·have:=hu.len
    exact⟨hc.sm.big,by omega⟩
   ·exact h3 x hx
theorem qF8 {pre:List Cs} {last:Cs} (hp:pre.length≤3) (h:∀ c∈pre,CsS c) (hl:LsS last):RuS (pre++[last]):=by
 obtain⟨h1,h2,h3⟩:=qSs last hl pre h
 have e:(pre++[last]).length=pre.length+1:=by simp
 refine⟨?_,?_,⟨by omega,fun c hc=>(h3 c hc).1,fun c hc=>(h3 c hc).2⟩⟩
 ·rw [qBP,h1,decide_eq_true (by omega),decide_eq_true (by omega)];rfl
 ·rw [qA4,qBF,qCi]
  simp only [qBF,qLe,List.length_cons,List.length_nil];omega
structure DeS (d:De) (k:Nat):Prop where
 ok:qBj d=true
 big:BigD d
 wt:lw (declT d)≤k
theorem qLM {key:List UInt8} {l:List Rf} (hk:key.length≤6) (h:∀ r∈l,RfS r) (hl:l.length≤2):lw (qAd key l)≤20:=by
 unfold qAd
 split
 ·exact Nat.zero_le _
 ·have:=qSx (f:=qBW) (b:=6) (l:=l) fun r hr=>qSz (h r hr)
  rw [qBF];omega
theorem qJO {l:List Rf} (h:∀ r∈l,RfS r):l.all qBk=true:=List.all_eq_true.2 fun r hr=>(h r hr).ok
theorem qLL {l:List Rf} (h:∀ r∈l,RfS r):∀ r∈l,BigR r:=fun r hr=>qMr (h r hr).ok
theorem bS0:qK7 []:=qBN
theorem bS1:qK7 [112]:=by rw [qK7];simp
theorem bN0:([]:List Rf).length≤9223372036854775807:=by simp
theorem qSA {n:Int} (hn:qBh n=true):DeS ⟨1,n,[],[],[],[]⟩ 10:=by
 refine⟨?_,⟨bS0,bS0,bN0,fun r hr=>(by cases hr),qGI⟩,?_⟩
 ·rw [qBj,hn];rfl
 ·have:=qIk n
  show lw [qCL,qAZ n,qAX]≤_
  simp only [qBF,qLe,List.length_cons,List.length_nil];omega
theorem qRw {n:Int} (hn:qBh n=true):DeS ⟨2,n,[112],[],[],[]⟩ 12:=by
 refine⟨?_,⟨bS1,bS0,bN0,fun r hr=>(by cases hr),qGI⟩,?_⟩
 ·rw [qBj,hn];rfl
 ·have:=qIk n
  show lw [qCK,[112],tEq,qAZ n,qAX]≤_
  simp only [qBF,qLe,List.length_cons,List.length_nil];omega
theorem qKm {n:Int} {nm:List UInt8} {rs:List Rf} (hn:qBh n=true) (h1:qAp nm=true) (h2:nm.length=1) (hr:∀ r∈rs,RfS r) (hl:rs.length≤2):DeS ⟨4,n,nm,[],rs,[]⟩ 33:=by
 refine⟨?_,⟨by show nm.length≤9223372036854775807;omega,bS0,by show rs.length≤9223372036854775807;omega,qLL hr,qGI⟩,?_⟩
 ·rw [qBj,hn,qJO hr,decide_eq_true (by show rs.length≤8;omega),qAx,if_neg (by show ¬ (4:Int)=1;decide),if_neg (by show ¬ (4:Int)=2;decide),if_neg (by show ¬ (4:Int)=3;decide),if_pos rfl,h1];rfl
 ·have h3:=qIk n
  have h4:=qLM (key:=qBn) (by decide) hr hl
  show lw (([qBK,nm,qAo,qAZ n]++qAd qBn rs)++[qAX])≤_
  simp only [qCi,qBF,qLe,List.length_cons,List.length_nil];omega
theorem qQV {rs:List Rf} {cs:List Cs} (hr:∀ r∈rs,RfS r) (hl:rs.length≤2) (hc:RuS cs):DeS ⟨5,0,[],[],rs,cs⟩ 192:=by
 refine⟨?_,⟨bS0,bS0,by show rs.length≤9223372036854775807;omega,qLL hr,hc.big⟩,?_⟩
 ·rw [qBj,qJO hr,decide_eq_true (by show rs.length≤8;omega),qAx,if_neg (by show ¬ (5:Int)=1;decide),if_neg (by show ¬ (5:Int)=2;decide),if_neg (by show ¬ (5:Int)=3;decide),if_neg (by show ¬ (5:Int)=4;decide),if_pos rfl,hc.ok];rfl
 ·have h4:=qLM (key:=qAg) (by decide) hr hl
  have h5:=hc.wt
  show lw ((qBo::(qAd qAg rs++(tEq::qA4 cs)))++[qAX])≤_
  simp only [qCi,qBF,qLe,List.length_cons,List.length_nil];omega
theorem qPv {n:Int} {nm pl:List UInt8} {rs:List Rf} {cs:List Cs} (hn:qBh n=true) (h1:qAp nm=true) (h2:nm.length=1) (hp:pl=[]∨pl=[112]) (hr:∀ r∈rs,RfS r) (hl:rs.length≤2) (hc:RuS cs):DeS ⟨3,n,nm,pl,rs,cs⟩ 201:=by
 refine⟨?_,⟨by show nm.length≤9223372036854775807;omega,by rcases hp with rfl | rfl;exact bS0;exact bS1,by show rs.length≤9223372036854775807;omega,qLL hr,hc.big⟩,?_⟩
 ·rw [qBj,hn,qJO hr,decide_eq_true (by show rs.length≤8;omega),qAx,if_neg (by show ¬ (3:Int)=1;decide),if_neg (by show ¬ (3:Int)=2;decide),if_pos rfl,h1,hc.ok]
  rcases hp with rfl | rfl <;> rfl
 ·have h3:=qIk n
  have h4:=qLM (key:=qAg) (by decide) hr hl
  have h5:=hc.wt
  have h6:lw (if pl=[] then [] else [tLB,pl,tRB])≤3:=by rcases hp with rfl | rfl <;> decide
  show lw (([qAk,nm]++((if pl=[] then [] else [tLB,pl,tRB])++([qAo,qAZ n]++(qAd qAg rs++(tEq::qA4 cs)))))++[qAX])≤_
  simp only [qCi,qBF,qLe,List.length_cons,List.length_nil];omega
theorem qSY:∀ {x:qBT},qFK x→x.length≤lw x
 | [],_=>Nat.le_refl _
 | t::x,h=>by
  have h1:=(qJB (h t (List.mem_cons_self ..))).1
  have h2:=qSY (x:=x) fun u hu=>h u (List.mem_cons_of_mem _ hu)
  rw [qBF,List.length_cons];omega
theorem qSc:∀ x:qBT,(spW true x).length≤lw x+x.length
 | []=>Nat.le_refl _
 | t::x=>by
  have:=qSc x
  show([32]++(t++spW true x)).length≤_
  simp only [List.length_append,List.length_cons,List.length_nil,qBF];omega
structure PrS (ds:List De) (k:Nat):Prop where
 ok:∀ d∈ds,qBj d=true∧BigD d
 wt:lw (ds.flatMap declT)≤k
theorem PrS.nil:PrS [] 0:=⟨fun d hd=>(by cases hd),Nat.le_refl _⟩
theorem PrS.snoc {ds:List De} {d:De} {k j:Nat} (h:PrS ds k) (hd:DeS d j):PrS (ds++[d]) (k+j):=by
 refine⟨fun x hx=>?_,?_⟩
 ·rcases List.mem_append.1 hx with hx | hx
  ·exact h.ok x hx
  ·rw [List.mem_singleton.1 hx];exact⟨hd.ok,hd.big⟩
 ·have h1:=h.wt
  have h2:=hd.wt
  rw [List.flatMap_append,qCi,List.flatMap_cons,List.flatMap_nil,List.append_nil];omega
theorem PrS.le {ds:List De} {k k':Nat} (h:PrS ds k) (hk:k≤k'):PrS ds k':=⟨h.ok,Nat.le_trans h.wt hk⟩
theorem qO0:∀ ds:List De,(qCA ds).length≤lw (ds.flatMap declT)+qJ2 ds
 | []=>Nat.le_refl _
 | d::ds=>by
  have h1:=qO0 ds
  have h2:=qSc (declT d)
  rw [qGc (qQj d),List.length_cons] at h2
  have h3:qJ2 (d::ds)=(declT d).length+qJ2 ds:=rfl
  show((spW false (declT d)++[10])++qCA ds).length≤_
  rw [List.flatMap_cons,qCi,h3]
  simp only [List.length_append,List.length_cons,List.length_nil];omega
theorem qQi {ds:List De} (h:∀ d∈ds,qBj d=true):qFK (ds.flatMap declT):=fun t ht=>by
 obtain⟨d,hd,ht⟩:=List.mem_flatMap.1 ht
 exact(qES (h d hd)).1 t ht
structure DrP (ds:List De):Prop where
 valid:qBg ds=true
 big:BigP ds
 txt:(qCA ds).length≤2600
 cnt:qJ2 ds≤1300
 lw:lw (ds.flatMap declT)≤1300
theorem PrS.fin {ds:List De} {k:Nat} (h:PrS ds k) (hl:ds.length≤30) (hk:k≤1300):DrP ds:=by
 have h1:=qO0 ds
 have h2:=h.wt
 have h3:=qSY (qQi fun d hd=>(h.ok d hd).1)
 rw [qNU] at h3
 refine⟨?_,⟨by omega,fun d hd=>(h.ok d hd).2⟩,by omega,by omega,by omega⟩
 rw [qBg,decide_eq_true hl,List.all_eq_true.2 fun d hd=>(h.ok d hd).1];rfl
theorem DrP.txtV {ds:List De} (h:DrP ds):txtV ds=[.str (qCA ds),i64 0]:=by
 rw [Go.Proofs.YtohfoaplnjcihaaGreatDoor.txtV,if_pos h.valid,if_pos ⟨by have:=h.txt;omega,by have:=h.cnt;omega⟩]
structure Pc where
 w:UInt8
 o:UInt8
 n:UInt8
 m:UInt8
 x:UInt8
 y:UInt8
 z:UInt8
abbrev Pc.cells (p:Pc):List PV:=[u8 p.w,u8 p.o,u8 p.n,u8 p.m,u8 p.x,u8 p.y,u8 p.z]
def wO3 (a b c:UInt8):AObj:=⟨27,false, .bx [.p (u8 a), .p (u8 b), .p (u8 c)]⟩
structure Wgt (l:List Int) (k:Nat):Prop where
 len:l.length=k
 bd:∀ x∈l,0≤x∧x≤12
theorem Wgt.snoc {l:List Int} {k:Nat} {v:Int} (h:Wgt l k) (h1:0≤v) (h2:v≤12):Wgt (l++[v]) (k+1):=by
 refine⟨by rw [List.length_append,h.len];rfl,fun x hx=>?_⟩
 rcases List.mem_append.1 hx with hx | hx
 ·exact h.bd x hx
 ·rw [List.mem_singleton.1 hx];exact⟨h1,h2⟩
theorem qVg {n:Int} (h:0≤n∧n≤12):lw (qGM n)≤2:=by
 rw [qGM,if_neg (by omega),qBF,qLe,qAZ,digN]
 split
 ·exact Nat.le_succ_of_le (Nat.le_refl _)
 ·rw [digN,if_pos (by omega)]
  exact Nat.le_refl _
theorem Wgt.nu {l:List Int} {k:Nat} (h:Wgt l k) (hk:k=2∨k=3):NuS l:=by
 have h1:=h.len
 refine⟨?_,?_⟩
 ·rw [qCU,decide_eq_true (by omega),decide_eq_true (by omega),List.all_eq_true.2]
  ·rfl
  ·intro x hx
   have:=h.bd x hx
   rw [qFy,decide_eq_true (by omega),decide_eq_true (by omega)];rfl
 ·have:=qLf (f:=qGM) (b:=2) (l:=l) fun x hx=>qVg (h.bd x hx)
  rw [qB5];omega
theorem qOz (n:Nat) {g:Int} (h:0≤g):0≤(n:Int).tmod (g+1)∧(n:Int).tmod (g+1)≤g:=by
 have h1:=Int.tmod_nonneg (g+1) (Int.natCast_nonneg n)
 have h2:=Int.tmod_lt_of_pos (n:Int) (show 0<g+1 by omega)
 omega
theorem qFP (a b c:UInt8) (k:Nat) (g:Int) (hk:k=2∨k=3) (hg:0≤g∧g≤12):Pure cx 67 [.agg [u8 a,u8 b,u8 c],i64 (k:Int),i64 g] fun r=>∃ l,r=.ret [ints l]∧Wgt l k:=by
 refine qAB Tryz.func67 rfl rfl rfl ?_
 refine⟨Nat × List Int × Int,fun x=>[(1, .p (i64 (k:Int))),(3, .ptr 0 0 0),(7, .sl 1 1 0 x.2.1.length),(8, .p (i64 x.2.2)),(9, .p (i64 x.1))],fun x=>⟨2,[(1,iO x.2.1),(0,wO3 a b c)]⟩,fun x=>x.1+1≤k∧Wgt x.2.1 x.1∧0≤x.2.2∧x.2.2≤12,fun x=>k - x.1,?_,?_⟩
 ·exact⟨(0,[],g),⟨by show 0+1≤k;omega,⟨rfl,fun x hx=>by cases hx⟩,hg⟩,qAC [] [] [(1,1)] rfl (sk) (sk) rfl⟩
 rintro⟨i,acc,g⟩ ⟨k1,k2,k3,k4⟩
 simp only [] at k1 k2 k3 k4
 clear hg
 by_cases i2:i+1=k
 ·refine⟨(i:Int),by rw [← i2];rw [show((i+1:Nat):Int) - 1=(i:Int) by omega];exact w6z,?_⟩
  refine And.intro (fun h=>absurd (show(i:Int)<(i:Int) from h) (by omega)) (fun _=>?_)
  refine⟨by show 0+1≤1;omega,[i64 g],rfl,?_⟩
  refine⟨by show 0+acc.length≤(acc.map i64).length;simp,acc.map i64,qAD (by simp),by show(acc.length+1) * 8≤140737488355328;have:=k2.len;omega,(acc++[g]).map i64,by simp,?_⟩
  refine qAF (ints (acc++[g])) rfl ⟨_,rfl,by show 0+(acc.length+1)≤((acc++[g]).map i64).length;simp,qAD (by simp)⟩ ⟨_,rfl,by rw [← i2];exact k2.snoc k3 k4⟩
 refine⟨(k:Int) - 1,w6z,?_⟩
 refine And.intro (fun _=>?_) (fun h=>absurd (show(i:Int)<(k:Int) - 1 by omega) h)
 by_cases i0:i=0
 ·subst i0
  refine⟨by show(0:Int)≤_∧_<_;exact⟨by omega,by omega⟩,?_⟩
  refine⟨.p (u8 a),qOP (by kernel_rfl) rfl,?_⟩
  refine⟨((a).toNat:Int),wrap_i64 (by omega) (by have:=(a).toNat_lt;omega),?_⟩
  refine⟨g+1,w6z,?_⟩
  have hv:=qOz (a).toNat k3
  refine⟨by show ¬ g+1=0;omega,?_⟩
  generalize (((a).toNat:Int)).tmod (g+1)=v at hv ⊢
  refine⟨by show 0+1≤1;omega,[i64 v],rfl,?_⟩
  refine⟨by show 0+acc.length≤(acc.map i64).length;simp,acc.map i64,qAD (by simp),by show(acc.length+1) * 8≤140737488355328;have:=k2.len;omega,(acc++[v]).map i64,by simp,?_⟩
  refine⟨g - v,w6z,?_⟩
  refine⟨((1:Nat):Int),by show((1:Nat):Int)=IntKind.i64.wrap (((0:Nat):Int)+1);exact w6z,?_⟩
  exact⟨(1,acc++[v],g - v),⟨by show 1+1≤k;omega,k2.snoc hv.1 (by omega),by show 0≤g - v;omega,by show g - v≤12;omega⟩,qAC [] [(1,3)] [] rfl ⟨rfl,⟨rfl,rfl⟩,congrArg (fun k:Nat=>AV.sl 3 1 0 k) (qAJ acc v).symm,rfl,rfl,trivial⟩ (sk) rfl,by show k - 1<k - 0;omega⟩
 ·obtain rfl:i=1:=by omega
  refine⟨by show(0:Int)≤_∧_<_;exact⟨by omega,by omega⟩,?_⟩
  refine⟨.p (u8 b),qOP (by kernel_rfl) rfl,?_⟩
  refine⟨((b).toNat:Int),wrap_i64 (by omega) (by have:=(b).toNat_lt;omega),?_⟩
  refine⟨g+1,w6z,?_⟩
  have hv:=qOz (b).toNat k3
  refine⟨by show ¬ g+1=0;omega,?_⟩
  generalize (((b).toNat:Int)).tmod (g+1)=v at hv ⊢
  refine⟨by show 0+1≤1;omega,[i64 v],rfl,?_⟩
  refine⟨by show 0+acc.length≤(acc.map i64).length;simp,acc.map i64,qAD (by simp),by show(acc.length+1) * 8≤140737488355328;have:=k2.len;omega,(acc++[v]).map i64,by simp,?_⟩
  refine⟨g - v,w6z,?_⟩
  refine⟨((2:Nat):Int),by show((2:Nat):Int)=IntKind.i64.wrap (((1:Nat):Int)+1);exact w6z,?_⟩
  exact⟨(2,acc++[v],g - v),⟨by show 2+1≤k;omega,k2.snoc hv.1 (by omega),by show 0≤g - v;omega,by show g - v≤12;omega⟩,qAC [] [(1,3)] [] rfl ⟨rfl,⟨rfl,rfl⟩,congrArg (fun k:Nat=>AV.sl 3 1 0 k) (qAJ acc v).symm,rfl,rfl,trivial⟩ (sk) rfl,by show k - 2<k - 1;omega⟩
set_option maxHeartbeats 40000000
structure Pt where
 kind:UInt8
 card:UInt8
 frm:UInt8
 modes:UInt8
 pl:Bool
 cases:List Pc
 x:UInt8
 y:UInt8
 z:UInt8
abbrev Pt.cells (p:Pt):List PV:=[u8 p.kind,u8 p.card,u8 p.frm,u8 p.modes, .bool p.pl, .lsts 7 (p.cases.map Pc.cells),u8 p.x,u8 p.y,u8 p.z]
structure Kn where
 nm:List UInt8
 card:Int
 pl:Bool
abbrev Kn.cells (k:Kn):List PV:=[.str k.nm,i64 k.card, .bool k.pl]
def kn0:Kn:=⟨[],0,false⟩
structure KnS (k:Kn):Prop where
 ok:qAp k.nm=true
 len:k.nm.length=1
 card:k.card=2∨k.card=3
structure RcS (rs:List Rf) (cs:List Int):Prop where
 refs:∀ r∈rs,RfS r
 nums:∀ c∈cs,c=2∨c=3
 eq:rs.length=cs.length
 len:rs.length≤2
theorem RcS.snoc {rs:List Rf} {cs:List Int} {r:Rf} {c:Int} (h:RcS rs cs) (hr:RfS r) (hc:c=2∨c=3) (hl:rs.length<2):RcS (rs++[r]) (cs++[c]):=by
 have h1:=h.eq
 refine⟨fun x hx=>?_,fun x hx=>?_,by rw [List.length_append,List.length_append];simp only [List.length_cons,List.length_nil];omega,by rw [List.length_append];simp only [List.length_cons,List.length_nil];omega⟩
 ·rcases List.mem_append.1 hx with hx | hx
  ·exact h.refs x hx
  ·rw [List.mem_singleton.1 hx];exact hr
 ·rcases List.mem_append.1 hx with hx | hx
  ·exact h.nums x hx
  ·rw [List.mem_singleton.1 hx];exact hc
def ptO (p:Pt):AObj:=⟨29,false, .bx (p.cells.map .p)⟩
def qPO (rs:List Rf):AObj:=⟨qXB,false, .pus (rs.map Rf.cells)⟩
theorem wrap_u64 {n:Int} (h0:0≤n) (h1:n<18446744073709551616):n=IntKind.u64.wrap n:=by
 show n=n % 18446744073709551616
 omega
def RfQ (e:AE) (H':Hp):Prop:=∃ rs cs,e=.returned (.tup [.sl 0 4 0 rs.length, .sl 1 1 0 cs.length])∧H'=⟨2,[(0,qPO rs),(1,iO cs)]⟩∧RcS rs cs
theorem qVm {l:List Kn} {k:Nat} (h:k<l.length):(l.map Kn.cells)[k]?=some (l.getD k kn0).cells:=qEP kn0 h
theorem qGR (v:Nat) (e:Int) (he:0<e) (hv:v<256):0≤(v:Int).fdiv e∧(v:Int).fdiv e≤255:=by
 have h1:=Int.fdiv_nonneg (Int.natCast_nonneg v) (Int.le_of_lt he)
 have h2:(v:Int).fdiv e≤v:=by
  rw [Int.fdiv_eq_ediv_of_nonneg _ (Int.le_of_lt he)]
  exact Int.ediv_le_self _ (Int.natCast_nonneg v)
 omega
theorem qEe (e:Nat):(0:Int)<2 ^ e:=Int.pow_pos (by decide)
theorem qCQ {n g:Int} (h:0≤n) (hg:0<g):0≤n.tmod g∧n.tmod g<g:=⟨Int.tmod_nonneg _ h,Int.tmod_lt_of_pos _ hg⟩
theorem qXZ {nm:List UInt8} (h:qAp nm=true) (hl:nm.length=1):RfS ⟨nm,0,[],0⟩:=⟨qRm h,hl,Nat.zero_le _,by show(0:Int)≤9;decide⟩
theorem qXL {nm:List UInt8} (h:qAp nm=true) (hl:nm.length=1):RfS ⟨nm,3,[],0⟩:=⟨qVN h,hl,Nat.zero_le _,by show(0:Int)≤9;decide⟩
theorem qXX {nm:List UInt8} {n:Int} (h:qAp nm=true) (hl:nm.length=1) (hn:0≤n∧n<2):RfS ⟨nm,2,[],n⟩:=⟨qTc h (qCh hn.1 (by omega)),hl,Nat.zero_le _,by show n≤9;omega⟩
theorem qXY {nm:List UInt8} {n:Int} (h:qAp nm=true) (hl:nm.length=1) (hn:0≤n∧n<2):RfS ⟨nm,1,[112],n⟩:=⟨qTd h qPq (qCh hn.1 (by omega)),hl,Nat.le_refl _,by show n≤9;omega⟩
abbrev qXe:OT:=(.pure 0 (.pure 1 (.pure 2 (.pure 3 (.eff 4 [] (.pure 5 (.eff 6 [] .fin .nil)) .nil)))))
theorem qGE (p:Pt) (l:List Kn) (hl:∀ k∈l,KnS k) (h5:l.length≤5) (g:Bool) (sz:Int) (hs:sz=1∨sz=2):HoldsG cx 39 [.p (.agg p.cells), .p (.lsts 3 (l.map Kn.cells)),vB g, .p (i64 sz)] ⟨0,[]⟩ (RfQ):=by
 refine qAA Tryz.func39 rfl rfl rfl ?_
 have hl':(l.map Kn.cells).length=l.length:=List.length_map ..
 refine⟨Nat × List Rf × List Int,fun x=>[(1, .p (.lsts 3 (l.map Kn.cells))),(2,vB g),(3, .p (i64 sz)),(4, .ptr 0 0 0),(10, .sl 1 4 0 x.2.1.length),(11, .sl 2 1 0 x.2.2.length),(12, .p (i64 x.1))],fun x=>⟨3,[(2,iO x.2.2),(1,qPO x.2.1),(0,ptO p)]⟩,fun x=>x.1≤l.length∧RcS x.2.1 x.2.2,fun x=>l.length - x.1,?_,?_⟩
 ·exact⟨(0,[],[]),⟨Nat.zero_le _,⟨fun r hr=>(by cases hr),fun r hr=>(by cases hr),rfl,by decide⟩⟩,qAC [] [] [(1,4),(2,1)] rfl (sk) (sk) rfl⟩
 rintro⟨i,rs,cs⟩ ⟨k1,k2⟩
 simp only [] at k1 k2
 by_cases hi:i<l.length
 rotate_left
 ·refine And.intro (fun h=>absurd (show(i:Int)<((l.map Kn.cells).length:Nat) from h) (by rw [hl'];omega)) (fun _=>?_)
  exact⟨[],[(0,1),(1,2)],[], .returned (.tup [.sl 0 4 0 rs.length, .sl 1 1 0 cs.length]),⟨2,[(0,qPO rs),(1,iO cs)]⟩,rfl,sk,sk,rs,cs,rfl,rfl,k2⟩
 refine And.intro (fun _=>?_) (fun h=>absurd (show(i:Int)<((l.map Kn.cells).length:Nat) by rw [hl'];omega) h)
 by_cases h2:rs.length<2
 rotate_left
 ·refine And.intro (fun h=>absurd (show(rs.length:Int)<2 from h) (by omega)) (fun _=>?_)
  exact⟨[],[(0,1),(1,2)],[], .returned (.tup [.sl 0 4 0 rs.length, .sl 1 1 0 cs.length]),⟨2,[(0,qPO rs),(1,iO cs)]⟩,rfl,sk,sk,rs,cs,rfl,rfl,k2⟩
 refine And.intro (fun _=>?_) (fun h=>absurd (show(rs.length:Int)<2 by omega) h)
 have hcell:=qVm hi
 have hS:=hl _ (qAK kn0 hi)
 generalize l.getD i kn0=kn at hcell hS
 obtain⟨nm,card,b⟩:=kn
 have hm:=p.modes.toNat_lt
 have hf:=p.frm.toNat_lt
 cases b
 ·refine⟨(i:Int),wrap_u64 (by omega) (by omega),?_⟩
  refine⟨by omega,?_⟩
  have hs1:=qGR p.frm.toNat _ (qEe (min ((i:Int).toNat) (IntKind.u8.bits))) hf
  generalize (p.frm.toNat:Int).fdiv (2 ^ (min ((i:Int).toNat) (IntKind.u8.bits)))=sf at hs1 ⊢
  refine⟨by decide,?_⟩
  by_cases hz:sf.tmod 2=0
  ·refine And.intro (fun _=>?_) (fun h=>absurd hz h)
   refine⟨((i+1:Nat):Int),by rw [Int.natCast_add];exact w6z,?_⟩
   exact⟨(i+1,rs,cs),⟨by show i+1≤l.length;omega,k2⟩,qAC [] [] [] rfl (sk) (sk) rfl,by show l.length - (i+1)<l.length - i;omega⟩
  refine And.intro (fun h=>absurd h hz) (fun _=>?_)
  clear hz hs1
  refine⟨_,⟨by omega,(Kn.mk nm card _).cells,hcell,rfl⟩,?_⟩
  refine⟨((2 * i:Nat):Int),by show _=IntKind.i64.wrap (2 * (i:Int));rw [Int.natCast_mul];exact w6z,?_⟩
  refine⟨((2 * i:Nat):Int),wrap_u64 (by omega) (by omega),?_⟩
  refine⟨by omega,?_⟩
  have hs2:=qGR p.modes.toNat _ (qEe (min (((2 * i:Nat):Int).toNat) (IntKind.u8.bits))) hm
  generalize (p.modes.toNat:Int).fdiv (2 ^ (min (((2 * i:Nat):Int).toNat) (IntKind.u8.bits)))=sm at hs2 ⊢
  refine⟨sm,w6z,?_⟩
  refine⟨by decide,?_⟩
  have hs3:=qCQ hs2.1 (show(0:Int)<4 by decide)
  generalize sm.tmod 4=m at hs3 ⊢
  refine⟨_,⟨by omega,(Kn.mk nm card _).cells,hcell,rfl⟩,?_⟩
  refine⟨by show 0+1≤1;omega,[[.str nm,i64 0, .str [],i64 0]],rfl,?_⟩
  refine⟨by show 0+rs.length≤(rs.map Rf.cells).length;simp,rs.map Rf.cells,qAD (by simp),by show(rs.length+1) * 48≤140737488355328;omega,(rs++[Rf.mk nm 0 [] 0]).map Rf.cells,by simp,?_⟩
  refine⟨_,⟨by omega,(Kn.mk nm card _).cells,hcell,rfl⟩,?_⟩
  refine⟨by show 0+1≤1;omega,[i64 card],rfl,?_⟩
  refine⟨by show 0+cs.length≤(cs.map i64).length;simp,cs.map i64,qAD (by simp),by show(cs.length+1) * 8≤140737488355328;have:=k2.eq;omega,(cs++[card]).map i64,by simp,?_⟩
  refine⟨((i+1:Nat):Int),by rw [Int.natCast_add];exact w6z,?_⟩
  exact⟨(i+1,rs++[Rf.mk nm 0 [] 0],cs++[card]),⟨by show i+1≤l.length;omega,k2.snoc (qXZ hS.ok hS.len) hS.card h2⟩,qAC [] [(1,5),(2,7)] [] rfl ⟨rfl,rfl,rfl,⟨rfl,rfl⟩,congrArg (fun k:Nat=>AV.sl 5 4 0 k) (qAJ rs _).symm,congrArg (fun k:Nat=>AV.sl 7 1 0 k) (qAJ cs card).symm,rfl,trivial⟩ (sk) rfl,by show l.length - (i+1)<l.length - i;omega⟩
 cases g
 ·refine⟨(i:Int),wrap_u64 (by omega) (by omega),?_⟩
  refine⟨by omega,?_⟩
  have hs1:=qGR p.frm.toNat _ (qEe (min ((i:Int).toNat) (IntKind.u8.bits))) hf
  generalize (p.frm.toNat:Int).fdiv (2 ^ (min ((i:Int).toNat) (IntKind.u8.bits)))=sf at hs1 ⊢
  refine⟨by decide,?_⟩
  by_cases hz:sf.tmod 2=0
  ·refine And.intro (fun _=>?_) (fun h=>absurd hz h)
   refine⟨((i+1:Nat):Int),by rw [Int.natCast_add];exact w6z,?_⟩
   exact⟨(i+1,rs,cs),⟨by show i+1≤l.length;omega,k2⟩,qAC [] [] [] rfl (sk) (sk) rfl,by show l.length - (i+1)<l.length - i;omega⟩
  refine And.intro (fun h=>absurd h hz) (fun _=>?_)
  clear hz hs1
  refine⟨_,⟨by omega,(Kn.mk nm card _).cells,hcell,rfl⟩,?_⟩
  refine⟨((2 * i:Nat):Int),by show _=IntKind.i64.wrap (2 * (i:Int));rw [Int.natCast_mul];exact w6z,?_⟩
  refine⟨((2 * i:Nat):Int),wrap_u64 (by omega) (by omega),?_⟩
  refine⟨by omega,?_⟩
  have hs2:=qGR p.modes.toNat _ (qEe (min (((2 * i:Nat):Int).toNat) (IntKind.u8.bits))) hm
  generalize (p.modes.toNat:Int).fdiv (2 ^ (min (((2 * i:Nat):Int).toNat) (IntKind.u8.bits)))=sm at hs2 ⊢
  refine⟨sm,w6z,?_⟩
  refine⟨by decide,?_⟩
  have hs3:=qCQ hs2.1 (show(0:Int)<4 by decide)
  generalize sm.tmod 4=m at hs3 ⊢
  refine⟨_,⟨by omega,(Kn.mk nm card _).cells,hcell,rfl⟩,?_⟩
  refine And.intro (fun h3=>?_) (fun h3=>?_)
  ·refine⟨by show 0+1≤1;omega,[[.str nm,i64 3, .str [],i64 0]],rfl,?_⟩
   refine⟨by show 0+rs.length≤(rs.map Rf.cells).length;simp,rs.map Rf.cells,qAD (by simp),by show(rs.length+1) * 48≤140737488355328;omega,(rs++[Rf.mk nm 3 [] 0]).map Rf.cells,by simp,?_⟩
   refine⟨_,⟨by omega,(Kn.mk nm card _).cells,hcell,rfl⟩,?_⟩
   refine⟨by show 0+1≤1;omega,[i64 card],rfl,?_⟩
   refine⟨by show 0+cs.length≤(cs.map i64).length;simp,cs.map i64,qAD (by simp),by show(cs.length+1) * 8≤140737488355328;have:=k2.eq;omega,(cs++[card]).map i64,by simp,?_⟩
   refine⟨((i+1:Nat):Int),by rw [Int.natCast_add];exact w6z,?_⟩
   exact⟨(i+1,rs++[Rf.mk nm 3 [] 0],cs++[card]),⟨by show i+1≤l.length;omega,k2.snoc (qXL hS.ok hS.len) hS.card h2⟩,qAC [] [(1,5),(2,7)] [] rfl ⟨rfl,rfl,rfl,⟨rfl,rfl⟩,congrArg (fun k:Nat=>AV.sl 5 4 0 k) (qAJ rs _).symm,congrArg (fun k:Nat=>AV.sl 7 1 0 k) (qAJ cs card).symm,rfl,trivial⟩ (sk) rfl,by show l.length - (i+1)<l.length - i;omega⟩
  ·refine qAf qXe (by kernel_rfl) ?_
   refine⟨by show ¬ sz=0;omega,?_⟩
   have hn:=qCQ hs3.1 (show 0<sz by omega)
   generalize m.tmod sz=n at hn ⊢
   refine⟨by show 0+1≤1;omega,[[.str nm,i64 2, .str [],i64 n]],rfl,?_⟩
   refine⟨by show 0+rs.length≤(rs.map Rf.cells).length;simp,rs.map Rf.cells,qAD (by simp),by show(rs.length+1) * 48≤140737488355328;omega,(rs++[Rf.mk nm 2 [] n]).map Rf.cells,by simp,?_⟩
   refine⟨_,⟨by omega,(Kn.mk nm card _).cells,hcell,rfl⟩,?_⟩
   refine⟨by show 0+1≤1;omega,[i64 card],rfl,?_⟩
   refine⟨by show 0+cs.length≤(cs.map i64).length;simp,cs.map i64,qAD (by simp),by show(cs.length+1) * 8≤140737488355328;have:=k2.eq;omega,(cs++[card]).map i64,by simp,?_⟩
   refine⟨((i+1:Nat):Int),by rw [Int.natCast_add];exact w6z,?_⟩
   exact⟨(i+1,rs++[Rf.mk nm 2 [] n],cs++[card]),⟨by show i+1≤l.length;omega,k2.snoc (qXX hS.ok hS.len ⟨hn.1,by omega⟩) hS.card h2⟩,qAC [] [(1,5),(2,7)] [] rfl ⟨rfl,rfl,rfl,⟨rfl,rfl⟩,congrArg (fun k:Nat=>AV.sl 5 4 0 k) (qAJ rs _).symm,congrArg (fun k:Nat=>AV.sl 7 1 0 k) (qAJ cs card).symm,rfl,trivial⟩ (sk) rfl,by show l.length - (i+1)<l.length - i;omega⟩
 ·refine⟨(i:Int),wrap_u64 (by omega) (by omega),?_⟩
  refine⟨by omega,?_⟩
  have hs1:=qGR p.frm.toNat _ (qEe (min ((i:Int).toNat) (IntKind.u8.bits))) hf
  generalize (p.frm.toNat:Int).fdiv (2 ^ (min ((i:Int).toNat) (IntKind.u8.bits)))=sf at hs1 ⊢
  refine⟨by decide,?_⟩
  by_cases hz:sf.tmod 2=0
  ·refine And.intro (fun _=>?_) (fun h=>absurd hz h)
   refine⟨((i+1:Nat):Int),by rw [Int.natCast_add];exact w6z,?_⟩
   exact⟨(i+1,rs,cs),⟨by show i+1≤l.length;omega,k2⟩,qAC [] [] [] rfl (sk) (sk) rfl,by show l.length - (i+1)<l.length - i;omega⟩
  refine And.intro (fun h=>absurd h hz) (fun _=>?_)
  clear hz hs1
  refine⟨_,⟨by omega,(Kn.mk nm card _).cells,hcell,rfl⟩,?_⟩
  refine⟨((2 * i:Nat):Int),by show _=IntKind.i64.wrap (2 * (i:Int));rw [Int.natCast_mul];exact w6z,?_⟩
  refine⟨((2 * i:Nat):Int),wrap_u64 (by omega) (by omega),?_⟩
  refine⟨by omega,?_⟩
  have hs2:=qGR p.modes.toNat _ (qEe (min (((2 * i:Nat):Int).toNat) (IntKind.u8.bits))) hm
  generalize (p.modes.toNat:Int).fdiv (2 ^ (min (((2 * i:Nat):Int).toNat) (IntKind.u8.bits)))=sm at hs2 ⊢
  refine⟨sm,w6z,?_⟩
  refine⟨by decide,?_⟩
  have hs3:=qCQ hs2.1 (show(0:Int)<4 by decide)
  generalize sm.tmod 4=m at hs3 ⊢
  refine⟨_,⟨by omega,(Kn.mk nm card _).cells,hcell,rfl⟩,?_⟩
  refine And.intro (fun h3=>?_) (fun h3=>?_)
  ·refine⟨by decide,?_⟩
   have hn:=qCQ hs3.1 (show(0:Int)<2 by decide)
   generalize m.tmod 2=n at hn ⊢
   refine⟨by show 0+1≤1;omega,[[.str nm,i64 1, .str [112],i64 n]],rfl,?_⟩
   refine⟨by show 0+rs.length≤(rs.map Rf.cells).length;simp,rs.map Rf.cells,qAD (by simp),by show(rs.length+1) * 48≤140737488355328;omega,(rs++[Rf.mk nm 1 [112] n]).map Rf.cells,by simp,?_⟩
   refine⟨_,⟨by omega,(Kn.mk nm card _).cells,hcell,rfl⟩,?_⟩
   refine⟨by show 0+1≤1;omega,[i64 card],rfl,?_⟩
   refine⟨by show 0+cs.length≤(cs.map i64).length;simp,cs.map i64,qAD (by simp),by show(cs.length+1) * 8≤140737488355328;have:=k2.eq;omega,(cs++[card]).map i64,by simp,?_⟩
   refine⟨((i+1:Nat):Int),by rw [Int.natCast_add];exact w6z,?_⟩
   exact⟨(i+1,rs++[Rf.mk nm 1 [112] n],cs++[card]),⟨by show i+1≤l.length;omega,k2.snoc (qXY hS.ok hS.len hn) hS.card h2⟩,qAC [] [(1,5),(2,7)] [] rfl ⟨rfl,rfl,rfl,⟨rfl,rfl⟩,congrArg (fun k:Nat=>AV.sl 5 4 0 k) (qAJ rs _).symm,congrArg (fun k:Nat=>AV.sl 7 1 0 k) (qAJ cs card).symm,rfl,trivial⟩ (sk) rfl,by show l.length - (i+1)<l.length - i;omega⟩
  ·have h3:¬ m<3:=h3
   refine And.intro (fun h4=>?_) (fun h4=>absurd (show m=3 by omega) h4)
   refine⟨by show 0+1≤1;omega,[[.str nm,i64 3, .str [],i64 0]],rfl,?_⟩
   refine⟨by show 0+rs.length≤(rs.map Rf.cells).length;simp,rs.map Rf.cells,qAD (by simp),by show(rs.length+1) * 48≤140737488355328;omega,(rs++[Rf.mk nm 3 [] 0]).map Rf.cells,by simp,?_⟩
   refine⟨_,⟨by omega,(Kn.mk nm card _).cells,hcell,rfl⟩,?_⟩
   refine⟨by show 0+1≤1;omega,[i64 card],rfl,?_⟩
   refine⟨by show 0+cs.length≤(cs.map i64).length;simp,cs.map i64,qAD (by simp),by show(cs.length+1) * 8≤140737488355328;have:=k2.eq;omega,(cs++[card]).map i64,by simp,?_⟩
   refine⟨((i+1:Nat):Int),by rw [Int.natCast_add];exact w6z,?_⟩
   exact⟨(i+1,rs++[Rf.mk nm 3 [] 0],cs++[card]),⟨by show i+1≤l.length;omega,k2.snoc (qXL hS.ok hS.len) hS.card h2⟩,qAC [] [(1,5),(2,7)] [] rfl ⟨rfl,rfl,rfl,⟨rfl,rfl⟩,congrArg (fun k:Nat=>AV.sl 5 4 0 k) (qAJ rs _).symm,congrArg (fun k:Nat=>AV.sl 7 1 0 k) (qAJ cs card).symm,rfl,trivial⟩ (sk) rfl,by show l.length - (i+1)<l.length - i;omega⟩
abbrev qXR:OT:=(.pure 0 (.pure 1 (.pure 2 (.pure 3 (.pure 4 (.pure 5 (.pure 6 (.pure 7 (.pure 8 (.pure 9 (.pure 10 (.pure 11 (.pure 12 (.pure 13 (.pure 14 (.pure 15 (.pure 16 (.pure 17 (.eff 18 [15,11,10,8,3,1] (.eff 19 [] .fin .nil) .nil)))))))))))))))))))
abbrev qXQ:OT:=(.pure 0 (.pure 1 (.pure 2 (.pure 3 (.pure 4 (.pure 5 (.pure 6 (.pure 7 (.pure 8 (.pure 9 (.pure 10 (.pure 11 (.pure 12 (.pure 13 (.pure 14 (.pure 15 (.pure 16 (.pure 17 (.pure 18 (.pure 19 (.pure 20 (.pure 21 (.pure 22 (.eff 23 [] .fin .nil))))))))))))))))))))))))
abbrev qXP:OT:=(.pure 0 (.pure 1 (.pure 2 (.pure 3 (.pure 4 (.pure 5 (.pure 6 (.eff 7 [3,2] (.pure 8 (.eff 9 [3,2] (.pure 10 (.eff 11 [] .fin .nil)) .nil)) .nil))))))))
abbrev qOE:OT:=(.pure 0 (.pure 1 (.pure 2 (.pure 3 (.pure 4 (.pure 5 (.pure 6 (.eff 7 [4,1] (.pure 8 (.eff 9 [4] (.pure 10 (.eff 11 [] .fin .nil)) .nil)) .nil))))))))
abbrev qOD:OT:=(.pure 0 (.pure 1 (.pure 2 (.pure 3 (.pure 4 (.pure 5 (.pure 6 (.pure 7 (.pure 8 (.eff 9 [5,3,1] (.eff 10 [3,1] (.pure 11 (.eff 12 [] .fin .nil)) .nil) .nil))))))))))
def LfQ (r:PEnd):Prop:=∃ (y:PV) (c:Cd),r=.ret [y]∧NilD y c.pv∧∀ d,CdS (d+1) c 1 18
def CdQ (r:PEnd):Prop:=∃ (y:PV) (c:Cd) (n:Nat),r=.ret [y]∧NilD y c.pv∧n≤3∧CdS 8 c n 43
structure RcA (rs:List Rf) (cs:List Int):Prop where
 ok:RcS rs cs
 pos:1≤rs.length
theorem qVH:∀ j,j<2→qG0 (([0,1]:List Int).drop j)=true∧(([0,1]:List Int).drop j).length≤2∧∀ a∈([0,1]:List Int).drop j,a≤9:=by decide
theorem qS2 {l:List Int} {k:Nat} (h:k<l.length):(l.map i64)[k]?=some (i64 (l.getD k 0)):=qEP 0 h
theorem qFf (op:Int) {ys:List (List PV)} {l:List Cd} (h:NilDLL ys (qBS l)):NilD (.agg [i64 op,i64 0,i64 0,i64 0, .str [],i64 0, .str [],i64 0, .nils, .lsts 10 ys]) (Cd.mk op 0 0 0 rf0 [] l).pv:=by
 show NilD _ (.agg [i64 op,i64 0,i64 0,i64 0, .str [],i64 0, .str [],i64 0, .lst [], .lsts 10 (qBS l)])
 simp only [NilD,NilDL]
 exact⟨_,rfl,_,_,rfl,rfl,_,_,rfl,rfl,_,_,rfl,rfl,_,_,rfl,rfl,_,_,rfl,rfl,_,_,rfl,rfl,_,_,rfl,rfl,_,_,rfl,rfl,_,_,rfl, .inr (.inl rfl),_,_,rfl,⟨_,rfl,h⟩,rfl⟩
theorem qLb {a b:List PV} (h:NilD (.agg a) (.agg b)):NilDL a b:=by
 simp only [NilD] at h
 obtain⟨z,e,h⟩:=h
 injection e with e
 subst e
 exact h
theorem qLZ {a:List PV} {c:Cd} (h:NilD (.agg a) c.pv):NilDLL [a] (qBS [c]):=by
 simp only [NilDLL,qBS]
 exact⟨_,_,rfl,qLb h,rfl⟩
theorem qGJ {a b:List PV} {c d:Cd} (h:NilD (.agg a) c.pv) (h2:NilD (.agg b) d.pv):NilDLL [a,b] (qBS [c,d]):=by
 simp only [NilDLL,qBS]
 exact⟨_,_,rfl,qLb h,_,_,rfl,qLb h2,rfl⟩
theorem wrap_u8' {n:Nat} (h:n<256):(n:Int)=IntKind.u8.wrap (n:Int):=by
 show(n:Int)=(n:Int) % 256
 omega
theorem qF3 (w:UInt8):((UInt8.ofNat (w.toNat+1)).toNat:Int)=IntKind.u8.wrap ((w.toNat:Int)+1):=by
 show((UInt8.ofNat (w.toNat+1)).toNat:Int)=((w.toNat:Int)+1) % 256
 rw [UInt8.toNat_ofNat']
 omega
theorem qF4 (n:UInt8):((UInt8.ofNat (n.toNat / 2)).toNat:Int)=IntKind.u8.wrap ((n.toNat:Int).tdiv 2):=by
 have hn:=n.toNat_lt
 rw [show(n.toNat:Int).tdiv 2=((n.toNat / 2:Nat):Int) from rfl,← wrap_u8' (by omega),UInt8.toNat_ofNat']
 omega
theorem qOY (p:Pc) (rs:List Rf) (cs:List Int) (h:RcA rs cs) (hm3:3≤p.m.toNat % 8):Pure cx 66 [.agg p.cells,qBu rs,ints cs] LfQ:=by
 refine qAB Tryz.func66 rfl rfl rfl ?_
 obtain⟨w,o,n,m,x,y,z⟩:=p
 simp only [] at hm3
 have hl':(rs.map Rf.cells).length=rs.length:=List.length_map ..
 have hpos:=h.pos
 have hk:(w.toNat:Int).tmod ((rs.map Rf.cells).length:Nat)=((w.toNat % rs.length:Nat):Int):=by rw [hl'];rfl
 have hkl:w.toNat % rs.length<rs.length:=Nat.mod_lt _ (by omega)
 generalize w.toNat % rs.length=k at hk hkl
 have hcell:=qJP hkl
 have hkc:k<cs.length:=by have:=h.ok.eq;omega
 have qDA:=qS2 hkc
 have hrf:=h.ok.refs _ (qAK rf0 hkl)
 have hcd:=h.ok.nums _ (qAK 0 hkc)
 generalize rs.getD k rf0=rf at hcell hrf
 generalize cs.getD k 0=cd at qDA hcd
 obtain⟨nm,md,pl,rn⟩:=rf
 have hw:=w.toNat_lt
 have ho:=o.toNat_lt
 have hn:=n.toNat_lt
 have hm:=m.toNat_lt
 have eo:((o.toNat % 4:Nat):Int)=IntKind.i64.wrap ((o.toNat:Int).tmod 4):=by
  rw [show(o.toNat:Int).tmod 4=((o.toNat % 4:Nat):Int) from rfl];exact w6z
 have en:(n.toNat:Int)=IntKind.i64.wrap (n.toNat:Int):=w6z
 have hv0:=qCQ (Int.natCast_nonneg n.toNat) (show 0<cd by omega)
 have hv:=hv0
 have e8:(m.toNat:Int).tmod 8=((m.toNat % 8:Nat):Int):=rfl
 have f8:(o.toNat:Int).tmod 8=((o.toNat % 8:Nat):Int):=rfl
 have hok:=hrf.ok
 refine⟨(w.toNat:Int),w6z,?_⟩
 refine⟨by show ¬ (((rs.map Rf.cells).length:Nat):Int)=0;rw [hl'];omega,?_⟩
 generalize (w.toNat:Int).tmod ((rs.map Rf.cells).length:Nat)=kk at hk ⊢
 subst hk
 refine qAf qXR (by kernel_rfl) ?_
 refine⟨by decide,?_⟩
 refine⟨((o.toNat % 4:Nat):Int),eo,?_⟩
 refine⟨1+((o.toNat % 4:Nat):Int),w6z,?_⟩
 refine⟨_,⟨by omega,(⟨nm,md,pl,rn⟩:Rf).cells,hcell,rfl⟩,?_⟩
 refine⟨(n.toNat:Int),en,?_⟩
 refine⟨_,⟨by omega,i64 cd,qDA,rfl⟩,?_⟩
 refine⟨by show ¬ cd=0;omega,?_⟩
 generalize (n.toNat:Int).tmod cd=v at hv ⊢
 refine⟨⟨rfl,congrArg (fun z:Int=>AV.p (.int .i64 z)) en,rfl,rfl,congrArg (fun z:Int=>AV.p (.int .i64 z)) eo,rfl,trivial⟩,?_⟩
 refine⟨_,⟨by omega,(⟨nm,md,pl,rn⟩:Rf).cells,hcell,rfl⟩,?_⟩
 refine And.intro (fun h3=>?_) (fun h3=>?_)
 ·have h3:md=3:=h3
  refine qAf qXQ (by kernel_rfl) ?_
  refine⟨_,⟨by omega,(⟨nm,md,pl,rn⟩:Rf).cells,hcell,rfl⟩,?_⟩
  refine⟨(n.toNat:Int),en,?_⟩
  refine⟨_,⟨by omega,i64 cd,qDA,rfl⟩,?_⟩
  refine⟨by show ¬ cd=0;omega,?_⟩
  clear hv
  have hv:=hv0
  generalize (n.toNat:Int).tmod cd=v at hv ⊢
  refine⟨by decide,?_⟩
  refine⟨((o.toNat % 4:Nat):Int),eo,?_⟩
  refine⟨1+((o.toNat % 4:Nat):Int),w6z,?_⟩
  refine⟨by decide,((n.toNat / 8:Nat):Int),wrap_u8' (by omega),?_⟩
  refine⟨((n.toNat / 8:Nat):Int),w6z,?_⟩
  refine⟨by decide,?_⟩
  have hq:=qCQ (Int.natCast_nonneg (n.toNat / 8)) (show(0:Int)<4 by decide)
  generalize ((n.toNat / 8:Nat):Int).tmod 4=q at hq ⊢
  have hC1:∀ d,CdS (d+1) (.mk 6 q (1+((o.toNat % 4:Nat):Int)) v ⟨nm,md,pl,rn⟩ [] []) 1 18:=CdS.leaf (by decide) (by decide) (by decide) (by rw [qAS,if_neg (by decide),if_neg (by decide),if_pos rfl,hok,decide_eq_true h3,qCh hq.1 (by omega),qCh hv.1 (by omega),decide_eq_true (by omega),decide_eq_true (by omega)];rfl) hrf (by omega) (by omega) ⟨by decide,fun a ha=>by cases ha⟩
  refine⟨by decide,?_⟩
  refine And.intro (fun h=>absurd (show(m.toNat:Int).tmod 8=0 from h) (by rw [e8];omega)) (fun _=>?_)
  refine And.intro (fun h=>absurd (show(m.toNat:Int).tmod 8=1 from h) (by rw [e8];omega)) (fun _=>?_)
  refine And.intro (fun h=>absurd (show(m.toNat:Int).tmod 8=2 from h) (by rw [e8];omega)) (fun _=>?_)
  refine qAF (.agg [i64 6,i64 q,i64 (1+((o.toNat % 4:Nat):Int)),i64 v, .str nm,i64 md, .str pl,i64 rn, .nils, .nils]) rfl rfl ?_
  exact⟨_, .mk 6 q (1+((o.toNat % 4:Nat):Int)) v ⟨nm,md,pl,rn⟩ [] [],rfl,qAm 6 q (1+((o.toNat % 4:Nat):Int)) v ⟨nm,md,pl,rn⟩,hC1⟩
 ·refine⟨by decide,?_⟩
  by_cases h6:5<o.toNat % 8
  rotate_left
  ·refine And.intro (fun h=>absurd (show(5:Int)<(o.toNat:Int).tmod 8 from h) (by rw [f8];omega)) (fun _=>?_)
   have hC2:∀ d,CdS (d+1) (.mk (1+((o.toNat % 4:Nat):Int)) v 0 0 ⟨nm,md,pl,rn⟩ [] []) 1 18:=CdS.leaf (by omega) (by omega) (by omega) (qHi (by omega) hok (qCh hv.1 (by omega))) hrf (by omega) (by decide) ⟨by decide,fun a ha=>by cases ha⟩
   refine⟨by decide,?_⟩
   refine And.intro (fun h=>absurd (show(m.toNat:Int).tmod 8=0 from h) (by rw [e8];omega)) (fun _=>?_)
   refine And.intro (fun h=>absurd (show(m.toNat:Int).tmod 8=1 from h) (by rw [e8];omega)) (fun _=>?_)
   refine And.intro (fun h=>absurd (show(m.toNat:Int).tmod 8=2 from h) (by rw [e8];omega)) (fun _=>?_)
   refine qAF (.agg [i64 (1+((o.toNat % 4:Nat):Int)),i64 v,i64 0,i64 0, .str nm,i64 md, .str pl,i64 rn, .nils, .nils]) rfl rfl ?_
   exact⟨_, .mk (1+((o.toNat % 4:Nat):Int)) v 0 0 ⟨nm,md,pl,rn⟩ [] [],rfl,qAm (1+((o.toNat % 4:Nat):Int)) v 0 0 ⟨nm,md,pl,rn⟩,hC2⟩
  refine And.intro (fun _=>?_) (fun h=>absurd (show(5:Int)<(o.toNat:Int).tmod 8 by rw [f8];omega) h)
  refine qAf qXP (by kernel_rfl) ?_
  refine⟨(n.toNat:Int),en,?_⟩
  refine⟨by decide,?_⟩
  have hj:(n.toNat:Int).tmod 2=((n.toNat % 2:Nat):Int):=rfl
  have hj2:n.toNat % 2<2:=Nat.mod_lt _ (by decide)
  generalize n.toNat % 2=j at hj hj2
  generalize (n.toNat:Int).tmod 2=jj at hj ⊢
  subst hj
  have s01:=qVH j hj2
  refine⟨by show(0:Int)≤((j:Nat):Int)∧((j:Nat):Int)≤2;omega,?_⟩
  refine⟨⟨congrArg (fun z:Int=>AV.p (.int .i64 z)) en,rfl,trivial⟩,?_⟩
  refine⟨⟨congrArg (fun z:Int=>AV.p (.int .i64 z)) en,rfl,trivial⟩,?_⟩
  have hC3:∀ d,CdS (d+1) (.mk 5 0 0 0 ⟨nm,md,pl,rn⟩ (([0,1]:List Int).drop j) []) 1 18:=CdS.leaf (by decide) (by decide) (by decide) (qNE hok s01.1) hrf (by decide) (by decide) s01.2
  refine⟨by decide,?_⟩
  refine And.intro (fun h=>absurd (show(m.toNat:Int).tmod 8=0 from h) (by rw [e8];omega)) (fun _=>?_)
  refine And.intro (fun h=>absurd (show(m.toNat:Int).tmod 8=1 from h) (by rw [e8];omega)) (fun _=>?_)
  refine And.intro (fun h=>absurd (show(m.toNat:Int).tmod 8=2 from h) (by rw [e8];omega)) (fun _=>?_)
  refine qAF (.agg [i64 5,i64 0,i64 0,i64 0, .str nm,i64 md, .str pl,i64 rn, .lst ((([0,1]:List Int).map i64).drop j), .nils]) rfl rfl ?_
  exact⟨_, .mk 5 0 0 0 ⟨nm,md,pl,rn⟩ (([0,1]:List Int).drop j) [],rfl,qC2 ⟨nm,md,pl,rn⟩ [0,1] j,hC3⟩
end Go.Proofs.YtohfoaplnjcihaaGreatDoor

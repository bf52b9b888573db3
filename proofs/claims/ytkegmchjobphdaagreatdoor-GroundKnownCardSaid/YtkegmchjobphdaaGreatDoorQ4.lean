/- Part 4 of the proof: Db Dc Kt Ku Kv Kw Kx Ky Ga Ja Jb Jc Jd Je Jf Jg Ua Ub Uc Ud Ue Uf Ug Uh Ui Lo Lp Lq Lr Lv Lw Pa Pb Oa Ob Oc Od Oe Of Og Ra Uj Uk Ul Um Dd Df Dg De Dh Dj Ia Ib Na Ic Id Ie If Ig Nb Nc -/
import Derived.Test.YtkegmchjobphdaaGreatDoorQ3
namespace Go.Proofs.YtkegmchjobphdaaGreatDoor
open Go Y
set_option maxRecDepth 100000
set_option maxHeartbeats 4000000
theorem qVZ {α:Type} (z:α) (A M B:List α) (f:α→Bool) (hA:∀ x∈A,f x=false) (hB:∀ x∈B,f x=false) :
  ((List.range (A++M++B).length).filter fun i=>f ((A++M++B).getD i z))=((List.range M.length).filter fun j=>f (M.getD j z)).map (·+A.length):=by
 have key:∀ (L:List α),((List.range L.length).filter fun i=>f (L.getD i z))=(L.zipIdx.filter fun p=>f p.1).map Prod.snd:=by
  intro L
  have e:List.range L.length=L.zipIdx.map Prod.snd:=by simp [List.zipIdx_map_snd,List.range_eq_range']
  rw [e,List.filter_map]
  congr 1
  apply List.filter_congr
  intro p hp
  have:=List.mem_zipIdx hp
  obtain⟨h1,h2,h3⟩:=this
  show f (L.getD p.2 z)=f p.1
  rw [List.getD_eq_getElem?_getD,List.getElem?_eq_getElem (by omega)]
  simp only [Option.getD_some]
  simp at h3
  rw [← h3]
 rw [key,key]
 have hz:∀ (L:List α) (n:Nat),(∀ x∈L,f x=false)→(L.zipIdx n).filter (fun p=>f p.1)=[]:=by
  intro L n h
  rw [List.filter_eq_nil_iff]
  intro p hp
  have h1:=List.mem_zipIdx hp
  rw [h1.2.2,h _ (List.getElem_mem _)]
  decide
 rw [List.zipIdx_append,List.zipIdx_append,List.filter_append,List.filter_append,hz A 0 hA,hz B _ hB,List.nil_append,List.append_nil,Nat.zero_add]
 have hs:∀ (L:List α) (k n:Nat),((L.zipIdx (k+n)).filter fun p=>f p.1).map Prod.snd=(((L.zipIdx k).filter fun p=>f p.1).map Prod.snd).map (·+n):=by
  intro L
  induction L with
  | nil=>intro k n;rfl
  | cons x L ih=>
   intro k n
   have ih:=ih (k+1) n
   rw [List.zipIdx_cons,List.zipIdx_cons,List.filter_cons,List.filter_cons,show k+n+1=k+1+n by omega]
   by_cases hx:f x=true
   ·rw [if_pos hx,if_pos hx,List.map_cons,List.map_cons,List.map_cons,ih]
   ·rw [if_neg hx,if_neg hx];exact ih
 have:=hs M 0 A.length
 rw [Nat.zero_add] at this
 exact this
structure MemAt (p ds:List De) (k:Nat) (A B:List Mb):Prop where
 eq:qAL p ds=A++qFs p (ds.getD k de0)++B
 pre:A=qAL p (ds.take k)
 post:B=qAL p (ds.drop (k+1))
theorem qOi (p a b:List De):qAL p (a++b)=qAL p a++qAL p b:=by rw [qAL,List.flatMap_append];rfl
theorem qMt (p:List De) {ds:List De} {k:Nat} (h:k<ds.length):MemAt p ds k (qAL p (ds.take k)) (qAL p (ds.drop (k+1))):=by
 refine⟨?_,rfl,rfl⟩
 conv=>lhs;rw [← List.take_append_drop k ds,qDJ de0 h]
 rw [qOi,qAL,qAL,qAL,List.flatMap_cons,List.append_assoc]
theorem qPP {p:List De} {d:De} {m:Mb} (h:m∈qFs p d):m.d=d:=by
 unfold qFs at h
 split at h
 ·split at h
  ·rw [List.mem_singleton.1 h]
  ·obtain⟨k,_,rfl⟩:=List.mem_map.1 h;rfl
 ·cases h
theorem qOh {p ds:List De} {m:Mb} (h:m∈qAL p ds):m.d∈ds∧(m.d.kind=3∨m.d.kind=4):=by
 obtain⟨d,hd,hm⟩:=List.mem_flatMap.1 h
 have e:=qPP hm
 refine⟨by rw [e];exact hd,?_⟩
 unfold qFs at hm
 split at hm
 ·rename_i hk;rw [e];exact hk
 ·cases hm
inductive Fd where
 | none
 | one (i:Nat)
 | many (l:List Nat)
def Fd.list:Fd→List Nat
 | .none=>[]
 | .one i=>[i]
 | .many l=>l
def qBj (base size:Nat) (r:Rf) (idx:Int):Fd:=
 if r.mode=0 then .one base
 else if r.mode=2 then .one (base+r.n.toNat)
 else if r.mode=3 then .many ((List.range size).map fun k=>base+k)
 else if r.mode=1 then(if idx+r.n<(size:Nat) then .one (base+(idx+r.n).toNat) else .none)
 else .none
theorem qS2 (n:Nat) (a:Int) (h0:0≤a):((List.range n).filter fun j=>decide (((j:Nat):Int)=a))=if a<(n:Nat) then [a.toNat] else []:=by
 induction n with
 | zero=>rw [if_neg (by omega)];rfl
 | succ n ih=>
  rw [List.range_succ,List.filter_append,ih]
  by_cases h:a<(n:Nat)
  ·rw [if_pos h,if_pos (by omega),List.filter_cons,if_neg (by rw [decide_eq_false (by omega)];decide)];rfl
  ·rw [if_neg h]
   by_cases h2:a=(n:Nat)
   ·rw [if_pos (by omega),List.filter_cons,if_pos (by rw [decide_eq_true h2.symm]),h2];rfl
   ·rw [if_neg (by omega),List.filter_cons,if_neg (by rw [decide_eq_false (fun e=>h2 e.symm)];decide)];rfl
theorem qO9 {n:Nat} {f:Nat→Bool} (h:∀ j<n,f j=true):(List.range n).filter f=List.range n:=List.filter_eq_self.2 fun j hj=>h j (List.mem_range.1 hj)
theorem qGG {n:Nat} {f g:Nat→Bool} (h:∀ j<n,f j=g j):(List.range n).filter f=(List.range n).filter g:=List.filter_congr fun j hj=>h j (List.mem_range.1 hj)
def qDo (p:List De) (d:De):Nat:=(qFs p d).length
theorem qEM {p:List De} {d:De} (hk:d.kind=3∨d.kind=4) (hp:d.plate=[]):qDo p d=1:=by rw [qDo,qFs,if_pos hk,if_pos hp];rfl
theorem qDB {p:List De} {d:De} (hk:d.kind=3∨d.kind=4) (hp:¬ d.plate=[]):qDo p d=(qIN p d.plate).toNat:=by rw [qDo,qFs,if_pos hk,if_neg hp,List.length_map,List.length_range]
theorem qTU {p:List De} {d:De} (hk:d.kind=3∨d.kind=4) {j:Nat} (hj:j<qDo p d):((qFs p d).getD j mb0).d=d∧((qFs p d).getD j mb0).idx=(j:Nat):=by
 have hl:=hj
 have hm:=qAG mb0 (l:=qFs p d) hj
 refine⟨qPP hm,?_⟩
 by_cases hp:d.plate=[]
 ·rw [qEM hk hp] at hj
  obtain rfl:j=0:=by omega
  rw [qFs,if_pos hk,if_pos hp];rfl
 ·rw [qDB hk hp] at hj
  rw [qFs,if_pos hk,if_neg hp,List.getD_eq_getElem?_getD,List.getElem?_map,List.getElem?_range hj];rfl
def qYQ (ds:List De):Prop:=∀ k,k<ds.length→((ds.getD k de0).kind=2∨(ds.getD k de0).kind=3∨(ds.getD k de0).kind=4)→∀ j,j<k→(ds.getD j de0).name ≠ (ds.getD k de0).name
theorem qLG {ds:List De} {k:Nat} {d:De} (h:d∈ds.take k):∃ j,j<k∧j<ds.length∧ds.getD j de0=d:=by
 obtain⟨j,hj,e⟩:=qEX de0 h
 rw [List.length_take] at hj
 exact⟨j,by omega,by omega,by rw [← e,qFJ de0 (by omega)]⟩
theorem qSH {ds:List De} {k:Nat} {d:De} (h:d∈ds.drop k):∃ j,k≤j∧j<ds.length∧ds.getD j de0=d:=by
 obtain⟨j,hj,e⟩:=qEX de0 h
 rw [List.length_drop] at hj
 refine⟨k+j,by omega,by omega,?_⟩
 rw [← e,List.getD_eq_getElem?_getD,List.getD_eq_getElem?_getD,List.getElem?_drop]
theorem qSA {ds:List De} (hd:qYQ ds) {k:Nat} (hk:k<ds.length) (h3:(ds.getD k de0).kind=3∨(ds.getD k de0).kind=4) {r:Rf} (hn:(ds.getD k de0).name=r.name) (idx:Int) :
  qCK (qAL ds ds) r idx=((List.range (qDo ds (ds.getD k de0))).filter fun j=>if r.mode=2 then decide (((j:Nat):Int)=r.n) else if r.mode=1 then decide (((j:Nat):Int)=idx+r.n) else true).map (·+(qAL ds (ds.take k)).length):=by
 have hA:=qMt ds hk
 have e1:=qVZ mb0 (qAL ds (ds.take k)) (qFs ds (ds.getD k de0)) (qAL ds (ds.drop (k+1))) (fun m=>isG m r idx) (fun m hm=>by
  have h1:=qOh hm
  obtain⟨j,j1,j2,j3⟩:=qLG h1.1
  have h2:=hd k hk (.inr h3) j j1
  rw [j3,hn] at h2
  unfold isG
  rw [decide_eq_false h2,Bool.false_and]) (fun m hm=>by
  have h1:=qOh hm
  obtain⟨j,j1,j2,j3⟩:=qSH h1.1
  have h2:=hd j j2 (by rw [j3];exact .inr h1.2) k (by omega)
  rw [j3,hn] at h2
  unfold isG
  rw [decide_eq_false (fun e=>h2 e.symm),Bool.false_and])
 rw [← hA.eq] at e1
 rw [qCK,e1]
 congr 1
 refine qGG fun j hj=>?_
 obtain⟨b1,b2⟩:=qTU h3 hj
 unfold isG
 rw [b1,b2,decide_eq_true hn,Bool.true_and]
theorem qI1 {ds:List De} (hd:qYQ ds) {k:Nat} (hk:k<ds.length) (h3:(ds.getD k de0).kind=3∨(ds.getD k de0).kind=4) {r:Rf} (hn:(ds.getD k de0).name=r.name) (idx:Int) (hi:0≤idx) (hrn:0≤r.n)
  (hm:r.mode=0∨r.mode=1∨r.mode=2∨r.mode=3) (h0:r.mode=0→qDo ds (ds.getD k de0)=1) (h2:r.mode=2→r.n<(qDo ds (ds.getD k de0):Nat)) :
  qCK (qAL ds ds) r idx=(qBj (qAL ds (ds.take k)).length (qDo ds (ds.getD k de0)) r idx).list:=by
 rw [qSA hd hk h3 hn]
 generalize qDo ds (ds.getD k de0)=n at h0 h2
 generalize (qAL ds (ds.take k)).length=b
 unfold qBj
 rcases hm with e | e | e | e
 ·rw [if_pos e]
  obtain rfl:=h0 e
  rw [qO9 fun j _=>by rw [if_neg (by omega),if_neg (by omega)]]
  show [0+b]=[b]
  rw [Nat.zero_add]
 ·rw [if_neg (by omega),if_neg (by omega),if_neg (by omega),if_pos e]
  have:=qS2 n (idx+r.n) (by omega)
  rw [qGG (g:=fun j=>decide (((j:Nat):Int)=idx+r.n)) fun j _=>by rw [if_neg (by omega),if_pos e],this]
  split
  ·show [_+b]=[b+_]
   rw [Nat.add_comm]
  ·rfl
 ·rw [if_neg (by omega),if_pos e]
  have:=qS2 n r.n hrn
  rw [qGG (g:=fun j=>decide (((j:Nat):Int)=r.n)) fun j _=>by rw [if_pos e],this,if_pos (h2 e)]
  show [_+b]=[b+_]
  rw [Nat.add_comm]
 ·rw [if_neg (by omega),if_neg (by omega),if_pos e,qO9 fun j _=>by rw [if_neg (by omega),if_neg (by omega)]]
  show _=(List.range n).map _
  exact List.map_congr_left fun j _=>Nat.add_comm ..
theorem qIj (s:List UInt8):∀ (f k:Nat) (acc ws:List Wd),GoodW acc→qF6 f s k acc=.ok ws→GoodW ws
 | 0,k,acc,ws,h,e=>by
  rw [qF6] at e
  injection e with e
  subst e;exact h
 | f+1,k,acc,ws,h,e=>by
  rw [qF6] at e
  split at e
  ·cases e
  ·rename_i n _
   rw [qK2] at e
   split at e
   ·injection e with e
    subst e;exact h
   ·split at e
    ·cases e
    ·rename_i hr
     split at e
     ·cases e
     ·rename_i hn
      refine qIj s f _ _ ws ⟨fun w hw=>?_,?_⟩ e
      ·rcases List.mem_append.1 hw with hw | hw
       ·exact h.right w hw
       ·rw [List.mem_singleton.1 hw];exact hr
      ·have:=h.len
       rw [qAI];omega
theorem qK1 {s:List UInt8} {ws:List Wd} (h:qIQ s=.ok ws):GoodW ws:=
 qIj s _ _ [] ws ⟨fun w hw=>by simp at hw,by simp⟩ h
theorem qDS {ws:List Wd} (hg:GoodW ws) {q q':Nat} {t:List UInt8} (h:qCm ws q=.inr (t,q')):qQb t:=by
 rw [qCm] at h
 split at h
 ·rename_i hk
  injection h with h;injection h with h1 h2
  have:=hg.at (qLM (ws:=ws) (q:=q) (by rw [hk];decide))
  rw [hk] at this
  have:qBU (txt ws q)=true:=this
  simp only [qBU,Bool.and_eq_true,decide_eq_true_eq] at this
  rw [qQb,← h1]
  have:=this.1.1.1.2
  omega
 ·cases h
theorem qBM:qQb []:=by rw [qQb];simp
theorem qGu {ws:List Wd} {nm pl:List UInt8} {m n:Int} {q q':Nat} {r:Rf} (h1:qQb nm) (h2:qQb pl) (h:qC3 ws nm m pl n q=.inr (r,q')):BigR r:=by
 obtain⟨u,p,_,h⟩:=then_ok h
 injection h with h;injection h with h3 h4
 rw [← h3];exact⟨h1,h2⟩
theorem qRj {ws:List Wd} (hg:GoodW ws) {q q':Nat} {r:Rf} (h:qKz ws q=.inr (r,q')):BigR r:=by
 rw [qKz] at h
 obtain⟨nm,q1,h1,h⟩:=then_ok h
 have b1:=qDS hg h1
 try simp only [] at h
 split at h
 ·split at h
  ·exact qGu b1 qBM h
  ·split at h
   ·obtain⟨n,q2,h2,h⟩:=then_ok h
    exact qGu b1 qBM h
   ·obtain⟨pl,q2,h2,h⟩:=then_ok h
    have b2:=qDS hg h2
    try simp only [] at h
    split at h
    ·obtain⟨n,q3,h3,h⟩:=then_ok h
     exact qGu b1 b2 h
    ·exact qGu b1 b2 h
 ·injection h with h;injection h with h3 h4
  rw [← h3];exact⟨b1,qBM⟩
theorem qOf {α:Type} {ws:List Wd} {rd:Nat→Rd α} {P:α→Prop} (hrd:∀ q a q',rd q=.inr (a,q')→P a):∀ (f:Nat) {acc l:List α} {q q':Nat},(∀ a∈acc,P a)→qFb ws rd f acc q=.inr (l,q')→(∀ a∈l,P a)∧l.length≤acc.length+f
 | 0,_,_,_,_,_,h=>by cases h
 | f+1,acc,l,q,q',ha,h=>by
  rw [qFb] at h
  split at h
  ·obtain⟨a,q1,h1,h⟩:=then_ok h
   have h2:=qOf hrd f (acc:=acc++[a]) (fun b hb=>by
    rcases List.mem_append.1 hb with hb | hb
    ·exact ha b hb
    ·rw [List.mem_singleton.1 hb];exact hrd _ _ _ h1) h
   rw [qAI] at h2
   exact⟨h2.1,by omega⟩
  ·injection h with h;injection h with h1 h2
   rw [← h1];exact⟨ha,by omega⟩
theorem qOk {α:Type} {ws:List Wd} {rd:Nat→Rd α} {P:α→Prop} (hrd:∀ q a q',rd q=.inr (a,q')→P a) {F q q':Nat} {l:List α} (h:qGC ws rd F q=.inr (l,q')):(∀ a∈l,P a)∧l.length≤F+1:=by
 rw [qGC] at h
 obtain⟨a,q1,h1,h⟩:=then_ok h
 have:=qOf hrd F (acc:=[a]) (fun b hb=>by rw [List.mem_singleton.1 hb];exact hrd _ _ _ h1) h
 simp only [List.length_singleton] at this
 exact⟨this.1,by omega⟩
theorem qJl {ws:List Wd} (hg:GoodW ws) {F:Nat} {key:List UInt8} {q q':Nat} {l:List Rf} (h:qFP ws F key q=.inr (l,q')):(∀ r∈l,BigR r)∧l.length≤F+1:=by
 rw [qFP] at h
 split at h
 ·exact qOk (fun q a q' h=>qRj hg h) h
 ·injection h with h;injection h with h1 h2
  rw [← h1];exact⟨fun r hr=>by simp at hr,by simp⟩
theorem qOt {ws:List Wd}:∀ (f:Nat) {acc l:List Int} {q q':Nat},qGo ws f acc q=.inr (l,q')→l.length≤acc.length+f
 | 0,_,_,_,_,h=>by cases h
 | f+1,acc,l,q,q',h=>by
  rw [qGo] at h
  split at h
  ·obtain⟨a,q1,h1,h⟩:=then_ok h
   have:=qOt f h
   rw [qAI] at this;omega
  ·injection h with h;injection h with h1 h2
   rw [← h1];omega
theorem qOY {ws:List Wd} {F q q':Nat} {l:List Int} (h:qEn ws F q=.inr (l,q')):l.length≤F+1:=by
 rw [qEn] at h
 obtain⟨a,q1,h1,h⟩:=then_ok h
 have:=qOt F h
 simp only [List.length_singleton] at this;omega
theorem qXk (l:List Int) (n:Int):(qM7 l n).length≤l.length+1:=by
 induction l with
 | nil=>simp [qM7]
 | cons x l ih=>
  rw [qM7]
  split
  ·simp
  ·split
   ·simp
   ·simp only [List.length_cons];omega
theorem qRS:∀ (l acc:List Int),(l.foldl qM7 acc).length≤acc.length+l.length
 | [],acc=>by simp
 | x::l,acc=>by
  have:=qRS l (qM7 acc x)
  have:=qXk acc x
  simp only [List.foldl_cons,List.length_cons];omega
structure CBig (ws:List Wd) (F:Nat):Prop where
 cond:∀ {q c q'},qDm ws F q=.inr (c,q')→qHF c
 orr:∀ {d q c q'},qHF d→orR ws F d q=.inr (c,q')→qHF c
 conj:∀ {q c q'},qDb ws F q=.inr (c,q')→qHF c
 andr:∀ {d q c q'},qHF d→qTc ws F d q=.inr (c,q')→qHF c
 neg:∀ {q c q'},qJw ws F q=.inr (c,q')→qHF c
 test:∀ {q c q'},qHS ws F q=.inr (c,q')→qHF c
theorem qTX {op:Int} {a b:Cd} (ha:qHF a) (hb:qHF b):qHF (.mk op 0 0 0 rf0 [] [a,b]):=by
 simp only [qHF,qNj]
 exact⟨⟨qBM,qBM⟩,by simp,by simp,ha,hb,trivial⟩
theorem qYD {op:Int} {a:Cd} (ha:qHF a):qHF (.mk op 0 0 0 rf0 [] [a]):=by
 simp only [qHF,qNj]
 exact⟨⟨qBM,qBM⟩,by simp,by simp,ha,trivial⟩
theorem qHB {o n r v:Int} {rf:Rf} {st:List Int} (hr:BigR rf) (hs:st.length≤9223372036854775807):qHF (.mk o n r v rf st []):=by
 simp only [qHF,qNj]
 exact⟨hr,hs,by simp,trivial⟩
theorem qZ0 (ws:List Wd) (hg:GoodW ws):∀ F,F≤100000→CBig ws F
 | 0,_=>by
  constructor
  ·intro q c q' h;rw [qDm] at h;cases h
  ·intro d q c q' _ h;rw [orR] at h;cases h
  ·intro q c q' h;rw [qDb] at h;cases h
  ·intro d q c q' _ h;rw [qTc] at h;cases h
  ·intro q c q' h;rw [qJw] at h;cases h
  ·intro q c q' h;rw [qHS] at h;cases h
 | F+1,hF=>by
  have ih:=qZ0 ws hg F (by omega)
  constructor
  ·intro q c q' h
   rw [qDm] at h
   obtain⟨a,p,h1,h⟩:=then_ok h
   exact ih.orr (ih.conj h1) h
  ·intro d q c q' hd h
   rw [orR] at h
   split at h
   ·obtain⟨a,p,h1,h⟩:=then_ok h
    exact ih.orr (qTX hd (ih.conj h1)) h
   ·injection h with h;injection h with h1 h2
    rw [← h1];exact hd
  ·intro q c q' h
   rw [qDb] at h
   obtain⟨a,p,h1,h⟩:=then_ok h
   exact ih.andr (ih.neg h1) h
  ·intro d q c q' hd h
   rw [qTc] at h
   split at h
   ·obtain⟨a,p,h1,h⟩:=then_ok h
    exact ih.andr (qTX hd (ih.neg h1)) h
   ·injection h with h;injection h with h1 h2
    rw [← h1];exact hd
  ·intro q c q' h
   rw [qJw] at h
   split at h
   ·obtain⟨a,p,h1,h⟩:=then_ok h
    injection h with h;injection h with h2 h3
    rw [← h2];exact qYD (ih.neg h1)
   ·exact ih.test h
  ·intro q c q' h
   rw [qHS] at h
   split at h
   ·obtain⟨a,p,h1,h⟩:=then_ok h
    obtain⟨u,p2,h2,h⟩:=then_ok h
    injection h with h;injection h with h3 h4
    rw [← h3];exact ih.cond h1
   ·split at h
    ·obtain⟨u,p1,h1,h⟩:=then_ok h
     obtain⟨nm,p2,h2,h⟩:=then_ok h
     obtain⟨u3,p3,h3,h⟩:=then_ok h
     obtain⟨v,p4,h4,h⟩:=then_ok h
     obtain⟨u5,p5,h5,h⟩:=then_ok h
     obtain⟨r,p6,h6,h⟩:=then_ok h
     obtain⟨n,p7,h7,h⟩:=then_ok h
     injection h with h;injection h with h8 h9
     rw [← h8];exact qHB ⟨qDS hg h2,qBM⟩ (by simp)
    ·obtain⟨r,p1,h1,h⟩:=then_ok h
     have hr:=qRj hg h1
     try simp only [] at h
     split at h
     ·obtain⟨u,p2,h2,h⟩:=then_ok h
      obtain⟨l,p3,h3,h⟩:=then_ok h
      obtain⟨u4,p4,h4,h⟩:=then_ok h
      have hl:=(qOk (P:=fun _=>True) (fun _ _ _ _=>trivial) h3).2
      have hs:=qRS l []
      injection h with h;injection h with h8 h9
      rw [← h8];exact qHB hr (by rw [qaL];simp only [List.length_nil] at hs;omega)
     ·obtain⟨o,p2,h2,h⟩:=then_ok h
      obtain⟨n,p3,h3,h⟩:=then_ok h
      injection h with h;injection h with h8 h9
      rw [← h8];exact qHB hr (by simp)
structure BigK (F:Nat) (c:Cs):Prop where
 cond:qHF c.cond
 nums:c.nums.length≤F+1
theorem qLo {ws:List Wd} (hg:GoodW ws) {F:Nat} (hF:F≤100000):∀ (f:Nat) {acc l:List Cs} {q q':Nat},(∀ c∈acc,BigK F c)→qFr ws F f acc q=.inr (l,q')→(∀ c∈l,BigK F c)∧l.length≤acc.length+f
 | 0,_,_,_,_,_,h=>by cases h
 | f+1,acc,l,q,q',ha,h=>by
  rw [qFr] at h
  split at h
  ·rw [qHg] at h
   obtain⟨u,q1,h1,h⟩:=then_ok h
   obtain⟨l1,q2,h2,h⟩:=then_ok h
   obtain⟨u3,q3,h3,h⟩:=then_ok h
   injection h with h;injection h with h8 h9
   rw [← h8]
   refine⟨fun c hc=>?_,by rw [qAI];omega⟩
   rcases List.mem_append.1 hc with hc | hc
   ·exact ha c hc
   ·rw [List.mem_singleton.1 hc]
    exact⟨qHB ⟨qBM,qBM⟩ (by simp),qOY h2⟩
  ·obtain⟨c,q1,h1,h⟩:=then_ok h
   obtain⟨u2,q2,h2,h⟩:=then_ok h
   obtain⟨l3,q3,h3,h⟩:=then_ok h
   obtain⟨u4,q4,h4,h⟩:=then_ok h
   have:=qLo hg hF f (acc:=acc++[⟨c,l3⟩]) (fun x hx=>by
    rcases List.mem_append.1 hx with hx | hx
    ·exact ha x hx
    ·rw [List.mem_singleton.1 hx]
     exact⟨(qZ0 ws hg F hF).cond h1,qOY h3⟩) h
   rw [qAI] at this
   exact⟨this.1,by omega⟩
theorem qOJ {ws:List Wd} (hg:GoodW ws) {F:Nat} (hF:F≤100000) {q q':Nat} {l:List Cs} (h:qGl ws F q=.inr (l,q')):BigL l:=by
 rw [qGl] at h
 obtain⟨u,q1,h1,h⟩:=then_ok h
 obtain⟨h2,h3⟩:=qLo hg hF F (acc:=[]) (fun c hc=>by simp at hc) h
 simp only [List.length_nil] at h3
 exact⟨by omega,fun c hc=>(h2 c hc).cond,fun c hc=>by have:=(h2 c hc).nums;omega⟩
theorem qMr:BigL []:=⟨by simp,fun c hc=>by simp at hc,fun c hc=>by simp at hc⟩
theorem qLD {ws:List Wd} (hg:GoodW ws) {F:Nat} (hF:F≤100000) {q q':Nat} {nm pl:List UInt8} {d:De} (b1:qQb nm) (b2:qQb pl) (h:qCq ws F nm pl q=.inr (d,q')):BigD d:=by
 rw [qCq] at h
 obtain⟨u1,q1,h1,h⟩:=then_ok h
 obtain⟨n,q2,h2,h⟩:=then_ok h
 obtain⟨l,q3,h3,h⟩:=then_ok h
 obtain⟨u4,q4,h4,h⟩:=then_ok h
 obtain⟨cs,q5,h5,h⟩:=then_ok h
 have hr:=qJl hg h3
 injection h with h;injection h with h8 h9
 rw [← h8]
 exact⟨b1,b2,by have:=hr.2;simp only [];omega,hr.1,qOJ hg hF h5⟩
theorem qVf {ws:List Wd} (hg:GoodW ws) {F:Nat} (hF:F≤100000) {q q':Nat} {d:De} (h:qD5 ws F q=.inr (d,q')):BigD d:=by
 rw [qD5] at h
 split at h
 ·rw [qFj] at h
  obtain⟨n,q1,h1,h⟩:=then_ok h
  injection h with h;injection h with h8 h9
  rw [← h8]
  exact⟨qBM,qBM,by simp,fun r hr=>by simp at hr,qMr⟩
 split at h
 ·rw [qFV] at h
  obtain⟨nm,q1,h1,h⟩:=then_ok h
  obtain⟨u,q2,h2,h⟩:=then_ok h
  obtain⟨n,q3,h3,h⟩:=then_ok h
  injection h with h;injection h with h8 h9
  rw [← h8]
  exact⟨qDS hg h1,qBM,by simp,fun r hr=>by simp at hr,qMr⟩
 split at h
 ·rw [qJv] at h
  obtain⟨nm,q1,h1,h⟩:=then_ok h
  have b1:=qDS hg h1
  try simp only [] at h
  split at h
  ·obtain⟨pl,q2,h2,h⟩:=then_ok h
   obtain⟨u,q3,h3,h⟩:=then_ok h
   exact qLD hg hF b1 (qDS hg h2) h
  ·exact qLD hg hF b1 qBM h
 split at h
 ·rw [qDc] at h
  obtain⟨nm,q1,h1,h⟩:=then_ok h
  obtain⟨u,q2,h2,h⟩:=then_ok h
  obtain⟨n,q3,h3,h⟩:=then_ok h
  obtain⟨l,q4,h4,h⟩:=then_ok h
  have hr:=qJl hg h4
  injection h with h;injection h with h8 h9
  rw [← h8]
  exact⟨qDS hg h1,qBM,by have:=hr.2;simp only [];omega,hr.1,qMr⟩
 split at h
 ·rw [qKB] at h
  obtain⟨l,q1,h1,h⟩:=then_ok h
  obtain⟨u,q2,h2,h⟩:=then_ok h
  obtain⟨cs,q3,h3,h⟩:=then_ok h
  have hr:=qJl hg h1
  injection h with h;injection h with h8 h9
  rw [← h8]
  exact⟨qBM,qBM,by have:=hr.2;simp only [];omega,hr.1,qOJ hg hF h3⟩
 ·cases h
theorem qOQ {ws:List Wd} (hg:GoodW ws) {F:Nat} (hF:F≤100000):∀ (f:Nat) {acc l:List De} {q q':Nat},(∀ d∈acc,BigD d)→qGm ws F f acc q=.inr (l,q')→(∀ d∈l,BigD d)∧l.length≤acc.length+f
 | 0,_,_,_,_,_,h=>by cases h
 | f+1,acc,l,q,q',ha,h=>by
  rw [qGm] at h
  split at h
  ·obtain⟨d,q1,h1,h⟩:=then_ok h
   obtain⟨u,q2,h2,h⟩:=then_ok h
   have:=qOQ hg hF f (acc:=acc++[d]) (fun x hx=>by
    rcases List.mem_append.1 hx with hx | hx
    ·exact ha x hx
    ·rw [List.mem_singleton.1 hx];exact qVf hg hF h1) h
   rw [qAI] at this
   exact⟨this.1,by omega⟩
  ·injection h with h;injection h with h8 h9
   rw [← h8];exact⟨ha,by omega⟩
theorem qK5 {ws:List Wd} (hg:GoodW ws) {F:Nat} (hF:F≤100000) {l:List De} {q':Nat} (h:qGm ws F F [] 0=.inr (l,q')):BigP l:=by
 have:=qOQ hg hF F (acc:=[]) (fun d hd=>by simp at hd) h
 simp only [List.length_nil] at this
 exact⟨by omega,this.1⟩
def qNF (ws:List Wd):Nat:=4 * ws.length+8
def qMA (s:List UInt8):Sum ((Int × Int) × Int) (List De):=
 if 8000<s.length then .inl ((0,0),3) else match qIQ s with
 | .err p c=>.inl ((p.1,p.2),c)
 | .ok ws=>match qGm ws (qNF ws) (qNF ws) [] 0 with
  | .inl q=>.inl (((wat ws q).line,(wat ws q).col),381)
  | .inr (ds,_)=>if qBq ds=true then .inr ds else .inl ((0,0),3)
def qbm:Sum ((Int × Int) × Int) (List De)→List PV
 | .inl (p,e)=>[qIM [],i64 p.1,i64 p.2,i64 e]
 | .inr ds=>[qIM ds,i64 0,i64 0,i64 0]
def iO1 (n:Int):AObj:=⟨qWc,false, .bx [.p (i64 n)]⟩
def eO1 (n:Int):AObj:=⟨52,false, .bx [.p (i64 n)]⟩
theorem qIk (s:List UInt8):∀ (f k:Nat) (acc:List Wd) (p:Nat × Nat) (c:Int),qF6 f s k acc=.err p c→c=370∨c=3
 | 0,k,acc,p,c,e=>by
  rw [qF6] at e
  cases e
 | f+1,k,acc,p,c,e=>by
  rw [qF6] at e
  split at e
  ·injection e with _ e;exact .inl e.symm
  ·rw [qK2] at e
   split at e
   ·cases e
   ·split at e
    ·injection e with _ e;exact .inl e.symm
    ·split at e
     ·injection e with _ e;exact .inr e.symm
     ·exact qIk s f _ _ p c e
abbrev qbj (N:Nat):Hp:=⟨N,[(3,eO1 0),(2,iO1 0),(1,iO1 0),(0,srO (.p .nils))]⟩
theorem qRr (s:List UInt8):Pure cx 26 [.str s] (·=.ret (qbm (qMA s))):=by
 have hRd:=qZB s
 refine qAF Tryz.func26 rfl rfl rfl ?_
 by_cases h0:8000<s.length
 ·rw [qIP,if_pos h0] at hRd
  refine hRd.eq rfl ?_
  have e:qMA s=.inl ((0,0),3):=by rw [qMA,if_pos h0]
  refine And.intro (fun h=>absurd (show(3:Int)=0 from h) (by decide)) (fun _=>?_)
  refine VDraw.seq rfl ?_
  refine⟨sk,?_⟩
  refine⟨sk,?_⟩
  refine⟨sk,?_⟩
  exact qWQ (qIM []) (i64 0) (i64 0) (i64 3) rfl ⟨_,rfl,_,_,rfl, .inr (.inr ⟨6,rfl⟩),rfl⟩ rfl rfl rfl (by rw [e];rfl)
 cases hr:qIQ s with
 | err p c=>
  rw [qIP,if_neg h0,hr] at hRd
  refine hRd.eq rfl ?_
  have e:qMA s=.inl ((p.1,p.2),c):=by rw [qMA,if_neg h0,hr]
  have hc:¬ c=0:=by
   have:=qIk s _ _ _ _ _ hr
   omega
  refine And.intro (fun h=>absurd (show c=0 from h) hc) (fun _=>?_)
  refine VDraw.seq rfl ?_
  refine⟨sk,?_⟩
  refine⟨sk,?_⟩
  refine⟨sk,?_⟩
  exact qWQ (qIM []) (i64 p.1) (i64 p.2) (i64 c) rfl ⟨_,rfl,_,_,rfl, .inr (.inr ⟨6,rfl⟩),rfl⟩ rfl rfl rfl (by rw [e];rfl)
 | ok ws=>
  have hg:=qK1 hr
  have hl:=hg.len
  rw [qIP,if_neg h0,hr] at hRd
  refine hRd.eq rfl ?_
  refine And.intro (fun _=>?_) (fun h=>absurd rfl h)
  obtain⟨F,hF⟩:∃ F,F=qNF ws:=⟨_,rfl⟩
  have hF8:4 * ws.length+8≤F:=by rw [hF];exact Nat.le_refl _
  have hFb:F≤100000:=by rw [hF,qNF];omega
  have e:qMA s=match qGm ws F F [] 0 with
    | .inl q=>.inl (((wat ws q).line,(wat ws q).col),381)
    | .inr (ds,_)=>if qBq ds=true then .inr ds else .inl ((0,0),3):=by rw [qMA,if_neg h0,hr,hF]
  clear hF
  refine(qRm ws F 0 hF8 hg (Nat.zero_le _)).holds.useT [] [(0,4)] rfl (sk) (sk) fun e0 H0 hq=>?_
  rcases hp:qGm ws F F [] 0 with q | ⟨ds,q⟩
  ·rw [hp] at hq e
   obtain⟨rfl,rfl⟩:=hq
   refine⟨rfl,_,qbj 5,rfl,rfl,?_⟩
   refine qCX Tryz.func43 rfl rfl rfl ?_
   refine VDraw.seq rfl ?_
   refine⟨sk,?_⟩
   refine⟨sk,?_⟩
   refine⟨[],[],[], .returned und,⟨5,[(3,eO1 381),(2,iO1 (wat ws q).col),(1,iO1 (wat ws q).line),(0,srO (.p .nils))]⟩,rfl,sk,sk,?_⟩
   exact qWQ (qIM []) (i64 (wat ws q).line) (i64 (wat ws q).col) (i64 381) rfl ⟨_,rfl,_,_,rfl, .inr (.inr ⟨6,rfl⟩),rfl⟩ rfl rfl rfl (by rw [e];rfl)
  ·rw [hp] at hq e
   obtain⟨hql,rfl,rfl⟩:=hq
   refine⟨rfl,_,⟨5,(4,psO ws q)::(qbj 5).l⟩,rfl,rfl,?_⟩
   have hC:=qOU ds (qK5 hg hFb hp)
   by_cases hv:qBq ds=true
   ·rw [qX2,if_pos hv] at hC
    refine hC.eq rfl ?_
    refine And.intro (fun _=>?_) (fun h=>absurd rfl h)
    have e:qMA s=.inr ds:=e.trans (if_pos hv)
    refine qCX Tryz.func43 rfl rfl rfl ?_
    refine⟨[],[],[], .returned und,⟨5,[(3,eO1 0),(2,iO1 0),(1,iO1 0),(0,srO (.p (des ds)))]⟩,rfl,sk,sk,?_⟩
    exact qWQ (qIM ds) (i64 0) (i64 0) (i64 0) rfl rfl rfl rfl rfl (by rw [e];rfl)
   ·rw [qX2,if_neg hv] at hC
    refine hC.eq rfl ?_
    refine And.intro (fun h=>absurd (show(380:Int)=0 from h) (by decide)) (fun _=>?_)
    have e:qMA s=.inl ((0,0),3):=e.trans (if_neg hv)
    refine qCX Tryz.func43 rfl rfl rfl ?_
    refine⟨[],[],[], .returned und,⟨5,[(3,eO1 3),(2,iO1 0),(1,iO1 0),(0,srO (.p .nils))]⟩,rfl,sk,sk,?_⟩
    exact qWQ (qIM []) (i64 0) (i64 0) (i64 3) rfl ⟨_,rfl,_,_,rfl, .inr (.inr ⟨6,rfl⟩),rfl⟩ rfl rfl rfl (by rw [e];rfl)
set_option maxHeartbeats 40000000
set_option maxHeartbeats 4000000
mutual
def csz:Cd→Nat
 | .mk _ _ _ _ _ _ ar=>qab ar+1
def qab:List Cd→Nat
 | []=>0
 | c::r=>csz c+qab r
end
theorem qTG:∀ {l:List Cd} {c:Cd},c∈l→csz c≤qab l
 | [],_,h=>by simp at h
 | x::l,c,h=>by
  rw [qab]
  rcases List.mem_cons.1 h with rfl | h
  ·omega
  ·have:=qTG h;omega
theorem qOL {a b:Rf} (h:a.cells=b.cells):a=b:=by
 obtain⟨n,m,p,k⟩:=a
 obtain⟨n',m',p',k'⟩:=b
 injection h with h1 h
 injection h with h2 h
 injection h with h3 h
 injection h with h4 h
 injection h1 with h1
 injection h2 with _ h2
 injection h3 with h3
 injection h4 with _ h4
 subst h1 h2 h3 h4
 rfl
def Out {α:Type} (b:Bool) (p:Nat) (r:Rd α) (a:α) (q:Nat) (b':Bool):Prop:=if b=true then b'=true∧q=p else r=if b'=true then .inl q else .inr (a,q)
theorem Out.then {α β:Type} {b b1 b2:Bool} {p q q2:Nat} {r:Rd α} {k:α→Nat→Rd β} {a:α} {c:β} (h:Out b p r a q b1) (h2:Out b1 q (k a q) c q2 b2):Out b p (r.then k) c q2 b2:=by
 cases b
 ·have h:r=if b1=true then .inl q else .inr (a,q):=h
  show r.then k=_
  cases b1
  ·rw [if_neg (by decide)] at h
   subst h
   exact h2
  ·rw [if_pos rfl] at h
   subst h
   obtain⟨rfl,rfl⟩:b2=true∧q2=q:=h2
   rfl
 ·obtain⟨rfl,rfl⟩:b1=true∧q=p:=h
  exact h2
theorem Out.bad {α:Type} {p:Nat} {r:Rd α} {a:α}:Out true p r a p true:=⟨rfl,rfl⟩
theorem Out.same {α:Type} {b:Bool} {p:Nat} {a:α}:Out b p (.inr (a,p)) a p b:=by
 cases b
 ·rfl
 ·exact⟨rfl,rfl⟩
theorem Out.ret {α:Type} {b:Bool} {p:Nat} {a a':α} (h:a=a'):Out b p (.inr (a,p)) a' p b:=by
 subst h;exact Out.same
theorem Out.no {α:Type} {c:Prop} [Decidable c] {b:Bool} {p q:Nat} {x y:Rd α} {a:α} {b':Bool} (h:¬ (b=false∧c)) (hy:Out b p y a q b'):Out b p (if c then x else y) a q b':=by
 cases b
 ·rw [if_neg (fun e=>h ⟨rfl,e⟩)];exact hy
 ·exact hy
def LK {α:Type} (b0:Bool) (q0:Nat) (R:Rd α) (go:Nat→Rd α) (n:Nat) (q:Nat) (b:Bool):Prop:=∃ f,(b=false→n - q<f)∧∀ l q' b',Out b q (go f) l q' b'→Out b0 q0 R l q' b'
theorem LK.step {α:Type} {b0:Bool} {q0:Nat} {R:Rd α} {go go':Nat→Rd α} {n q q2:Nat} {b2:Bool} (h:LK b0 q0 R go n q false) (hs:∀ f l q' b',Out b2 q2 (go' f) l q' b'→Out false q (go (f+1)) l q' b') (hlt:b2=false→q<q2∧q2≤n):LK b0 q0 R go' n q2 b2:=by
 obtain⟨f,hf,hk⟩:=h
 obtain⟨f,rfl⟩:∃ g,f=g+1:=⟨f - 1,by have:=hf rfl;omega⟩
 refine⟨f,fun e=>?_,fun l q' b' ho=>hk l q' b' (hs f l q' b' ho)⟩
 have:=hf rfl
 have:=hlt e
 omega
def sgL:List (List UInt8):=[tEq,tNe,tLt,tLe]
def sg (i:Nat):List UInt8:=sgL.getD i []
set_option maxHeartbeats 40000000
theorem qAH {C : Cx} {rd : Bool} {n0 N : Nat} {all : List Oper} {σ : Sg} {ds : List AD} {H : Hp} {K : Sg → List AD → Hp → Prop} {X : List AP → Sg → List AD → Hp → Prop} (ot : OT)
    (h : (C.P.follows .mixedOrders && qBs N all (masks all []) && qGW all (masks all []) ot [] [] []) = true) (hv : vD C rd all σ K X ot [] ds H) :
    ∃ ot, (C.P.follows .mixedOrders && qBs N all (masks all []) && qGW all (masks all []) ot [] [] []) = true ∧
    ((vD C rd all σ K X ot [] ds H) ∨
     ∃ (α : Type) (sl : α → List (Nat × AV)) (hp : α → Hp) (pr : α → Prop),
      vD C rd all σ (fun σ' ds' H' => ∃ x, pr x ∧ Ent C n0 N σ' ds' H' (sets (fun _ => .junk) (sl x)) ds (hp x)) X ot [] ds H ∧
      ∀ x, pr x → K (sets (fun _ => .junk) (sl x)) ds (hp x)) := ⟨_, h, .inl hv⟩
theorem qIX {C : Cx} {rd : Bool} {n0 N : Nat} {all : List Oper} {σ : Sg} {ds : List AD} {H : Hp} {K : Sg → List AD → Hp → Prop} {X : List AP → Sg → List AD → Hp → Prop} (sl : List (Nat × AV)) (hp : Hp) (ot : OT)
    (h : (C.P.follows .mixedOrders && qBs N all (masks all []) && qGW all (masks all []) ot [] [] []) = true)
    (hv : vD C rd all σ (fun σ' ds' H' => Ent C n0 N σ' ds' H' (sets (fun _ => .junk) sl) ds hp) X ot [] ds H) (hk : K (sets (fun _ => .junk) sl) ds hp) :
    ∃ ot, (C.P.follows .mixedOrders && qBs N all (masks all []) && qGW all (masks all []) ot [] [] []) = true ∧
    ((vD C rd all σ K X ot [] ds H) ∨
     ∃ (α : Type) (sl : α → List (Nat × AV)) (hp : α → Hp) (pr : α → Prop),
      vD C rd all σ (fun σ' ds' H' => ∃ x, pr x ∧ Ent C n0 N σ' ds' H' (sets (fun _ => .junk) (sl x)) ds (hp x)) X ot [] ds H ∧
      ∀ x, pr x → K (sets (fun _ => .junk) (sl x)) ds (hp x)) :=
  ⟨_, h, .inr ⟨Unit, fun _ => sl, fun _ => hp, fun _ => True, by
    have e : (fun σ' ds' H' => ∃ _x : Unit, True ∧ Ent C n0 N σ' ds' H' (sets (fun _ => .junk) sl) ds hp) = fun σ' ds' H' => Ent C n0 N σ' ds' H' (sets (fun _ => .junk) sl) ds hp := by
      funext a b c
      exact propext ⟨fun ⟨_, _, h⟩ => h, fun h => ⟨(), trivial, h⟩⟩
    rw [e]; exact hv, fun _ _ => hk⟩⟩
theorem Out.val {α:Type} {b:Bool} {p:Nat} {r:Rd α} {a a':α} {q:Nat} {b':Bool} (h:Out b p r a q b') (e:b'=false→a=a'):Out b p r a' q b':=by
 cases b'
 ·rw [← e rfl];exact h
 ·cases b
  ·exact h
  ·exact h
set_option maxHeartbeats 4000000
abbrev TCk:TypeId:=210
abbrev qae:TypeId:=206
def isO (l:List Iss):AObj:=⟨qae,false, .pus (l.map Iss.cells)⟩
def fmO (es:List (List UInt8 × PV)):AObj:=⟨68,false, .ms es⟩
def ckO (ds:List De) (a:Int) (k n:Nat):AObj:=⟨TCk,false, .bx [.p (des ds), .p (i64 a), .mp 1, .sl k 3 0 n]⟩
abbrev ckS (ds:List De) (a:Nat) (es:List (List UInt8 × PV)) (l:List Iss):Hp:=⟨3,[(2,isO l),(1,fmO es),(0,ckO ds (a:Nat) 2 l.length)]⟩
abbrev ckT (ds:List De) (a:Nat) (es:List (List UInt8 × PV)) (l:List Iss):Hp:=⟨4,[(3,isO l),(1,fmO es),(0,ckO ds (a:Nat) 3 l.length)]⟩
structure CkS (ds:List De) (a:Nat) (es:List (List UInt8 × PV)):Prop where
 look:∀ nm,nm ≠ []→qAX es nm=(qCL (ds.take a) nm).map fun i=>i64 (i:Nat)
 len:ds.length≤30
 le:a≤ds.length
def ckQ (H:Hp) (v:PV) (e:AE) (H':Hp):Prop:=e=.returned (.p v)∧H'=H
theorem CkS.none {ds:List De} {a:Nat} {es:List (List UInt8 × PV)} (h:CkS ds a es) {nm:List UInt8} (hn:nm ≠ []) (hf:qDE (ds.take a) nm=none):qAX es nm=none:=by
 have:=h.look nm hn
 rw [qDE] at hf
 cases hi:qCL (ds.take a) nm with
 | none=>rw [hi] at this;exact this
 | some i=>rw [hi] at hf;cases hf
theorem CkS.some {ds:List De} {a:Nat} {es:List (List UInt8 × PV)} (h:CkS ds a es) {nm:List UInt8} (hn:nm ≠ []) {t:De} (hf:qDE (ds.take a) nm=some t):∃ i:Nat,qAX es nm=some (i64 (i:Nat))∧i<ds.length∧(ds.map De.cells)[i]?=Option.some t.cells:=by
 have:=h.look nm hn
 rw [qDE] at hf
 cases hi:qCL (ds.take a) nm with
 | none=>rw [hi] at hf;cases hf
 | some i=>
  rw [hi] at this hf
  obtain⟨hl,hv⟩:=qWL hi
  rw [qLQ hi] at hv
  injection hv with hv
  injection hf with hf
  have hf:(ds.take a).getD i de0=t:=hf
  refine⟨i,this,hl,?_⟩
  have:=qEZ hl
  rw [← hv,hf] at this
  exact this
theorem qV4 {ds:List De} {a:Nat} {es:List (List UInt8 × PV)} (b:Nat) (l:List Iss) (h:CkS ds a es) {nm:List UInt8} (hn:nm ≠ []):HoldsG cx 190 [.ptr 0 0 0, .p (.str nm)] (ckS ds b es l) (ckQ (ckS ds b es l) (i64 (qCx (ds.take a) nm))):=by
 cases hv:qDE (ds.take a) nm with
 | none=>
  have hs:qCx (ds.take a) nm=0:=by rw [qCx,hv]
  have hf:=h.none hn hv
  rw [hs]
  refine qAA Tryz.func190 rfl rfl rfl ?_
  refine⟨_, .inr ⟨hf,rfl⟩,?_⟩
  exact⟨[],[],[], .returned (.p (i64 0)),ckS ds b es l,rfl,sk,sk,rfl,rfl⟩
 | some t=>
  obtain⟨i,hf,hl,hc⟩:=h.some hn hv
  have hs:qCx (ds.take a) nm=if t.kind=2 then t.n else 0:=by rw [qCx,hv]
  rw [hs]
  refine qAA Tryz.func190 rfl rfl rfl ?_
  refine⟨_, .inl ⟨_,hf,rfl⟩,?_⟩
  refine⟨_,⟨by omega,t.cells,hc,rfl⟩,?_⟩
  (first | refine qAO (fun h2=>?_) (fun h2=>?_) | refine qAP (fun h2=>?_) (fun h2=>?_) | refine qAQ (fun h2=>?_) (fun h2=>?_))
  ·have h2:t.kind=2:=h2
   refine⟨_,⟨by omega,t.cells,hc,rfl⟩,?_⟩
   exact⟨[],[],[], .returned (.p (i64 t.n)),ckS ds b es l,rfl,sk,sk,by rw [if_pos h2],rfl⟩
  ·have h2:¬ t.kind=2:=h2
   exact⟨[],[],[], .returned (.p (i64 0)),ckS ds b es l,rfl,sk,sk,by rw [if_neg h2],rfl⟩
theorem qXF {r:Rf} {nm pl:List UInt8} {m n:Int}:(r=⟨nm,m,pl,n⟩) ↔ (r.name=nm∧r.mode=m∧r.plate=pl∧r.n=n):=by
 obtain⟨a,b,c,d⟩:=r
 constructor
 ·intro h;injection h with h1 h2 h3 h4;exact⟨h1,h2,h3,h4⟩
 ·rintro⟨rfl,rfl,rfl,rfl⟩;rfl
theorem qJt {d:De} {r:Rf}:ownB d r=true ↔ d.kind=3∧¬ d.plate=[]∧r=⟨d.name,1,d.plate,if r.n<1 then 1 else r.n⟩:=by
 simp only [ownB,Bool.and_eq_true,decide_eq_true_eq,qXF]
 constructor
 ·rintro⟨h1,h2,h3,h4,h5,h6⟩
  exact⟨h1,h2,h3,h4,h5,by rw [if_neg (by omega)]⟩
 ·rintro⟨h1,h2,h3,h4,h5,h6⟩
  exact⟨h1,h2,h3,h4,h5,by split at h6 <;> omega⟩
theorem qZH (d:De) (r:Rf):Pure cx 229 [d.pv,r.pv] (·=.ret [.bool (ownB d r)]):=by
 have hb:∀ {b:Bool},(ownB d r=true ↔ b=true)→PEnd.ret [.bool b]=.ret [.bool (ownB d r)]:=fun h=>by rw [Bool.eq_iff_iff.2 h]
 refine qAF Tryz.func229 rfl rfl rfl ?_
 (first | refine qAO (fun h1=>?_) (fun h1=>?_) | refine qAP (fun h1=>?_) (fun h1=>?_) | refine qAQ (fun h1=>?_) (fun h1=>?_))
 rotate_left
 ·have h1:¬ d.kind=3:=h1
  exact qAY _ rfl rfl (hb ⟨fun h=>absurd (qJt.1 h).1 h1,fun h=>by cases h⟩)
 have h1:d.kind=3:=h1
 (first | refine qAO (fun h2=>?_) (fun h2=>?_) | refine qAP (fun h2=>?_) (fun h2=>?_) | refine qAQ (fun h2=>?_) (fun h2=>?_))
 ·have h2:d.plate=[]:=h2
  exact qAY _ rfl rfl (hb ⟨fun h=>absurd h2 (qJt.1 h).2.1,fun h=>by cases h⟩)
 have h2:¬ d.plate=[]:=h2
 refine⟨⟨by kernel_rfl,by kernel_rfl⟩,fun h3=>?_,fun h3=>?_⟩
 ·have h3:r=⟨d.name,1,d.plate,if r.n<1 then 1 else r.n⟩:=qOL (by first | exact h3 | (injection h3))
  exact qAY _ rfl rfl (hb ⟨fun _=>rfl,fun _=>qJt.2 ⟨h1,h2,h3⟩⟩)
 ·exact qAY _ rfl rfl (hb ⟨fun h=>absurd (congrArg Rf.cells (qJt.1 h).2.2) h3,fun h=>by cases h⟩)
def dcO (d:De):AObj:=⟨qVq,false, .bx (d.cells.map .p)⟩
def rfO (r:Rf):AObj:=⟨qbb,false, .bx (r.cells.map .p)⟩
def cnO (c:Cd):AObj:=⟨qZ7,false, .bx (c.cells.map .p)⟩
theorem qDt {a b:Int} (h:a=b):AE.returned (.p (i64 a))=.returned (.p (i64 b)):=by rw [h]
theorem qHl {ds:List De} {a:Nat} {es:List (List UInt8 × PV)} (l:List Iss) (h:CkS ds a es) (d:De) {r:Rf} (hn:r.name ≠ []):HoldsG cx 218 [.ptr 0 0 0, .p d.pv, .p r.pv] (ckS ds a es l) (ckQ (ckS ds a es l) (i64 (qK0 (ds.take a) d r))):=by
 obtain⟨R,hR⟩:∃ R,R=qK0 (ds.take a) d r:=⟨_,rfl⟩
 rw [← hR]
 cases hv:qDE (ds.take a) r.name with
 | none=>
  have hf:=h.none hn hv
  have hO:=qZH d r
  rw [qK0,hv] at hR
  simp only [] at hR
  clear hv
  obtain⟨dk,dn,dnm,dpl,drs,dcs⟩:=d
  obtain⟨rn,rm,rp,ri⟩:=r
  refine qAA Tryz.func218 rfl rfl rfl ?_
  refine VDraw.seq rfl ?_
  refine⟨_, .inr ⟨hf,rfl⟩,?_⟩
  by_cases ho:ownB ⟨dk,dn,dnm,dpl,drs,dcs⟩ ⟨rn,rm,rp,ri⟩=true
  ·rw [ho] at hO
   rw [if_pos ho] at hR
   refine hO.eq rfl ?_
   exact⟨[],[],[], .returned (.p (i64 0)),ckS ds a es l,rfl,sk,sk,qDt hR.symm,rfl⟩
  ·rw [if_neg ho] at hR
   rw [Bool.not_eq_true] at ho
   rw [ho] at hO
   refine hO.eq rfl ?_
   exact⟨[],[],[], .returned (.p (i64 3)),ckS ds a es l,rfl,sk,sk,qDt hR.symm,rfl⟩
 | some t=>
  obtain⟨i,hf,hl,hc⟩:=h.some hn hv
  rw [qK0,hv] at hR
  simp only [] at hR
  clear hv
  obtain⟨dk,dn,dnm,dpl,drs,dcs⟩:=d
  obtain⟨rn,rm,rp,ri⟩:=r
  obtain⟨tk,tn,tnm,tpl,trs,tcs⟩:=t
  rw [qHt] at hR
  simp only [] at hR
  refine qAA Tryz.func218 rfl rfl rfl ?_
  refine VDraw.seq rfl ?_
  refine⟨_, .inl ⟨_,hf,rfl⟩,?_⟩
  refine⟨_,⟨by omega,(De.mk tk tn tnm tpl trs tcs).cells,hc,rfl⟩,?_⟩
  (first | refine qAO (fun k2=>?_) (fun k2=>?_) | refine qAP (fun k2=>?_) (fun k2=>?_) | refine qAQ (fun k2=>?_) (fun k2=>?_))
  ·have k2:tk=2:=k2
   rw [if_pos k2] at hR
   exact⟨[],[],[], .returned (.p (i64 4)),ckS ds a es l,rfl,sk,sk,qDt hR.symm,rfl⟩
  have k2:¬ tk=2:=k2
  rw [if_neg k2] at hR
  (first | refine qAO (fun p0=>?_) (fun p0=>?_) | refine qAP (fun p0=>?_) (fun p0=>?_) | refine qAQ (fun p0=>?_) (fun p0=>?_))
  ·have p0:tpl=[]:=p0
   rw [if_pos p0] at hR
   (first | refine qAO (fun m0=>?_) (fun m0=>?_) | refine qAP (fun m0=>?_) (fun m0=>?_) | refine qAQ (fun m0=>?_) (fun m0=>?_))
   ·have m0:rm=0:=m0
    rw [decide_eq_false (by omega)] at hR
    exact⟨[],[],[], .returned (.p (i64 0)),ckS ds a es l,rfl,sk,sk,qDt hR.symm,rfl⟩
   ·have m0:¬ rm=0:=m0
    rw [decide_eq_true m0] at hR
    exact⟨[],[],[], .returned (.p (i64 4)),ckS ds a es l,rfl,sk,sk,qDt hR.symm,rfl⟩
  have p0:¬ tpl=[]:=p0
  rw [if_neg p0] at hR
  (first | refine qAO (fun m0=>?_) (fun m0=>?_) | refine qAP (fun m0=>?_) (fun m0=>?_) | refine qAQ (fun m0=>?_) (fun m0=>?_))
  ·have m0:rm=0:=m0
   rw [if_pos m0] at hR
   exact⟨[],[],[], .returned (.p (i64 4)),ckS ds a es l,rfl,sk,sk,qDt hR.symm,rfl⟩
  have m0:¬ rm=0:=m0
  rw [if_neg m0] at hR
  (first | refine qAO (fun m2=>?_) (fun m2=>?_) | refine qAP (fun m2=>?_) (fun m2=>?_) | refine qAQ (fun m2=>?_) (fun m2=>?_))
  ·have m2:rm=2:=m2
   rw [if_pos m2] at hR
   refine VDraw.seq rfl ?_
   refine(qV4 a l h p0).holds.useT [] [] rfl (sk) (sk) fun e0 H0 hq=>?_
   obtain⟨rfl,rfl⟩:=hq
   refine⟨rfl,_,⟨6,(2,isO l)::(1,fmO es)::(0,ckO ds (a:Nat) 2 l.length)::[(5,dcO ⟨tk,tn,tnm,tpl,trs,tcs⟩),(4,rfO ⟨rn,rm,rp,ri⟩),(3,dcO ⟨dk,dn,dnm,dpl,drs,dcs⟩)]⟩,rfl,rfl,?_⟩
   refine⟨sk,?_⟩
   (first | refine qAO (fun g1=>?_) (fun g1=>?_) | refine qAP (fun g1=>?_) (fun g1=>?_) | refine qAQ (fun g1=>?_) (fun g1=>?_))
   ·have g1:qCx (ds.take a) tpl≤ri:=g1
    rw [decide_eq_true g1] at hR
    exact⟨[],[],[], .returned (.p (i64 4)),ckS ds a es l,rfl,sk,sk,qDt hR.symm,rfl⟩
   ·have g1:¬ qCx (ds.take a) tpl≤ri:=g1
    rw [decide_eq_false g1] at hR
    exact⟨[],[],[], .returned (.p (i64 0)),ckS ds a es l,rfl,sk,sk,qDt hR.symm,rfl⟩
  have m2:¬ rm=2:=m2
  rw [if_neg m2] at hR
  (first | refine qAO (fun m1=>?_) (fun m1=>?_) | refine qAP (fun m1=>?_) (fun m1=>?_) | refine qAQ (fun m1=>?_) (fun m1=>?_))
  ·have m1:rm=1:=m1
   rw [if_pos m1] at hR
   (first | refine qAO (fun q1=>?_) (fun q1=>?_) | refine qAP (fun q1=>?_) (fun q1=>?_) | refine qAQ (fun q1=>?_) (fun q1=>?_))
   rotate_left
   ·have q1:¬ dk=3:=q1
    rw [decide_eq_true (show ¬ (dk=3∧dpl=tpl∧rp=tpl) from fun h=>q1 h.1)] at hR
    exact⟨[],[],[], .returned (.p (i64 4)),ckS ds a es l,rfl,sk,sk,qDt hR.symm,rfl⟩
   have q1:dk=3:=q1
   (first | refine qAO (fun q2=>?_) (fun q2=>?_) | refine qAP (fun q2=>?_) (fun q2=>?_) | refine qAQ (fun q2=>?_) (fun q2=>?_))
   rotate_left
   ·have q2:¬ dpl=tpl:=q2
    rw [decide_eq_true (show ¬ (dk=3∧dpl=tpl∧rp=tpl) from fun h=>q2 h.2.1)] at hR
    exact⟨[],[],[], .returned (.p (i64 4)),ckS ds a es l,rfl,sk,sk,qDt hR.symm,rfl⟩
   have q2:dpl=tpl:=q2
   (first | refine qAO (fun q3=>?_) (fun q3=>?_) | refine qAP (fun q3=>?_) (fun q3=>?_) | refine qAQ (fun q3=>?_) (fun q3=>?_))
   ·have q3:rp=tpl:=q3
    rw [decide_eq_false (show ¬ ¬ (dk=3∧dpl=tpl∧rp=tpl) from fun h=>h ⟨q1,q2,q3⟩)] at hR
    exact⟨[],[],[], .returned (.p (i64 0)),ckS ds a es l,rfl,sk,sk,qDt hR.symm,rfl⟩
   ·have q3:¬ rp=tpl:=q3
    rw [decide_eq_true (show ¬ (dk=3∧dpl=tpl∧rp=tpl) from fun h=>q3 h.2.2)] at hR
    exact⟨[],[],[], .returned (.p (i64 4)),ckS ds a es l,rfl,sk,sk,qDt hR.symm,rfl⟩
  ·have m1:¬ rm=1:=m1
   rw [if_neg m1] at hR
   exact⟨[],[],[], .returned (.p (i64 0)),ckS ds a es l,rfl,sk,sk,qDt hR.symm,rfl⟩
def qb3 (ds:List De) (a:Nat) (es:List (List UInt8 × PV)) (l:List Iss) (v:Option Int) (e:AE) (H':Hp):Prop:=e=.returned (.tup [.p (i64 (v.getD 0)),vB v.isSome])∧H'=ckS ds a es l
theorem qUR {ds:List De} {a:Nat} {es:List (List UInt8 × PV)} (l:List Iss) (h:CkS ds a es) (d:De) {r:Rf} (hn:r.name ≠ []):HoldsG cx 230 [.ptr 0 0 0, .p d.pv, .p r.pv] (ckS ds a es l) (qb3 ds a es l (qQc (ds.take a) d r)):=by
 obtain⟨R,hR⟩:∃ R,R=qQc (ds.take a) d r:=⟨_,rfl⟩
 rw [← hR]
 cases hv:qDE (ds.take a) r.name with
 | none=>
  have hf:=h.none hn hv
  have hO:=qZH d r
  rw [qQc,hv] at hR
  simp only [] at hR
  clear hv
  obtain⟨dk,dn,dnm,dpl,drs,dcs⟩:=d
  obtain⟨rn,rm,rp,ri⟩:=r
  refine qAA Tryz.func230 rfl rfl rfl ?_
  refine VDraw.seq rfl ?_
  refine⟨_, .inr ⟨hf,rfl⟩,?_⟩
  by_cases ho:ownB ⟨dk,dn,dnm,dpl,drs,dcs⟩ ⟨rn,rm,rp,ri⟩=true
  ·rw [ho] at hO
   rw [if_pos ho] at hR
   subst hR
   refine hO.eq rfl ?_
   exact⟨[],[],[], .returned (.tup [.p (i64 dn),vB true]),ckS ds a es l,rfl,sk,sk,rfl,rfl⟩
  ·rw [if_neg ho] at hR
   rw [Bool.not_eq_true] at ho
   rw [ho] at hO
   subst hR
   refine hO.eq rfl ?_
   exact⟨[],[],[], .returned (.tup [.p (i64 0),vB false]),ckS ds a es l,rfl,sk,sk,rfl,rfl⟩
 | some t=>
  obtain⟨i,hf,hl,hc⟩:=h.some hn hv
  rw [qQc,hv] at hR
  simp only [] at hR
  clear hv
  obtain⟨dk,dn,dnm,dpl,drs,dcs⟩:=d
  obtain⟨rn,rm,rp,ri⟩:=r
  obtain⟨tk,tn,tnm,tpl,trs,tcs⟩:=t
  simp only [] at hR
  refine qAA Tryz.func230 rfl rfl rfl ?_
  refine VDraw.seq rfl ?_
  refine⟨_, .inl ⟨_,hf,rfl⟩,?_⟩
  refine⟨_,⟨by omega,(De.mk tk tn tnm tpl trs tcs).cells,hc,rfl⟩,?_⟩
  (first | refine qAO (fun k2=>?_) (fun k2=>?_) | refine qAP (fun k2=>?_) (fun k2=>?_) | refine qAQ (fun k2=>?_) (fun k2=>?_))
  ·have k2:tk=2:=k2
   rw [if_pos k2] at hR
   subst hR
   exact⟨[],[],[], .returned (.tup [.p (i64 0),vB false]),ckS ds a es l,rfl,sk,sk,rfl,rfl⟩
  ·have k2:¬ tk=2:=k2
   rw [if_neg k2] at hR
   subst hR
   refine⟨_,⟨by omega,(De.mk tk tn tnm tpl trs tcs).cells,hc,rfl⟩,?_⟩
   exact⟨[],[],[], .returned (.tup [.p (i64 tn),vB true]),ckS ds a es l,rfl,sk,sk,rfl,rfl⟩
theorem qVh {ds:List De} {a:Nat} {es:List (List UInt8 × PV)} (l:List Iss) (h:CkS ds a es) (d:De) {op n rel val:Int} {r:Rf} {st:List Int} {ar:List Cd} (hn:r.name ≠ []) (hst:op=5→1≤st.length) (hsl:st.length≤100) (hdr:d.refs.length≤100):HoldsG cx 220 [.ptr 0 0 0, .p d.pv, .p (Cd.mk op n rel val r st ar).pv] (ckS ds a es l) (ckQ (ckS ds a es l) (i64 (qEc (ds.take a) d op n val r st))):=by
 obtain⟨R,hR⟩:∃ R,R=qEc (ds.take a) d op n val r st:=⟨_,rfl⟩
 rw [← hR]
 have hVal:=qUR l h d hn
 obtain⟨dk,dn,dnm,dpl,drs,dcs⟩:=d
 have hdr:drs.length≤100:=hdr
 rw [qEc] at hR
 cases hV:qQc (ds.take a) ⟨dk,dn,dnm,dpl,drs,dcs⟩ r with
 | none=>
  rw [hV] at hVal hR
  simp only [] at hR
  clear hV
  refine qAA Tryz.func220 rfl rfl rfl ?_
  refine⟨Nat,fun k=>[(0, .ptr 0 0 0),(4, .ptr 3 0 0),(5, .ptr 4 0 0),(7, .p (.bool false)),(14, .p (qE7 drs)),(15, .p (i64 drs.length)),(16, .p (i64 k))],fun _=>⟨5,[(4,cnO (.mk op n rel val r st ar)),(3,dcO ⟨dk,dn,dnm,dpl,drs,dcs⟩),(2,isO l),(1,fmO es),(0,ckO ds (a:Nat) 2 l.length)]⟩,fun k=>k≤drs.length∧∀ x∈drs.take k,x ≠ r,fun k=>drs.length - k,?_,?_⟩
  ·exact⟨0,⟨Nat.zero_le _,by simp⟩,qAB [] [] [] rfl ⟨⟨rfl,rfl⟩,⟨rfl,rfl⟩,⟨rfl,rfl⟩,rfl,rfl,congrArg (fun n:Nat=>i64 n) (List.length_map ..).symm,rfl,trivial⟩ (sk) rfl⟩
  rintro k ⟨k1,k2⟩
  (first | refine qAO (fun m1=>?_) (fun m1=>?_) | refine qAP (fun m1=>?_) (fun m1=>?_) | refine qAQ (fun m1=>?_) (fun m1=>?_))
  rotate_left
  ·have m1:¬ (k:Int)<(drs.length:Nat):=m1
   rw [qAh (by omega)] at k2
   have hno:r ∉ drs:=fun hr=>k2 r hr rfl
   rw [if_pos hno] at hR
   exact⟨[],[],[], .returned (.p (i64 7)),ckS ds a es l,rfl,sk,sk,qDt hR.symm,rfl⟩
  have m1:(k:Int)<(drs.length:Nat):=m1
  have hk:k<drs.length:=by omega
  have hcell:=qPt hk
  have hmem:=qAG rf0 hk
  have hnx:∀ x∈drs.take (k+1),x=drs.getD k rf0∨x∈drs.take k:=fun x hx=>by
   rw [qAD rf0 hk] at hx
   rcases List.mem_append.1 hx with hx | hx
   ·exact .inr hx
   ·exact .inl (List.mem_singleton.1 hx)
  generalize drs.getD k rf0=x at hcell hmem hnx
  refine⟨_,⟨by omega,x.cells,hcell,rfl⟩,?_⟩
  refine⟨⟨by kernel_rfl,by kernel_rfl⟩,fun e1=>?_,fun e1=>?_⟩
  rotate_left
  ·have e1:¬ x=r:=fun e=>e1 (by rw [e])
   refine⟨_,w6z,?_⟩
   refine⟨k+1,⟨by omega,fun y hy=>?_⟩,qAB [] [] [] rfl ⟨⟨rfl,rfl⟩,⟨rfl,rfl⟩,⟨rfl,rfl⟩,rfl,rfl,rfl,rfl,trivial⟩ (sk) rfl,by show drs.length - (k+1)<drs.length - k;omega⟩
   rcases hnx y hy with rfl | hy
   ·exact e1
   ·exact k2 y hy
  have e1:x=r:=qOL (by first | exact e1 | (injection e1))
  rw [e1] at hmem
  rw [if_neg (fun h=>h hmem)] at hR
  clear hnx hcell k2 m1 hk
  (first | refine qAO (fun md=>?_) (fun md=>?_) | refine qAP (fun md=>?_) (fun md=>?_) | refine qAQ (fun md=>?_) (fun md=>?_))
  ·have md:r.mode=3:=md
   (first | refine qAO (fun o6=>?_) (fun o6=>?_) | refine qAP (fun o6=>?_) (fun o6=>?_) | refine qAQ (fun o6=>?_) (fun o6=>?_))
   rotate_left
   ·have o6:¬ op=6:=o6
    rw [if_pos ⟨md,o6⟩] at hR
    exact⟨[],[],[], .returned (.p (i64 4)),ckS ds a es l,rfl,sk,sk,qDt hR.symm,rfl⟩
   have o6:op=6:=o6
   rw [if_neg (fun h=>h.2 o6)] at hR
   (first | refine qAO (fun o5=>?_) (fun o5=>?_) | refine qAP (fun o5=>?_) (fun o5=>?_) | refine qAQ (fun o5=>?_) (fun o5=>?_))
   ·have o5:op=5:=o5
    obtain⟨m,hm⟩:∃ m:Nat,st.length=m+1:=⟨st.length - 1,by have:=hst o5;omega⟩
    have hm1:((st.map i64).length:Int) - 1=(m:Nat):=by rw [List.length_map];omega
    have hmd:st.length - 1=m:=by omega
    refine⟨((m:Nat):Int),by show _=IntKind.i64.wrap (((st.map i64).length:Nat) - 1:Int);rw [hm1];exact w6z,?_⟩
    refine⟨_,⟨by omega,i64 (st.getD m 0),qJ6 (by omega),rfl⟩,?_⟩
    refine hVal.holds.useT [] [] rfl (sk) (sk) fun e0 H0 hq=>?_
    obtain⟨rfl,rfl⟩:=hq
    refine⟨rfl,_,⟨6,(2,isO l)::(1,fmO es)::(0,ckO ds (a:Nat) 2 l.length)::[(5,rfO x),(4,cnO (.mk op n rel val r st ar)),(3,dcO ⟨dk,dn,dnm,dpl,drs,dcs⟩)]⟩,rfl,rfl,?_⟩
    exact⟨[],[],[], .returned (.p (i64 0)),ckS ds a es l,rfl,sk,sk,qDt (by rw [hR]),rfl⟩
   have o5:¬ op=5:=o5
   (first | refine qAO (fun p6=>?_) (fun p6=>?_) | refine qAP (fun p6=>?_) (fun p6=>?_) | refine qAQ (fun p6=>?_) (fun p6=>?_))
   ·have p6:op=6:=p6
    refine hVal.holds.useT [] [] rfl (sk) (sk) fun e0 H0 hq=>?_
    obtain⟨rfl,rfl⟩:=hq
    refine⟨rfl,_,⟨6,(2,isO l)::(1,fmO es)::(0,ckO ds (a:Nat) 2 l.length)::[(5,rfO x),(4,cnO (.mk op n rel val r st ar)),(3,dcO ⟨dk,dn,dnm,dpl,drs,dcs⟩)]⟩,rfl,rfl,?_⟩
    exact⟨[],[],[], .returned (.p (i64 0)),ckS ds a es l,rfl,sk,sk,qDt (by rw [hR]),rfl⟩
   have p6:¬ op=6:=p6
   refine hVal.holds.useT [] [] rfl (sk) (sk) fun e0 H0 hq=>?_
   obtain⟨rfl,rfl⟩:=hq
   refine⟨rfl,_,⟨6,(2,isO l)::(1,fmO es)::(0,ckO ds (a:Nat) 2 l.length)::[(5,rfO x),(4,cnO (.mk op n rel val r st ar)),(3,dcO ⟨dk,dn,dnm,dpl,drs,dcs⟩)]⟩,rfl,rfl,?_⟩
   exact⟨[],[],[], .returned (.p (i64 0)),ckS ds a es l,rfl,sk,sk,qDt (by rw [hR]),rfl⟩
  have md:¬ r.mode=3:=md
  rw [if_neg (fun h=>md h.1)] at hR
  (first | refine qAO (fun o5=>?_) (fun o5=>?_) | refine qAP (fun o5=>?_) (fun o5=>?_) | refine qAQ (fun o5=>?_) (fun o5=>?_))
  ·have o5:op=5:=o5
   obtain⟨m,hm⟩:∃ m:Nat,st.length=m+1:=⟨st.length - 1,by have:=hst o5;omega⟩
   have hm1:((st.map i64).length:Int) - 1=(m:Nat):=by rw [List.length_map];omega
   have hmd:st.length - 1=m:=by omega
   refine⟨((m:Nat):Int),by show _=IntKind.i64.wrap (((st.map i64).length:Nat) - 1:Int);rw [hm1];exact w6z,?_⟩
   refine⟨_,⟨by omega,i64 (st.getD m 0),qJ6 (by omega),rfl⟩,?_⟩
   refine hVal.holds.useT [] [] rfl (sk) (sk) fun e0 H0 hq=>?_
   obtain⟨rfl,rfl⟩:=hq
   refine⟨rfl,_,⟨6,(2,isO l)::(1,fmO es)::(0,ckO ds (a:Nat) 2 l.length)::[(5,rfO x),(4,cnO (.mk op n rel val r st ar)),(3,dcO ⟨dk,dn,dnm,dpl,drs,dcs⟩)]⟩,rfl,rfl,?_⟩
   exact⟨[],[],[], .returned (.p (i64 0)),ckS ds a es l,rfl,sk,sk,qDt (by rw [hR]),rfl⟩
  have o5:¬ op=5:=o5
  (first | refine qAO (fun p6=>?_) (fun p6=>?_) | refine qAP (fun p6=>?_) (fun p6=>?_) | refine qAQ (fun p6=>?_) (fun p6=>?_))
  ·have p6:op=6:=p6
   refine hVal.holds.useT [] [] rfl (sk) (sk) fun e0 H0 hq=>?_
   obtain⟨rfl,rfl⟩:=hq
   refine⟨rfl,_,⟨6,(2,isO l)::(1,fmO es)::(0,ckO ds (a:Nat) 2 l.length)::[(5,rfO x),(4,cnO (.mk op n rel val r st ar)),(3,dcO ⟨dk,dn,dnm,dpl,drs,dcs⟩)]⟩,rfl,rfl,?_⟩
   exact⟨[],[],[], .returned (.p (i64 0)),ckS ds a es l,rfl,sk,sk,qDt (by rw [hR]),rfl⟩
  have p6:¬ op=6:=p6
  refine hVal.holds.useT [] [] rfl (sk) (sk) fun e0 H0 hq=>?_
  obtain⟨rfl,rfl⟩:=hq
  refine⟨rfl,_,⟨6,(2,isO l)::(1,fmO es)::(0,ckO ds (a:Nat) 2 l.length)::[(5,rfO x),(4,cnO (.mk op n rel val r st ar)),(3,dcO ⟨dk,dn,dnm,dpl,drs,dcs⟩)]⟩,rfl,rfl,?_⟩
  exact⟨[],[],[], .returned (.p (i64 0)),ckS ds a es l,rfl,sk,sk,qDt (by rw [hR]),rfl⟩
 | some kk=>
  rw [hV] at hVal hR
  simp only [] at hR
  clear hV
  refine qAA Tryz.func220 rfl rfl rfl ?_
  refine⟨Nat,fun k=>[(0, .ptr 0 0 0),(4, .ptr 3 0 0),(5, .ptr 4 0 0),(7, .p (.bool false)),(14, .p (qE7 drs)),(15, .p (i64 drs.length)),(16, .p (i64 k))],fun _=>⟨5,[(4,cnO (.mk op n rel val r st ar)),(3,dcO ⟨dk,dn,dnm,dpl,drs,dcs⟩),(2,isO l),(1,fmO es),(0,ckO ds (a:Nat) 2 l.length)]⟩,fun k=>k≤drs.length∧∀ x∈drs.take k,x ≠ r,fun k=>drs.length - k,?_,?_⟩
  ·exact⟨0,⟨Nat.zero_le _,by simp⟩,qAB [] [] [] rfl ⟨⟨rfl,rfl⟩,⟨rfl,rfl⟩,⟨rfl,rfl⟩,rfl,rfl,congrArg (fun n:Nat=>i64 n) (List.length_map ..).symm,rfl,trivial⟩ (sk) rfl⟩
  rintro k ⟨k1,k2⟩
  (first | refine qAO (fun m1=>?_) (fun m1=>?_) | refine qAP (fun m1=>?_) (fun m1=>?_) | refine qAQ (fun m1=>?_) (fun m1=>?_))
  rotate_left
  ·have m1:¬ (k:Int)<(drs.length:Nat):=m1
   rw [qAh (by omega)] at k2
   have hno:r ∉ drs:=fun hr=>k2 r hr rfl
   rw [if_pos hno] at hR
   exact⟨[],[],[], .returned (.p (i64 7)),ckS ds a es l,rfl,sk,sk,qDt hR.symm,rfl⟩
  have m1:(k:Int)<(drs.length:Nat):=m1
  have hk:k<drs.length:=by omega
  have hcell:=qPt hk
  have hmem:=qAG rf0 hk
  have hnx:∀ x∈drs.take (k+1),x=drs.getD k rf0∨x∈drs.take k:=fun x hx=>by
   rw [qAD rf0 hk] at hx
   rcases List.mem_append.1 hx with hx | hx
   ·exact .inr hx
   ·exact .inl (List.mem_singleton.1 hx)
  generalize drs.getD k rf0=x at hcell hmem hnx
  refine⟨_,⟨by omega,x.cells,hcell,rfl⟩,?_⟩
  refine⟨⟨by kernel_rfl,by kernel_rfl⟩,fun e1=>?_,fun e1=>?_⟩
  rotate_left
  ·have e1:¬ x=r:=fun e=>e1 (by rw [e])
   refine⟨_,w6z,?_⟩
   refine⟨k+1,⟨by omega,fun y hy=>?_⟩,qAB [] [] [] rfl ⟨⟨rfl,rfl⟩,⟨rfl,rfl⟩,⟨rfl,rfl⟩,rfl,rfl,rfl,rfl,trivial⟩ (sk) rfl,by show drs.length - (k+1)<drs.length - k;omega⟩
   rcases hnx y hy with rfl | hy
   ·exact e1
   ·exact k2 y hy
  have e1:x=r:=qOL (by first | exact e1 | (injection e1))
  rw [e1] at hmem
  rw [if_neg (fun h=>h hmem)] at hR
  clear hnx hcell k2 m1 hk
  (first | refine qAO (fun md=>?_) (fun md=>?_) | refine qAP (fun md=>?_) (fun md=>?_) | refine qAQ (fun md=>?_) (fun md=>?_))
  ·have md:r.mode=3:=md
   (first | refine qAO (fun o6=>?_) (fun o6=>?_) | refine qAP (fun o6=>?_) (fun o6=>?_) | refine qAQ (fun o6=>?_) (fun o6=>?_))
   rotate_left
   ·have o6:¬ op=6:=o6
    rw [if_pos ⟨md,o6⟩] at hR
    exact⟨[],[],[], .returned (.p (i64 4)),ckS ds a es l,rfl,sk,sk,qDt hR.symm,rfl⟩
   have o6:op=6:=o6
   rw [if_neg (fun h=>h.2 o6)] at hR
   (first | refine qAO (fun o5=>?_) (fun o5=>?_) | refine qAP (fun o5=>?_) (fun o5=>?_) | refine qAQ (fun o5=>?_) (fun o5=>?_))
   ·have o5:op=5:=o5
    obtain⟨m,hm⟩:∃ m:Nat,st.length=m+1:=⟨st.length - 1,by have:=hst o5;omega⟩
    have hm1:((st.map i64).length:Int) - 1=(m:Nat):=by rw [List.length_map];omega
    have hmd:st.length - 1=m:=by omega
    refine⟨((m:Nat):Int),by show _=IntKind.i64.wrap (((st.map i64).length:Nat) - 1:Int);rw [hm1];exact w6z,?_⟩
    refine⟨_,⟨by omega,i64 (st.getD m 0),qJ6 (by omega),rfl⟩,?_⟩
    have hg:qLO op n val st=st.getD m 0:=by rw [qLO,if_pos o5,hmd]
    refine hVal.holds.useT [] [] rfl (sk) (sk) fun e0 H0 hq=>?_
    obtain⟨rfl,rfl⟩:=hq
    refine⟨rfl,_,⟨6,(2,isO l)::(1,fmO es)::(0,ckO ds (a:Nat) 2 l.length)::[(5,rfO x),(4,cnO (.mk op n rel val r st ar)),(3,dcO ⟨dk,dn,dnm,dpl,drs,dcs⟩)]⟩,rfl,rfl,?_⟩
    (first | refine qAO (fun w1=>?_) (fun w1=>?_) | refine qAP (fun w1=>?_) (fun w1=>?_) | refine qAQ (fun w1=>?_) (fun w1=>?_))
    ·have w1:kk≤st.getD m 0:=w1
     exact⟨[],[],[], .returned (.p (i64 8)),ckS ds a es l,rfl,sk,sk,qDt (by rw [hR,hg,if_pos w1]),rfl⟩
    ·have w1:¬ kk≤st.getD m 0:=w1
     exact⟨[],[],[], .returned (.p (i64 0)),ckS ds a es l,rfl,sk,sk,qDt (by rw [hR,hg,if_neg w1]),rfl⟩
   have o5:¬ op=5:=o5
   (first | refine qAO (fun p6=>?_) (fun p6=>?_) | refine qAP (fun p6=>?_) (fun p6=>?_) | refine qAQ (fun p6=>?_) (fun p6=>?_))
   ·have p6:op=6:=p6
    have hg:qLO op n val st=val:=by rw [qLO,if_neg o5,if_pos p6]
    refine hVal.holds.useT [] [] rfl (sk) (sk) fun e0 H0 hq=>?_
    obtain⟨rfl,rfl⟩:=hq
    refine⟨rfl,_,⟨6,(2,isO l)::(1,fmO es)::(0,ckO ds (a:Nat) 2 l.length)::[(5,rfO x),(4,cnO (.mk op n rel val r st ar)),(3,dcO ⟨dk,dn,dnm,dpl,drs,dcs⟩)]⟩,rfl,rfl,?_⟩
    (first | refine qAO (fun w1=>?_) (fun w1=>?_) | refine qAP (fun w1=>?_) (fun w1=>?_) | refine qAQ (fun w1=>?_) (fun w1=>?_))
    ·have w1:kk≤val:=w1
     exact⟨[],[],[], .returned (.p (i64 8)),ckS ds a es l,rfl,sk,sk,qDt (by rw [hR,hg,if_pos w1]),rfl⟩
    ·have w1:¬ kk≤val:=w1
     exact⟨[],[],[], .returned (.p (i64 0)),ckS ds a es l,rfl,sk,sk,qDt (by rw [hR,hg,if_neg w1]),rfl⟩
   have p6:¬ op=6:=p6
   have hg:qLO op n val st=n:=by rw [qLO,if_neg o5,if_neg p6]
   refine hVal.holds.useT [] [] rfl (sk) (sk) fun e0 H0 hq=>?_
   obtain⟨rfl,rfl⟩:=hq
   refine⟨rfl,_,⟨6,(2,isO l)::(1,fmO es)::(0,ckO ds (a:Nat) 2 l.length)::[(5,rfO x),(4,cnO (.mk op n rel val r st ar)),(3,dcO ⟨dk,dn,dnm,dpl,drs,dcs⟩)]⟩,rfl,rfl,?_⟩
   (first | refine qAO (fun w1=>?_) (fun w1=>?_) | refine qAP (fun w1=>?_) (fun w1=>?_) | refine qAQ (fun w1=>?_) (fun w1=>?_))
   ·have w1:kk≤n:=w1
    exact⟨[],[],[], .returned (.p (i64 8)),ckS ds a es l,rfl,sk,sk,qDt (by rw [hR,hg,if_pos w1]),rfl⟩
   ·have w1:¬ kk≤n:=w1
    exact⟨[],[],[], .returned (.p (i64 0)),ckS ds a es l,rfl,sk,sk,qDt (by rw [hR,hg,if_neg w1]),rfl⟩
  have md:¬ r.mode=3:=md
  rw [if_neg (fun h=>md h.1)] at hR
  (first | refine qAO (fun o5=>?_) (fun o5=>?_) | refine qAP (fun o5=>?_) (fun o5=>?_) | refine qAQ (fun o5=>?_) (fun o5=>?_))
  ·have o5:op=5:=o5
   obtain⟨m,hm⟩:∃ m:Nat,st.length=m+1:=⟨st.length - 1,by have:=hst o5;omega⟩
   have hm1:((st.map i64).length:Int) - 1=(m:Nat):=by rw [List.length_map];omega
   have hmd:st.length - 1=m:=by omega
   refine⟨((m:Nat):Int),by show _=IntKind.i64.wrap (((st.map i64).length:Nat) - 1:Int);rw [hm1];exact w6z,?_⟩
   refine⟨_,⟨by omega,i64 (st.getD m 0),qJ6 (by omega),rfl⟩,?_⟩
   have hg:qLO op n val st=st.getD m 0:=by rw [qLO,if_pos o5,hmd]
   refine hVal.holds.useT [] [] rfl (sk) (sk) fun e0 H0 hq=>?_
   obtain⟨rfl,rfl⟩:=hq
   refine⟨rfl,_,⟨6,(2,isO l)::(1,fmO es)::(0,ckO ds (a:Nat) 2 l.length)::[(5,rfO x),(4,cnO (.mk op n rel val r st ar)),(3,dcO ⟨dk,dn,dnm,dpl,drs,dcs⟩)]⟩,rfl,rfl,?_⟩
   (first | refine qAO (fun w1=>?_) (fun w1=>?_) | refine qAP (fun w1=>?_) (fun w1=>?_) | refine qAQ (fun w1=>?_) (fun w1=>?_))
   ·have w1:kk≤st.getD m 0:=w1
    exact⟨[],[],[], .returned (.p (i64 8)),ckS ds a es l,rfl,sk,sk,qDt (by rw [hR,hg,if_pos w1]),rfl⟩
   ·have w1:¬ kk≤st.getD m 0:=w1
    exact⟨[],[],[], .returned (.p (i64 0)),ckS ds a es l,rfl,sk,sk,qDt (by rw [hR,hg,if_neg w1]),rfl⟩
  have o5:¬ op=5:=o5
  (first | refine qAO (fun p6=>?_) (fun p6=>?_) | refine qAP (fun p6=>?_) (fun p6=>?_) | refine qAQ (fun p6=>?_) (fun p6=>?_))
  ·have p6:op=6:=p6
   have hg:qLO op n val st=val:=by rw [qLO,if_neg o5,if_pos p6]
   refine hVal.holds.useT [] [] rfl (sk) (sk) fun e0 H0 hq=>?_
   obtain⟨rfl,rfl⟩:=hq
   refine⟨rfl,_,⟨6,(2,isO l)::(1,fmO es)::(0,ckO ds (a:Nat) 2 l.length)::[(5,rfO x),(4,cnO (.mk op n rel val r st ar)),(3,dcO ⟨dk,dn,dnm,dpl,drs,dcs⟩)]⟩,rfl,rfl,?_⟩
   (first | refine qAO (fun w1=>?_) (fun w1=>?_) | refine qAP (fun w1=>?_) (fun w1=>?_) | refine qAQ (fun w1=>?_) (fun w1=>?_))
   ·have w1:kk≤val:=w1
    exact⟨[],[],[], .returned (.p (i64 8)),ckS ds a es l,rfl,sk,sk,qDt (by rw [hR,hg,if_pos w1]),rfl⟩
   ·have w1:¬ kk≤val:=w1
    exact⟨[],[],[], .returned (.p (i64 0)),ckS ds a es l,rfl,sk,sk,qDt (by rw [hR,hg,if_neg w1]),rfl⟩
  have p6:¬ op=6:=p6
  have hg:qLO op n val st=n:=by rw [qLO,if_neg o5,if_neg p6]
  refine hVal.holds.useT [] [] rfl (sk) (sk) fun e0 H0 hq=>?_
  obtain⟨rfl,rfl⟩:=hq
  refine⟨rfl,_,⟨6,(2,isO l)::(1,fmO es)::(0,ckO ds (a:Nat) 2 l.length)::[(5,rfO x),(4,cnO (.mk op n rel val r st ar)),(3,dcO ⟨dk,dn,dnm,dpl,drs,dcs⟩)]⟩,rfl,rfl,?_⟩
  (first | refine qAO (fun w1=>?_) (fun w1=>?_) | refine qAP (fun w1=>?_) (fun w1=>?_) | refine qAQ (fun w1=>?_) (fun w1=>?_))
  ·have w1:kk≤n:=w1
   exact⟨[],[],[], .returned (.p (i64 8)),ckS ds a es l,rfl,sk,sk,qDt (by rw [hR,hg,if_pos w1]),rfl⟩
  ·have w1:¬ kk≤n:=w1
   exact⟨[],[],[], .returned (.p (i64 0)),ckS ds a es l,rfl,sk,sk,qDt (by rw [hR,hg,if_neg w1]),rfl⟩
def nQ (ds:List De) (a:Nat) (es:List (List UInt8 × PV)) (l:List Iss) (e:AE) (H':Hp):Prop:=e=.returned und∧H'=ckT ds a es l
abbrev qa0:OT:=(.pure 0 (.pure 1 (.pure 2 (.pure 3 (.pure 4 (.pure 5 (.pure 6 (.eff 7 [] (.pure 8 (.pure 9 (.eff 10 [] .fin .nil))) .nil))))))))
theorem qCf (ds:List De) (a:Nat) (es:List (List UInt8 × PV)) (l:List Iss) (k:Int) (nm:List UInt8) (hl:l.length≤100000):HoldsG cx 132 [.ptr 0 0 0, .p (i64 k), .p (.lst [.str nm])] (ckS ds a es l) (nQ ds a es (l++[⟨k,a,nm⟩])):=by
 refine qAA Tryz.func132 rfl rfl rfl ?_
 refine⟨Nat,fun i=>[(0, .ptr 0 0 0),(6, .ptr 3 0 0),(15, .p (.lst [.str nm])),(16, .p (i64 1)),(17, .p (i64 i))],fun i=>⟨4,[(3,⟨qae,false, .bx [.p (i64 k), .p (i64 (a:Nat)), .p (.str (if i=0 then [] else nm))]⟩),(2,isO l),(1,fmO es),(0,ckO ds (a:Nat) 2 l.length)]⟩,fun i=>i≤1,fun i=>1 - i,?_,?_⟩
 ·exact⟨0,by omega,qAB [] [] [] rfl (sk) (sk) rfl⟩
 intro i hi
 (first | refine qAO (fun h1=>?_) (fun h1=>?_) | refine qAP (fun h1=>?_) (fun h1=>?_) | refine qAQ (fun h1=>?_) (fun h1=>?_))
 ·have h1:(i:Int)<1:=h1
  obtain rfl:i=0:=by omega
  refine⟨_,⟨by omega, .str nm,rfl,rfl⟩,?_⟩
  refine⟨_,w6z,?_⟩
  exact⟨1,by omega,qAB [] [] [] rfl (sk) (sk) rfl,by decide⟩
 ·have h1:¬ (i:Int)<1:=h1
  obtain rfl:i=1:=by omega
  refine qAH qa0 (by kernel_rfl) ?_
  refine⟨by show 0+l.length≤(l.map Iss.cells).length;simp,l.map Iss.cells,qAR (by simp),by show(l.length+1) * 32≤140737488355328;omega,(l++[(Iss.mk k (a:Nat) nm)]).map Iss.cells,by rw [List.map_append];rfl,?_⟩
  exact⟨[],[(3,4)],[], .returned und,ckT ds a es (l++[(Iss.mk k (a:Nat) nm)]),rfl,sk,⟨⟨_,rfl,rfl,rfl,rfl⟩,⟨_,rfl,rfl,rfl,rfl⟩,⟨_,rfl,rfl,rfl,_,rfl,_,_,rfl,rfl,_,_,rfl,rfl,_,_,rfl,sk,_,_,rfl,congrArg (fun k:Nat=>AV.sl 4 3 0 k) (qAI l (Iss.mk k (a:Nat) nm)).symm,rfl⟩,trivial⟩,rfl,rfl⟩
theorem qGA (ds:List De) (a:Nat) (es:List (List UInt8 × PV)) (l:List Iss) (k:Int) (hl:l.length≤100000):HoldsG cx 132 [.ptr 0 0 0, .p (i64 k), .p .nils] (ckS ds a es l) (nQ ds a es (l++[⟨k,a,[]⟩])):=by
 refine qAA Tryz.func132 rfl rfl rfl ?_
 refine⟨Unit,fun _=>[(0, .ptr 0 0 0),(6, .ptr 3 0 0),(15, .p .nils),(16, .p (i64 0)),(17, .p (i64 0))],fun _=>⟨4,[(3,⟨qae,false, .bx [.p (i64 k), .p (i64 (a:Nat)), .p (.str [])]⟩),(2,isO l),(1,fmO es),(0,ckO ds (a:Nat) 2 l.length)]⟩,fun _=>True,fun _=>0,?_,?_⟩
 ·exact⟨(),trivial,qAB [] [] [] rfl (sk) (sk) rfl⟩
 intro _ _
 refine And.intro (fun h=>absurd (show(0:Int)<0 from h) (by decide)) (fun _=>?_)
 refine qAH qa0 (by kernel_rfl) ?_
 refine⟨by show 0+l.length≤(l.map Iss.cells).length;simp,l.map Iss.cells,qAR (by simp),by show(l.length+1) * 32≤140737488355328;omega,(l++[(Iss.mk k (a:Nat) [])]).map Iss.cells,by rw [List.map_append];rfl,?_⟩
 exact⟨[],[(3,4)],[], .returned und,ckT ds a es (l++[(Iss.mk k (a:Nat) [])]),rfl,sk,⟨⟨_,rfl,rfl,rfl,rfl⟩,⟨_,rfl,rfl,rfl,rfl⟩,⟨_,rfl,rfl,rfl,_,rfl,_,_,rfl,rfl,_,_,rfl,rfl,_,_,rfl,sk,_,_,rfl,congrArg (fun k:Nat=>AV.sl 4 3 0 k) (qAI l (Iss.mk k (a:Nat) [])).symm,rfl⟩,trivial⟩,rfl,rfl⟩
def sfO (nm:List UInt8):AObj:=⟨qba,true, .pu [.str nm]⟩
theorem qMR {ds:List De} {a:Nat} {es:List (List UInt8 × PV)} (l:List Iss) (h:CkS ds a es) (d:De) (hn:d.name ≠ []) (hl:l.length≤100000):HoldsG cx 183 [.ptr 0 0 0, .p (.str d.name)] (ckS ds a es l) (nQ ds a es (l++qBW (ds.take a) d)):=by
 have hf:=h.look d.name hn
 have hal:(ds.take a).length=a:=by rw [List.length_take];have:=h.le;omega
 cases hi:qCL (ds.take a) d.name with
 | none=>
  rw [hi] at hf
  have ht:qBW (ds.take a) d=[]:=by rw [qBW,hi];rfl
  rw [ht,List.append_nil]
  refine qAA Tryz.func183 rfl rfl rfl ?_
  refine⟨_, .inr ⟨hf,rfl⟩,?_⟩
  exact⟨[],[(3,2)],[], .returned und,ckT ds a es l,rfl,sk,sk,rfl,rfl⟩
 | some i=>
  rw [hi] at hf
  have ht:qBW (ds.take a) d=[⟨2,a,d.name⟩]:=by rw [qBW,hi,hal];rfl
  rw [ht]
  generalize d.name=nm at hf
  refine qAA Tryz.func183 rfl rfl rfl ?_
  refine⟨_, .inl ⟨_,hf,rfl⟩,?_⟩
  refine(qCf ds a es (l) 2 nm (by first | omega | (simp only [List.length_append,List.length_cons,List.length_nil];omega))).holds.useT [3] [] rfl (sk) ⟨_,_,rfl,⟨rfl,rfl⟩,_,_,rfl,rfl,_,_,rfl,⟨_,rfl,by show 0+1≤1;decide,rfl⟩,rfl⟩ fun e0 H0 hq=>?_
  obtain⟨rfl,rfl⟩:=hq
  refine⟨rfl,_,⟨5,(4,isO ((l)++[Iss.mk 2 (a:Nat) nm]))::(1,fmO es)::(0,ckO ds (a:Nat) 4 ((l)++[Iss.mk 2 (a:Nat) nm]).length)::[(3,sfO nm)]⟩,rfl,rfl,?_⟩
  exact⟨[],[(3,4)],[], .returned und,ckT ds a es (l++[⟨2,a,nm⟩]),rfl,sk,sk,rfl,rfl⟩
theorem CkS.tk {ds:List De} {a:Nat} {es:List (List UInt8 × PV)} (h:CkS ds a es):(ds.take a).length=a:=by rw [List.length_take];have:=h.le;omega
theorem qWV {ds:List De} {a:Nat} {es:List (List UInt8 × PV)} (l:List Iss) (h:CkS ds a es) (d:De) (hl:l.length≤100000):HoldsG cx 184 [.ptr 0 0 0, .p d.pv] (ckS ds a es l) (nQ ds a es (l++qGJ (ds.take a) d)):=by
 obtain⟨R,hR⟩:∃ R,R=l++qGJ (ds.take a) d:=⟨_,rfl⟩
 rw [← hR]
 rw [qGJ,h.tk] at hR
 obtain⟨dk,dn,dnm,dpl,drs,dcs⟩:=d
 simp only [] at hR
 refine qAA Tryz.func184 rfl rfl rfl ?_
 (first | refine qAO (fun h1=>?_) (fun h1=>?_) | refine qAP (fun h1=>?_) (fun h1=>?_) | refine qAQ (fun h1=>?_) (fun h1=>?_))
 ·have h1:dn<2:=h1
  rw [if_pos (.inl h1)] at hR
  refine(qCf ds a es (l) 6 dnm (by first | omega | (simp only [List.length_append,List.length_cons,List.length_nil];omega))).holds.useT [4] [] rfl (sk) ⟨_,_,rfl,⟨rfl,rfl⟩,_,_,rfl,rfl,_,_,rfl,⟨_,rfl,by show 0+1≤1;decide,rfl⟩,rfl⟩ fun e0 H0 hq=>?_
  obtain⟨rfl,rfl⟩:=hq
  refine⟨rfl,_,⟨6,(5,isO ((l)++[Iss.mk 6 (a:Nat) dnm]))::(1,fmO es)::(0,ckO ds (a:Nat) 5 ((l)++[Iss.mk 6 (a:Nat) dnm]).length)::[(4,sfO dnm),(3,dcO ⟨dk,dn,dnm,dpl,drs,dcs⟩)]⟩,rfl,rfl,?_⟩
  exact⟨[],[(3,5)],[], .returned und,ckT ds a es (l++[Iss.mk 6 (a:Nat) dnm]),rfl,sk,sk,rfl,by rw [hR]⟩
 have h1:¬ dn<2:=h1
 (first | refine qAO (fun h2=>?_) (fun h2=>?_) | refine qAP (fun h2=>?_) (fun h2=>?_) | refine qAQ (fun h2=>?_) (fun h2=>?_))
 ·have h2:4<dn:=h2
  rw [if_pos (.inr h2)] at hR
  refine(qCf ds a es (l) 6 dnm (by first | omega | (simp only [List.length_append,List.length_cons,List.length_nil];omega))).holds.useT [4] [] rfl (sk) ⟨_,_,rfl,⟨rfl,rfl⟩,_,_,rfl,rfl,_,_,rfl,⟨_,rfl,by show 0+1≤1;decide,rfl⟩,rfl⟩ fun e0 H0 hq=>?_
  obtain⟨rfl,rfl⟩:=hq
  refine⟨rfl,_,⟨6,(5,isO ((l)++[Iss.mk 6 (a:Nat) dnm]))::(1,fmO es)::(0,ckO ds (a:Nat) 5 ((l)++[Iss.mk 6 (a:Nat) dnm]).length)::[(4,sfO dnm),(3,dcO ⟨dk,dn,dnm,dpl,drs,dcs⟩)]⟩,rfl,rfl,?_⟩
  exact⟨[],[(3,5)],[], .returned und,ckT ds a es (l++[Iss.mk 6 (a:Nat) dnm]),rfl,sk,sk,rfl,by rw [hR]⟩
 ·have h2:¬ 4<dn:=h2
  rw [if_neg (by omega),List.append_nil] at hR
  exact⟨[],[(3,2)],[], .returned und,ckT ds a es (l),rfl,sk,sk,rfl,by rw [hR]⟩
abbrev qcG:OT:=(.pure 0 (.pure 1 (.pure 2 (.pure 3 (.pure 4 (.pure 5 .fin))))))
theorem qUl (l:List Rf) (r:Rf) (hl:l.length≤9223372036854775807):Pure cx 217 [qE7 l,r.pv] (·=.ret [.bool (decide (r∈l))]):=by
 have hI:Pure cx 228 [qE7 l,r.pv] fun e=>∃ n:Int,e=.ret [i64 n]∧(0≤n ↔ r∈l):=by
  obtain⟨rn,rm,rp,ri⟩:=r
  refine qAF Tryz.func228 rfl rfl rfl ?_
  refine⟨Nat,fun k=>[(0, .p (qE7 l)),(3, .ptr 0 0 0),(7, .p (i64 l.length)),(8, .p (i64 k))],fun _=>⟨1,[(0,rfO ⟨rn,rm,rp,ri⟩)]⟩,fun k=>k≤l.length∧∀ x∈l.take k,x ≠ ⟨rn,rm,rp,ri⟩,fun k=>l.length - k,?_,?_⟩
  ·exact⟨0,⟨Nat.zero_le _,by simp⟩,qAB [] [] [] rfl ⟨rfl,⟨rfl,rfl⟩,congrArg (fun n:Nat=>i64 n) (List.length_map ..).symm,rfl,trivial⟩ (sk) rfl⟩
  rintro k ⟨k1,k2⟩
  (first | refine qAO (fun m1=>?_) (fun m1=>?_) | refine qAP (fun m1=>?_) (fun m1=>?_) | refine qAQ (fun m1=>?_) (fun m1=>?_))
  rotate_left
  ·have m1:¬ (k:Int)<(l.length:Nat):=m1
   rw [qAh (by omega)] at k2
   exact qAY _ rfl rfl ⟨-1,rfl,⟨fun h=>absurd h (by decide),fun h=>absurd rfl (k2 _ h)⟩⟩
  have m1:(k:Int)<(l.length:Nat):=m1
  have hk:k<l.length:=by omega
  have hcell:=qPt hk
  have hmem:=qAG rf0 hk
  have hnx:∀ x∈l.take (k+1),x=l.getD k rf0∨x∈l.take k:=fun x hx=>by
   rw [qAD rf0 hk] at hx
   rcases List.mem_append.1 hx with hx | hx
   ·exact .inr hx
   ·exact .inl (List.mem_singleton.1 hx)
  generalize l.getD k rf0=x at hcell hmem hnx
  refine qAH qcG (by kernel_rfl) ?_
  refine⟨_,⟨by omega,x.cells,hcell,rfl⟩,?_⟩
  refine⟨⟨by kernel_rfl,by kernel_rfl⟩,fun e1=>?_,fun e1=>?_⟩
  ·have e1:⟨rn,rm,rp,ri⟩=x:=qOL (by first | exact e1 | (injection e1))
   exact qAY _ rfl rfl ⟨(k:Nat),rfl,⟨fun _=>by rw [e1];exact hmem,fun _=>by omega⟩⟩
  ·have e1:¬ x=⟨rn,rm,rp,ri⟩:=fun e=>e1 (by rw [e])
   refine⟨_,w6z,?_⟩
   refine⟨k+1,⟨by omega,fun y hy=>?_⟩,qAB [] [] [] rfl (sk) (sk) rfl,by show l.length - (k+1)<l.length - k;omega⟩
   rcases hnx y hy with rfl | hy
   ·exact e1
   ·exact k2 y hy
 obtain⟨rn,rm,rp,ri⟩:=r
 refine qAF Tryz.func217 rfl rfl rfl ?_
 refine hI.at fun e he=>?_
 obtain⟨n,rfl,hn⟩:=he
 (first | refine qAO (fun g=>?_) (fun g=>?_) | refine qAP (fun g=>?_) (fun g=>?_) | refine qAQ (fun g=>?_) (fun g=>?_))
 ·have g:(0:Int)≤n:=g
  exact qAY _ rfl rfl (qAl (decide_eq_true (hn.1 g)).symm)
 ·have g:¬ (0:Int)≤n:=g
  exact qAY _ rfl rfl (qAl (decide_eq_false fun h=>g (hn.2 h)).symm)
set_option maxHeartbeats 40000000
abbrev qcC:OT:=(.pure 0 (.pure 1 (.pure 2 (.pure 3 (.pure 4 (.eff 5 [] .fin .nil))))))
theorem qKT {ds:List De} {a:Nat} {es:List (List UInt8 × PV)} (l:List Iss) (h:CkS ds a es) (d:De) (hr:∀ r∈d.refs,r.name ≠ []) (hdr:d.refs.length≤100) (hl:l.length≤90000):HoldsG cx 185 [.ptr 0 0 0, .p d.pv] (ckS ds a es l) (nQ ds a es (l++qC2 (ds.take a) d [] d.refs)):=by
 obtain⟨dk,dn,dnm,dpl,drs,dcs⟩:=d
 have hdr:drs.length≤100:=hdr
 have hr:∀ r∈drs,r.name ≠ []:=hr
 obtain⟨R,hR⟩:∃ R,R=l++qC2 (ds.take a) ⟨dk,dn,dnm,dpl,drs,dcs⟩ [] drs:=⟨_,rfl⟩
 show HoldsG cx _ _ _ (nQ ds a es (l++qC2 (ds.take a) ⟨dk,dn,dnm,dpl,drs,dcs⟩ [] drs))
 rw [← hR]
 refine qAA Tryz.func185 rfl rfl rfl ?_
 refine⟨Nat × List Iss,fun x=>[(0, .ptr 0 0 0),(3, .ptr 4 0 0),(8, .p (qE7 drs)),(9, .p (i64 drs.length)),(10, .p (i64 x.1))],fun x=>⟨5,[(4,dcO ⟨dk,dn,dnm,dpl,drs,dcs⟩),(3,isO x.2),(1,fmO es),(0,ckO ds (a:Nat) 3 x.2.length)]⟩,fun x=>x.1≤drs.length∧x.2.length≤l.length+2 * x.1∧R=x.2++qC2 (ds.take a) ⟨dk,dn,dnm,dpl,drs,dcs⟩ (drs.take x.1) (drs.drop x.1),fun x=>drs.length - x.1,?_,?_⟩
 ·exact⟨(0,l),⟨Nat.zero_le _,by simp,hR⟩,qAB [] [(3,2),(4,3)] [] rfl ⟨⟨rfl,rfl⟩,⟨rfl,rfl⟩,rfl,congrArg (fun n:Nat=>i64 n) (List.length_map ..).symm,rfl,trivial⟩ (sk) rfl⟩
 rintro⟨k,cur⟩ ⟨k1,k2,k3⟩
 simp only [] at k1 k2 k3
 (first | refine qAO (fun m1=>?_) (fun m1=>?_) | refine qAP (fun m1=>?_) (fun m1=>?_) | refine qAQ (fun m1=>?_) (fun m1=>?_))
 rotate_left
 ·have m1:¬ (k:Int)<(drs.length:Nat):=m1
  rw [List.drop_eq_nil_of_le (by omega),qC2,List.append_nil] at k3
  exact⟨[],[(3,3)],[], .returned und,ckT ds a es cur,rfl,sk,sk,rfl,by rw [k3]⟩
 have m1:(k:Int)<(drs.length:Nat):=m1
 have hk:k<drs.length:=by omega
 have hcell:=qPt hk
 have hxn:=hr _ (qAG rf0 hk)
 have hstep:qC2 (ds.take a) ⟨dk,dn,dnm,dpl,drs,dcs⟩ (drs.take k) (drs.drop k)=(if drs.getD k rf0∈drs.take k then [⟨2,a,(drs.getD k rf0).name⟩] else [])++(qFY (qK0 (ds.take a) ⟨dk,dn,dnm,dpl,drs,dcs⟩ (drs.getD k rf0)) a (drs.getD k rf0).name++qC2 (ds.take a) ⟨dk,dn,dnm,dpl,drs,dcs⟩ (drs.take (k+1)) (drs.drop (k+1))):=by
  rw [qDJ rf0 hk,qC2,h.tk,qAD rf0 hk]
 generalize drs.getD k rf0=x at hcell hxn hstep
 have hC:=qUl (drs.take k) x (by rw [List.length_take];omega)
 have ea:[qE7 (drs.take k),x.pv]=[PV.lsts 4 ((drs.map Rf.cells).take ((k:Nat):Int).toNat),x.pv]:=by show [PV.lsts 4 ((drs.take k).map Rf.cells),x.pv]=_;rw [List.map_take];rfl
 rw [ea] at hC
 refine⟨_,⟨by omega,x.cells,hcell,rfl⟩,?_⟩
 refine qAH qcC (by kernel_rfl) ?_
 refine⟨by show(0:Int)≤(k:Nat)∧((k:Nat):Int)≤((drs.map Rf.cells).length:Nat);rw [List.length_map];omega,?_⟩
 by_cases hm:x∈drs.take k
 ·rw [decide_eq_true hm] at hC
  rw [if_pos hm] at hstep
  refine hC.eq rfl ?_
  refine(qCf ds a es (cur) 2 x.name (by first | omega | (simp only [List.length_append,List.length_cons,List.length_nil];omega))).holds.useT [6] [(2,3)] rfl (sk) ⟨_,_,rfl,⟨rfl,rfl⟩,_,_,rfl,rfl,_,_,rfl,⟨_,rfl,by show 0+1≤1;decide,rfl⟩,rfl⟩ fun e0 H0 hq=>?_
  obtain⟨rfl,rfl⟩:=hq
  refine⟨rfl,_,⟨8,(7,isO ((cur)++[Iss.mk 2 (a:Nat) x.name]))::(1,fmO es)::(0,ckO ds (a:Nat) 7 ((cur)++[Iss.mk 2 (a:Nat) x.name]).length)::[(6,sfO x.name),(5,rfO x),(4,dcO ⟨dk,dn,dnm,dpl,drs,dcs⟩)]⟩,rfl,rfl,?_⟩
  refine(qHl (cur++[Iss.mk 2 (a:Nat) x.name]) h ⟨dk,dn,dnm,dpl,drs,dcs⟩ hxn).holds.useT [] [(2,7)] rfl (sk) (sk) fun e0 H0 hq=>?_
  obtain⟨rfl,rfl⟩:=hq
  refine⟨rfl,_,⟨8,(7,isO (cur++[Iss.mk 2 (a:Nat) x.name]))::(1,fmO es)::(0,ckO ds (a:Nat) 7 (cur++[Iss.mk 2 (a:Nat) x.name]).length)::[(6,sfO x.name),(5,rfO x),(4,dcO ⟨dk,dn,dnm,dpl,drs,dcs⟩)]⟩,rfl,rfl,?_⟩
  refine And.intro (fun z=>?_) (fun z=>?_)
  ·have z:qK0 (ds.take a) ⟨dk,dn,dnm,dpl,drs,dcs⟩ x=0:=z
   rw [z] at hstep
   refine⟨((k+1:Nat):Int),by rw [Int.natCast_add];exact w6z,?_⟩
   exact⟨(k+1,cur++[Iss.mk 2 (a:Nat) x.name]),⟨by show k+1≤drs.length;omega,by show(cur++[Iss.mk 2 (a:Nat) x.name]).length≤l.length+2 * (k+1);(first | omega | (simp only [List.length_append,List.length_cons,List.length_nil];omega)),by rw [k3];rw [hstep,List.append_assoc];rfl⟩,qAB [] [(3,7),(4,4)] [] rfl (sk) (sk) rfl,by show drs.length - (k+1)<drs.length - k;omega⟩
  ·have z:¬ qK0 (ds.take a) ⟨dk,dn,dnm,dpl,drs,dcs⟩ x=0:=z
   rw [qFY,if_neg z] at hstep
   generalize qK0 (ds.take a) ⟨dk,dn,dnm,dpl,drs,dcs⟩ x=kk at hstep
   refine(qCf ds a es (cur++[Iss.mk 2 (a:Nat) x.name]) kk x.name (by first | omega | (simp only [List.length_append,List.length_cons,List.length_nil];omega))).holds.useT [8] [(2,7)] rfl (sk) ⟨_,_,rfl,⟨rfl,rfl⟩,_,_,rfl,rfl,_,_,rfl,⟨_,rfl,by show 0+1≤1;decide,rfl⟩,rfl⟩ fun e0 H0 hq=>?_
   obtain⟨rfl,rfl⟩:=hq
   refine⟨rfl,_,⟨10,(9,isO ((cur++[Iss.mk 2 (a:Nat) x.name])++[Iss.mk kk (a:Nat) x.name]))::(1,fmO es)::(0,ckO ds (a:Nat) 9 ((cur++[Iss.mk 2 (a:Nat) x.name])++[Iss.mk kk (a:Nat) x.name]).length)::((8,sfO x.name)::[(6,sfO x.name),(5,rfO x),(4,dcO ⟨dk,dn,dnm,dpl,drs,dcs⟩)])⟩,rfl,rfl,?_⟩
   refine⟨((k+1:Nat):Int),by rw [Int.natCast_add];exact w6z,?_⟩
   exact⟨(k+1,(cur++[Iss.mk 2 (a:Nat) x.name])++[Iss.mk kk (a:Nat) x.name]),⟨by show k+1≤drs.length;omega,by show((cur++[Iss.mk 2 (a:Nat) x.name])++[Iss.mk kk (a:Nat) x.name]).length≤l.length+2 * (k+1);(first | omega | (simp only [List.length_append,List.length_cons,List.length_nil];omega)),by rw [k3];rw [hstep];simp [List.append_assoc]⟩,qAB [] [(3,9),(4,4)] [] rfl (sk) (sk) rfl,by show drs.length - (k+1)<drs.length - k;omega⟩
 ·rw [decide_eq_false hm] at hC
  rw [if_neg hm] at hstep
  refine hC.eq rfl ?_
  refine(qHl (cur) h ⟨dk,dn,dnm,dpl,drs,dcs⟩ hxn).holds.useT [] [(2,3)] rfl (sk) (sk) fun e0 H0 hq=>?_
  obtain⟨rfl,rfl⟩:=hq
  refine⟨rfl,_,⟨6,(3,isO (cur))::(1,fmO es)::(0,ckO ds (a:Nat) 3 (cur).length)::[(5,rfO x),(4,dcO ⟨dk,dn,dnm,dpl,drs,dcs⟩)]⟩,rfl,rfl,?_⟩
  refine And.intro (fun z=>?_) (fun z=>?_)
  ·have z:qK0 (ds.take a) ⟨dk,dn,dnm,dpl,drs,dcs⟩ x=0:=z
   rw [z] at hstep
   refine⟨((k+1:Nat):Int),by rw [Int.natCast_add];exact w6z,?_⟩
   exact⟨(k+1,cur),⟨by show k+1≤drs.length;omega,by show(cur).length≤l.length+2 * (k+1);(first | omega | (simp only [List.length_append,List.length_cons,List.length_nil];omega)),by rw [k3];rw [hstep];rfl⟩,qAB [] [(3,3),(4,4)] [] rfl (sk) (sk) rfl,by show drs.length - (k+1)<drs.length - k;omega⟩
  ·have z:¬ qK0 (ds.take a) ⟨dk,dn,dnm,dpl,drs,dcs⟩ x=0:=z
   rw [qFY,if_neg z] at hstep
   generalize qK0 (ds.take a) ⟨dk,dn,dnm,dpl,drs,dcs⟩ x=kk at hstep
   refine(qCf ds a es (cur) kk x.name (by first | omega | (simp only [List.length_append,List.length_cons,List.length_nil];omega))).holds.useT [6] [(2,3)] rfl (sk) ⟨_,_,rfl,⟨rfl,rfl⟩,_,_,rfl,rfl,_,_,rfl,⟨_,rfl,by show 0+1≤1;decide,rfl⟩,rfl⟩ fun e0 H0 hq=>?_
   obtain⟨rfl,rfl⟩:=hq
   refine⟨rfl,_,⟨8,(7,isO ((cur)++[Iss.mk kk (a:Nat) x.name]))::(1,fmO es)::(0,ckO ds (a:Nat) 7 ((cur)++[Iss.mk kk (a:Nat) x.name]).length)::((6,sfO x.name)::[(5,rfO x),(4,dcO ⟨dk,dn,dnm,dpl,drs,dcs⟩)])⟩,rfl,rfl,?_⟩
   refine⟨((k+1:Nat):Int),by rw [Int.natCast_add];exact w6z,?_⟩
   exact⟨(k+1,(cur)++[Iss.mk kk (a:Nat) x.name]),⟨by show k+1≤drs.length;omega,by show((cur)++[Iss.mk kk (a:Nat) x.name]).length≤l.length+2 * (k+1);(first | omega | (simp only [List.length_append,List.length_cons,List.length_nil];omega)),by rw [k3];rw [hstep];simp [List.append_assoc]⟩,qAB [] [(3,7),(4,4)] [] rfl (sk) (sk) rfl,by show drs.length - (k+1)<drs.length - k;omega⟩
theorem qUc (l:List Int) (k:Nat) (h:k<l.length):(l.take (k+1)).sum=(l.take k).sum+l.getD k 0:=by
 rw [qAD 0 h,List.sum_append];simp
theorem qat (nums:List Int) (n g:Int) (hw:∀ x∈nums,-9999≤x∧x≤9999) (hl:nums.length≤100):Pure cx 188 [ints nums,i64 n,i64 g] (·=.ret [.bool (nums.all (fun w=>decide (0≤w)) && (decide ((nums.length:Int)=n) && decide (nums.sum=g)))]):=by
 obtain⟨R,hR⟩:∃ R,R=(nums.all (fun w=>decide (0≤w)) && (decide ((nums.length:Int)=n) && decide (nums.sum=g))):=⟨_,rfl⟩
 rw [← hR]
 have hm:(nums.map i64).length=nums.length:=List.length_map ..
 refine qAF Tryz.func188 rfl rfl rfl ?_
 refine⟨Nat,fun k=>[(0, .p (ints nums)),(1, .p (i64 n)),(2, .p (i64 g)),(7, .p (i64 (nums.take k).sum)),(10, .p (ints nums)),(11, .p (i64 nums.length)),(12, .p (i64 k))],fun _=>⟨0,[]⟩,fun k=>k≤nums.length∧(∀ x∈nums.take k,0≤x)∧(nums.take k).sum≤9999 * k∧0≤(nums.take k).sum,fun k=>nums.length - k,?_,?_⟩
 ·exact⟨0,⟨Nat.zero_le _,by simp,by simp,by simp⟩,qAB [] [] [] rfl ⟨rfl,rfl,rfl,rfl,rfl,congrArg (fun n:Nat=>i64 n) hm.symm,rfl,trivial⟩ trivial rfl⟩
 rintro k ⟨k1,k2,k3,k4⟩
 (first | refine qAO (fun m1=>?_) (fun m1=>?_) | refine qAP (fun m1=>?_) (fun m1=>?_) | refine qAQ (fun m1=>?_) (fun m1=>?_))
 ·have m1:(k:Int)<(nums.length:Nat):=m1
  have hk:k<nums.length:=by omega
  have hc:=qJ6 hk
  have hx:=hw _ (qAG 0 hk)
  have hs:=qUc nums k hk
  have hmem:=qAG 0 hk
  have hnx:∀ y∈nums.take (k+1),y=nums.getD k 0∨y∈nums.take k:=fun y hy=>by
   rw [qAD 0 hk] at hy
   rcases List.mem_append.1 hy with hy | hy
   ·exact .inr hy
   ·exact .inl (List.mem_singleton.1 hy)
  generalize nums.getD k 0=x at hc hx hs hmem hnx
  refine⟨_,⟨by omega,i64 x,hc,rfl⟩,?_⟩
  (first | refine qAO (fun w1=>?_) (fun w1=>?_) | refine qAP (fun w1=>?_) (fun w1=>?_) | refine qAQ (fun w1=>?_) (fun w1=>?_))
  ·have w1:x<0:=w1
   exact qAY _ rfl rfl (qAl (by rw [hR,List.all_eq_false.2 ⟨x,hmem,by simp;omega⟩];rfl))
  have w1:¬ x<0:=w1
  refine⟨(nums.take (k+1)).sum,by rw [hs];exact w6z,?_⟩
  refine⟨_,w6z,?_⟩
  refine⟨k+1,⟨by omega,fun y hy=>?_,by rw [hs];omega,by rw [hs];omega⟩,qAB [] [] [] rfl (sk) trivial rfl,by show nums.length - (k+1)<nums.length - k;omega⟩
  rcases hnx y hy with rfl | hy
  ·omega
  ·exact k2 y hy
 have m1:¬ (k:Int)<(nums.length:Nat):=m1
 rw [qAh (by omega)] at k2
 have ha:nums.all (fun w=>decide (0≤w))=true:=List.all_eq_true.2 fun x hx=>decide_eq_true (k2 x hx)
 rw [ha] at hR
 (first | refine qAO (fun e1=>?_) (fun e1=>?_) | refine qAP (fun e1=>?_) (fun e1=>?_) | refine qAQ (fun e1=>?_) (fun e1=>?_))
 rotate_left
 ·have e1:¬ ((nums.map i64).length:Int)=n:=e1
  rw [hm] at e1
  exact qAY _ rfl rfl (qAl (by rw [hR,decide_eq_false e1];rfl))
 have e1:((nums.map i64).length:Int)=n:=e1
 rw [hm] at e1
 rw [decide_eq_true e1] at hR
 (first | refine qAO (fun e2=>?_) (fun e2=>?_) | refine qAP (fun e2=>?_) (fun e2=>?_) | refine qAQ (fun e2=>?_) (fun e2=>?_))
 ·have e2:(nums.take k).sum=g:=e2
  rw [qAh (by omega)] at e2
  exact qAY _ rfl rfl (qAl (by rw [hR,decide_eq_true e2];rfl))
 ·have e2:¬ (nums.take k).sum=g:=e2
  rw [qAh (by omega)] at e2
  exact qAY _ rfl rfl (qAl (by rw [hR,decide_eq_false e2];rfl))
def fnW:AV:=.fn (.func 219) [] [.ptr 5 0 0, .ptr 3 0 0, .ptr 4 0 0]
def cbO:AObj:=⟨208,false, .bx [.ptr 0 0 0]⟩
def fwO:AObj:=⟨304,false, .bx [fnW]⟩
abbrev wkS (ds:List De) (a:Nat) (es:List (List UInt8 × PV)) (d:De) (l:List Iss):Hp:=⟨6,[(5,fwO),(4,dcO d),(3,cbO),(2,isO l),(1,fmO es),(0,ckO ds (a:Nat) 2 l.length)]⟩
abbrev wkT (ds:List De) (a:Nat) (es:List (List UInt8 × PV)) (d:De) (l:List Iss):Hp:=⟨7,[(6,isO l),(5,fwO),(4,dcO d),(3,cbO),(1,fmO es),(0,ckO ds (a:Nat) 6 l.length)]⟩
def wQ (ds:List De) (a:Nat) (es:List (List UInt8 × PV)) (d:De) (l:List Iss) (e:AE) (H':Hp):Prop:=e=.returned und∧H'=wkT ds a es d l
mutual
def qQm:Cd→Prop
 | .mk op _ _ _ r st ar=>((ar=[]→op=0∨(r.name ≠ []∧(op=5→1≤st.length)∧st.length≤100))∧(op=0→ar=[]))∧ar.length≤100∧qFw ar
def qFw:List Cd→Prop
 | []=>True
 | c::r=>qQm c∧qFw r
end
theorem qKf:∀ {l:List Cd} {c:Cd},qFw l→c∈l→qQm c
 | [],_,_,h=>by cases h
 | x::l,c,hl,h=>by
  rw [qFw] at hl
  rcases List.mem_cons.1 h with rfl | h
  ·exact hl.1
  ·exact qKf hl.2 h
theorem qRA {ds:List De} {a:Nat} {es:List (List UInt8 × PV)} (h:CkS ds a es) (d:De) (hdr:d.refs.length≤100):∀ (m:Nat) (c:Cd) (l:List Iss),csz c≤m→qQm c→(l++qBR (ds.take a) d c).length≤100000 →
  HoldsG cx 219 [.p c.pv, .ptr 5 0 0, .ptr 3 0 0, .ptr 4 0 0] (wkS ds a es d l) (wQ ds a es d (l++qBR (ds.take a) d c))
 | 0,c,_,hz,_,_=>by cases c;rw [csz] at hz;omega
 | m+1, .mk op n rel val r st ar,l,hz,hw,hl=>by
  have IH:=qRA h d hdr m
  obtain⟨dk,dn,dnm,dpl,drs,dcs⟩:=d
  have hdr:drs.length≤100:=hdr
  rw [csz] at hz
  rw [qQm] at hw
  obtain⟨⟨w1,_⟩,w2,w3⟩:=hw
  have hC1:ar ≠ []→qBR (ds.take a) ⟨dk,dn,dnm,dpl,drs,dcs⟩ (.mk op n rel val r st ar)=qBO (ds.take a) ⟨dk,dn,dnm,dpl,drs,dcs⟩ ar:=fun hn=>by
   cases ar with
   | nil=>exact absurd rfl hn
   | cons x ar=>rw [qBR,qBO]
  have hC0:ar=[]→qBR (ds.take a) ⟨dk,dn,dnm,dpl,drs,dcs⟩ (.mk op n rel val r st ar)=if op=0 then [] else qFY (qEc (ds.take a) ⟨dk,dn,dnm,dpl,drs,dcs⟩ op n val r st) a r.name:=fun hn=>by
   subst hn
   rw [qBR,h.tk]
  obtain⟨R,hR⟩:∃ R,R=l++qBR (ds.take a) ⟨dk,dn,dnm,dpl,drs,dcs⟩ (.mk op n rel val r st ar):=⟨_,rfl⟩
  rw [← hR] at hl ⊢
  have hcl:(qCk ar).length=ar.length:=by rw [qBl,List.length_map]
  refine qAA Tryz.func219 rfl rfl rfl ?_
  refine⟨Nat × List Iss,fun x=>[(1, .ptr 5 0 0),(2, .ptr 3 0 0),(3, .ptr 4 0 0),(4, .ptr 7 0 0),(9, .p (.lsts 10 (qCk ar))),(10, .p (i64 ar.length)),(11, .p (i64 x.1))],fun x=>⟨8,[(7,cnO (.mk op n rel val r st ar)),(6,isO x.2),(5,fwO),(4,dcO ⟨dk,dn,dnm,dpl,drs,dcs⟩),(3,cbO),(1,fmO es),(0,ckO ds (a:Nat) 6 x.2.length)]⟩,fun x=>x.1≤ar.length∧x.2++qBO (ds.take a) ⟨dk,dn,dnm,dpl,drs,dcs⟩ (ar.drop x.1)=l++qBO (ds.take a) ⟨dk,dn,dnm,dpl,drs,dcs⟩ ar,fun x=>ar.length - x.1,?_,?_⟩
  ·exact⟨(0,l),⟨Nat.zero_le _,rfl⟩,qAB [] [(6,2),(7,6)] [] rfl ⟨⟨rfl,rfl⟩,⟨rfl,rfl⟩,⟨rfl,rfl⟩,⟨rfl,rfl⟩,rfl,congrArg (fun n:Nat=>i64 n) hcl.symm,rfl,trivial⟩ (sk) rfl⟩
  rintro⟨k,cur⟩ ⟨k1,k2⟩
  simp only [] at k1 k2
  (first | refine qAO (fun m1=>?_) (fun m1=>?_) | refine qAP (fun m1=>?_) (fun m1=>?_) | refine qAQ (fun m1=>?_) (fun m1=>?_))
  ·have m1:(k:Int)<(ar.length:Nat):=m1
   have hk:k<ar.length:=by omega
   have hne:ar ≠ []:=fun e=>by rw [e] at hk;cases hk
   have hcell:(qCk ar)[k]?=some (ar.getD k cd0).cells:=by rw [qBl];exact qIS hk
   have hmem:=qAG cd0 hk
   have hsz:=qTG hmem
   have hxw:=qKf w3 hmem
   rw [qDJ cd0 hk,qBO,← List.append_assoc] at k2
   have hlen:((cur++qBR (ds.take a) ⟨dk,dn,dnm,dpl,drs,dcs⟩ (ar.getD k cd0))++qBO (ds.take a) ⟨dk,dn,dnm,dpl,drs,dcs⟩ (ar.drop (k+1))).length≤100000:=by rw [k2,← hC1 hne,← hR];exact hl
   rw [List.length_append] at hlen
   generalize ar.getD k cd0=x at hcell hsz hxw k2 hlen
   obtain⟨xo,xn,xr,xv,xf,xs,xa⟩:=x
   refine⟨_,⟨by omega,(Cd.mk xo xn xr xv xf xs xa).cells,hcell,rfl⟩,?_⟩
   refine(IH (.mk xo xn xr xv xf xs xa) cur (by omega) hxw (by omega)).holds.useT [] [(2,6)] rfl (sk) (sk) fun e0 H0 hq=>?_
   obtain⟨rfl,rfl⟩:=hq
   generalize cur++qBR (ds.take a) ⟨dk,dn,dnm,dpl,drs,dcs⟩ (.mk xo xn xr xv xf xs xa)=nxt at k2 hlen ⊢
   refine⟨rfl,_,⟨10,(9,isO nxt)::(5,fwO)::(4,dcO ⟨dk,dn,dnm,dpl,drs,dcs⟩)::(3,cbO)::(1,fmO es)::(0,ckO ds (a:Nat) 9 nxt.length)::[(8,cnO (.mk xo xn xr xv xf xs xa)),(7,cnO (.mk op n rel val r st ar))]⟩,rfl,rfl,?_⟩
   refine⟨((k+1:Nat):Int),by rw [Int.natCast_add];exact w6z,?_⟩
   exact⟨(k+1,nxt),⟨by show k+1≤ar.length;omega,k2⟩,qAB [] [(6,9),(7,7)] [] rfl (sk) (sk) rfl,by show ar.length - (k+1)<ar.length - k;omega⟩
  have m1:¬ (k:Int)<(ar.length:Nat):=m1
  rw [List.drop_eq_nil_of_le (by omega),qBO,List.append_nil] at k2
  (first | refine qAO (fun o0=>?_) (fun o0=>?_) | refine qAP (fun o0=>?_) (fun o0=>?_) | refine qAQ (fun o0=>?_) (fun o0=>?_))
  ·have o0:op=0:=o0
   have hRc:R=cur:=by
    by_cases hn:ar=[]
    ·rw [hR,hC0 hn,if_pos o0,k2,hn,qBO]
    ·rw [hR,hC1 hn,k2]
   exact⟨[],[(6,6)],[], .returned und,wkT ds a es ⟨dk,dn,dnm,dpl,drs,dcs⟩ (cur),rfl,sk,sk,rfl,by rw [hRc]⟩
  have o0:¬ op=0:=o0
  (first | refine qAO (fun g1=>?_) (fun g1=>?_) | refine qAP (fun g1=>?_) (fun g1=>?_) | refine qAQ (fun g1=>?_) (fun g1=>?_))
  ·have g1:(0:Int)<((qCk ar).length:Nat):=g1
   rw [hcl] at g1
   have hRc:R=cur:=by rw [hR,hC1 (fun e=>by rw [e] at g1;exact absurd g1 (by decide)),k2]
   exact⟨[],[(6,6)],[], .returned und,wkT ds a es ⟨dk,dn,dnm,dpl,drs,dcs⟩ (cur),rfl,sk,sk,rfl,by rw [hRc]⟩
  have g1:¬ (0:Int)<((qCk ar).length:Nat):=g1
  rw [hcl] at g1
  have hn:ar=[]:=List.eq_nil_of_length_eq_zero (by omega)
  have hw:=(w1 hn).resolve_left o0
  rw [hn,qBO,List.append_nil] at k2
  rw [hC0 hn,if_neg o0,← k2] at hR
  have hcl2:cur.length≤100000:=by rw [hR,List.length_append] at hl;omega
  refine(qVh (op:=op) (n:=n) (rel:=rel) (val:=val) (r:=r) (st:=st) (ar:=ar) cur h ⟨dk,dn,dnm,dpl,drs,dcs⟩ hw.1 hw.2.1 hw.2.2 hdr).holds.useT [] [(2,6)] rfl (sk) (sk) fun e0 H0 hq=>?_
  obtain⟨rfl,rfl⟩:=hq
  generalize qEc (ds.take a) ⟨dk,dn,dnm,dpl,drs,dcs⟩ op n val r st=kk at hR
  refine⟨rfl,_,⟨8,(6,isO cur)::(1,fmO es)::(0,ckO ds (a:Nat) 6 cur.length)::[(7,cnO (.mk op n rel val r st ar)),(5,fwO),(4,dcO ⟨dk,dn,dnm,dpl,drs,dcs⟩),(3,cbO)]⟩,rfl,rfl,?_⟩
  refine And.intro (fun z=>?_) (fun z=>?_)
  ·have z:kk=0:=z
   rw [qFY,if_pos z,List.append_nil] at hR
   exact⟨[],[(6,6)],[], .returned und,wkT ds a es ⟨dk,dn,dnm,dpl,drs,dcs⟩ (cur),rfl,sk,sk,rfl,by rw [hR]⟩
  ·have z:¬ kk=0:=z
   rw [qFY,if_neg z] at hR
   refine(qCf ds a es (cur) kk r.name (by first | omega | (simp only [List.length_append,List.length_cons,List.length_nil];omega))).holds.useT [8] [(2,6)] rfl (sk) ⟨_,_,rfl,⟨rfl,rfl⟩,_,_,rfl,rfl,_,_,rfl,⟨_,rfl,by show 0+1≤1;decide,rfl⟩,rfl⟩ fun e0 H0 hq=>?_
   obtain⟨rfl,rfl⟩:=hq
   refine⟨rfl,_,⟨10,(9,isO ((cur)++[Iss.mk kk (a:Nat) r.name]))::(1,fmO es)::(0,ckO ds (a:Nat) 9 ((cur)++[Iss.mk kk (a:Nat) r.name]).length)::[(8,sfO r.name),(7,cnO (.mk op n rel val r st ar)),(5,fwO),(4,dcO ⟨dk,dn,dnm,dpl,drs,dcs⟩),(3,cbO)]⟩,rfl,rfl,?_⟩
   exact⟨[],[(6,9)],[], .returned und,wkT ds a es ⟨dk,dn,dnm,dpl,drs,dcs⟩ (cur++[Iss.mk kk (a:Nat) r.name]),rfl,sk,sk,rfl,by rw [hR]⟩
def smO (g:Int):AObj:=⟨qWc,false, .bx [.p (i64 g)]⟩
def kcO (c:Cs):AObj:=⟨qTn,false, .bx (c.cells.map .p)⟩
theorem qRe {d:De} {nums:List Int} {g:Int} (h:¬ d.kind=5):qL9 d nums g=(nums.all (fun w=>decide (0≤w)) && (decide ((nums.length:Int)=d.n) && decide (nums.sum=g))):=by rw [qL9,if_neg h]
theorem qRf {d:De} {nums:List Int} {g:Int} (h:d.kind=5):qL9 d nums g=(decide (nums.length=1) && (decide (-100≤nums.getD 0 0) && decide (nums.getD 0 0≤100))):=by rw [qL9,if_pos h]
structure CaOK (c:Cs):Prop where
 cond:qQm c.cond
 nums:∀ x∈c.nums,-9999≤x∧x≤9999
 len:c.nums.length≤100
def rwQ (d:De) (g:Int) (b:Bool) (e:AE) (H':Hp):Prop:=e=.returned (.p (.bool b))∧H'=⟨2,[(1,smO g),(0,dcO d)]⟩
theorem qXW (d:De) (g:Int) (nums:List Int) (hw:∀ x∈nums,-9999≤x∧x≤9999) (hl:nums.length≤100) (hk:¬ d.kind=5):HoldsG cx 187 [.p (ints nums), .ptr 0 0 0, .ptr 1 0 0] ⟨2,[(1,smO g),(0,dcO d)]⟩ (rwQ d g (qL9 d nums g)):=by
 have hr:=qat nums d.n g hw hl
 rw [← qRe hk] at hr
 obtain⟨dk,dn,dnm,dpl,drs,dcs⟩:=d
 generalize qL9 ⟨dk,dn,dnm,dpl,drs,dcs⟩ nums g=b at hr
 refine qAA Tryz.func187 rfl rfl rfl ?_
 refine hr.eq rfl ?_
 exact⟨[],[],[], .returned (.p (.bool b)),⟨2,[(1,smO g),(0,dcO ⟨dk,dn,dnm,dpl,drs,dcs⟩)]⟩,rfl,sk,sk,rfl,rfl⟩
theorem qXs (d:De) (g:Int) (nums:List Int) (hk:d.kind=5):Pure cx 189 [ints nums] (·=.ret [.bool (qL9 d nums g)]):=by
 obtain⟨R,hR⟩:∃ R,R=qL9 d nums g:=⟨_,rfl⟩
 rw [← hR]
 rw [qRf hk] at hR
 have hm:(nums.map i64).length=nums.length:=List.length_map ..
 refine qAF Tryz.func189 rfl rfl rfl ?_
 (first | refine qAO (fun h1=>?_) (fun h1=>?_) | refine qAP (fun h1=>?_) (fun h1=>?_) | refine qAQ (fun h1=>?_) (fun h1=>?_))
 rotate_left
 ·have h1:¬ ((nums.map i64).length:Int)=1:=h1
  rw [hm] at h1
  exact qAY _ rfl rfl (qAl (by rw [hR,decide_eq_false (show ¬ nums.length=1 by omega)];rfl))
 have h1:((nums.map i64).length:Int)=1:=h1
 rw [hm] at h1
 rw [decide_eq_true (show nums.length=1 by omega)] at hR
 have hc:=qJ6 (l:=nums) (k:=0) (by omega)
 generalize nums.getD 0 0=x at hc hR
 refine⟨_,⟨by decide,i64 x,hc,rfl⟩,?_⟩
 (first | refine qAO (fun h2=>?_) (fun h2=>?_) | refine qAP (fun h2=>?_) (fun h2=>?_) | refine qAQ (fun h2=>?_) (fun h2=>?_))
 rotate_left
 ·have h2:¬ -100≤x:=h2
  exact qAY _ rfl rfl (qAl (by rw [hR,decide_eq_false h2];rfl))
 have h2:-100≤x:=h2
 refine⟨_,⟨by decide,i64 x,hc,rfl⟩,?_⟩
 (first | refine qAO (fun h3=>?_) (fun h3=>?_) | refine qAP (fun h3=>?_) (fun h3=>?_) | refine qAQ (fun h3=>?_) (fun h3=>?_))
 ·have h3:x≤100:=h3
  exact qAY _ rfl rfl (qAl (by rw [hR,decide_eq_true h2,decide_eq_true h3];rfl))
 ·have h3:¬ x≤100:=h3
  exact qAY _ rfl rfl (qAl (by rw [hR,decide_eq_true h2,decide_eq_false h3];rfl))
theorem qE0 (L:List De) (d:De) (g:Int) (c:Cs) (cs:List Cs):casesI L d g (c::cs)=(qBR L d c.cond++(if qL9 d c.nums g then [] else [⟨9,L.length,[]⟩]))++casesI L d g cs:=by rw [casesI,List.flatMap_cons];rfl
abbrev cgS (ds:List De) (a:Nat) (es:List (List UInt8 × PV)) (d:De) (g:Int) (l:List Iss):Hp:=⟨5,[(4,smO g),(3,dcO d),(2,isO l),(1,fmO es),(0,ckO ds (a:Nat) 2 l.length)]⟩
abbrev cgT (ds:List De) (a:Nat) (es:List (List UInt8 × PV)) (d:De) (g:Int) (l:List Iss):Hp:=⟨6,[(5,isO l),(4,smO g),(3,dcO d),(1,fmO es),(0,ckO ds (a:Nat) 5 l.length)]⟩
def cgQ (ds:List De) (a:Nat) (es:List (List UInt8 × PV)) (d:De) (g:Int) (l:List Iss) (e:AE) (H':Hp):Prop:=e=.returned und∧H'=cgT ds a es d g l
theorem qVj {ds:List De} {a:Nat} {es:List (List UInt8 × PV)} (l:List Iss) (h:CkS ds a es) (d:De) (g:Int) (hk:¬ d.kind=5) (hdr:d.refs.length≤100) (hcl:d.cases.length≤100) (hc:∀ c∈d.cases,CaOK c) (hl:(l++casesI (ds.take a) d g d.cases).length≤100000) :
  HoldsG cx 186 [.ptr 0 0 0, .p d.pv, .fn (.func 187) [] [.ptr 3 0 0, .ptr 4 0 0]] (cgS ds a es d g l) (cgQ ds a es d g (l++casesI (ds.take a) d g d.cases)):=by
 obtain⟨dk,dn,dnm,dpl,drs,dcs⟩:=d
 have hdr:drs.length≤100:=hdr
 have hcl:dcs.length≤100:=hcl
 have hc:∀ c∈dcs,CaOK c:=hc
 have hl:(l++casesI (ds.take a) ⟨dk,dn,dnm,dpl,drs,dcs⟩ g dcs).length≤100000:=hl
 obtain⟨R,hR⟩:∃ R,R=l++casesI (ds.take a) ⟨dk,dn,dnm,dpl,drs,dcs⟩ g dcs:=⟨_,rfl⟩
 show HoldsG cx _ _ _ (cgQ ds a es ⟨dk,dn,dnm,dpl,drs,dcs⟩ g (l++casesI (ds.take a) ⟨dk,dn,dnm,dpl,drs,dcs⟩ g dcs))
 rw [← hR] at hl ⊢
 have hm:(dcs.map Cs.cells).length=dcs.length:=List.length_map ..
 refine qAA Tryz.func186 rfl rfl rfl ?_
 refine⟨Nat × List Iss,fun x=>[(2, .fn (.func 187) [] [.ptr 3 0 0, .ptr 4 0 0]),(3, .ptr 6 0 0),(4, .ptr 7 0 0),(6, .ptr 8 0 0),(11, .p (css dcs)),(12, .p (i64 dcs.length)),(13, .p (i64 x.1))],fun x=>⟨9,[(8,⟨304,false, .bx [.fn (.func 219) [] [.ptr 8 0 0, .ptr 6 0 0, .ptr 7 0 0]]⟩),(7,dcO ⟨dk,dn,dnm,dpl,drs,dcs⟩),(6,cbO),(5,isO x.2),(4,smO g),(3,dcO ⟨dk,dn,dnm,dpl,drs,dcs⟩),(1,fmO es),(0,ckO ds (a:Nat) 5 x.2.length)]⟩,fun x=>x.1≤dcs.length∧x.2++casesI (ds.take a) ⟨dk,dn,dnm,dpl,drs,dcs⟩ g (dcs.drop x.1)=R,fun x=>dcs.length - x.1,?_,?_⟩
 ·exact⟨(0,l),⟨Nat.zero_le _,hR.symm⟩,qAB [] [(5,2),(6,5),(7,6),(8,7)] [] rfl ⟨sk,⟨rfl,rfl⟩,⟨rfl,rfl⟩,⟨rfl,rfl⟩,rfl,congrArg (fun n:Nat=>i64 n) hm.symm,rfl,trivial⟩ (sk) rfl⟩
 rintro⟨k,cur⟩ ⟨k1,k2⟩
 simp only [] at k1 k2
 (first | refine qAO (fun m1=>?_) (fun m1=>?_) | refine qAP (fun m1=>?_) (fun m1=>?_) | refine qAQ (fun m1=>?_) (fun m1=>?_))
 rotate_left
 ·have m1:¬ (k:Int)<(dcs.length:Nat):=m1
  rw [List.drop_eq_nil_of_le (by omega),show casesI (ds.take a) ⟨dk,dn,dnm,dpl,drs,dcs⟩ g []=[] from rfl,List.append_nil] at k2
  exact⟨[],[(5,5)],[], .returned und,cgT ds a es ⟨dk,dn,dnm,dpl,drs,dcs⟩ g cur,rfl,sk,sk,rfl,by rw [← k2]⟩
 have m1:(k:Int)<(dcs.length:Nat):=m1
 have hkk:k<dcs.length:=by omega
 have hcell:=qRX hkk
 have hx:=hc _ (qAG cs0 hkk)
 rw [qDJ cs0 hkk,qE0,h.tk] at k2
 generalize dcs.getD k cs0=x at hcell hx k2
 obtain⟨⟨xo,xn,xr,xv,xf,xs,xa⟩,xw⟩:=x
 obtain⟨x1,x2,x3⟩:=hx
 simp only [] at x1 x2 x3 k2
 have hlen:=hl
 rw [← k2,List.length_append,List.length_append,List.length_append] at hlen
 refine⟨_,⟨by omega,(⟨.mk xo xn xr xv xf xs xa,xw⟩:Cs).cells,hcell,rfl⟩,?_⟩
 refine(qRA h ⟨dk,dn,dnm,dpl,drs,dcs⟩ hdr _ (.mk xo xn xr xv xf xs xa) cur (Nat.le_refl _) x1 (by rw [List.length_append];omega)).holds.useT [] [(2,5),(3,6),(4,7),(5,8)] rfl (sk) (sk) fun e0 H0 hq=>?_
 obtain⟨rfl,rfl⟩:=hq
 rw [← List.append_assoc,← List.append_assoc] at k2
 have hnl:(cur++qBR (ds.take a) ⟨dk,dn,dnm,dpl,drs,dcs⟩ (.mk xo xn xr xv xf xs xa)).length≤100000:=by rw [List.length_append];omega
 clear hlen
 generalize cur++qBR (ds.take a) ⟨dk,dn,dnm,dpl,drs,dcs⟩ (.mk xo xn xr xv xf xs xa)=nxt at k2 hnl ⊢
 refine⟨rfl,_,⟨11,(10,isO nxt)::(8,⟨304,false, .bx [.fn (.func 219) [] [.ptr 8 0 0, .ptr 6 0 0, .ptr 7 0 0]]⟩)::(7,dcO ⟨dk,dn,dnm,dpl,drs,dcs⟩)::(6,cbO)::(1,fmO es)::(0,ckO ds (a:Nat) 10 nxt.length)::[(9,kcO ⟨.mk xo xn xr xv xf xs xa,xw⟩),(4,smO g),(3,dcO ⟨dk,dn,dnm,dpl,drs,dcs⟩)]⟩,rfl,rfl,?_⟩
 have hr:=qXW ⟨dk,dn,dnm,dpl,drs,dcs⟩ g xw x2 x3 hk
 by_cases hrow:qL9 ⟨dk,dn,dnm,dpl,drs,dcs⟩ xw g=true
 ·rw [hrow] at hr k2
  rw [if_pos rfl,List.append_nil] at k2
  refine hr.holds.useT [] [(0,3),(1,4)] rfl (sk) (sk) fun e0 H0 hq=>?_
  obtain⟨rfl,rfl⟩:=hq
  refine⟨rfl,_,⟨11,(4,smO g)::(3,dcO ⟨dk,dn,dnm,dpl,drs,dcs⟩)::[(10,isO nxt),(8,⟨304,false, .bx [.fn (.func 219) [] [.ptr 8 0 0, .ptr 6 0 0, .ptr 7 0 0]]⟩),(7,dcO ⟨dk,dn,dnm,dpl,drs,dcs⟩),(6,cbO),(1,fmO es),(0,ckO ds (a:Nat) 10 nxt.length),(9,kcO ⟨.mk xo xn xr xv xf xs xa,xw⟩)]⟩,rfl,rfl,?_⟩
  refine⟨((k+1:Nat):Int),by rw [Int.natCast_add];exact w6z,?_⟩
  exact⟨(k+1,nxt),⟨by show k+1≤dcs.length;omega,k2⟩,qAB [] [(5,10),(6,6),(7,7),(8,8)] [] rfl ⟨sk,⟨rfl,rfl⟩,⟨rfl,rfl⟩,⟨rfl,rfl⟩,rfl,rfl,rfl,trivial⟩ (sk) rfl,by show dcs.length - (k+1)<dcs.length - k;omega⟩
 ·rw [Bool.not_eq_true] at hrow
  rw [hrow] at hr k2
  rw [if_neg (by decide)] at k2
  refine hr.holds.useT [] [(0,3),(1,4)] rfl (sk) (sk) fun e0 H0 hq=>?_
  obtain⟨rfl,rfl⟩:=hq
  refine⟨rfl,_,⟨11,(4,smO g)::(3,dcO ⟨dk,dn,dnm,dpl,drs,dcs⟩)::[(10,isO nxt),(8,⟨304,false, .bx [.fn (.func 219) [] [.ptr 8 0 0, .ptr 6 0 0, .ptr 7 0 0]]⟩),(7,dcO ⟨dk,dn,dnm,dpl,drs,dcs⟩),(6,cbO),(1,fmO es),(0,ckO ds (a:Nat) 10 nxt.length),(9,kcO ⟨.mk xo xn xr xv xf xs xa,xw⟩)]⟩,rfl,rfl,?_⟩
  refine(qGA ds a es (nxt) 9 (by first | omega | (simp only [List.length_append,List.length_cons,List.length_nil];omega))).holds.useT [] [(2,10)] rfl (sk) (sk) fun e0 H0 hq=>?_
  obtain⟨rfl,rfl⟩:=hq
  refine⟨rfl,_,⟨12,(11,isO ((nxt)++[Iss.mk 9 (a:Nat) []]))::(1,fmO es)::(0,ckO ds (a:Nat) 11 ((nxt)++[Iss.mk 9 (a:Nat) []]).length)::[(4,smO g),(3,dcO ⟨dk,dn,dnm,dpl,drs,dcs⟩),(8,⟨304,false, .bx [.fn (.func 219) [] [.ptr 8 0 0, .ptr 6 0 0, .ptr 7 0 0]]⟩),(7,dcO ⟨dk,dn,dnm,dpl,drs,dcs⟩),(6,cbO),(9,kcO ⟨.mk xo xn xr xv xf xs xa,xw⟩)]⟩,rfl,rfl,?_⟩
  refine⟨((k+1:Nat):Int),by rw [Int.natCast_add];exact w6z,?_⟩
  exact⟨(k+1,nxt++[Iss.mk 9 (a:Nat) []]),⟨by show k+1≤dcs.length;omega,k2⟩,qAB [] [(5,11),(6,6),(7,7),(8,8)] [] rfl ⟨sk,⟨rfl,rfl⟩,⟨rfl,rfl⟩,⟨rfl,rfl⟩,rfl,rfl,rfl,trivial⟩ (sk) rfl,by show dcs.length - (k+1)<dcs.length - k;omega⟩
theorem qVk {ds:List De} {a:Nat} {es:List (List UInt8 × PV)} (l:List Iss) (h:CkS ds a es) (d:De) (g:Int) (hk:d.kind=5) (hdr:d.refs.length≤100) (hcl:d.cases.length≤100) (hc:∀ c∈d.cases,CaOK c) (hl:(l++casesI (ds.take a) d g d.cases).length≤100000) :
  HoldsG cx 186 [.ptr 0 0 0, .p d.pv, .p (.fn (.func 189) [] [])] (ckS ds a es l) (nQ ds a es (l++casesI (ds.take a) d g d.cases)):=by
 obtain⟨dk,dn,dnm,dpl,drs,dcs⟩:=d
 have hdr:drs.length≤100:=hdr
 have hcl:dcs.length≤100:=hcl
 have hc:∀ c∈dcs,CaOK c:=hc
 have hl:(l++casesI (ds.take a) ⟨dk,dn,dnm,dpl,drs,dcs⟩ g dcs).length≤100000:=hl
 obtain⟨R,hR⟩:∃ R,R=l++casesI (ds.take a) ⟨dk,dn,dnm,dpl,drs,dcs⟩ g dcs:=⟨_,rfl⟩
 show HoldsG cx _ _ _ (nQ ds a es (l++casesI (ds.take a) ⟨dk,dn,dnm,dpl,drs,dcs⟩ g dcs))
 rw [← hR] at hl ⊢
 have hm:(dcs.map Cs.cells).length=dcs.length:=List.length_map ..
 refine qAA Tryz.func186 rfl rfl rfl ?_
 refine⟨Nat × List Iss,fun x=>[(2, .p (.fn (.func 189) [] [])),(3, .ptr 4 0 0),(4, .ptr 5 0 0),(6, .ptr 6 0 0),(11, .p (css dcs)),(12, .p (i64 dcs.length)),(13, .p (i64 x.1))],fun x=>⟨7,[(6,⟨304,false, .bx [.fn (.func 219) [] [.ptr 6 0 0, .ptr 4 0 0, .ptr 5 0 0]]⟩),(5,dcO ⟨dk,dn,dnm,dpl,drs,dcs⟩),(4,cbO),(3,isO x.2),(1,fmO es),(0,ckO ds (a:Nat) 3 x.2.length)]⟩,fun x=>x.1≤dcs.length∧x.2++casesI (ds.take a) ⟨dk,dn,dnm,dpl,drs,dcs⟩ g (dcs.drop x.1)=R,fun x=>dcs.length - x.1,?_,?_⟩
 ·exact⟨(0,l),⟨Nat.zero_le _,hR.symm⟩,qAB [] [(3,2),(4,3),(5,4),(6,5)] [] rfl ⟨rfl,⟨rfl,rfl⟩,⟨rfl,rfl⟩,⟨rfl,rfl⟩,rfl,congrArg (fun n:Nat=>i64 n) hm.symm,rfl,trivial⟩ (sk) rfl⟩
 rintro⟨k,cur⟩ ⟨k1,k2⟩
 simp only [] at k1 k2
 (first | refine qAO (fun m1=>?_) (fun m1=>?_) | refine qAP (fun m1=>?_) (fun m1=>?_) | refine qAQ (fun m1=>?_) (fun m1=>?_))
 rotate_left
 ·have m1:¬ (k:Int)<(dcs.length:Nat):=m1
  rw [List.drop_eq_nil_of_le (by omega),show casesI (ds.take a) ⟨dk,dn,dnm,dpl,drs,dcs⟩ g []=[] from rfl,List.append_nil] at k2
  exact⟨[],[(3,3)],[], .returned und,ckT ds a es cur,rfl,sk,sk,rfl,by rw [← k2]⟩
 have m1:(k:Int)<(dcs.length:Nat):=m1
 have hkk:k<dcs.length:=by omega
 have hcell:=qRX hkk
 have hx:=hc _ (qAG cs0 hkk)
 rw [qDJ cs0 hkk,qE0,h.tk] at k2
 generalize dcs.getD k cs0=x at hcell hx k2
 obtain⟨⟨xo,xn,xr,xv,xf,xs,xa⟩,xw⟩:=x
 obtain⟨x1,x2,x3⟩:=hx
 simp only [] at x1 x2 x3 k2
 have hlen:=hl
 rw [← k2,List.length_append,List.length_append,List.length_append] at hlen
 refine⟨_,⟨by omega,(⟨.mk xo xn xr xv xf xs xa,xw⟩:Cs).cells,hcell,rfl⟩,?_⟩
 refine(qRA h ⟨dk,dn,dnm,dpl,drs,dcs⟩ hdr _ (.mk xo xn xr xv xf xs xa) cur (Nat.le_refl _) x1 (by rw [List.length_append];omega)).holds.useT [] [(2,3),(3,4),(4,5),(5,6)] rfl (sk) (sk) fun e0 H0 hq=>?_
 obtain⟨rfl,rfl⟩:=hq
 rw [← List.append_assoc,← List.append_assoc] at k2
 have hnl:(cur++qBR (ds.take a) ⟨dk,dn,dnm,dpl,drs,dcs⟩ (.mk xo xn xr xv xf xs xa)).length≤100000:=by rw [List.length_append];omega
 clear hlen
 generalize cur++qBR (ds.take a) ⟨dk,dn,dnm,dpl,drs,dcs⟩ (.mk xo xn xr xv xf xs xa)=nxt at k2 hnl ⊢
 refine⟨rfl,_,⟨9,(8,isO nxt)::(6,⟨304,false, .bx [.fn (.func 219) [] [.ptr 6 0 0, .ptr 4 0 0, .ptr 5 0 0]]⟩)::(5,dcO ⟨dk,dn,dnm,dpl,drs,dcs⟩)::(4,cbO)::(1,fmO es)::(0,ckO ds (a:Nat) 8 nxt.length)::[(7,kcO ⟨.mk xo xn xr xv xf xs xa,xw⟩)]⟩,rfl,rfl,?_⟩
 have hr:=qXs ⟨dk,dn,dnm,dpl,drs,dcs⟩ g xw hk
 by_cases hrow:qL9 ⟨dk,dn,dnm,dpl,drs,dcs⟩ xw g=true
 ·rw [hrow] at hr k2
  rw [if_pos rfl,List.append_nil] at k2
  refine hr.eq rfl ?_
  refine⟨((k+1:Nat):Int),by rw [Int.natCast_add];exact w6z,?_⟩
  exact⟨(k+1,nxt),⟨by show k+1≤dcs.length;omega,k2⟩,qAB [] [(3,8),(4,4),(5,5),(6,6)] [] rfl ⟨rfl,⟨rfl,rfl⟩,⟨rfl,rfl⟩,⟨rfl,rfl⟩,rfl,rfl,rfl,trivial⟩ (sk) rfl,by show dcs.length - (k+1)<dcs.length - k;omega⟩
 ·rw [Bool.not_eq_true] at hrow
  rw [hrow] at hr k2
  rw [if_neg (by decide)] at k2
  refine hr.eq rfl ?_
  refine(qGA ds a es (nxt) 9 (by first | omega | (simp only [List.length_append,List.length_cons,List.length_nil];omega))).holds.useT [] [(2,8)] rfl (sk) (sk) fun e0 H0 hq=>?_
  obtain⟨rfl,rfl⟩:=hq
  refine⟨rfl,_,⟨10,(9,isO ((nxt)++[Iss.mk 9 (a:Nat) []]))::(1,fmO es)::(0,ckO ds (a:Nat) 9 ((nxt)++[Iss.mk 9 (a:Nat) []]).length)::[(6,⟨304,false, .bx [.fn (.func 219) [] [.ptr 6 0 0, .ptr 4 0 0, .ptr 5 0 0]]⟩),(5,dcO ⟨dk,dn,dnm,dpl,drs,dcs⟩),(4,cbO),(7,kcO ⟨.mk xo xn xr xv xf xs xa,xw⟩)]⟩,rfl,rfl,?_⟩
  refine⟨((k+1:Nat):Int),by rw [Int.natCast_add];exact w6z,?_⟩
  exact⟨(k+1,nxt++[Iss.mk 9 (a:Nat) []]),⟨by show k+1≤dcs.length;omega,k2⟩,qAB [] [(3,9),(4,4),(5,5),(6,6)] [] rfl ⟨rfl,⟨rfl,rfl⟩,⟨rfl,rfl⟩,⟨rfl,rfl⟩,rfl,rfl,rfl,trivial⟩ (sk) rfl,by show dcs.length - (k+1)<dcs.length - k;omega⟩
structure DcOK (d:De):Prop where
 ok:OkD d
 refs:d.refs.length≤100
 len:d.cases.length≤100
 cases:∀ c∈d.cases,CaOK c
theorem qVP {ds:List De} {a:Nat} {es:List (List UInt8 × PV)} (l:List Iss) (h:CkS ds a es) (d:De) (hk:d.kind=1) (hl:(l++qCp (ds.take a) d (qAk ds)).length≤90000):HoldsG cx 133 [.ptr 0 0 0, .p d.pv] (ckS ds a es l) (nQ ds a es (l++qCp (ds.take a) d (qAk ds))):=by
 obtain⟨R,hR⟩:∃ R,R=l++qCp (ds.take a) d (qAk ds):=⟨_,rfl⟩
 rw [← hR] at hl ⊢
 rw [qCp,if_pos hk,h.tk] at hR
 have hl1:l.length≤90000:=by rw [hR,List.length_append] at hl;omega
 obtain⟨dk,dn,dnm,dpl,drs,dcs⟩:=d
 simp only [] at hR
 refine qAA Tryz.func133 rfl rfl rfl ?_
 (first | refine qAO (fun h0=>?_) (fun h0=>?_) | refine qAP (fun h0=>?_) (fun h0=>?_) | refine qAQ (fun h0=>?_) (fun h0=>?_))
 ·have h0:(0:Int)<(a:Nat):=h0
  rw [if_pos (.inl (by omega))] at hR
  refine(qGA ds a es (l) 1 (by first | omega | (simp only [List.length_append,List.length_cons,List.length_nil];omega))).holds.useT [] [] rfl (sk) (sk) fun e0 H0 hq=>?_
  obtain⟨rfl,rfl⟩:=hq
  refine⟨rfl,_,⟨5,(4,isO ((l)++[Iss.mk 1 (a:Nat) []]))::(1,fmO es)::(0,ckO ds (a:Nat) 4 ((l)++[Iss.mk 1 (a:Nat) []]).length)::[(3,dcO ⟨dk,dn,dnm,dpl,drs,dcs⟩)]⟩,rfl,rfl,?_⟩
  exact⟨[],[(3,4)],[], .returned und,ckT ds a es (l++[Iss.mk 1 (a:Nat) []]),rfl,sk,sk,rfl,by rw [hR]⟩
 have h0:¬ (0:Int)<(a:Nat):=h0
 (first | refine qAO (fun h1=>?_) (fun h1=>?_) | refine qAP (fun h1=>?_) (fun h1=>?_) | refine qAQ (fun h1=>?_) (fun h1=>?_))
 ·have h1:dn<1:=h1
  rw [if_pos (.inr (.inl h1))] at hR
  refine(qGA ds a es (l) 1 (by first | omega | (simp only [List.length_append,List.length_cons,List.length_nil];omega))).holds.useT [] [] rfl (sk) (sk) fun e0 H0 hq=>?_
  obtain⟨rfl,rfl⟩:=hq
  refine⟨rfl,_,⟨5,(4,isO ((l)++[Iss.mk 1 (a:Nat) []]))::(1,fmO es)::(0,ckO ds (a:Nat) 4 ((l)++[Iss.mk 1 (a:Nat) []]).length)::[(3,dcO ⟨dk,dn,dnm,dpl,drs,dcs⟩)]⟩,rfl,rfl,?_⟩
  exact⟨[],[(3,4)],[], .returned und,ckT ds a es (l++[Iss.mk 1 (a:Nat) []]),rfl,sk,sk,rfl,by rw [hR]⟩
 have h1:¬ dn<1:=h1
 (first | refine qAO (fun h2=>?_) (fun h2=>?_) | refine qAP (fun h2=>?_) (fun h2=>?_) | refine qAQ (fun h2=>?_) (fun h2=>?_))
 ·have h2:60<dn:=h2
  rw [if_pos (.inr (.inr h2))] at hR
  refine(qGA ds a es (l) 1 (by first | omega | (simp only [List.length_append,List.length_cons,List.length_nil];omega))).holds.useT [] [] rfl (sk) (sk) fun e0 H0 hq=>?_
  obtain⟨rfl,rfl⟩:=hq
  refine⟨rfl,_,⟨5,(4,isO ((l)++[Iss.mk 1 (a:Nat) []]))::(1,fmO es)::(0,ckO ds (a:Nat) 4 ((l)++[Iss.mk 1 (a:Nat) []]).length)::[(3,dcO ⟨dk,dn,dnm,dpl,drs,dcs⟩)]⟩,rfl,rfl,?_⟩
  exact⟨[],[(3,4)],[], .returned und,ckT ds a es (l++[Iss.mk 1 (a:Nat) []]),rfl,sk,sk,rfl,by rw [hR]⟩
 ·have h2:¬ 60<dn:=h2
  rw [if_neg (by omega),List.append_nil] at hR
  exact⟨[],[(3,2)],[], .returned und,ckT ds a es (l),rfl,sk,sk,rfl,by rw [hR]⟩
theorem qUy {ds:List De} {a:Nat} {es:List (List UInt8 × PV)} (l:List Iss) (h:CkS ds a es) (d:De) (hd:OkD d) (hk:d.kind=2) (hl:(l++qCp (ds.take a) d (qAk ds)).length≤90000):HoldsG cx 134 [.ptr 0 0 0, .p d.pv] (ckS ds a es l) (nQ ds a es (l++qCp (ds.take a) d (qAk ds))):=by
 obtain⟨R,hR⟩:∃ R,R=l++qCp (ds.take a) d (qAk ds):=⟨_,rfl⟩
 rw [← hR] at hl ⊢
 rw [qCp,if_neg (by omega),if_pos hk,← List.append_assoc,h.tk] at hR
 have hl1:(l++qBW (ds.take a) d).length≤90000:=by rw [hR,List.length_append] at hl;omega
 have hl2:l.length≤90000:=by rw [List.length_append] at hl1;omega
 have hT:=qMR l h d (hd.name (.inl hk)) (by omega)
 obtain⟨dk,dn,dnm,dpl,drs,dcs⟩:=d
 generalize l++qBW (ds.take a) ⟨dk,dn,dnm,dpl,drs,dcs⟩=L1 at hT hR hl1
 simp only [] at hR hT
 refine qAA Tryz.func134 rfl rfl rfl ?_
 refine(hT).holds.useT [] [] rfl (sk) (sk) fun e0 H0 hq=>?_
 obtain⟨rfl,rfl⟩:=hq
 refine⟨rfl,_,⟨5,(4,isO (L1))::(1,fmO es)::(0,ckO ds (a:Nat) 4 (L1).length)::[(3,dcO ⟨dk,dn,dnm,dpl,drs,dcs⟩)]⟩,rfl,rfl,?_⟩
 (first | refine qAO (fun h1=>?_) (fun h1=>?_) | refine qAP (fun h1=>?_) (fun h1=>?_) | refine qAQ (fun h1=>?_) (fun h1=>?_))
 ·have h1:dn<1:=h1
  rw [if_pos (.inl h1)] at hR
  refine(qCf ds a es (L1) 5 dnm (by first | omega | (simp only [List.length_append,List.length_cons,List.length_nil];omega))).holds.useT [5] [(2,4)] rfl (sk) ⟨_,_,rfl,⟨rfl,rfl⟩,_,_,rfl,rfl,_,_,rfl,⟨_,rfl,by show 0+1≤1;decide,rfl⟩,rfl⟩ fun e0 H0 hq=>?_
  obtain⟨rfl,rfl⟩:=hq
  refine⟨rfl,_,⟨7,(6,isO ((L1)++[Iss.mk 5 (a:Nat) dnm]))::(1,fmO es)::(0,ckO ds (a:Nat) 6 ((L1)++[Iss.mk 5 (a:Nat) dnm]).length)::[(5,sfO dnm),(3,dcO ⟨dk,dn,dnm,dpl,drs,dcs⟩)]⟩,rfl,rfl,?_⟩
  exact⟨[],[(3,6)],[], .returned und,ckT ds a es (L1++[Iss.mk 5 (a:Nat) dnm]),rfl,sk,sk,rfl,by rw [hR]⟩
 have h1:¬ dn<1:=h1
 (first | refine qAO (fun h2=>?_) (fun h2=>?_) | refine qAP (fun h2=>?_) (fun h2=>?_) | refine qAQ (fun h2=>?_) (fun h2=>?_))
 ·have h2:6<dn:=h2
  rw [if_pos (.inr h2)] at hR
  refine(qCf ds a es (L1) 5 dnm (by first | omega | (simp only [List.length_append,List.length_cons,List.length_nil];omega))).holds.useT [5] [(2,4)] rfl (sk) ⟨_,_,rfl,⟨rfl,rfl⟩,_,_,rfl,rfl,_,_,rfl,⟨_,rfl,by show 0+1≤1;decide,rfl⟩,rfl⟩ fun e0 H0 hq=>?_
  obtain⟨rfl,rfl⟩:=hq
  refine⟨rfl,_,⟨7,(6,isO ((L1)++[Iss.mk 5 (a:Nat) dnm]))::(1,fmO es)::(0,ckO ds (a:Nat) 6 ((L1)++[Iss.mk 5 (a:Nat) dnm]).length)::[(5,sfO dnm),(3,dcO ⟨dk,dn,dnm,dpl,drs,dcs⟩)]⟩,rfl,rfl,?_⟩
  exact⟨[],[(3,6)],[], .returned und,ckT ds a es (L1++[Iss.mk 5 (a:Nat) dnm]),rfl,sk,sk,rfl,by rw [hR]⟩
 ·have h2:¬ 6<dn:=h2
  rw [if_neg (by omega),List.append_nil] at hR
  exact⟨[],[(3,4)],[], .returned und,ckT ds a es (L1),rfl,sk,sk,rfl,by rw [hR]⟩
theorem qTN {ds:List De} {a:Nat} {es:List (List UInt8 × PV)} (l:List Iss) (h:CkS ds a es) (d:De) (hd:DcOK d) (hk:d.kind=4) (hl:(l++qCp (ds.take a) d (qAk ds)).length≤90000):HoldsG cx 136 [.ptr 0 0 0, .p d.pv] (ckS ds a es l) (nQ ds a es (l++qCp (ds.take a) d (qAk ds))):=by
 obtain⟨R,hR⟩:∃ R,R=l++qCp (ds.take a) d (qAk ds):=⟨_,rfl⟩
 rw [← hR] at hl ⊢
 rw [qCp,if_neg (by omega),if_neg (by omega),if_neg (by omega),if_pos hk,← List.append_assoc,← List.append_assoc] at hR
 have hl1:((l++qBW (ds.take a) d)++qGJ (ds.take a) d).length≤90000:=by rw [hR,List.length_append] at hl;omega
 have hl2:(l++qBW (ds.take a) d).length≤90000:=by rw [List.length_append] at hl1;omega
 have hl3:l.length≤90000:=by rw [List.length_append] at hl2;omega
 have hT:=qMR l h d (hd.ok.name (.inr (.inr hk))) (by omega)
 have hC:=qWV (l++qBW (ds.take a) d) h d (by omega)
 have hF:=qKT ((l++qBW (ds.take a) d)++qGJ (ds.take a) d) h d hd.ok.refs hd.refs (by omega)
 rw [← hR] at hF
 generalize (l++qBW (ds.take a) d)++qGJ (ds.take a) d=L2 at hC hF hl1
 generalize l++qBW (ds.take a) d=L1 at hT hC hl2
 clear hR hd hk
 obtain⟨dk,dn,dnm,dpl,drs,dcs⟩:=d
 refine qAA Tryz.func136 rfl rfl rfl ?_
 refine(hT).holds.useT [] [] rfl (sk) (sk) fun e0 H0 hq=>?_
 obtain⟨rfl,rfl⟩:=hq
 refine⟨rfl,_,⟨5,(4,isO (L1))::(1,fmO es)::(0,ckO ds (a:Nat) 4 (L1).length)::[(3,dcO ⟨dk,dn,dnm,dpl,drs,dcs⟩)]⟩,rfl,rfl,?_⟩
 refine(hC).holds.useT [] [(2,4)] rfl (sk) (sk) fun e0 H0 hq=>?_
 obtain⟨rfl,rfl⟩:=hq
 refine⟨rfl,_,⟨6,(5,isO (L2))::(1,fmO es)::(0,ckO ds (a:Nat) 5 (L2).length)::[(3,dcO ⟨dk,dn,dnm,dpl,drs,dcs⟩)]⟩,rfl,rfl,?_⟩
 refine(hF).holds.useT [] [(2,5)] rfl (sk) (sk) fun e0 H0 hq=>?_
 obtain⟨rfl,rfl⟩:=hq
 refine⟨rfl,_,⟨7,(6,isO (R))::(1,fmO es)::(0,ckO ds (a:Nat) 6 (R).length)::[(3,dcO ⟨dk,dn,dnm,dpl,drs,dcs⟩)]⟩,rfl,rfl,?_⟩
 exact⟨[],[(3,6)],[], .returned und,ckT ds a es R,rfl,sk,sk,rfl,rfl⟩
theorem qXr {ds:List De} {a:Nat} {es:List (List UInt8 × PV)} (l:List Iss) (h:CkS ds a es) (d:De) (hd:DcOK d) (hk:d.kind=5) (hl:(l++qCp (ds.take a) d (qAk ds)).length≤90000):HoldsG cx 137 [.ptr 0 0 0, .p d.pv] (ckS ds a es l) (nQ ds a es (l++qCp (ds.take a) d (qAk ds))):=by
 obtain⟨R,hR⟩:∃ R,R=l++qCp (ds.take a) d (qAk ds):=⟨_,rfl⟩
 rw [← hR] at hl ⊢
 rw [qCp,if_neg (by omega),if_neg (by omega),if_neg (by omega),if_neg (by omega),← List.append_assoc] at hR
 have hl1:(l++qC2 (ds.take a) d [] d.refs).length≤90000:=by rw [hR,List.length_append] at hl;omega
 have hl3:l.length≤90000:=by rw [List.length_append] at hl1;omega
 have hF:=qKT l h d hd.ok.refs hd.refs (by omega)
 have hC:=qVk (l++qC2 (ds.take a) d [] d.refs) h d (qAk ds) hk hd.refs hd.len hd.cases (by rw [← hR];omega)
 rw [← hR] at hC
 generalize l++qC2 (ds.take a) d [] d.refs=L1 at hC hF hl1
 clear hR hd hk
 obtain⟨dk,dn,dnm,dpl,drs,dcs⟩:=d
 refine qAA Tryz.func137 rfl rfl rfl ?_
 refine(hF).holds.useT [] [] rfl (sk) (sk) fun e0 H0 hq=>?_
 obtain⟨rfl,rfl⟩:=hq
 refine⟨rfl,_,⟨5,(4,isO (L1))::(1,fmO es)::(0,ckO ds (a:Nat) 4 (L1).length)::[(3,dcO ⟨dk,dn,dnm,dpl,drs,dcs⟩)]⟩,rfl,rfl,?_⟩
 refine(hC).holds.useT [] [(2,4)] rfl (sk) (sk) fun e0 H0 hq=>?_
 obtain⟨rfl,rfl⟩:=hq
 refine⟨rfl,_,⟨6,(5,isO (R))::(1,fmO es)::(0,ckO ds (a:Nat) 5 (R).length)::[(3,dcO ⟨dk,dn,dnm,dpl,drs,dcs⟩)]⟩,rfl,rfl,?_⟩
 exact⟨[],[(3,5)],[], .returned und,ckT ds a es R,rfl,sk,sk,rfl,rfl⟩
theorem qXV {ds:List De} {a:Nat} {es:List (List UInt8 × PV)} (l:List Iss) (h:CkS ds a es) (d:De) (hd:DcOK d) (hk:d.kind=3) (hpos:1≤ds.length) (hl:(l++qCp (ds.take a) d (qAk ds)).length≤90000):HoldsG cx 135 [.ptr 0 0 0, .p d.pv] (ckS ds a es l) (nQ ds a es (l++qCp (ds.take a) d (qAk ds))):=by
 obtain⟨R,hR⟩:∃ R,R=l++qCp (ds.take a) d (qAk ds):=⟨_,rfl⟩
 rw [← hR] at hl ⊢
 rw [qCp,if_neg (by omega),if_neg (by omega),if_pos hk,← List.append_assoc,← List.append_assoc,← List.append_assoc,← List.append_assoc] at hR
 obtain⟨L1,e1⟩:∃ L,L=l++qBW (ds.take a) d:=⟨_,rfl⟩
 obtain⟨L2,e2⟩:∃ L,L=L1++qIn (ds.take a) d:=⟨_,rfl⟩
 obtain⟨L3,e3⟩:∃ L,L=L2++qGJ (ds.take a) d:=⟨_,rfl⟩
 obtain⟨L4,e4⟩:∃ L,L=L3++qC2 (ds.take a) d [] d.refs:=⟨_,rfl⟩
 rw [← e1,← e2,← e3,← e4] at hR
 have hl4:L4.length≤90000:=by rw [hR,List.length_append] at hl;omega
 have hl3:L3.length≤90000:=by rw [e4,List.length_append] at hl4;omega
 have hl2:L2.length≤90000:=by rw [e3,List.length_append] at hl3;omega
 have hl1:L1.length≤90000:=by rw [e2,List.length_append] at hl2;omega
 have hl0:l.length≤90000:=by rw [e1,List.length_append] at hl1;omega
 obtain⟨g,hg⟩:∃ g,g=qAk ds:=⟨_,rfl⟩
 have hT:=qMR l h d (hd.ok.name (.inr (.inl hk))) (by omega)
 have hC:=qWV L2 h d (by omega)
 have hF:=qKT L3 h d hd.ok.refs hd.refs (by omega)
 have hX:=qVj L4 h d g (by omega) hd.refs hd.len hd.cases (by rw [hg,← hR];omega)
 rw [hg,← hR,← hg] at hX
 rw [← e1] at hT
 rw [← e3] at hC
 rw [← e4] at hF
 have h0:∃ t:De,(ds.map De.cells)[0]?=some t.cells∧g=if t.kind=1 then t.n else 0:=by
  cases ds with
  | nil=>cases hpos
  | cons t r=>exact⟨t,rfl,hg⟩
 clear hg
 obtain⟨⟨ek,en,enm,epl,ers,ecs⟩,h0,hg⟩:=h0
 simp only [] at hg
 clear hR e1 e3 e4 hk
 obtain⟨dk,dn,dnm,dpl,drs,dcs⟩:=d
 rw [qIn,h.tk] at e2
 simp only [] at e2
 by_cases hp:dpl=[]
 ·rw [if_pos hp,List.append_nil] at e2
  refine qAA Tryz.func135 rfl rfl rfl ?_
  refine(hT).holds.useT [] [] rfl (sk) (sk) fun e0 H0 hq=>?_
  obtain⟨rfl,rfl⟩:=hq
  refine⟨rfl,_,⟨5,(4,isO (L1))::(1,fmO es)::(0,ckO ds (a:Nat) 4 (L1).length)::[(3,dcO ⟨dk,dn,dnm,dpl,drs,dcs⟩)]⟩,rfl,rfl,?_⟩
  refine And.intro (fun _=>?_) (fun h=>absurd hp h)
  subst e2
  refine(hC).holds.useT [] [(2,4)] rfl (sk) (sk) fun e0 H0 hq=>?_
  obtain⟨rfl,rfl⟩:=hq
  refine⟨rfl,_,⟨6,(5,isO (L3))::(1,fmO es)::(0,ckO ds (a:Nat) 5 (L3).length)::[(3,dcO ⟨dk,dn,dnm,dpl,drs,dcs⟩)]⟩,rfl,rfl,?_⟩
  refine(hF).holds.useT [] [(2,5)] rfl (sk) (sk) fun e0 H0 hq=>?_
  obtain⟨rfl,rfl⟩:=hq
  refine⟨rfl,_,⟨7,(6,isO (L4))::(1,fmO es)::(0,ckO ds (a:Nat) 6 (L4).length)::[(3,dcO ⟨dk,dn,dnm,dpl,drs,dcs⟩)]⟩,rfl,rfl,?_⟩
  refine⟨_,⟨by decide,(De.mk ek en enm epl ers ecs).cells,h0,rfl⟩,?_⟩
  (first | refine qAO (fun e1=>?_) (fun e1=>?_) | refine qAP (fun e1=>?_) (fun e1=>?_) | refine qAQ (fun e1=>?_) (fun e1=>?_))
  ·have e1:ek=1:=e1
   rw [if_pos e1] at hg
   refine⟨_,⟨by decide,(De.mk ek en enm epl ers ecs).cells,h0,rfl⟩,?_⟩
   subst hg
   refine hX.holds.useT [] [(2,6),(4,7)] rfl (sk) (sk) fun e0 H0 hq=>?_
   obtain⟨rfl,rfl⟩:=hq
   refine⟨rfl,_,⟨9,(8,isO R)::(7,smO g)::(3,dcO ⟨dk,dn,dnm,dpl,drs,dcs⟩)::(1,fmO es)::(0,ckO ds (a:Nat) 8 R.length)::[]⟩,rfl,rfl,?_⟩
   exact⟨[],[(3,8)],[], .returned und,ckT ds a es R,rfl,sk,sk,rfl,rfl⟩
  ·have e1:¬ ek=1:=e1
   rw [if_neg e1] at hg
   subst hg
   refine hX.holds.useT [] [(2,6),(4,7)] rfl (sk) (sk) fun e0 H0 hq=>?_
   obtain⟨rfl,rfl⟩:=hq
   refine⟨rfl,_,⟨9,(8,isO R)::(7,smO 0)::(3,dcO ⟨dk,dn,dnm,dpl,drs,dcs⟩)::(1,fmO es)::(0,ckO ds (a:Nat) 8 R.length)::[]⟩,rfl,rfl,?_⟩
   exact⟨[],[(3,8)],[], .returned und,ckT ds a es R,rfl,sk,sk,rfl,rfl⟩
 rw [if_neg hp] at e2
 cases hv:qDE (ds.take a) dpl with
 | none=>
  have hf:=h.none hp hv
  rw [hv] at e2
  simp only [] at e2
  refine qAA Tryz.func135 rfl rfl rfl ?_
  refine(hT).holds.useT [] [] rfl (sk) (sk) fun e0 H0 hq=>?_
  obtain⟨rfl,rfl⟩:=hq
  refine⟨rfl,_,⟨5,(4,isO (L1))::(1,fmO es)::(0,ckO ds (a:Nat) 4 (L1).length)::[(3,dcO ⟨dk,dn,dnm,dpl,drs,dcs⟩)]⟩,rfl,rfl,?_⟩
  refine And.intro (fun h=>absurd h hp) (fun _=>?_)
  refine VDraw.seq rfl ?_
  refine⟨_, .inr ⟨hf,rfl⟩,?_⟩
  refine(qCf ds a es (L1) 3 dpl (by first | omega | (simp only [List.length_append,List.length_cons,List.length_nil];omega))).holds.useT [5] [(2,4)] rfl (sk) ⟨_,_,rfl,⟨rfl,rfl⟩,_,_,rfl,rfl,_,_,rfl,⟨_,rfl,by show 0+1≤1;decide,rfl⟩,rfl⟩ fun e0 H0 hq=>?_
  obtain⟨rfl,rfl⟩:=hq
  refine⟨rfl,_,⟨7,(6,isO ((L1)++[Iss.mk 3 (a:Nat) dpl]))::(1,fmO es)::(0,ckO ds (a:Nat) 6 ((L1)++[Iss.mk 3 (a:Nat) dpl]).length)::[(5,sfO dpl),(3,dcO ⟨dk,dn,dnm,dpl,drs,dcs⟩)]⟩,rfl,rfl,?_⟩
  rw [← e2]
  refine(hC).holds.useT [] [(2,6)] rfl (sk) (sk) fun e0 H0 hq=>?_
  obtain⟨rfl,rfl⟩:=hq
  refine⟨rfl,_,⟨8,(7,isO (L3))::(1,fmO es)::(0,ckO ds (a:Nat) 7 (L3).length)::[(5,sfO dpl),(3,dcO ⟨dk,dn,dnm,dpl,drs,dcs⟩)]⟩,rfl,rfl,?_⟩
  refine(hF).holds.useT [] [(2,7)] rfl (sk) (sk) fun e0 H0 hq=>?_
  obtain⟨rfl,rfl⟩:=hq
  refine⟨rfl,_,⟨9,(8,isO (L4))::(1,fmO es)::(0,ckO ds (a:Nat) 8 (L4).length)::[(5,sfO dpl),(3,dcO ⟨dk,dn,dnm,dpl,drs,dcs⟩)]⟩,rfl,rfl,?_⟩
  refine⟨_,⟨by decide,(De.mk ek en enm epl ers ecs).cells,h0,rfl⟩,?_⟩
  (first | refine qAO (fun e1=>?_) (fun e1=>?_) | refine qAP (fun e1=>?_) (fun e1=>?_) | refine qAQ (fun e1=>?_) (fun e1=>?_))
  ·have e1:ek=1:=e1
   rw [if_pos e1] at hg
   refine⟨_,⟨by decide,(De.mk ek en enm epl ers ecs).cells,h0,rfl⟩,?_⟩
   subst hg
   refine hX.holds.useT [] [(2,8),(4,9)] rfl (sk) (sk) fun e0 H0 hq=>?_
   obtain⟨rfl,rfl⟩:=hq
   refine⟨rfl,_,⟨11,(10,isO R)::(9,smO g)::(3,dcO ⟨dk,dn,dnm,dpl,drs,dcs⟩)::(1,fmO es)::(0,ckO ds (a:Nat) 10 R.length)::[(5,sfO dpl)]⟩,rfl,rfl,?_⟩
   exact⟨[],[(3,10)],[], .returned und,ckT ds a es R,rfl,sk,sk,rfl,rfl⟩
  ·have e1:¬ ek=1:=e1
   rw [if_neg e1] at hg
   subst hg
   refine hX.holds.useT [] [(2,8),(4,9)] rfl (sk) (sk) fun e0 H0 hq=>?_
   obtain⟨rfl,rfl⟩:=hq
   refine⟨rfl,_,⟨11,(10,isO R)::(9,smO 0)::(3,dcO ⟨dk,dn,dnm,dpl,drs,dcs⟩)::(1,fmO es)::(0,ckO ds (a:Nat) 10 R.length)::[(5,sfO dpl)]⟩,rfl,rfl,?_⟩
   exact⟨[],[(3,10)],[], .returned und,ckT ds a es R,rfl,sk,sk,rfl,rfl⟩
 | some t=>
  obtain⟨i,hf,hl,hc⟩:=h.some hp hv
  rw [hv] at e2
  obtain⟨tk,tn,tnm,tpl,trs,tcs⟩:=t
  simp only [] at e2
  refine qAA Tryz.func135 rfl rfl rfl ?_
  refine(hT).holds.useT [] [] rfl (sk) (sk) fun e0 H0 hq=>?_
  obtain⟨rfl,rfl⟩:=hq
  refine⟨rfl,_,⟨5,(4,isO (L1))::(1,fmO es)::(0,ckO ds (a:Nat) 4 (L1).length)::[(3,dcO ⟨dk,dn,dnm,dpl,drs,dcs⟩)]⟩,rfl,rfl,?_⟩
  refine And.intro (fun h=>absurd h hp) (fun _=>?_)
  refine VDraw.seq rfl ?_
  refine⟨_, .inl ⟨_,hf,rfl⟩,?_⟩
  refine⟨_,⟨by omega,(De.mk tk tn tnm tpl trs tcs).cells,hc,rfl⟩,?_⟩
  refine And.intro (fun k2=>?_) (fun k2=>?_)
  ·have k2:tk=2:=k2
   rw [if_pos k2,List.append_nil] at e2
   subst e2
   refine(hC).holds.useT [] [(2,4)] rfl (sk) (sk) fun e0 H0 hq=>?_
   obtain⟨rfl,rfl⟩:=hq
   refine⟨rfl,_,⟨6,(5,isO (L3))::(1,fmO es)::(0,ckO ds (a:Nat) 5 (L3).length)::[(3,dcO ⟨dk,dn,dnm,dpl,drs,dcs⟩)]⟩,rfl,rfl,?_⟩
   refine(hF).holds.useT [] [(2,5)] rfl (sk) (sk) fun e0 H0 hq=>?_
   obtain⟨rfl,rfl⟩:=hq
   refine⟨rfl,_,⟨7,(6,isO (L4))::(1,fmO es)::(0,ckO ds (a:Nat) 6 (L4).length)::[(3,dcO ⟨dk,dn,dnm,dpl,drs,dcs⟩)]⟩,rfl,rfl,?_⟩
   refine⟨_,⟨by decide,(De.mk ek en enm epl ers ecs).cells,h0,rfl⟩,?_⟩
   (first | refine qAO (fun e1=>?_) (fun e1=>?_) | refine qAP (fun e1=>?_) (fun e1=>?_) | refine qAQ (fun e1=>?_) (fun e1=>?_))
   ·have e1:ek=1:=e1
    rw [if_pos e1] at hg
    refine⟨_,⟨by decide,(De.mk ek en enm epl ers ecs).cells,h0,rfl⟩,?_⟩
    subst hg
    refine hX.holds.useT [] [(2,6),(4,7)] rfl (sk) (sk) fun e0 H0 hq=>?_
    obtain⟨rfl,rfl⟩:=hq
    refine⟨rfl,_,⟨9,(8,isO R)::(7,smO g)::(3,dcO ⟨dk,dn,dnm,dpl,drs,dcs⟩)::(1,fmO es)::(0,ckO ds (a:Nat) 8 R.length)::[]⟩,rfl,rfl,?_⟩
    exact⟨[],[(3,8)],[], .returned und,ckT ds a es R,rfl,sk,sk,rfl,rfl⟩
   ·have e1:¬ ek=1:=e1
    rw [if_neg e1] at hg
    subst hg
    refine hX.holds.useT [] [(2,6),(4,7)] rfl (sk) (sk) fun e0 H0 hq=>?_
    obtain⟨rfl,rfl⟩:=hq
    refine⟨rfl,_,⟨9,(8,isO R)::(7,smO 0)::(3,dcO ⟨dk,dn,dnm,dpl,drs,dcs⟩)::(1,fmO es)::(0,ckO ds (a:Nat) 8 R.length)::[]⟩,rfl,rfl,?_⟩
    exact⟨[],[(3,8)],[], .returned und,ckT ds a es R,rfl,sk,sk,rfl,rfl⟩
  ·have k2:¬ tk=2:=k2
   rw [if_neg k2] at e2
   refine(qCf ds a es (L1) 4 dpl (by first | omega | (simp only [List.length_append,List.length_cons,List.length_nil];omega))).holds.useT [5] [(2,4)] rfl (sk) ⟨_,_,rfl,⟨rfl,rfl⟩,_,_,rfl,rfl,_,_,rfl,⟨_,rfl,by show 0+1≤1;decide,rfl⟩,rfl⟩ fun e0 H0 hq=>?_
   obtain⟨rfl,rfl⟩:=hq
   refine⟨rfl,_,⟨7,(6,isO ((L1)++[Iss.mk 4 (a:Nat) dpl]))::(1,fmO es)::(0,ckO ds (a:Nat) 6 ((L1)++[Iss.mk 4 (a:Nat) dpl]).length)::[(5,sfO dpl),(3,dcO ⟨dk,dn,dnm,dpl,drs,dcs⟩)]⟩,rfl,rfl,?_⟩
   rw [← e2]
   refine(hC).holds.useT [] [(2,6)] rfl (sk) (sk) fun e0 H0 hq=>?_
   obtain⟨rfl,rfl⟩:=hq
   refine⟨rfl,_,⟨8,(7,isO (L3))::(1,fmO es)::(0,ckO ds (a:Nat) 7 (L3).length)::[(5,sfO dpl),(3,dcO ⟨dk,dn,dnm,dpl,drs,dcs⟩)]⟩,rfl,rfl,?_⟩
   refine(hF).holds.useT [] [(2,7)] rfl (sk) (sk) fun e0 H0 hq=>?_
   obtain⟨rfl,rfl⟩:=hq
   refine⟨rfl,_,⟨9,(8,isO (L4))::(1,fmO es)::(0,ckO ds (a:Nat) 8 (L4).length)::[(5,sfO dpl),(3,dcO ⟨dk,dn,dnm,dpl,drs,dcs⟩)]⟩,rfl,rfl,?_⟩
   refine⟨_,⟨by decide,(De.mk ek en enm epl ers ecs).cells,h0,rfl⟩,?_⟩
   (first | refine qAO (fun e1=>?_) (fun e1=>?_) | refine qAP (fun e1=>?_) (fun e1=>?_) | refine qAQ (fun e1=>?_) (fun e1=>?_))
   ·have e1:ek=1:=e1
    rw [if_pos e1] at hg
    refine⟨_,⟨by decide,(De.mk ek en enm epl ers ecs).cells,h0,rfl⟩,?_⟩
    subst hg
    refine hX.holds.useT [] [(2,8),(4,9)] rfl (sk) (sk) fun e0 H0 hq=>?_
    obtain⟨rfl,rfl⟩:=hq
    refine⟨rfl,_,⟨11,(10,isO R)::(9,smO g)::(3,dcO ⟨dk,dn,dnm,dpl,drs,dcs⟩)::(1,fmO es)::(0,ckO ds (a:Nat) 10 R.length)::[(5,sfO dpl)]⟩,rfl,rfl,?_⟩
    exact⟨[],[(3,10)],[], .returned und,ckT ds a es R,rfl,sk,sk,rfl,rfl⟩
   ·have e1:¬ ek=1:=e1
    rw [if_neg e1] at hg
    subst hg
    refine hX.holds.useT [] [(2,8),(4,9)] rfl (sk) (sk) fun e0 H0 hq=>?_
    obtain⟨rfl,rfl⟩:=hq
    refine⟨rfl,_,⟨11,(10,isO R)::(9,smO 0)::(3,dcO ⟨dk,dn,dnm,dpl,drs,dcs⟩)::(1,fmO es)::(0,ckO ds (a:Nat) 10 R.length)::[(5,sfO dpl)]⟩,rfl,rfl,?_⟩
    exact⟨[],[(3,10)],[], .returned und,ckT ds a es R,rfl,sk,sk,rfl,rfl⟩
set_option maxHeartbeats 4000000
theorem qNA {l:List (List UInt8)} {s:List UInt8} (h:inL l s=true):s∈l:=by
 induction l with
 | nil=>simp [inL] at h
 | cons x r ih=>
  simp only [inL,Bool.or_eq_true,decide_eq_true_eq] at h
  rcases h with rfl | h
  ·simp
  ·exact List.mem_cons_of_mem _ (ih h)
theorem qKw {k:Int} {t:List UInt8} (h:qAr k t=true):1≤t.length∧t.length≤10:=by
 have ne:∀ {t:List UInt8},t ≠ []→1≤t.length:=by intro t ht;cases t <;> simp at ht ⊢
 unfold qAr at h
 split at h
 ·simp [qBU] at h;exact⟨ne h.1.1.1.1,h.1.1.1.2⟩
 ·split at h
  ·exact(by decide:∀ t∈keysL,1≤t.length∧t.length≤10) t (qNA h)
  ·split at h
   ·simp [qQi] at h
    exact⟨ne h.1.1.1,by omega⟩
   ·split at h
    ·exact(by decide:∀ t∈marksL,1≤t.length∧t.length≤10) t (qNA h)
    ·cases h
structure JS where
 k:Nat
 a:Nat
 b:Nat
 lg:Nat
 n:Nat
 xs:List UInt8
 pre:List UInt8
structure JI where
 a:Nat
 b:Nat
 n:Nat
 xs:List UInt8
def tenL:List UInt8:=[48,49,50,51,52,53,54,55,56,57]
def qbz:Nat→Nat→List UInt8
 | 0,_=>[]
 | f+1,n=>if n<10 then [tenL.getD n 0] else qbz f (n / 10)++[tenL.getD (n % 10) 0]
structure Dr where
 kind:UInt8
 which:UInt8
 letters:List UInt8
 n:UInt16
 down:UInt8
 over:UInt8
abbrev Dr.cells (d:Dr):List PV:=[u8 d.kind,u8 d.which, .lst (d.letters.map u8), .int .u16 (d.n.toNat:Int),u8 d.down,u8 d.over]
def qbo (d:Dr):Prop:=0<d.down.toNat % 3∧d.down.toNat<100
instance (d:Dr):Decidable (qbo d):=inferInstanceAs (Decidable (_∧_))
def colD (d:Dr) (c:Nat):Nat:=(if qbo d then 1 else c)+d.over.toNat % 4
structure WS where
 k:Nat
 a:Nat
 b:Nat
 out:List Wd
def qcM (c:UInt8):Prop:=c.toNat=32∨c.toNat=10
def qal (r:List UInt8):Bool:=match r with
 | []=>true
 | c::_=>!(decide (c.toNat=32) || decide (c.toNat=10)) && !List.isPrefixOf [45,45] r && !List.isPrefixOf [40,42] r
def qZ8 (g r:List UInt8):Prop:=∀ f,(g++r).length≤f→qCI f (g++r)=.inl g.length
def qZb (c:UInt8):Prop:=qcM c∨c.toNat=40
inductive Fol:List UInt8→List UInt8→Prop
 | nil (a:List UInt8):Fol a []
 | bl (a:List UInt8) (c:UInt8) (b:List UInt8) (h:qZb c):Fol a (c::b)
 | same (c:UInt8) (a b:List UInt8):Fol (c::a) (c::b)
inductive Lay:Nat × Nat→List UInt8→List Wd→List UInt8→Prop
 | nil (p:Nat × Nat) (suf:List UInt8):Lay p [] [] suf
 | cons {p:Nat × Nat} {g T:List UInt8} {w:Wd} {ws:List Wd} {suf:List UInt8} {l c:Nat} (hsk:qZ8 g (w.text++(T++suf))) (h1:qCl (w.text++(T++suf))=(w.kind,w.text)) (hr:qAr w.kind w.text=true)
   (hp:qTf p g=(l,c)) (hl:w.line=l) (hc:w.col=c) (h:Lay (l,c+w.text.length) T ws suf):Lay p (g++(w.text++T)) (w::ws) suf
theorem Lay.len {p:Nat × Nat} {T:List UInt8} {ws:List Wd} {suf:List UInt8} (h:Lay p T ws suf):ws.length≤T.length:=by
 induction h with
 | nil=>simp
 | cons hsk h1 hr hp hl hc h ih=>
  have:=qKw hr
  simp only [List.length_cons,List.length_append]
  omega
abbrev qQV:=List (List UInt8)
def qYk (n:Int):List UInt8:=qbz 4 n.toNat
def qak (r:Rf):qQV:=if r.mode=3 then [tLB,qPn,tRB] else if r.mode=2 then [tLB,qYk r.n,tRB] else if r.mode=1 then(if 0<r.n then [tLB,r.plate,qRK,qYk r.n,tRB] else [tLB,r.plate,tRB]) else []
def qau (r:Rf):qQV:=r.name::qak r
def qb5 {α:Type} (f:α→qQV):List α→qQV
 | []=>[]
 | a::r=>f a++r.flatMap fun b=>qHT::f b
def qbk (k:Int):List UInt8:=if k=1 then tEq else if k=2 then tNe else if k=3 then tLt else tLe
def lvl (op:Int):Nat:=if op=9 then 1 else if op=8 then 2 else if op=7 then 3 else 4
def inT (k:Nat) (p:Int × qQV):qQV:=if lvl p.1<k then tLP::(p.2++[tRP]) else p.2
def qbD (op n rel val:Int) (r:Rf) (st:List Int):qQV:=
 if op=6 then [qIZ,tLP]++(qau r++[tEq,qYk val,tRP,qbk rel,qYk n])
 else if op=5 then qau r++([tIn,tLC]++(qb5 (fun n=>[qYk n]) st++[tRC]))
 else qau r++[qbk op,qYk n]
def qbF (op n rel val:Int) (r:Rf) (st:List Int) (ps:List (Int × qQV)):qQV:=
 if op=9 then inT 1 (ps.getD 0 (0,[]))++tOr::inT 2 (ps.getD 1 (0,[]))
 else if op=8 then inT 2 (ps.getD 0 (0,[]))++qV1::inT 3 (ps.getD 1 (0,[]))
 else if op=7 then qYT::inT 3 (ps.getD 0 (0,[]))
 else qbD op n rel val r st
def Cd.op:Cd→Int
 | .mk op _ _ _ _ _ _=>op
mutual
def qX1:Cd→qQV
 | .mk op n rel val r st ar=>qbF op n rel val r st (qWT ar)
def qWT:List Cd→List (Int × qQV)
 | []=>[]
 | c::r=>(c.op,qX1 c)::qWT r
end
def qDL (k:Nat) (c:Cd):qQV:=inT k (c.op,qX1 c)
end Go.Proofs.YtkegmchjobphdaaGreatDoor
namespace Go.Proofs.YtkegmchjobphdaaGreatDoor
open Go Y
set_option maxRecDepth 100000
set_option maxHeartbeats 4000000
structure DigOK (t:List UInt8) (n:Nat) (f:Nat):Prop where
 ne:t ≠ []
 len:t.length≤f
 dig:∀ c∈t,48≤c.toNat∧c.toNat≤57
 zero:n=0→t=[48]
 head:0<n→(t.headD 0).toNat ≠ 48
 val:qQd t=n
def AtW (ws:List Wd):Nat→qQV→Prop
 | _,[]=>True
 | q,t::r=>txt ws q=t∧AtW ws (q+1) r
theorem qEK {t:List UInt8} (h:qBU t=true):t ≠ []∧inL keysL t=false∧qQi t=false∧inL marksL t=false:=by
 simp only [qBU,Bool.and_eq_true,decide_eq_true_eq,Bool.not_eq_true'] at h
 obtain⟨⟨⟨⟨h1,h2⟩,h3⟩,h4⟩,h5⟩:=h
 refine⟨h1,h5,?_,?_⟩
 ·cases e:qQi t with
  | false=>rfl
  | true=>
   exfalso
   have hd:=(qMo e).2
   cases t with
   | nil=>exact h1 rfl
   | cons c r=>
    have:=hd c (List.mem_cons_self ..)
    have h3:isLet c=true:=h3
    simp only [isLet,Bool.or_eq_true,Bool.and_eq_true,decide_eq_true_eq] at h3
    omega
 ·cases e:inL marksL t with
  | false=>rfl
  | true=>
   exfalso
   have key:∀ s∈marksL,isLet (s.headD 0)=false:=by decide
   rw [key t (qNA e)] at h3
   cases h3
section
variable {ws:List Wd} (hg:GoodW ws)
include hg
end
end Go.Proofs.YtkegmchjobphdaaGreatDoor
namespace Go.Proofs.YtkegmchjobphdaaGreatDoor
open Go Y
set_option maxRecDepth 100000
set_option maxHeartbeats 4000000
def qaB (t:List UInt8):Prop:=qBU t=true∨t=qYT∨t=tLP∨t=qIZ
structure CB (ws:List Wd) (c:Cd):Prop where
 neg:∀ F q,4 * (ws.length - q)+2≤F→AtW ws q (qDL 3 c)→qJw ws F q=.inr (c,q+(qDL 3 c).length)
 conj:∀ F q,4 * (ws.length - q)+3≤F→AtW ws q (qDL 2 c)→∃ f,4 * (ws.length - (q+(qDL 2 c).length))+1≤f∧qDb ws F q=qTc ws f c (q+(qDL 2 c).length)
 cond:∀ F q,4 * (ws.length - q)+4≤F→AtW ws q (qDL 1 c)→¬ txt ws (q+(qDL 1 c).length)=qV1→∃ f,4 * (ws.length - (q+(qDL 1 c).length))+1≤f∧qDm ws F q=orR ws f c (q+(qDL 1 c).length)
 head:∃ t r,qX1 c=t::r∧qaB t
section
variable {ws:List Wd} (hg:GoodW ws)
end
end Go.Proofs.YtkegmchjobphdaaGreatDoor
namespace Go.Proofs.YtkegmchjobphdaaGreatDoor
open Go Y
set_option maxRecDepth 100000
set_option maxHeartbeats 4000000
theorem qLR {f:Nat→Cd→Option Nat}:∀ {ar:List Cd} {l k:Nat},ar.foldlM f l=some k→∀ c∈ar,∃ a b,f a c=some b
 | [],_,_,_,c,hc=>by simp at hc
 | x::ar,l,k,h,c,hc=>by
  rw [List.foldlM_cons] at h
  cases hx:f l x with
  | none=>rw [hx] at h;cases h
  | some m=>
   rw [hx] at h
   rcases List.mem_cons.1 hc with rfl | hc
   ·exact⟨l,m,hx⟩
   ·exact qLR (ar:=ar) h c hc
theorem qIo {n rel val:Int} {r:Rf} {st:List Int} (h:qCd n rel val r st=true):n=0∧rel=0∧val=0∧r=rf0∧st=[]:=by
 simp only [qCd,Bool.and_eq_true,decide_eq_true_eq] at h
 exact⟨h.1.1.1.1,h.1.1.1.2,h.1.1.2,h.1.2,h.2⟩
theorem qbq {α:Type} {l:List α} (h:l.length=2):∃ a b,l=[a,b]:=by
 rcases l with _ | ⟨a,_ | ⟨b,_ | ⟨c,l⟩⟩⟩
 ·cases h
 ·cases h
 ·exact⟨a,b,rfl⟩
 ·simp only [List.length_cons] at h;omega
theorem qcL {α:Type} {l:List α} (h:l.length=1):∃ a,l=[a]:=by
 rcases l with _ | ⟨a,_ | ⟨b,l⟩⟩
 ·cases h
 ·exact⟨a,rfl⟩
 ·simp only [List.length_cons] at h;omega
inductive Sh (P:Cd→Prop):Cd→Prop
 | leaf (op n rel val:Int) (r:Rf) (st:List Int) (h7:¬ op=7) (h8:¬ op=8) (h9:¬ op=9) (h:qAy op n rel val r st=true):Sh P (.mk op n rel val r st [])
 | neg (a:Cd) (h:P a):Sh P (.mk 7 0 0 0 rf0 [] [a])
 | conj (a b:Cd) (ha:P a) (hb:P b):Sh P (.mk 8 0 0 0 rf0 [] [a,b])
 | disj (a b:Cd) (ha:P a) (hb:P b):Sh P (.mk 9 0 0 0 rf0 [] [a,b])
theorem qQQ {d:Nat} {c:Cd} {left k:Nat} (h:qA6 (d+1) c left=some k):Sh (fun a=>∃ l k,qA6 d a l=some k) c:=by
 obtain⟨op,n,rel,val,r,st,ar⟩:=c
 rw [qA6] at h
 split at h
 ·cases h
 ·split at h
  ·rename_i hh
   have hm:=qLR h
   unfold qAd at hh
   split at hh
   ·rename_i h0
    simp only [Bool.and_eq_true,decide_eq_true_eq] at hh
    have:ar=[]:=List.length_eq_zero_iff.1 hh.2
    subst this
    unfold qAe at h0
    refine .leaf op n rel val r st ?_ ?_ ?_ hh.1
    ·rintro rfl;cases h0
    ·rintro rfl;cases h0
    ·rintro rfl;cases h0
   ·rename_i h0
    simp only [Bool.and_eq_true,decide_eq_true_eq] at hh
    obtain⟨hk,hp⟩:=hh
    obtain⟨rfl,rfl,rfl,rfl,rfl⟩:=qIo hp
    unfold qAe at h0 hk
    by_cases c7:op=7
    ·subst c7
     obtain⟨a,rfl⟩:=qcL hk
     exact .neg a (hm a (by simp))
    ·rw [if_neg c7] at h0 hk
     by_cases c8:op=8
     ·subst c8
      obtain⟨a,b,rfl⟩:=qbq hk
      exact .conj a b (hm a (by simp)) (hm b (by simp))
     ·by_cases c9:op=9
      ·subst c9
       obtain⟨a,b,rfl⟩:=qbq hk
       exact .disj a b (hm a (by simp)) (hm b (by simp))
      ·rw [if_neg (by omega)] at h0
       exact absurd rfl h0
  ·cases h
theorem Sh.mono {P Q:Cd→Prop} {c:Cd} (h:Sh P c) (hpq:∀ a,P a→Q a):Sh Q c:=by
 cases h with
 | leaf op n rel val r st h7 h8 h9 h=>exact .leaf op n rel val r st h7 h8 h9 h
 | neg a h=>exact .neg a (hpq a h)
 | conj a b ha hb=>exact .conj a b (hpq a ha) (hpq b hb)
 | disj a b ha hb=>exact .disj a b (hpq a ha) (hpq b hb)
section
variable {ws:List Wd} (hg:GoodW ws)
include hg
end
end Go.Proofs.YtkegmchjobphdaaGreatDoor
namespace Go.Proofs.YtkegmchjobphdaaGreatDoor
open Go Y
set_option maxRecDepth 100000
set_option maxHeartbeats 4000000
theorem qU6 {c:Cd} (h:qFa c=true):c=cd0:=by
 obtain⟨op,n,rel,val,r,st,ar⟩:=c
 simp only [qFa,Bool.and_eq_true,decide_eq_true_eq] at h
 obtain⟨⟨rfl,h2⟩,h3⟩:=h
 obtain⟨rfl,rfl,rfl,rfl,rfl⟩:=qIo h2
 have:ar=[]:=List.length_eq_zero_iff.1 h3
 subst this
 rfl
theorem qP3 {l:List Int} (h:qEo l=true):l ≠ []∧l.length≤8∧∀ n∈l,qTu n=true:=by
 simp only [qEo,Bool.and_eq_true,decide_eq_true_eq,List.all_eq_true] at h
 exact⟨fun e=>by rw [e] at h;exact absurd h.1.1 (by decide),h.1.2,h.2⟩
section
variable {ws:List Wd} (hg:GoodW ws)
include hg
end
end Go.Proofs.YtkegmchjobphdaaGreatDoor
namespace Go.Proofs.YtkegmchjobphdaaGreatDoor
open Go Y
set_option maxRecDepth 100000
set_option maxHeartbeats 4000000
structure GapOK (g:List UInt8):Prop where
 sep:∃ c r,g=c::r∧qZb c
 skip:∀ r,qal r=true→qZ8 g r
def qZ6 (t:List UInt8):Prop:=∃ k,qAr k t=true
theorem qUU {t:List UInt8} (h:qBU t=true):qZ6 t:=⟨1,h⟩
inductive ShN (P:Nat→Cd→Nat→Prop):Nat→Cd→Nat→Prop
 | leaf (op n rel val:Int) (r:Rf) (st:List Int) (l:Nat) (h7:¬ op=7) (h8:¬ op=8) (h9:¬ op=9) (h:qAy op n rel val r st=true):ShN P (l+1) (.mk op n rel val r st []) l
 | neg (a:Cd) (l k:Nat) (h:P l a k):ShN P (l+1) (.mk 7 0 0 0 rf0 [] [a]) k
 | conj (a b:Cd) (l m k:Nat) (ha:P l a m) (hb:P m b k):ShN P (l+1) (.mk 8 0 0 0 rf0 [] [a,b]) k
 | disj (a b:Cd) (l m k:Nat) (ha:P l a m) (hb:P m b k):ShN P (l+1) (.mk 9 0 0 0 rf0 [] [a,b]) k
theorem qWz {t:List UInt8} (h:qZ6 t):1≤t.length∧t.length≤10:=by
 obtain⟨k,h⟩:=h
 exact qKw h
theorem qPl {ds:List De} (h:qBq ds=true):ds.length≤30∧∀ d∈ds,declB d=true:=by
 simp only [qBq,Bool.and_eq_true,decide_eq_true_eq,List.all_eq_true] at h
 exact h
theorem name_len {t:List UInt8} (h:qBU t=true):t.length≤10:=(qWz (qUU h)).2
theorem qM3 {op n rel val:Int} {r:Rf} {st:List Int} (hb:qAy op n rel val r st=true):qE8 r=true∧(op=6→qGZ n=true∧qGZ val=true∧1≤rel∧rel≤4)∧(op=5→qQe st=true)∧(¬ op=5→¬ op=6→qGZ n=true∧1≤op∧op≤4):=by
 unfold qAy at hb
 by_cases c6:op=6
 ·rw [if_neg (by omega),if_neg (by omega),if_pos c6] at hb
  simp only [Bool.and_eq_true,decide_eq_true_eq] at hb
  obtain⟨⟨⟨⟨⟨⟨b1,b2⟩,b3⟩,b4⟩,b5⟩,b6⟩,b7⟩:=hb
  exact⟨b1,fun _=>⟨b3,b4,b5,b6⟩,fun h=>by omega,fun _ h=>absurd c6 h⟩
 ·by_cases c5:op=5
  ·rw [if_neg (by omega),if_pos c5] at hb
   simp only [Bool.and_eq_true,decide_eq_true_eq] at hb
   obtain⟨⟨⟨⟨b1,b2⟩,b3⟩,b4⟩,b5⟩:=hb
   exact⟨b1,fun h=>absurd h c6,fun _=>b5,fun h=>absurd c5 h⟩
  ·by_cases c1:op=1∨op=2∨op=3∨op=4
   ·rw [if_pos c1] at hb
    simp only [Bool.and_eq_true,decide_eq_true_eq] at hb
    exact⟨hb.1.1.1.1,fun h=>absurd h c6,fun h=>absurd h c5,fun _ _=>⟨hb.1.1.1.2,by omega,by omega⟩⟩
   ·rw [if_neg c1,if_neg c5,if_neg c6] at hb
    cases hb
theorem qHn {r:Rf} (h:qE8 r=true):r.name ≠ []:=by
 rw [qE8,Bool.and_eq_true] at h
 exact(qEK h.1).1
theorem qVI {op n rel val:Int} {r:Rf} {st:List Int} (h:qAy op n rel val r st=true):r.name ≠ []∧(op=5→1≤st.length)∧st.length≤100:=by
 have hf:=qM3 h
 refine⟨qHn hf.1,fun h5=>?_,?_⟩
 ·have:=hf.2.2.1 h5
  simp only [qQe,Bool.and_eq_true,decide_eq_true_eq] at this
  omega
 ·by_cases h5:op=5
  ·have:=hf.2.2.1 h5
   simp only [qQe,Bool.and_eq_true,decide_eq_true_eq] at this
   omega
  ·unfold qAy at h
   split at h
   ·simp only [Bool.and_eq_true,decide_eq_true_eq] at h
    rw [h.2];decide
   ·split at h
    ·simp only [Bool.and_eq_true,decide_eq_true_eq] at h
     rw [h.2];decide
    ·cases h
theorem qPk:∀ (d:Nat) (c:Cd) (left k:Nat),qA6 d c left=some k→qQm c
 | 0,_,_,_,h=>by rw [qA6] at h;cases h
 | d+1,c,left,k,h=>by
  have hs:=qQQ h
  cases hs with
  | leaf op n rel val r st h7 h8 h9 hb=>
   rw [qQm]
   exact⟨⟨fun _=>.inr (qVI hb),fun _=>rfl⟩,by decide,by rw [qFw];trivial⟩
  | neg a ha=>
   obtain⟨l,k,ha⟩:=ha
   rw [qQm,qFw,qFw]
   exact⟨⟨(fun h=>by cases h),fun h=>absurd h (by decide)⟩,by show 1≤100;decide,qPk d a l k ha,trivial⟩
  | conj a b ha hb=>
   obtain⟨l,k,ha⟩:=ha
   obtain⟨l',k',hb⟩:=hb
   rw [qQm,qFw,qFw,qFw]
   exact⟨⟨(fun h=>by cases h),fun h=>absurd h (by decide)⟩,by show 2≤100;decide,qPk d a l k ha,qPk d b l' k' hb,trivial⟩
  | disj a b ha hb=>
   obtain⟨l,k,ha⟩:=ha
   obtain⟨l',k',hb⟩:=hb
   rw [qQm,qFw,qFw,qFw]
   exact⟨⟨(fun h=>by cases h),fun h=>absurd h (by decide)⟩,by show 2≤100;decide,qPk d a l k ha,qPk d b l' k' hb,trivial⟩
theorem qYt:qQm cd0:=by
 rw [cd0,qQm,qFw]
 exact⟨⟨fun _=>.inl rfl,fun _=>rfl⟩,by decide,trivial⟩
theorem qOZ {l:List Int} (h:qEo l=true):(∀ x∈l,-9999≤x∧x≤9999)∧l.length≤100:=by
 obtain⟨_,h2,h3⟩:=qP3 h
 refine⟨fun x hx=>?_,by omega⟩
 have:=h3 x hx
 simp only [qTu,Bool.and_eq_true,decide_eq_true_eq] at this
 exact this
structure CaV (c:Cs):Prop where
 ok:CaOK c
 one:∀ l d,(qBR l d c.cond).length≤30
theorem qOc (k a:Int) (nm:List UInt8):(qFY k a nm).length≤1:=by
 unfold qFY
 split <;> simp
mutual
theorem qLl (l:List De) (x:De):∀ (d:Nat) (c:Cd) (left k:Nat),qA6 d c left=some k→(qBR l x c).length+k≤left
 | 0,_,_,_,h=>by rw [qA6] at h;cases h
 | d+1, .mk op n rel val r st [],left,k,h=>by
  rw [qA6] at h
  split at h
  ·cases h
  ·split at h
   ·rw [List.foldlM_nil] at h
    injection h with h
    rw [qBR]
    split
    ·simp;omega
    ·have:=qOc (qEc l x op n val r st) l.length r.name
     omega
   ·cases h
 | d+1, .mk op n rel val r st (a::az),left,k,h=>by
  rw [qA6] at h
  split at h
  ·cases h
  ·split at h
   ·have:=qJG l x d (a::az) (left - 1) k h
    rw [qBO] at this
    rw [qBR];omega
   ·cases h
theorem qJG (l:List De) (x:De):∀ (d:Nat) (az:List Cd) (left k:Nat),az.foldlM (fun l c=>qA6 d c l) left=some k→(qBO l x az).length+k≤left
 | d,[],left,k,h=>by
  rw [List.foldlM_nil] at h
  injection h with h
  rw [qBO];simp;omega
 | d,a::az,left,k,h=>by
  rw [List.foldlM_cons] at h
  cases hc:qA6 d a left with
  | none=>rw [hc] at h;cases h
  | some m=>
   rw [hc] at h
   have h1:=qLl l x d a left m hc
   have h2:=qJG l x d az m k h
   rw [qBO,List.length_append];omega
end
theorem qLp:∀ {l:List Cs},qBw l=true→∀ c∈l,CaV c
 | [],_,c,hc=>by cases hc
 | [x],h,c,hc=>by
  simp only [qBw,Bool.and_eq_true] at h
  rw [List.mem_singleton.1 hc]
  have hn:=qOZ h.1
  have hz:=qU6 h.2
  exact⟨⟨by rw [hz];exact qYt,hn.1,hn.2⟩,fun l d=>by rw [hz,cd0,qBR];simp⟩
 | x::y::r,h,c,hc=>by
  simp only [qBw,Bool.and_eq_true] at h
  obtain⟨⟨h1,h0⟩,h2⟩:=h
  rcases List.mem_cons.1 hc with rfl | hc
  ·have hn:=qOZ h1
   obtain⟨k,hk⟩:=Option.isSome_iff_exists.1 h0
   exact⟨⟨qPk 8 c.cond 30 k hk,hn.1,hn.2⟩,fun l d=>by have:=qLl l d 8 c.cond 30 k hk;omega⟩
  ·exact qLp (l:=y::r) h2 c hc
theorem qLq {l:List Cs} (h:casesB l=true):l.length≤12∧∀ c∈l,CaV c:=by
 simp only [casesB,Bool.and_eq_true,decide_eq_true_eq] at h
 exact⟨h.1.2,qLp h.2⟩
structure DcV (d:De):Prop where
 ok:DcOK d
 n:0≤d.n∧d.n≤9999
 refs:d.refs.length≤8
 few:d.cases.length≤12
 cases:∀ c∈d.cases,CaV c
theorem qVg {d:De} (h:declB d=true):DcV d:=by
 simp only [declB,Bool.and_eq_true,decide_eq_true_eq,List.all_eq_true] at h
 obtain⟨⟨⟨h1,h2⟩,h3⟩,h4⟩:=h
 have hn:0≤d.n∧d.n≤9999:=by
  simp only [qGZ,Bool.and_eq_true,decide_eq_true_eq] at h1;exact h1
 have hr:∀ r∈d.refs,r.name ≠ []:=fun r hr=>qHn (h3 r hr)
 have key:∀ (hk:d.kind=1∨d.kind=2∨d.kind=3∨d.kind=4∨d.kind=5) (hb:d.kind=1∨d.kind=5→d.name=[]) (hm:d.kind=2∨d.kind=3∨d.kind=4→d.name ≠ []) (hp:¬ d.kind=3→d.plate=[]) (hc:d.cases.length≤12∧∀ c∈d.cases,CaV c),DcV d:=fun hk hb hm hp hc=>
  ⟨⟨⟨hk,hb,hm,hp,hr⟩,by omega,by have:=hc.1;omega,fun c hx=>(hc.2 c hx).ok⟩,hn,h2,hc.1,hc.2⟩
 have h0:d.cases.length=0→d.cases.length≤12∧∀ c∈d.cases,CaV c:=fun e=>⟨by omega,fun c hc=>by rw [List.eq_nil_of_length_eq_zero e] at hc;cases hc⟩
 unfold qBo at h4
 split at h4
 ·rename_i k
  simp only [Bool.and_eq_true,decide_eq_true_eq] at h4
  exact key (.inl k) (fun _=>h4.1.1.1) (fun h=>by omega) (fun _=>h4.1.1.2) (h0 h4.2)
 ·split at h4
  ·rename_i k
   simp only [Bool.and_eq_true,decide_eq_true_eq] at h4
   exact key (.inr (.inl k)) (fun h=>by omega) (fun _=>(qEK h4.1.1.1).1) (fun _=>h4.1.1.2) (h0 h4.2)
  ·split at h4
   ·rename_i k
    simp only [Bool.and_eq_true,Bool.or_eq_true,decide_eq_true_eq] at h4
    exact key (.inr (.inr (.inl k))) (fun h=>by omega) (fun _=>(qEK h4.1.1).1) (fun h=>absurd k h) (qLq h4.2)
   ·split at h4
    ·rename_i k
     simp only [Bool.and_eq_true,decide_eq_true_eq] at h4
     exact key (.inr (.inr (.inr (.inl k)))) (fun h=>by omega) (fun _=>(qEK h4.1.1).1) (fun _=>h4.1.2) (h0 h4.2)
    ·split at h4
     ·rename_i k
      simp only [Bool.and_eq_true,decide_eq_true_eq] at h4
      exact key (.inr (.inr (.inr (.inr k)))) (fun _=>h4.1.1.2) (fun h=>by omega) (fun _=>h4.1.2) (qLq h4.2)
     ·cases h4
theorem qHN {ds:List De} (h:qBq ds=true):ds.length≤30∧∀ d∈ds,DcV d:=by
 obtain⟨h1,h2⟩:=qPl h
 exact⟨h1,fun d hd=>qVg (h2 d hd)⟩
theorem qKx (l:List De) (d:De):∀ (rs done:List Rf),(qC2 l d done rs).length≤2 * rs.length
 | [],_=>by rw [qC2];simp
 | r::rs,done=>by
  have h1:=qKx l d rs (done++[r])
  have h2:=qOc (qK0 l d r) l.length r.name
  rw [qC2,List.length_append,List.length_append,List.length_cons]
  have h3:(if r∈done then [(⟨2,l.length,r.name⟩:Iss)] else []).length≤1:=by split <;> simp
  omega
theorem qJJ (l:List De) (d:De) (g:Int):∀ cs:List Cs,(∀ c∈cs,CaV c)→(casesI l d g cs).length≤31 * cs.length
 | [],_=>by show 0≤_;omega
 | c::cs,h=>by
  have h1:=qJJ l d g cs fun x hx=>h x (List.mem_cons_of_mem _ hx)
  have h2:=(h c (List.mem_cons_self ..)).one l d
  have h3:(if qL9 d c.nums g=true then [] else [(⟨9,l.length,[]⟩:Iss)]).length≤1:=by split <;> simp
  rw [qE0,List.length_append,List.length_append,List.length_cons]
  omega
theorem qU3 (l:List De) {d:De} (g:Int) (h:DcV d):(qCp l d g).length≤400:=by
 have h1:=qKx l d d.refs []
 have h2:=qJJ l d g d.cases h.cases
 have h3:(qBW l d).length≤1:=by unfold qBW;split <;> simp
 have h4:(qGJ l d).length≤1:=by unfold qGJ;split <;> simp
 have h5:(qIn l d).length≤1:=by unfold qIn;repeat' (first | (split;rotate_left) | simp)
 have r1:=h.refs
 have r2:=h.few
 unfold qCp
 repeat' split
 all_goals simp only [List.length_append,List.length_cons,List.length_nil]
 all_goals omega
theorem qLb (g:Int):∀ (r l:List De),(∀ d∈r,DcV d)→(qCE g l r).length≤400 * r.length
 | [],_,_=>by rw [qCE];simp
 | d::r,l,h=>by
  have h1:=qLb g r (l++[d]) fun x hx=>h x (List.mem_cons_of_mem _ hx)
  have h2:=qU3 l g (h d (List.mem_cons_self ..))
  rw [qCE,List.length_append,List.length_cons];omega
theorem qSm (ds:List De):(qEw ds).length≤1:=by
 unfold qEw
 split
 ·simp
 ·split <;> simp
set_option maxHeartbeats 40000000
theorem qK6 {W N m:Nat} {q:Int} (hW:W≤4 ^ N) (hN:N+m≤8) (hq:1≤m→2≤q∧q≤4) (j:Nat) (hj:j≤m):0≤(W:Int) * q ^ j∧(W:Int) * q ^ j≤65536:=by
 have h8:4 ^ N * 4 ^ j≤65536:=by
  rw [← Nat.pow_add]
  exact Nat.le_trans (Nat.pow_le_pow_right (by decide) (show N+j≤8 by omega)) (by decide)
 by_cases h0:j=0
 ·subst h0
  rw [Int.pow_zero,Int.mul_one]
  rw [Nat.pow_zero,Nat.mul_one] at h8
  omega
 ·obtain⟨c,rfl⟩:∃ c:Nat,q=c:=⟨q.toNat,by have:=hq (by omega);omega⟩
  have hc:c≤4:=by have:=hq (by omega);omega
  have h1:W * c ^ j≤65536:=Nat.le_trans (Nat.mul_le_mul hW (Nat.pow_le_pow_left hc j)) h8
  have e:(W:Int) * (c:Int) ^ j=((W * c ^ j:Nat):Int):=by rw [Int.natCast_mul,Int.natCast_pow]
  rw [e];omega
theorem qKe:∀ (r l:List De),(∀ d∈r,d.kind=3∨d.kind=4→d.n≤4)→qAf l r≤4 ^ qAT l r
 | [],l,_=>Nat.le_refl _
 | d::r,l,h=>by
  rw [qAf,qAT,Nat.pow_add]
  refine Nat.mul_le_mul ?_ (qKe r _ fun x hx=>h x (List.mem_cons_of_mem _ hx))
  by_cases hk:d.kind=3∨d.kind=4
  ·have:=h d (List.mem_cons_self ..) hk
   exact Nat.pow_le_pow_left (by omega) _
  ·have:qVE l d=0:=by
    unfold qVE
    rw [if_neg (by omega),if_neg (by omega)]
   rw [this];exact Nat.le_refl _
theorem qQN {ds:List De} {k:Nat} (hk:k<ds.length):qAT [] (ds.take (k+1))=qAT [] (ds.take k)+qVE (ds.take k) (ds.getD k de0)∧qAf [] (ds.take (k+1))=qAf [] (ds.take k) * (ds.getD k de0).n.toNat ^ qVE (ds.take k) (ds.getD k de0)∧qBb (ds.take (k+1))=qBb (ds.take k)+(if (ds.getD k de0).kind=5 then 1 else 0):=by
 rw [qAD de0 hk]
 have h:=qGB (ds.take k) [] [ds.getD k de0]
 refine⟨by rw [h.1];rfl,by rw [h.2];show _ * (_ * 1)=_;rw [Nat.mul_one];rfl,?_⟩
 rw [qBb,qBb,List.filter_append,List.length_append,List.filter_cons]
 by_cases h5:(ds.getD k de0).kind=5
 ·rw [if_pos h5,if_pos (by rw [decide_eq_true h5])];rfl
 ·rw [if_neg h5,if_neg (by rw [decide_eq_false h5];simp)];rfl
theorem qDA {ds:List De} (k:Nat):qAT [] (ds.take k)≤qAT [] ds:=by
 have h:=(qGB (ds.take k) [] (ds.drop k)).1
 rw [List.take_append_drop] at h
 omega
theorem qRQ {ds:List De} {g:Int} (h:qCE g [] ds=[]) {k:Nat} (hk:k<ds.length) (h3:(ds.getD k de0).kind=3) (hp:¬ (ds.getD k de0).plate=[]):qCx ds (ds.getD k de0).plate=qCx (ds.take k) (ds.getD k de0).plate:=by
 have h1:=qDa ds [] h k hk
 rw [List.nil_append] at h1
 obtain⟨t,ht,_⟩:=qF8 h1 h3 hp
 have:=qG6 (m:=ds.drop k) ht
 rw [List.take_append_drop] at this
 rw [qCx,qCx,this,ht]
theorem qbW {ds:List De} (b:Nat) (l:List Iss) (hv:ds.length≤30) {g:Int} (hno:qCE g [] ds=[]):HoldsG cx 138 [.ptr 0 0 0] (ckS ds b (qCC ds) l) (ckQ (ckS ds b (qCC ds) l) (.bool (qIT ds))):=by
 have hcs:CkS ds ds.length (qCC ds):=⟨fun nm hn=>by rw [List.take_length];exact qNI ds hn,hv,Nat.le_refl _⟩
 have hm:(ds.map De.cells).length=ds.length:=List.length_map ..
 refine qAA Tryz.func138 rfl rfl rfl ?_
 refine⟨Nat,fun k=>[(0, .ptr 0 0 0),(3, .p (i64 (qAT [] (ds.take k):Nat))),(4, .p (i64 (qBb (ds.take k):Nat))),(5, .p (i64 (qAf [] (ds.take k):Nat))),(13, .p (des ds)),(14, .p (i64 ds.length)),(15, .p (i64 k))],fun _=>ckS ds b (qCC ds) l,fun k=>k≤ds.length∧qAT [] (ds.take k)≤8,fun k=>ds.length - k,?_,?_⟩
 ·exact⟨0,⟨Nat.zero_le _,by show 0≤8;decide⟩,qAB [] [] [] rfl ⟨⟨rfl,rfl⟩,rfl,rfl,rfl,rfl,congrArg (fun n:Nat=>i64 n) hm.symm,rfl,trivial⟩ (sk) rfl⟩
 rintro k ⟨k1,k2⟩
 (first | refine qAO (fun m1=>?_) (fun m1=>?_) | refine qAP (fun m1=>?_) (fun m1=>?_) | refine qAQ (fun m1=>?_) (fun m1=>?_))
 rotate_left
 ·have m1:¬ (k:Int)<(ds.length:Nat):=m1
  obtain⟨B,hB⟩:∃ B,B=qIT ds:=⟨_,rfl⟩
  rw [← hB]
  rw [qAh (by omega)] at k2
  have et:ds.take k=ds:=qAh (by omega)
  rw [qIT,decide_eq_false (show ¬ 8<qAT [] ds by omega),Bool.false_or] at hB
  (first | refine qAO (fun e0=>?_) (fun e0=>?_) | refine qAP (fun e0=>?_) (fun e0=>?_) | refine qAQ (fun e0=>?_) (fun e0=>?_))
  ·have e0:((qAT [] (ds.take k):Nat):Int)=0:=e0
   rw [et] at e0
   rw [decide_eq_true (show qAT [] ds<1 by omega),Bool.true_or] at hB
   exact⟨[],[],[], .returned (.p (.bool true)),ckS ds b (qCC ds) l,rfl,sk,sk,by rw [hB],rfl⟩
  have e0:¬ ((qAT [] (ds.take k):Nat):Int)=0:=e0
  rw [et] at e0
  rw [decide_eq_false (show ¬ qAT [] ds<1 by omega),Bool.false_or] at hB
  (first | refine qAO (fun e1=>?_) (fun e1=>?_) | refine qAP (fun e1=>?_) (fun e1=>?_) | refine qAQ (fun e1=>?_) (fun e1=>?_))
  ·have e1:(4:Int)<((qBb (ds.take k):Nat):Int):=e1
   rw [et] at e1
   rw [decide_eq_true (show 4<qBb ds by omega),Bool.true_or] at hB
   exact⟨[],[],[], .returned (.p (.bool true)),ckS ds b (qCC ds) l,rfl,sk,sk,by rw [hB],rfl⟩
  have e1:¬ (4:Int)<((qBb (ds.take k):Nat):Int):=e1
  rw [et] at e1
  rw [decide_eq_false (show ¬ 4<qBb ds by omega),Bool.false_or] at hB
  (first | refine qAO (fun e2=>?_) (fun e2=>?_) | refine qAP (fun e2=>?_) (fun e2=>?_) | refine qAQ (fun e2=>?_) (fun e2=>?_))
  ·have e2:(1024:Int)<((qAf [] (ds.take k):Nat):Int):=e2
   rw [et] at e2
   rw [decide_eq_true (show 1024<qAf [] ds by omega)] at hB
   exact⟨[],[],[], .returned (.p (.bool true)),ckS ds b (qCC ds) l,rfl,sk,sk,by rw [hB],rfl⟩
  ·have e2:¬ (1024:Int)<((qAf [] (ds.take k):Nat):Int):=e2
   rw [et] at e2
   rw [decide_eq_false (show ¬ 1024<qAf [] ds by omega)] at hB
   exact⟨[],[],[], .returned (.p (.bool false)),ckS ds b (qCC ds) l,rfl,sk,sk,by rw [hB],rfl⟩
 have m1:(k:Int)<(ds.length:Nat):=m1
 have hk:k<ds.length:=by omega
 have hcell:=qEZ hk
 have h1:=qDa ds [] hno k hk
 rw [List.nil_append] at h1
 have hcard:=fun h=>qFW (d:=ds.getD k de0) h1 h
 obtain⟨sN,sW,sG⟩:=qQN hk
 have hWl:qAf [] (ds.take k)≤4 ^ qAT [] (ds.take k):=qKe _ _ fun x hx hk3=>by
  obtain⟨j,hj,e⟩:=qEX de0 (List.mem_of_mem_take hx)
  have h2:=qDa ds [] hno j hj
  rw [e] at h2
  exact(qFW h2 hk3).2
 have hfull:=fun h3 hp=>qRQ hno hk h3 hp
 have hspos:=fun h3 hp=>qOA hno hk h3 hp
 generalize ds.getD k de0=d at hcell hcard sN sW sG hfull hspos
 obtain⟨dk,dn,dnm,dpl,drs,dcs⟩:=d
 simp only [qVE] at sN sW sG hcard hfull hspos
 refine⟨_,⟨by omega,(De.mk dk dn dnm dpl drs dcs).cells,hcell,rfl⟩,?_⟩
 have w2:∀ m:Nat,(1≤m→2≤dn∧dn≤4)→((qAf [] (ds.take k):Nat):Int) * dn ^ m=((qAf [] (ds.take k) * dn.toNat ^ m:Nat):Int):=fun m hq=>by
  rw [Int.natCast_mul,Int.natCast_pow]
  by_cases h0:m=0
  ·subst h0;rw [Int.pow_zero,Int.pow_zero]
  ·have:=hq (by omega)
   rw [show((dn.toNat:Nat):Int)=dn by omega]
 (first | refine qAO (fun q5=>?_) (fun q5=>?_) | refine qAP (fun q5=>?_) (fun q5=>?_) | refine qAQ (fun q5=>?_) (fun q5=>?_))
 ·have q5:dk=5:=q5
  rw [if_neg (by omega),if_neg (by omega)] at sN sW
  rw [if_pos q5] at sG
  obtain⟨G,hGe⟩:∃ G,G=qBb (ds.take k)+1:=⟨_,rfl⟩
  have hgl:qBb (ds.take k)≤30:=by rw [qBb];have:=List.length_filter_le (fun d:De=>decide (d.kind=5)) (ds.take k);rw [List.length_take] at this;omega
  have hN:=sN
  have hG:qBb (ds.take (k+1))=G:=by rw [sG,hGe]
  have hq:1≤0→2≤dn∧dn≤4:=fun h=>absurd h (by decide)
  have hW2:=(w2 0 hq).trans (congrArg (fun z:Nat=>(z:Int)) sW.symm)
  refine⟨((G:Nat):Int),by rw [hGe,Int.natCast_add];exact w6z,?_⟩
  refine⟨((qAT [] (ds.take k)+0:Nat):Int),by rw [Int.natCast_add];exact w6z,?_⟩
  (first | refine qAO (fun g8=>?_) (fun g8=>?_) | refine qAP (fun g8=>?_) (fun g8=>?_) | refine qAQ (fun g8=>?_) (fun g8=>?_))
  ·have g8:(8:Int)<((qAT [] (ds.take k)+0:Nat):Int):=g8
   have hm:=qDA (ds:=ds) (k+1)
   exact⟨[],[],[], .returned (.p (.bool true)),ckS ds b (qCC ds) l,rfl,sk,sk,by rw [show qIT ds=true by unfold qIT;rw [decide_eq_true (show 8<qAT [] ds by omega)];simp],rfl⟩
  have g8:¬ (8:Int)<((qAT [] (ds.take k)+0:Nat):Int):=g8
  have hbd:=qK6 (q:=dn) hWl (show qAT [] (ds.take k)+0≤8 by omega) hq
  refine⟨Nat,fun j=>[(0, .ptr 0 0 0),(3, .p (i64 (qAT [] (ds.take k)+0:Nat))),(4, .p (i64 (G:Nat))),(5, .p (i64 ((qAf [] (ds.take k):Nat) * dn ^ j))),(7, .ptr 3 0 0),(13, .p (des ds)),(14, .p (i64 ds.length)),(15, .p (i64 k)),(41, .p (i64 (0:Nat))),(42, .p (i64 j))],fun _=>⟨4,[(3,dcO ⟨dk,dn,dnm,dpl,drs,dcs⟩),(2,isO l),(1,fmO (qCC ds)),(0,ckO ds (b:Nat) 2 l.length)]⟩,fun j=>j≤0,fun j=>0 - j,?_,?_⟩
  ·exact⟨0,Nat.zero_le _,qAB [] [] [] rfl ⟨⟨rfl,rfl⟩,rfl,rfl,congrArg (fun z:Int=>i64 z) (by rw [Int.pow_zero,Int.mul_one]),⟨rfl,rfl⟩,rfl,rfl,rfl,rfl,rfl,trivial⟩ (sk) rfl⟩
  intro j hj
  (first | refine qAO (fun j1=>?_) (fun j1=>?_) | refine qAP (fun j1=>?_) (fun j1=>?_) | refine qAQ (fun j1=>?_) (fun j1=>?_))
  ·have j1:(j:Int)<(0:Nat):=j1
   have hb1:=hbd (j+1) (by omega)
   refine⟨(qAf [] (ds.take k):Nat) * dn ^ (j+1),by rw [Int.pow_succ,← Int.mul_assoc] at hb1 ⊢;exact w6z,?_⟩
   refine⟨_,w6z,?_⟩
   exact⟨j+1,by omega,qAB [] [] [] rfl (sk) (sk) rfl,by show 0 - (j+1)<0 - j;omega⟩
  have j1:¬ (j:Int)<(0:Nat):=j1
  have hjm:j=0:=by omega
  subst hjm
  refine⟨_,w6z,?_⟩
  exact⟨k+1,⟨by omega,by rw [hN];omega⟩,qAB [] [] [] rfl ⟨⟨rfl,rfl⟩,congrArg (fun z:Nat=>i64 z) hN,congrArg (fun z:Nat=>i64 z) hG,congrArg (fun z:Int=>i64 z) hW2.symm,rfl,rfl,rfl,trivial⟩ (sk) rfl,by show ds.length - (k+1)<ds.length - k;omega⟩
 have q5:¬ dk=5:=q5
 have hG:qBb (ds.take (k+1))=qBb (ds.take k):=by rw [sG,if_neg q5];rfl
 (first | refine qAO (fun q4=>?_) (fun q4=>?_) | refine qAP (fun q4=>?_) (fun q4=>?_) | refine qAQ (fun q4=>?_) (fun q4=>?_))
 ·have q4:dk=4:=q4
  rw [if_neg (by omega),if_pos q4] at sN sW
  have hN:=sN
  have hq:1≤1→2≤dn∧dn≤4:=fun _=>hcard (.inr q4)
  have hW2:=(w2 1 hq).trans (congrArg (fun z:Nat=>(z:Int)) sW.symm)
  refine⟨((qAT [] (ds.take k)+1:Nat):Int),by rw [Int.natCast_add];exact w6z,?_⟩
  (first | refine qAO (fun g8=>?_) (fun g8=>?_) | refine qAP (fun g8=>?_) (fun g8=>?_) | refine qAQ (fun g8=>?_) (fun g8=>?_))
  ·have g8:(8:Int)<((qAT [] (ds.take k)+1:Nat):Int):=g8
   have hm:=qDA (ds:=ds) (k+1)
   exact⟨[],[],[], .returned (.p (.bool true)),ckS ds b (qCC ds) l,rfl,sk,sk,by rw [show qIT ds=true by unfold qIT;rw [decide_eq_true (show 8<qAT [] ds by omega)];simp],rfl⟩
  have g8:¬ (8:Int)<((qAT [] (ds.take k)+1:Nat):Int):=g8
  have hbd:=qK6 (q:=dn) hWl (show qAT [] (ds.take k)+1≤8 by omega) hq
  refine⟨Nat,fun j=>[(0, .ptr 0 0 0),(3, .p (i64 (qAT [] (ds.take k)+1:Nat))),(4, .p (i64 (qBb (ds.take k):Nat))),(5, .p (i64 ((qAf [] (ds.take k):Nat) * dn ^ j))),(7, .ptr 3 0 0),(13, .p (des ds)),(14, .p (i64 ds.length)),(15, .p (i64 k)),(41, .p (i64 (1:Nat))),(42, .p (i64 j))],fun _=>⟨4,[(3,dcO ⟨dk,dn,dnm,dpl,drs,dcs⟩),(2,isO l),(1,fmO (qCC ds)),(0,ckO ds (b:Nat) 2 l.length)]⟩,fun j=>j≤1,fun j=>1 - j,?_,?_⟩
  ·exact⟨0,Nat.zero_le _,qAB [] [] [] rfl ⟨⟨rfl,rfl⟩,rfl,rfl,congrArg (fun z:Int=>i64 z) (by rw [Int.pow_zero,Int.mul_one]),⟨rfl,rfl⟩,rfl,rfl,rfl,rfl,rfl,trivial⟩ (sk) rfl⟩
  intro j hj
  (first | refine qAO (fun j1=>?_) (fun j1=>?_) | refine qAP (fun j1=>?_) (fun j1=>?_) | refine qAQ (fun j1=>?_) (fun j1=>?_))
  ·have j1:(j:Int)<(1:Nat):=j1
   have hb1:=hbd (j+1) (by omega)
   refine⟨(qAf [] (ds.take k):Nat) * dn ^ (j+1),by rw [Int.pow_succ,← Int.mul_assoc] at hb1 ⊢;exact w6z,?_⟩
   refine⟨_,w6z,?_⟩
   exact⟨j+1,by omega,qAB [] [] [] rfl (sk) (sk) rfl,by show 1 - (j+1)<1 - j;omega⟩
  have j1:¬ (j:Int)<(1:Nat):=j1
  have hjm:j=1:=by omega
  subst hjm
  refine⟨_,w6z,?_⟩
  exact⟨k+1,⟨by omega,by rw [hN];omega⟩,qAB [] [] [] rfl ⟨⟨rfl,rfl⟩,congrArg (fun z:Nat=>i64 z) hN,congrArg (fun z:Nat=>i64 z) hG,congrArg (fun z:Int=>i64 z) hW2.symm,rfl,rfl,rfl,trivial⟩ (sk) rfl,by show ds.length - (k+1)<ds.length - k;omega⟩
 have q4:¬ dk=4:=q4
 (first | refine qAO (fun q3=>?_) (fun q3=>?_) | refine qAP (fun q3=>?_) (fun q3=>?_) | refine qAQ (fun q3=>?_) (fun q3=>?_))
 ·have q3:dk=3:=q3
  rw [if_pos q3] at sN sW
  refine And.intro (fun hp=>?_) (fun hp=>?_)
  ·have hp:dpl=[]:=hp
   rw [if_pos hp] at sN sW
   have hN:=sN
   have hq:1≤1→2≤dn∧dn≤4:=fun _=>hcard (.inl q3)
   have hW2:=(w2 1 hq).trans (congrArg (fun z:Nat=>(z:Int)) sW.symm)
   refine⟨((qAT [] (ds.take k)+1:Nat):Int),by rw [Int.natCast_add];exact w6z,?_⟩
   (first | refine qAO (fun g8=>?_) (fun g8=>?_) | refine qAP (fun g8=>?_) (fun g8=>?_) | refine qAQ (fun g8=>?_) (fun g8=>?_))
   ·have g8:(8:Int)<((qAT [] (ds.take k)+1:Nat):Int):=g8
    have hm:=qDA (ds:=ds) (k+1)
    exact⟨[],[],[], .returned (.p (.bool true)),ckS ds b (qCC ds) l,rfl,sk,sk,by rw [show qIT ds=true by unfold qIT;rw [decide_eq_true (show 8<qAT [] ds by omega)];simp],rfl⟩
   have g8:¬ (8:Int)<((qAT [] (ds.take k)+1:Nat):Int):=g8
   have hbd:=qK6 (q:=dn) hWl (show qAT [] (ds.take k)+1≤8 by omega) hq
   refine⟨Nat,fun j=>[(0, .ptr 0 0 0),(3, .p (i64 (qAT [] (ds.take k)+1:Nat))),(4, .p (i64 (qBb (ds.take k):Nat))),(5, .p (i64 ((qAf [] (ds.take k):Nat) * dn ^ j))),(7, .ptr 3 0 0),(13, .p (des ds)),(14, .p (i64 ds.length)),(15, .p (i64 k)),(41, .p (i64 (1:Nat))),(42, .p (i64 j))],fun _=>⟨4,[(3,dcO ⟨dk,dn,dnm,dpl,drs,dcs⟩),(2,isO l),(1,fmO (qCC ds)),(0,ckO ds (b:Nat) 2 l.length)]⟩,fun j=>j≤1,fun j=>1 - j,?_,?_⟩
   ·exact⟨0,Nat.zero_le _,qAB [] [] [] rfl ⟨⟨rfl,rfl⟩,rfl,rfl,congrArg (fun z:Int=>i64 z) (by rw [Int.pow_zero,Int.mul_one]),⟨rfl,rfl⟩,rfl,rfl,rfl,rfl,rfl,trivial⟩ (sk) rfl⟩
   intro j hj
   (first | refine qAO (fun j1=>?_) (fun j1=>?_) | refine qAP (fun j1=>?_) (fun j1=>?_) | refine qAQ (fun j1=>?_) (fun j1=>?_))
   ·have j1:(j:Int)<(1:Nat):=j1
    have hb1:=hbd (j+1) (by omega)
    refine⟨(qAf [] (ds.take k):Nat) * dn ^ (j+1),by rw [Int.pow_succ,← Int.mul_assoc] at hb1 ⊢;exact w6z,?_⟩
    refine⟨_,w6z,?_⟩
    exact⟨j+1,by omega,qAB [] [] [] rfl (sk) (sk) rfl,by show 1 - (j+1)<1 - j;omega⟩
   have j1:¬ (j:Int)<(1:Nat):=j1
   have hjm:j=1:=by omega
   subst hjm
   refine⟨_,w6z,?_⟩
   exact⟨k+1,⟨by omega,by rw [hN];omega⟩,qAB [] [] [] rfl ⟨⟨rfl,rfl⟩,congrArg (fun z:Nat=>i64 z) hN,congrArg (fun z:Nat=>i64 z) hG,congrArg (fun z:Int=>i64 z) hW2.symm,rfl,rfl,rfl,trivial⟩ (sk) rfl,by show ds.length - (k+1)<ds.length - k;omega⟩
  ·have hp:¬ dpl=[]:=hp
   rw [if_neg hp] at sN sW
   have hf:=hfull q3 hp
   have hs:=hspos q3 hp
   have hS:=qV4 b l hcs hp
   rw [List.take_length,hf] at hS
   obtain⟨m,hm⟩:∃ m:Nat,qCx (ds.take k) dpl=(m:Nat):=⟨(qCx (ds.take k) dpl).toNat,by omega⟩
   rw [hm] at hS
   rw [hm,Int.toNat_natCast] at sN sW
   have hN:=sN
   have hq:1≤m→2≤dn∧dn≤4:=fun _=>hcard (.inl q3)
   have hW2:=(w2 m hq).trans (congrArg (fun z:Nat=>(z:Int)) sW.symm)
   have hm6:m≤6:=by omega
   refine hS.holds.useT [] [] rfl (sk) (sk) fun e0 H0 hq=>?_
   obtain⟨rfl,rfl⟩:=hq
   refine⟨rfl,_,⟨4,(2,isO l)::(1,fmO (qCC ds))::(0,ckO ds (b:Nat) 2 l.length)::[(3,dcO ⟨dk,dn,dnm,dpl,drs,dcs⟩)]⟩,rfl,rfl,?_⟩
   refine⟨((qAT [] (ds.take k)+m:Nat):Int),by rw [Int.natCast_add];exact w6z,?_⟩
   (first | refine qAO (fun g8=>?_) (fun g8=>?_) | refine qAP (fun g8=>?_) (fun g8=>?_) | refine qAQ (fun g8=>?_) (fun g8=>?_))
   ·have g8:(8:Int)<((qAT [] (ds.take k)+m:Nat):Int):=g8
    have hm:=qDA (ds:=ds) (k+1)
    exact⟨[],[],[], .returned (.p (.bool true)),ckS ds b (qCC ds) l,rfl,sk,sk,by rw [show qIT ds=true by unfold qIT;rw [decide_eq_true (show 8<qAT [] ds by omega)];simp],rfl⟩
   have g8:¬ (8:Int)<((qAT [] (ds.take k)+m:Nat):Int):=g8
   have hbd:=qK6 (q:=dn) hWl (show qAT [] (ds.take k)+m≤8 by omega) hq
   refine⟨Nat,fun j=>[(0, .ptr 0 0 0),(3, .p (i64 (qAT [] (ds.take k)+m:Nat))),(4, .p (i64 (qBb (ds.take k):Nat))),(5, .p (i64 ((qAf [] (ds.take k):Nat) * dn ^ j))),(7, .ptr 3 0 0),(13, .p (des ds)),(14, .p (i64 ds.length)),(15, .p (i64 k)),(41, .p (i64 (m:Nat))),(42, .p (i64 j))],fun _=>⟨4,[(3,dcO ⟨dk,dn,dnm,dpl,drs,dcs⟩),(2,isO l),(1,fmO (qCC ds)),(0,ckO ds (b:Nat) 2 l.length)]⟩,fun j=>j≤m,fun j=>m - j,?_,?_⟩
   ·exact⟨0,Nat.zero_le _,qAB [] [] [] rfl ⟨⟨rfl,rfl⟩,rfl,rfl,congrArg (fun z:Int=>i64 z) (by rw [Int.pow_zero,Int.mul_one]),⟨rfl,rfl⟩,rfl,rfl,rfl,rfl,rfl,trivial⟩ (sk) rfl⟩
   intro j hj
   (first | refine qAO (fun j1=>?_) (fun j1=>?_) | refine qAP (fun j1=>?_) (fun j1=>?_) | refine qAQ (fun j1=>?_) (fun j1=>?_))
   ·have j1:(j:Int)<(m:Nat):=j1
    have hb1:=hbd (j+1) (by omega)
    refine⟨(qAf [] (ds.take k):Nat) * dn ^ (j+1),by rw [Int.pow_succ,← Int.mul_assoc] at hb1 ⊢;exact w6z,?_⟩
    refine⟨_,w6z,?_⟩
    exact⟨j+1,by omega,qAB [] [] [] rfl (sk) (sk) rfl,by show m - (j+1)<m - j;omega⟩
   have j1:¬ (j:Int)<(m:Nat):=j1
   have hjm:j=m:=by omega
   subst hjm
   refine⟨_,w6z,?_⟩
   exact⟨k+1,⟨by omega,by rw [hN];omega⟩,qAB [] [] [] rfl ⟨⟨rfl,rfl⟩,congrArg (fun z:Nat=>i64 z) hN,congrArg (fun z:Nat=>i64 z) hG,congrArg (fun z:Int=>i64 z) hW2.symm,rfl,rfl,rfl,trivial⟩ (sk) rfl,by show ds.length - (k+1)<ds.length - k;omega⟩
 ·have q3:¬ dk=3:=q3
  rw [if_neg q3,if_neg q4] at sN sW
  have hN:=sN
  have hq:1≤0→2≤dn∧dn≤4:=fun h=>absurd h (by decide)
  have hW2:=(w2 0 hq).trans (congrArg (fun z:Nat=>(z:Int)) sW.symm)
  refine⟨((qAT [] (ds.take k)+0:Nat):Int),by rw [Int.natCast_add];exact w6z,?_⟩
  (first | refine qAO (fun g8=>?_) (fun g8=>?_) | refine qAP (fun g8=>?_) (fun g8=>?_) | refine qAQ (fun g8=>?_) (fun g8=>?_))
  ·have g8:(8:Int)<((qAT [] (ds.take k)+0:Nat):Int):=g8
   have hm:=qDA (ds:=ds) (k+1)
   exact⟨[],[],[], .returned (.p (.bool true)),ckS ds b (qCC ds) l,rfl,sk,sk,by rw [show qIT ds=true by unfold qIT;rw [decide_eq_true (show 8<qAT [] ds by omega)];simp],rfl⟩
  have g8:¬ (8:Int)<((qAT [] (ds.take k)+0:Nat):Int):=g8
  have hbd:=qK6 (q:=dn) hWl (show qAT [] (ds.take k)+0≤8 by omega) hq
  refine⟨Nat,fun j=>[(0, .ptr 0 0 0),(3, .p (i64 (qAT [] (ds.take k)+0:Nat))),(4, .p (i64 (qBb (ds.take k):Nat))),(5, .p (i64 ((qAf [] (ds.take k):Nat) * dn ^ j))),(7, .ptr 3 0 0),(13, .p (des ds)),(14, .p (i64 ds.length)),(15, .p (i64 k)),(41, .p (i64 (0:Nat))),(42, .p (i64 j))],fun _=>⟨4,[(3,dcO ⟨dk,dn,dnm,dpl,drs,dcs⟩),(2,isO l),(1,fmO (qCC ds)),(0,ckO ds (b:Nat) 2 l.length)]⟩,fun j=>j≤0,fun j=>0 - j,?_,?_⟩
  ·exact⟨0,Nat.zero_le _,qAB [] [] [] rfl ⟨⟨rfl,rfl⟩,rfl,rfl,congrArg (fun z:Int=>i64 z) (by rw [Int.pow_zero,Int.mul_one]),⟨rfl,rfl⟩,rfl,rfl,rfl,rfl,rfl,trivial⟩ (sk) rfl⟩
  intro j hj
  (first | refine qAO (fun j1=>?_) (fun j1=>?_) | refine qAP (fun j1=>?_) (fun j1=>?_) | refine qAQ (fun j1=>?_) (fun j1=>?_))
  ·have j1:(j:Int)<(0:Nat):=j1
   have hb1:=hbd (j+1) (by omega)
   refine⟨(qAf [] (ds.take k):Nat) * dn ^ (j+1),by rw [Int.pow_succ,← Int.mul_assoc] at hb1 ⊢;exact w6z,?_⟩
   refine⟨_,w6z,?_⟩
   exact⟨j+1,by omega,qAB [] [] [] rfl (sk) (sk) rfl,by show 0 - (j+1)<0 - j;omega⟩
  have j1:¬ (j:Int)<(0:Nat):=j1
  have hjm:j=0:=by omega
  subst hjm
  refine⟨_,w6z,?_⟩
  exact⟨k+1,⟨by omega,by rw [hN];omega⟩,qAB [] [] [] rfl ⟨⟨rfl,rfl⟩,congrArg (fun z:Nat=>i64 z) hN,congrArg (fun z:Nat=>i64 z) hG,congrArg (fun z:Int=>i64 z) hW2.symm,rfl,rfl,rfl,trivial⟩ (sk) rfl,by show ds.length - (k+1)<ds.length - k;omega⟩
abbrev pgS (ds:List De):Hp:=⟨2,[(1,fmO []),(0,⟨TCk,false, .bx [.p (des ds), .p (i64 0), .mp 1, .p .nils]⟩)]⟩
abbrev pgT (ds:List De) (b:Nat) (es:List (List UInt8 × PV)) (l:List Iss):Hp:=⟨3,[(2,isO l),(1,fmO es),(0,ckO ds (b:Nat) 2 l.length)]⟩
theorem qR2 (ds:List De) (k:Int):HoldsG cx 132 [.ptr 0 0 0, .p (i64 k), .p .nils] (pgS ds) (fun e H'=>e=.returned und∧H'=pgT ds 0 [] [⟨k,0,[]⟩]):=by
 refine qAA Tryz.func132 rfl rfl rfl ?_
 refine⟨Unit,fun _=>[(0, .ptr 0 0 0),(6, .ptr 2 0 0),(15, .p .nils),(16, .p (i64 0)),(17, .p (i64 0))],fun _=>⟨3,[(2,⟨qae,false, .bx [.p (i64 k), .p (i64 0), .p (.str [])]⟩),(1,fmO []),(0,⟨TCk,false, .bx [.p (des ds), .p (i64 0), .mp 1, .p .nils]⟩)]⟩,fun _=>True,fun _=>0,?_,?_⟩
 ·exact⟨(),trivial,qAB [] [] [] rfl (sk) (sk) rfl⟩
 intro _ _
 refine And.intro (fun h=>absurd (show(0:Int)<0 from h) (by decide)) (fun _=>?_)
 refine qAH qa0 (by kernel_rfl) ?_
 refine⟨by show 1 * 32≤140737488355328;decide,?_⟩
 exact⟨[],[(2,3)],[], .returned und,pgT ds 0 [] [⟨k,0,[]⟩],rfl,sk,sk,rfl,rfl⟩
abbrev qXQ:OT:=(.pure 0 (.pure 1 (.pure 2 (.pure 3 (.pure 4 (.pure 5 (.pure 6 (.eff 7 [] .fin .nil))))))))
def faO:AObj:=⟨249,false, .bx [.p .nilFn, .fn (.func 133) [.ptr 0 0 0] [], .fn (.func 134) [.ptr 0 0 0] [], .fn (.func 135) [.ptr 0 0 0] [], .fn (.func 136) [.ptr 0 0 0] [], .fn (.func 137) [.ptr 0 0 0] []]⟩
def pgQ (ds:List De) (l:List Iss) (e:AE) (H':Hp):Prop:=e=.returned und∧∃ b es,H'=pgT ds b es l
abbrev pgH (ds:List De) (x:Nat × List Iss):Hp:=⟨4,[(3,faO),(2,isO x.2),(1,fmO (qCC (ds.take x.1))),(0,ckO ds (x.1 - 1:Nat) 2 x.2.length)]⟩
theorem qSM {ds:List De} {k:Nat} (hk:k<ds.length):qCC (ds.take (k+1))=qCC (ds.take k)++(if (ds.getD k de0).name=[]∨(qCL (ds.take k) (ds.getD k de0).name).isSome then [] else [((ds.getD k de0).name,i64 (k:Nat))]):=by
 rw [qAD de0 hk,qLJ,List.length_take,show min k ds.length=k by omega]
theorem qS4 {ds:List De} {g:Int} {k:Nat} (hk:k<ds.length):qCE g [] (ds.take (k+1))=qCE g [] (ds.take k)++qCp (ds.take k) (ds.getD k de0) g:=by
 rw [qAD de0 hk,qLc]
 show _++(_++[])=_
 rw [List.append_nil];rfl
theorem qZy {ds:List De} {k:Nat} (hv:ds.length≤30) (hk:k≤ds.length):CkS ds k (qCC (ds.take k)):=⟨fun _ hn=>qNI _ hn,hv,hk⟩
theorem qPx (ds:List De) (hv:qBq ds=true):HoldsG cx 91 [.ptr 0 0 0] (pgS ds) (pgQ ds (qMB ds)):=by
 obtain⟨hlen,hdv⟩:=qHN hv
 have hm:(ds.map De.cells).length=ds.length:=List.length_map ..
 have hpre:∀ k,(qEw ds++qCE (qAk ds) [] (ds.take k)).length≤13000:=fun k=>by
  have h1:=qSm ds
  have h2:=qLb (qAk ds) (ds.take k) [] fun d hd=>hdv d (List.mem_of_mem_take hd)
  rw [List.length_take] at h2
  rw [List.length_append];omega
 obtain⟨R,hR⟩:∃ R,R=qMB ds:=⟨_,rfl⟩
 rw [← hR]
 refine qAA Tryz.func91 rfl rfl rfl ?_
 apply cut
 case h=>
  intro key
  have hin:∀ X,X=qEw ds→(0:Nat)≤ds.length∧X=qEw ds++qCE (qAk ds) [] (ds.take 0):=fun X hX=>⟨Nat.zero_le _,by rw [hX];show _=qEw ds++[];rw [List.append_nil]⟩
  by_cases h0:ds=[]
  ·refine And.intro (fun _=>?_) (fun h=>absurd (show((ds.map De.cells).length:Int)=0 by rw [h0];rfl) h)
   refine(qR2 ds 1).holds.useT [] [] rfl (sk) (sk) fun e0 H0 hq=>?_
   obtain⟨rfl,rfl⟩:=hq
   refine⟨rfl,_,⟨3,(2,isO [⟨1,0,[]⟩])::(1,fmO [])::(0,ckO ds 0 2 1)::[]⟩,rfl,rfl,?_⟩
   exact⟨Nat × List Iss,fun x=>[(0, .ptr 0 0 0),(2, .ptr 3 0 0),(42, .p (des ds)),(43, .p (i64 ds.length)),(44, .p (i64 x.1))],pgH ds,fun x=>x.1≤ds.length∧x.2=qEw ds++qCE (qAk ds) [] (ds.take x.1),fun x=>ds.length - x.1,⟨(0,[⟨1,0,[]⟩]),hin _ (by first | exact hd.symm | (rw [h0];rfl)),qAB [] [] [] rfl ⟨⟨rfl,rfl⟩,⟨rfl,rfl⟩,rfl,congrArg (fun n:Nat=>i64 n) hm.symm,rfl,trivial⟩ (sk) rfl⟩,key.get⟩
  ·have hpos:1≤ds.length:=by
    cases ds with
    | nil=>exact absurd rfl h0
    | cons d r=>show 1≤r.length+1;omega
   have hh:∃ t:De,(ds.map De.cells)[0]?=some t.cells∧(qEw ds=if t.kind=1 then [] else [⟨1,0,[]⟩]):=by
    cases ds with
    | nil=>exact absurd rfl h0
    | cons t r=>exact⟨t,rfl,rfl⟩
   obtain⟨⟨tk,tn,tnm,tpl,trs,tcs⟩,ht,hd⟩:=hh
   refine And.intro (fun h=>absurd (show((ds.map De.cells).length:Int)=0 from h) (by rw [hm];omega)) (fun _=>?_)
   refine⟨_,⟨by decide,(De.mk tk tn tnm tpl trs tcs).cells,ht,rfl⟩,?_⟩
   refine And.intro (fun k1=>?_) (fun k1=>?_)
   ·have k1:tk=1:=k1
    simp only [if_pos k1] at hd
    exact⟨Nat × List Iss,fun x=>[(0, .ptr 0 0 0),(2, .ptr 3 0 0),(42, .p (des ds)),(43, .p (i64 ds.length)),(44, .p (i64 x.1))],pgH ds,fun x=>x.1≤ds.length∧x.2=qEw ds++qCE (qAk ds) [] (ds.take x.1),fun x=>ds.length - x.1,⟨(0,[]),hin [] hd.symm,qAB [] [(3,2)] [(2,3)] rfl ⟨⟨rfl,rfl⟩,⟨rfl,rfl⟩,rfl,congrArg (fun n:Nat=>i64 n) hm.symm,rfl,trivial⟩ (sk) rfl⟩,key.get⟩
   ·have k1:¬ tk=1:=k1
    simp only [if_neg k1] at hd
    refine(qR2 ds 1).holds.useT [] [] rfl (sk) (sk) fun e0 H0 hq=>?_
    obtain⟨rfl,rfl⟩:=hq
    refine⟨rfl,_,⟨3,(2,isO [⟨1,0,[]⟩])::(1,fmO [])::(0,ckO ds 0 2 1)::[]⟩,rfl,rfl,?_⟩
    exact⟨Nat × List Iss,fun x=>[(0, .ptr 0 0 0),(2, .ptr 3 0 0),(42, .p (des ds)),(43, .p (i64 ds.length)),(44, .p (i64 x.1))],pgH ds,fun x=>x.1≤ds.length∧x.2=qEw ds++qCE (qAk ds) [] (ds.take x.1),fun x=>ds.length - x.1,⟨(0,[⟨1,0,[]⟩]),hin _ (by first | exact hd.symm | (rw [h0];rfl)),qAB [] [] [] rfl ⟨⟨rfl,rfl⟩,⟨rfl,rfl⟩,rfl,congrArg (fun n:Nat=>i64 n) hm.symm,rfl,trivial⟩ (sk) rfl⟩,key.get⟩
 case k=>
  rintro⟨k,cur⟩ ⟨k1,k2⟩
  simp only [] at k1 k2
  have hcl:cur.length≤13000:=by rw [k2];exact hpre k
  (first | refine qAO (fun m1=>?_) (fun m1=>?_) | refine qAP (fun m1=>?_) (fun m1=>?_) | refine qAQ (fun m1=>?_) (fun m1=>?_))
  rotate_left
  ·have m1:¬ (k:Int)<(ds.length:Nat):=m1
   have et:ds.take k=ds:=qAh (by omega)
   rw [et] at k2
   have hkl:k=ds.length:=by omega
   by_cases hb:cur=[]
   ·subst hb
    have hno:qCE (qAk ds) [] ds=[]:=(List.append_eq_nil_iff.1 k2.symm).2
    have hRa:R=if qIT ds then [⟨10,ds.length,[]⟩] else []:=by rw [hR,qMB,if_pos (show qTZ ds=[] from k2.symm)]
    have hB:=qbW (k - 1) [] hlen hno
    rw [show qCC ds=qCC (ds.take k) by rw [et]] at hB
    refine And.intro (fun _=>?_) (fun h=>absurd rfl h)
    by_cases hbg:qIT ds=true
    ·rw [if_pos hbg] at hRa
     rw [hbg] at hB
     refine hB.holds.useT [] [] rfl (sk) (sk) fun e0 H0 hq=>?_
     obtain⟨rfl,rfl⟩:=hq
     refine⟨rfl,_,⟨4,(2,isO [])::(1,fmO (qCC (ds.take k)))::(0,ckO ds (k - 1:Nat) 2 0)::[(3,faO)]⟩,rfl,rfl,?_⟩
     refine(qGA ds (ds.map De.cells).length (qCC (ds.take k)) [] 10 (by simp)).holds.useT [] [] rfl (sk) (sk) fun e0 H0 hq=>?_
     obtain⟨rfl,rfl⟩:=hq
     refine⟨rfl,_,⟨5,(4,isO [Iss.mk 10 ((ds.map De.cells).length:Nat) []])::(1,fmO (qCC (ds.take k)))::(0,ckO ds ((ds.map De.cells).length:Nat) 4 1)::[(3,faO)]⟩,rfl,rfl,?_⟩
     exact⟨[],[(2,4)],[], .returned und,pgT ds (ds.map De.cells).length (qCC (ds.take k)) [⟨10,((ds.map De.cells).length:Nat),[]⟩],rfl,sk,sk,rfl,_,_,by rw [hRa,hm]⟩
    ·rw [if_neg hbg] at hRa
     rw [Bool.not_eq_true] at hbg
     rw [hbg] at hB
     refine hB.holds.useT [] [] rfl (sk) (sk) fun e0 H0 hq=>?_
     obtain⟨rfl,rfl⟩:=hq
     refine⟨rfl,_,⟨4,(2,isO [])::(1,fmO (qCC (ds.take k)))::(0,ckO ds (k - 1:Nat) 2 0)::[(3,faO)]⟩,rfl,rfl,?_⟩
     exact⟨[],[],[], .returned und,pgT ds (k - 1) (qCC (ds.take k)) [],rfl,sk,sk,rfl,k - 1,_,by rw [hRa]⟩
   ·have hRa:R=cur:=by
     rw [hR,qMB,if_neg (show ¬ qTZ ds=[] from fun e=>hb (k2.trans e))];exact k2.symm
    have hl0:¬ cur.length=0:=fun e=>hb (List.eq_nil_of_length_eq_zero e)
    refine And.intro (fun h=>absurd (show((cur.length:Nat):Int)=0 from h) (by omega)) (fun _=>?_)
    exact⟨[],[],[], .returned und,pgT ds (k - 1) (qCC (ds.take k)) cur,rfl,sk,sk,rfl,k - 1,_,by rw [hRa]⟩
  have m1:(k:Int)<(ds.length:Nat):=m1
  have hk:k<ds.length:=by omega
  have hcell:=qEZ hk
  have hd:=hdv _ (qAG de0 hk)
  have hC:=qZy hlen k1
  have hmap:=qSM hk
  have hnx:=qS4 (g:=qAk ds) hk
  have k4:cur++qCp (ds.take k) (ds.getD k de0) (qAk ds)=qEw ds++qCE (qAk ds) [] (ds.take (k+1)):=by rw [hnx,← List.append_assoc,← k2]
  have k5:(cur++qCp (ds.take k) (ds.getD k de0) (qAk ds)).length≤90000:=by rw [k4];have:=hpre (k+1);omega
  generalize ds.getD k de0=d at hcell hd hmap k4 k5
  clear hnx k2 hR
  have hd:=hd.ok
  obtain⟨dk,dn,dnm,dpl,drs,dcs⟩:=d
  simp only [] at hmap
  refine⟨_,⟨by omega,(De.mk dk dn dnm dpl drs dcs).cells,hcell,rfl⟩,?_⟩
  have hkind:=hd.ok.kind
  have hbare:=hd.ok.bare
  have hname:=hd.ok.name
  simp only [] at hkind hbare hname
  by_cases hb:dnm=[]
  ·have hnone:qAX (qCC (ds.take k)) dnm=none:=by rw [hb];exact qVW _
   rw [if_pos (.inl hb),List.append_nil] at hmap
   rcases hkind with rfl | rfl | rfl | rfl | rfl
   ·have hG:=qVP cur hC ⟨1,dn,dnm,dpl,drs,dcs⟩ rfl k5
    generalize cur++qCp (ds.take k) ⟨1,dn,dnm,dpl,drs,dcs⟩ (qAk ds)=nxt at hG k4
    refine VDraw.seq rfl ?_
    refine⟨by show(0:Int)≤1∧(1:Int)<6;decide,?_⟩
    refine⟨_,rfl,?_⟩
    refine(hG).holds.useT [] [] rfl (sk) (sk) fun e0 H0 hq=>?_
    obtain⟨rfl,rfl⟩:=hq
    refine⟨rfl,_,⟨6,(5,isO nxt)::(1,fmO (qCC (ds.take k)))::(0,ckO ds (k:Nat) 5 nxt.length)::[(4,dcO ⟨1,dn,dnm,dpl,drs,dcs⟩),(3,faO)]⟩,rfl,rfl,?_⟩
    refine VDraw.seq rfl ?_
    refine⟨_, .inr ⟨hnone,rfl⟩,?_⟩
    refine And.intro (fun _=>?_) (fun h=>absurd hb h)
    refine⟨((k+1:Nat):Int),by rw [Int.natCast_add];exact w6z,?_⟩
    exact⟨(k+1,nxt),⟨by show k+1≤ds.length;omega,k4⟩,qAB [] [(2,5),(3,3)] [] rfl (sk) ⟨⟨_,rfl,rfl,rfl,sk⟩,⟨_,rfl,rfl,rfl,rfl⟩,⟨_,rfl,rfl,rfl,congrArg Cn.ms (hmap.symm)⟩,⟨_,rfl,rfl,rfl,sk⟩,trivial⟩ rfl,by show ds.length - (k+1)<ds.length - k;omega⟩
   ·exact absurd hb (hname (.inl rfl))
   ·exact absurd hb (hname (.inr (.inl rfl)))
   ·exact absurd hb (hname (.inr (.inr rfl)))
   ·have hG:=qXr cur hC ⟨5,dn,dnm,dpl,drs,dcs⟩ hd rfl k5
    generalize cur++qCp (ds.take k) ⟨5,dn,dnm,dpl,drs,dcs⟩ (qAk ds)=nxt at hG k4
    refine VDraw.seq rfl ?_
    refine⟨by show(0:Int)≤5∧(5:Int)<6;decide,?_⟩
    refine⟨_,rfl,?_⟩
    refine(hG).holds.useT [] [] rfl (sk) (sk) fun e0 H0 hq=>?_
    obtain⟨rfl,rfl⟩:=hq
    refine⟨rfl,_,⟨6,(5,isO nxt)::(1,fmO (qCC (ds.take k)))::(0,ckO ds (k:Nat) 5 nxt.length)::[(4,dcO ⟨5,dn,dnm,dpl,drs,dcs⟩),(3,faO)]⟩,rfl,rfl,?_⟩
    refine VDraw.seq rfl ?_
    refine⟨_, .inr ⟨hnone,rfl⟩,?_⟩
    refine And.intro (fun _=>?_) (fun h=>absurd hb h)
    refine⟨((k+1:Nat):Int),by rw [Int.natCast_add];exact w6z,?_⟩
    exact⟨(k+1,nxt),⟨by show k+1≤ds.length;omega,k4⟩,qAB [] [(2,5),(3,3)] [] rfl (sk) ⟨⟨_,rfl,rfl,rfl,sk⟩,⟨_,rfl,rfl,rfl,rfl⟩,⟨_,rfl,rfl,rfl,congrArg Cn.ms (hmap.symm)⟩,⟨_,rfl,rfl,rfl,sk⟩,trivial⟩ rfl,by show ds.length - (k+1)<ds.length - k;omega⟩
  ·have hfa:=qNI (ds.take k) hb
   have hor:(qAX (qCC (ds.take k)) dnm=none∧qCC (ds.take (k+1))=qCC (ds.take k)++[(dnm,i64 (k:Nat))])∨∃ i:Nat,qAX (qCC (ds.take k)) dnm=some (i64 (i:Nat))∧qCC (ds.take (k+1))=qCC (ds.take k):=by
    cases hi:qCL (ds.take k) dnm with
    | none=>rw [hi] at hfa hmap;exact .inl ⟨hfa,by rw [hmap,if_neg (by intro h;rcases h with h | h;exact hb h;cases h)]⟩
    | some i=>rw [hi] at hfa hmap;exact .inr ⟨i,hfa,by rw [hmap,if_pos (.inr rfl),List.append_nil]⟩
   rcases hkind with rfl | rfl | rfl | rfl | rfl
   ·exact absurd (hbare (.inl rfl)) hb
   ·have hG:=qUy cur hC ⟨2,dn,dnm,dpl,drs,dcs⟩ hd.ok rfl k5
    generalize cur++qCp (ds.take k) ⟨2,dn,dnm,dpl,drs,dcs⟩ (qAk ds)=nxt at hG k4
    refine VDraw.seq rfl ?_
    refine Or.elim hor (fun hi=>?_) (fun hi=>?_)
    ·obtain⟨hi1,hi2⟩:=hi
     refine⟨by show(0:Int)≤2∧(2:Int)<6;decide,?_⟩
     refine⟨_,rfl,?_⟩
     refine(hG).holds.useT [] [] rfl (sk) (sk) fun e0 H0 hq=>?_
     obtain⟨rfl,rfl⟩:=hq
     refine⟨rfl,_,⟨6,(5,isO nxt)::(1,fmO (qCC (ds.take k)))::(0,ckO ds (k:Nat) 5 nxt.length)::[(4,dcO ⟨2,dn,dnm,dpl,drs,dcs⟩),(3,faO)]⟩,rfl,rfl,?_⟩
     refine VDraw.seq rfl ?_
     refine⟨_, .inr ⟨hi1,rfl⟩,?_⟩
     refine And.intro (fun h=>absurd h hb) (fun _=>?_)
     refine qAH qXQ (by kernel_rfl) ?_
     refine⟨_,rfl,?_⟩
     refine⟨((k+1:Nat):Int),by rw [Int.natCast_add];exact w6z,?_⟩
     exact⟨(k+1,nxt),⟨by show k+1≤ds.length;omega,k4⟩,qAB [] [(2,5),(3,3)] [] rfl (sk) ⟨⟨_,rfl,rfl,rfl,sk⟩,⟨_,rfl,rfl,rfl,rfl⟩,⟨_,rfl,rfl,rfl,congrArg Cn.ms (by rw [hi2,qG0 hi1])⟩,⟨_,rfl,rfl,rfl,sk⟩,trivial⟩ rfl,by show ds.length - (k+1)<ds.length - k;omega⟩
    ·obtain⟨i,hi1,hi2⟩:=hi
     refine⟨by show(0:Int)≤2∧(2:Int)<6;decide,?_⟩
     refine⟨_,rfl,?_⟩
     refine(hG).holds.useT [] [] rfl (sk) (sk) fun e0 H0 hq=>?_
     obtain⟨rfl,rfl⟩:=hq
     refine⟨rfl,_,⟨6,(5,isO nxt)::(1,fmO (qCC (ds.take k)))::(0,ckO ds (k:Nat) 5 nxt.length)::[(4,dcO ⟨2,dn,dnm,dpl,drs,dcs⟩),(3,faO)]⟩,rfl,rfl,?_⟩
     refine VDraw.seq rfl ?_
     refine⟨_, .inl ⟨_,hi1,rfl⟩,?_⟩
     refine⟨((k+1:Nat):Int),by rw [Int.natCast_add];exact w6z,?_⟩
     exact⟨(k+1,nxt),⟨by show k+1≤ds.length;omega,k4⟩,qAB [] [(2,5),(3,3)] [] rfl (sk) ⟨⟨_,rfl,rfl,rfl,sk⟩,⟨_,rfl,rfl,rfl,rfl⟩,⟨_,rfl,rfl,rfl,congrArg Cn.ms (hi2.symm)⟩,⟨_,rfl,rfl,rfl,sk⟩,trivial⟩ rfl,by show ds.length - (k+1)<ds.length - k;omega⟩
   ·have hG:=qXV cur hC ⟨3,dn,dnm,dpl,drs,dcs⟩ hd rfl (by omega) k5
    generalize cur++qCp (ds.take k) ⟨3,dn,dnm,dpl,drs,dcs⟩ (qAk ds)=nxt at hG k4
    refine VDraw.seq rfl ?_
    refine Or.elim hor (fun hi=>?_) (fun hi=>?_)
    ·obtain⟨hi1,hi2⟩:=hi
     refine⟨by show(0:Int)≤3∧(3:Int)<6;decide,?_⟩
     refine⟨_,rfl,?_⟩
     refine(hG).holds.useT [] [] rfl (sk) (sk) fun e0 H0 hq=>?_
     obtain⟨rfl,rfl⟩:=hq
     refine⟨rfl,_,⟨6,(5,isO nxt)::(1,fmO (qCC (ds.take k)))::(0,ckO ds (k:Nat) 5 nxt.length)::[(4,dcO ⟨3,dn,dnm,dpl,drs,dcs⟩),(3,faO)]⟩,rfl,rfl,?_⟩
     refine VDraw.seq rfl ?_
     refine⟨_, .inr ⟨hi1,rfl⟩,?_⟩
     refine And.intro (fun h=>absurd h hb) (fun _=>?_)
     refine qAH qXQ (by kernel_rfl) ?_
     refine⟨_,rfl,?_⟩
     refine⟨((k+1:Nat):Int),by rw [Int.natCast_add];exact w6z,?_⟩
     exact⟨(k+1,nxt),⟨by show k+1≤ds.length;omega,k4⟩,qAB [] [(2,5),(3,3)] [] rfl (sk) ⟨⟨_,rfl,rfl,rfl,sk⟩,⟨_,rfl,rfl,rfl,rfl⟩,⟨_,rfl,rfl,rfl,congrArg Cn.ms (by rw [hi2,qG0 hi1])⟩,⟨_,rfl,rfl,rfl,sk⟩,trivial⟩ rfl,by show ds.length - (k+1)<ds.length - k;omega⟩
    ·obtain⟨i,hi1,hi2⟩:=hi
     refine⟨by show(0:Int)≤3∧(3:Int)<6;decide,?_⟩
     refine⟨_,rfl,?_⟩
     refine(hG).holds.useT [] [] rfl (sk) (sk) fun e0 H0 hq=>?_
     obtain⟨rfl,rfl⟩:=hq
     refine⟨rfl,_,⟨6,(5,isO nxt)::(1,fmO (qCC (ds.take k)))::(0,ckO ds (k:Nat) 5 nxt.length)::[(4,dcO ⟨3,dn,dnm,dpl,drs,dcs⟩),(3,faO)]⟩,rfl,rfl,?_⟩
     refine VDraw.seq rfl ?_
     refine⟨_, .inl ⟨_,hi1,rfl⟩,?_⟩
     refine⟨((k+1:Nat):Int),by rw [Int.natCast_add];exact w6z,?_⟩
     exact⟨(k+1,nxt),⟨by show k+1≤ds.length;omega,k4⟩,qAB [] [(2,5),(3,3)] [] rfl (sk) ⟨⟨_,rfl,rfl,rfl,sk⟩,⟨_,rfl,rfl,rfl,rfl⟩,⟨_,rfl,rfl,rfl,congrArg Cn.ms (hi2.symm)⟩,⟨_,rfl,rfl,rfl,sk⟩,trivial⟩ rfl,by show ds.length - (k+1)<ds.length - k;omega⟩
   ·have hG:=qTN cur hC ⟨4,dn,dnm,dpl,drs,dcs⟩ hd rfl k5
    generalize cur++qCp (ds.take k) ⟨4,dn,dnm,dpl,drs,dcs⟩ (qAk ds)=nxt at hG k4
    refine VDraw.seq rfl ?_
    refine Or.elim hor (fun hi=>?_) (fun hi=>?_)
    ·obtain⟨hi1,hi2⟩:=hi
     refine⟨by show(0:Int)≤4∧(4:Int)<6;decide,?_⟩
     refine⟨_,rfl,?_⟩
     refine(hG).holds.useT [] [] rfl (sk) (sk) fun e0 H0 hq=>?_
     obtain⟨rfl,rfl⟩:=hq
     refine⟨rfl,_,⟨6,(5,isO nxt)::(1,fmO (qCC (ds.take k)))::(0,ckO ds (k:Nat) 5 nxt.length)::[(4,dcO ⟨4,dn,dnm,dpl,drs,dcs⟩),(3,faO)]⟩,rfl,rfl,?_⟩
     refine VDraw.seq rfl ?_
     refine⟨_, .inr ⟨hi1,rfl⟩,?_⟩
     refine And.intro (fun h=>absurd h hb) (fun _=>?_)
     refine qAH qXQ (by kernel_rfl) ?_
     refine⟨_,rfl,?_⟩
     refine⟨((k+1:Nat):Int),by rw [Int.natCast_add];exact w6z,?_⟩
     exact⟨(k+1,nxt),⟨by show k+1≤ds.length;omega,k4⟩,qAB [] [(2,5),(3,3)] [] rfl (sk) ⟨⟨_,rfl,rfl,rfl,sk⟩,⟨_,rfl,rfl,rfl,rfl⟩,⟨_,rfl,rfl,rfl,congrArg Cn.ms (by rw [hi2,qG0 hi1])⟩,⟨_,rfl,rfl,rfl,sk⟩,trivial⟩ rfl,by show ds.length - (k+1)<ds.length - k;omega⟩
    ·obtain⟨i,hi1,hi2⟩:=hi
     refine⟨by show(0:Int)≤4∧(4:Int)<6;decide,?_⟩
     refine⟨_,rfl,?_⟩
     refine(hG).holds.useT [] [] rfl (sk) (sk) fun e0 H0 hq=>?_
     obtain⟨rfl,rfl⟩:=hq
     refine⟨rfl,_,⟨6,(5,isO nxt)::(1,fmO (qCC (ds.take k)))::(0,ckO ds (k:Nat) 5 nxt.length)::[(4,dcO ⟨4,dn,dnm,dpl,drs,dcs⟩),(3,faO)]⟩,rfl,rfl,?_⟩
     refine VDraw.seq rfl ?_
     refine⟨_, .inl ⟨_,hi1,rfl⟩,?_⟩
     refine⟨((k+1:Nat):Int),by rw [Int.natCast_add];exact w6z,?_⟩
     exact⟨(k+1,nxt),⟨by show k+1≤ds.length;omega,k4⟩,qAB [] [(2,5),(3,3)] [] rfl (sk) ⟨⟨_,rfl,rfl,rfl,sk⟩,⟨_,rfl,rfl,rfl,rfl⟩,⟨_,rfl,rfl,rfl,congrArg Cn.ms (hi2.symm)⟩,⟨_,rfl,rfl,rfl,sk⟩,trivial⟩ rfl,by show ds.length - (k+1)<ds.length - k;omega⟩
   ·exact absurd (hbare (.inr rfl)) hb
def scO (ds:List De):AObj:=⟨39,false, .bx [.p (des ds)]⟩
theorem qVK (ds:List De) (hb:BigP ds):Pure cx 56 [qIM ds] (·=.ret (qYi ds)):=by
 have hC:=qOU ds hb
 rw [qX2] at hC
 by_cases hv:qBq ds=true
 ·have hI:qYi ds=[isl (qMB ds),i64 0]:=by rw [qYi,if_pos hv]
  rw [hI]
  rw [if_pos hv] at hC
  refine qAF Tryz.func56 rfl rfl rfl ?_
  refine hC.eq rfl ?_
  refine And.intro (fun _=>?_) (fun h=>absurd rfl h)
  refine(qPx ds hv).holds.useT [] [(0,2)] rfl (sk) (sk) fun e0 H0 hq=>?_
  obtain⟨rfl,b,es,rfl⟩:=hq
  generalize qMB ds=R
  refine⟨rfl,_,⟨4,(3,isO R)::(1,fmO es)::(2,ckO ds (b:Nat) 3 R.length)::[(0,scO ds)]⟩,rfl,rfl,?_⟩
  exact qVe (isl R) (i64 0) rfl ⟨_,rfl,by show 0+R.length≤(R.map Iss.cells).length;simp,qAR (by simp)⟩ rfl rfl
 ·have hI:qYi ds=[isl [],i64 380]:=by rw [qYi,if_neg hv]
  rw [hI]
  rw [if_neg hv] at hC
  refine qAF Tryz.func56 rfl rfl rfl ?_
  refine hC.eq rfl ?_
  refine And.intro (fun h=>absurd (show(380:Int)=0 from h) (by decide)) (fun _=>?_)
  exact qVe (isl []) (i64 380) rfl (.inr (.inr ⟨3,rfl⟩)) rfl rfl
theorem qOG (ds:List De) (hb:BigP ds):Pure cx 33 [qIM ds] (·=.ret [i64 (qBY ds)]):=by
 have hI:=qVK ds hb
 rw [qYi] at hI
 by_cases hv:qBq ds=true
 ·rw [if_pos hv] at hI
  by_cases hn:qMB ds=[]
  ·have hs:qBY ds=0:=by rw [qBY,if_pos hv,if_pos hn]
   rw [hs]
   rw [hn] at hI
   refine qAF Tryz.func33 rfl rfl rfl ?_
   refine hI.eq rfl ?_
   refine And.intro (fun _=>?_) (fun h=>absurd rfl h)
   refine And.intro (fun h=>absurd (show(0:Int)<0 from h) (by decide)) (fun _=>?_)
   exact qAY _ rfl rfl rfl
  ·have hs:qBY ds=390:=by rw [qBY,if_pos hv,if_neg hn]
   have hl:1≤(qMB ds).length:=List.length_pos_iff.2 hn
   rw [hs]
   generalize qMB ds=R at hI hl
   refine qAF Tryz.func33 rfl rfl rfl ?_
   refine hI.eq rfl ?_
   refine And.intro (fun _=>?_) (fun h=>absurd rfl h)
   refine And.intro (fun _=>?_) (fun h=>absurd (show(0:Int)<((R.map Iss.cells).length:Nat) by rw [List.length_map];omega) h)
   exact qAY _ rfl rfl rfl
 ·rw [if_neg hv] at hI
  have hs:qBY ds=380:=by rw [qBY,if_neg hv]
  rw [hs]
  refine qAF Tryz.func33 rfl rfl rfl ?_
  refine hI.eq rfl ?_
  refine And.intro (fun h=>absurd (show(380:Int)=0 from h) (by decide)) (fun _=>?_)
  exact qAY _ rfl rfl rfl
theorem qKI (a:List UInt8) (x:PV) (b:List UInt8):∀ es:List (List UInt8 × PV),qAX (qCM es a x) b=if b=a then some x else qAX es b
 | []=>by
  show(match decide (b=a) with | true=>some x | false=>none)=if b=a then some x else none
  by_cases h:b=a
  ·rw [decide_eq_true h,if_pos h]
  ·rw [decide_eq_false h,if_neg h]
 | (k,y)::r=>by
  rw [qCM]
  by_cases h:a=k
  ·rw [decide_eq_true h]
   show qAX ((k,x)::r) b=_
   rw [qAX,qAX]
   by_cases h2:b=k
   ·rw [decide_eq_true h2,if_pos (h2.trans h.symm)]
   ·rw [decide_eq_false h2,if_neg (fun e=>h2 (e.trans h))]
  ·rw [decide_eq_false h]
   show qAX ((k,y)::qCM r a x) b=_
   rw [qAX,qAX,qKI a x b r]
   by_cases h2:b=k
   ·rw [decide_eq_true h2]
    show some y=if b=a then some x else some y
    rw [if_neg (fun e=>h (e.symm.trans h2))]
   ·rw [decide_eq_false h2]
structure SzM (ds:List De) (k:Nat) (es:List (List UInt8 × PV)):Prop where
 one:qAX es []=some (i64 1)
 plate:∀ nm,nm ≠ []→∀ t,qDE (ds.take k) nm=some t→t.kind=2→qAX es nm=some (i64 t.n)
theorem qO0 {ds:List De} {k:Nat} (hk:k<ds.length) {nm:List UInt8} {t:De} (h:qDE (ds.take (k+1)) nm=some t):qDE (ds.take k) nm=some t∨(qDE (ds.take k) nm=none∧t=ds.getD k de0∧t.name=nm):=by
 rw [qAD de0 hk] at h
 cases hf:qDE (ds.take k) nm with
 | some u=>rw [qG6 hf] at h;exact .inl h
 | none=>
  have hm:=qKD h
  rw [qDD,List.find?_append,← qDD,hf] at h
  have h2:=List.mem_of_find?_eq_some (show [ds.getD k de0].find? (fun d=>decide (d.name=nm))=some t from h)
  exact .inr ⟨rfl,List.mem_singleton.1 h2,hm.2⟩
theorem qU8 {l:List De} {d:De} {g:Int} (h:qCp l d g=[]) (hk:d.kind=2∨d.kind=3∨d.kind=4):qDE l d.name=none:=by
 have ht:qBW l d=[]:=by
  unfold qCp at h
  rcases hk with hk | hk | hk
  ·rw [if_neg (by omega),if_pos hk] at h
   exact(List.append_eq_nil_iff.1 h).1
  ·rw [if_neg (by omega),if_neg (by omega),if_pos hk] at h
   exact(List.append_eq_nil_iff.1 h).1
  ·rw [if_neg (by omega),if_neg (by omega),if_neg (by omega),if_pos hk] at h
   exact(List.append_eq_nil_iff.1 h).1
 unfold qBW at ht
 split at ht
 ·cases ht
 ·rename_i hn
  cases hf:qCL l d.name with
  | none=>exact qSq hf
  | some i=>rw [hf] at hn;exact absurd rfl hn
theorem SzM.put {ds:List De} {k:Nat} {es:List (List UInt8 × PV)} (h:SzM ds k es) (hk:k<ds.length) (h2:qDE (ds.take k) (ds.getD k de0).name=none) (hn:(ds.getD k de0).name ≠ []):SzM ds (k+1) (qCM es (ds.getD k de0).name (i64 (ds.getD k de0).n)):=by
 refine⟨by rw [qKI,if_neg (fun e=>hn e.symm)];exact h.one,fun nm hnm t ht hk2=>?_⟩
 rw [qKI]
 rcases qO0 hk ht with h3 | ⟨h3,h4,h5⟩
 ·rw [if_neg (fun e=>by rw [e,h2] at h3;cases h3)]
  exact h.plate nm hnm t h3 hk2
 ·rw [if_pos (by rw [← h5,h4]),h4]
theorem SzM.skip {ds:List De} {k:Nat} {es:List (List UInt8 × PV)} (h:SzM ds k es) (hk:k<ds.length) (h2:¬ (ds.getD k de0).kind=2):SzM ds (k+1) es:=by
 refine⟨h.one,fun nm hnm t ht hk2=>?_⟩
 rcases qO0 hk ht with h3 | ⟨h3,h4,h5⟩
 ·exact h.plate nm hnm t h3 hk2
 ·rw [h4] at hk2;exact absurd hk2 h2
end Go.Proofs.YtkegmchjobphdaaGreatDoor
namespace Go.Proofs.YtkegmchjobphdaaGreatDoor
open Go Y
set_option maxRecDepth 100000
set_option maxHeartbeats 4000000
theorem qKo {pl:List UInt8} {u:De}:∀ {l:List De},qDE l pl=some u→u.kind=2→qIN l pl=u.n
 | [],h,_=>by rw [qDD] at h;cases h
 | d::r,h,hk=>by
  rw [qDD,List.find?_cons] at h
  rw [qIN]
  by_cases hn:d.name=pl
  ·rw [decide_eq_true hn] at h
   have h:some d=some u:=h
   injection h with h
   subst h
   rw [if_pos ⟨hk,hn⟩]
  ·rw [decide_eq_false hn] at h
   rw [if_neg (fun e=>hn e.2)]
   exact qKo (by rw [qDD];exact h) hk
theorem qEE {l:List De} {d:De}:∀ {rs done:List Rf},qC2 l d done rs=[]→∀ r∈rs,qK0 l d r=0
 | x::rs,done,h,r,hr=>by
  rw [qC2] at h
  have h1:=(List.append_eq_nil_iff.1 h).2
  have h2:=List.append_eq_nil_iff.1 h1
  rcases List.mem_cons.1 hr with rfl | hr
  ·exact qEJ.1 h2.1
  ·exact qEE h2.2 r hr
theorem qRx {l:List De} {d:De} {g:Int} (ho:OkD d) (hr2:d.kind=2→d.refs=[]) (hr1:d.kind=1→d.refs=[]) (h:qCp l d g=[]):∀ r∈d.refs,qK0 l d r=0:=by
 intro r hr
 have hk:=ho.kind
 unfold qCp at h
 rcases hk with hk | hk | hk | hk | hk
 ·rw [hr1 hk] at hr;cases hr
 ·rw [hr2 hk] at hr;cases hr
 ·rw [if_neg (by omega),if_neg (by omega),if_pos hk] at h
  have:=(List.append_eq_nil_iff.1 (List.append_eq_nil_iff.1 (List.append_eq_nil_iff.1 (List.append_eq_nil_iff.1 h).2).2).2).1
  exact qEE this r hr
 ·rw [if_neg (by omega),if_neg (by omega),if_neg (by omega),if_pos hk] at h
  exact qEE (List.append_eq_nil_iff.1 (List.append_eq_nil_iff.1 h).2).2 r hr
 ·rw [if_neg (by omega),if_neg (by omega),if_neg (by omega),if_neg (by omega)] at h
  exact qEE (List.append_eq_nil_iff.1 h).1 r hr
structure FineP (ds:List De):Prop where
 valid:qBq ds=true
 clean:qMB ds=[]
section
variable {ds:List De} (h:FineP ds)
include h
theorem FineP.one {k:Nat} (hk:k<ds.length):qCp (ds.take k) (ds.getD k de0) (qAk ds)=[]:=by
 have:=qDa ds [] (base_nil h.clean).2.1 k hk
 rwa [List.nil_append] at this
theorem FineP.ok {k:Nat} (hk:k<ds.length):OkD (ds.getD k de0):=((qHN h.valid).2 _ (qAG de0 hk)).ok.ok
theorem FineP.dist:qYQ ds:=by
 intro k hk h3 j hj e
 have h1:=qU8 (h.one hk) h3
 have h2:qCL (ds.take k) (ds.getD k de0).name=none:=by
  cases hf:qCL (ds.take k) (ds.getD k de0).name with
  | none=>rfl
  | some i=>rw [qDE,hf] at h1;cases h1
 refine qSs.1 h2 (ds.getD j de0) ?_ e
 rw [← qFJ de0 hj]
 exact qAG de0 (by rw [List.length_take];omega)
theorem FineP.size {k:Nat} (hk:k<ds.length) (h3:(ds.getD k de0).kind=3) (hp:¬ (ds.getD k de0).plate=[]):∃ u,qDE (ds.take k) (ds.getD k de0).plate=some u∧u.kind=2∧qIN ds (ds.getD k de0).plate=u.n∧1≤u.n∧u.n≤6:=by
 obtain⟨u,hu,hk2⟩:=qF8 (h.one hk) h3 hp
 have hs:=qOA (base_nil h.clean).2.1 hk h3 hp
 rw [qCx,hu] at hs
 simp only [hk2,if_true] at hs
 refine⟨u,hu,hk2,?_,hs⟩
 have:=qG6 (m:=ds.drop k) hu
 rw [List.take_append_drop] at this
 exact qKo this hk2
theorem FineP.refs {j:Nat} (hj:j<ds.length) {r:Rf} (hr:r∈(ds.getD j de0).refs):qE8 r=true∧qK0 (ds.take j) (ds.getD j de0) r=0:=by
 have hv:=h.valid
 simp only [qBq,Bool.and_eq_true] at hv
 have hd:=List.all_eq_true.1 hv.2 _ (qAG de0 hj)
 simp only [declB,Bool.and_eq_true] at hd
 refine⟨List.all_eq_true.1 hd.1.2 r hr,qRx (h.ok hj) (fun e=>?_) (fun e=>?_) (h.one hj) r hr⟩
 ·have h2:=hd.2
  unfold qBo at h2
  rw [if_neg (by omega),if_pos e] at h2
  simp only [Bool.and_eq_true,decide_eq_true_eq] at h2
  exact List.eq_nil_of_length_eq_zero h2.1.2
 ·have h2:=hd.2
  unfold qBo at h2
  rw [if_pos e] at h2
  simp only [Bool.and_eq_true,decide_eq_true_eq] at h2
  exact List.eq_nil_of_length_eq_zero h2.1.2
theorem FineP.ref {j:Nat} (hj:j<ds.length) {r:Rf} (hr:r∈(ds.getD j de0).refs):∃ k,k≤j∧((ds.getD k de0).kind=3∨(ds.getD k de0).kind=4)∧(ds.getD k de0).name=r.name ∧
  (r.mode=0∨r.mode=1∨r.mode=2∨r.mode=3)∧0≤r.n∧(r.mode=0→qDo ds (ds.getD k de0)=1)∧(r.mode=2→r.n<(qDo ds (ds.getD k de0):Nat))∧qQc (ds.take j) (ds.getD j de0) r=some (ds.getD k de0).n∧(k=j→r.mode=1∧1≤r.n∧(ds.getD j de0).kind=3∧¬ (ds.getD j de0).plate=[])∧r.n≤9999:=by
 obtain⟨hB,hI⟩:=h.refs hj hr
 have hrn:r.name ≠ []:=qHn hB
 have hmode:(r.mode=0∨r.mode=1∨r.mode=2∨r.mode=3)∧0≤r.n∧r.n≤9999:=by
  simp only [qE8,Bool.and_eq_true] at hB
  have hB:=hB.2
  split at hB
  ·rename_i e
   simp only [Bool.and_eq_true,decide_eq_true_eq] at hB
   exact⟨by omega,by omega,by omega⟩
  ·split at hB
   ·rename_i e
    simp only [Bool.and_eq_true,qGZ,decide_eq_true_eq] at hB
    exact⟨by omega,by omega,by omega⟩
   ·split at hB
    ·rename_i e
     simp only [Bool.and_eq_true,qGZ,decide_eq_true_eq] at hB
     exact⟨by omega,by omega,by omega⟩
    ·cases hB
 rw [qK0] at hI
 cases hf:qCL (ds.take j) r.name with
 | none=>
  rw [qDE,hf] at hI
  simp only [Option.map_none] at hI
  by_cases ho:ownB (ds.getD j de0) r=true
  ·simp only [ownB,Bool.and_eq_true,decide_eq_true_eq] at ho
   refine⟨j,Nat.le_refl _, .inl ho.1,ho.2.2.1.symm,hmode.1,hmode.2.1,fun e=>by omega,fun e=>by omega,?_,fun _=>⟨ho.2.2.2.1,ho.2.2.2.2.2,ho.1,ho.2.1⟩,hmode.2.2⟩
   rw [qQc,qDE,hf]
   show(if ownB (ds.getD j de0) r=true then _ else _)=_
   rw [if_pos (by simp only [ownB,Bool.and_eq_true,decide_eq_true_eq];exact ho)]
  ·rw [if_neg ho] at hI;cases hI
 | some k=>
  obtain⟨hkl,hv⟩:=qWL hf
  have hlt:=qH4 hf
  rw [List.length_take] at hlt
  have hkj:k<j:=by omega
  have hnm:(ds.getD k de0).name=r.name:=by rw [← qFJ de0 hkj];exact hlt.2
  rw [hv] at hI
  simp only [] at hI
  have hpl:qHt (ds.take j) (ds.getD j de0) (ds.getD k de0) r=false:=by
   by_cases hp:qHt (ds.take j) (ds.getD j de0) (ds.getD k de0) r=true
   ·rw [if_pos hp] at hI;cases hI
   ·simpa using hp
  have hok:=h.ok hkl
  have hk34:(ds.getD k de0).kind=3∨(ds.getD k de0).kind=4:=by
   have hkd:=hok.kind
   have hbare:=hok.bare
   unfold qHt at hpl
   split at hpl
   ·cases hpl
   ·rcases hkd with e | e | e | e | e
    ·exact absurd (by rw [← hnm];exact hbare (.inl e)) hrn
    ·omega
    ·exact .inl e
    ·exact .inr e
    ·exact absurd (by rw [← hnm];exact hbare (.inr e)) hrn
  refine⟨k,by omega,hk34,hnm,hmode.1,hmode.2.1,fun e=>?_,fun e=>?_,by rw [qQc,hv];exact if_neg (by omega),fun e=>absurd e (by omega),hmode.2.2⟩
  ·unfold qHt at hpl
   rw [if_neg (by omega)] at hpl
   by_cases hp:(ds.getD k de0).plate=[]
   ·exact qEM hk34 hp
   ·rw [if_neg hp,if_pos e] at hpl;cases hpl
  ·unfold qHt at hpl
   rw [if_neg (by omega)] at hpl
   by_cases hp:(ds.getD k de0).plate=[]
   ·rw [if_pos hp] at hpl
    have:=of_decide_eq_false hpl
    omega
   ·rw [if_neg hp,if_neg (by omega),if_pos e] at hpl
    have hlt2:=of_decide_eq_false hpl
    have h3:(ds.getD k de0).kind=3:=by
     rcases hk34 with e3 | e4
     ·exact e3
     ·exact absurd (hok.plate (by omega)) hp
    obtain⟨u,hu,hk2,hs,hs1,_⟩:=h.size hkl h3 hp
    have hu2:qDE (ds.take j) (ds.getD k de0).plate=some u:=by
     have e1:ds.take j=ds.take k++(ds.take j).drop k:=by
      conv=>lhs;rw [← List.take_append_drop k (ds.take j)]
      rw [List.take_take,Nat.min_eq_left (by omega)]
     rw [e1];exact qG6 hu
    rw [qCx,hu2] at hlt2
    simp only [hk2,if_true] at hlt2
    rw [qDB hk34 hp,hs]
    omega
end
end Go.Proofs.YtkegmchjobphdaaGreatDoor
namespace Go.Proofs.YtkegmchjobphdaaGreatDoor
open Go Y
set_option maxRecDepth 100000
set_option maxHeartbeats 4000000
theorem qDy {l:List Mb} {r:Rf} {idx:Int} {i:Nat}:i∈qCK l r idx ↔ i<l.length∧isG (l.getD i mb0) r idx=true:=by
 rw [qCK,List.mem_filter,List.mem_range]
theorem qMl {l:List Mb} {refs:List Rf} {idx:Int} {i:Nat}:i∈qG2 l refs idx ↔ ∃ r∈refs,i∈qCK l r idx:=by
 rw [qG2,List.mem_filter,List.mem_range,List.any_eq_true]
 constructor
 ·rintro⟨h1,r,hr,h2⟩
  exact⟨r,hr,qDy.2 ⟨h1,h2⟩⟩
 ·rintro⟨r,hr,h⟩
  have:=qDy.1 h
  exact⟨this.1,r,hr,this.2⟩
abbrev qJx (l:List Nat):List Int:=l.map fun i=>((i:Nat):Int)
theorem qXL (l:List Mb) (refs:List Rf) (idx:Int):Inc (qJx (qG2 l refs idx)):=by
 unfold Inc qJx
 rw [List.pairwise_map]
 have h:=(List.pairwise_lt_range (n:=l.length)).filter fun i=>refs.any fun r=>isG (l.getD i mb0) r idx
 exact h.imp fun h=>by omega
theorem qXM {l:List Mb} {refs:List Rf} {idx:Int} {X:List Nat} {s:List Int} (hX:∀ i,i∈X ↔ ∃ r∈refs,i∈qCK l r idx) (hp:s.Perm (qJx X)) (hs:s.Pairwise (·≤·)):qCj s=qJx (qG2 l refs idx):=by
 refine qM9 (qTM s hs) (qXL l refs idx) fun y=>?_
 rw [qKS,hp.mem_iff]
 constructor
 ·intro h
  obtain⟨i,hi,rfl⟩:=List.mem_map.1 h
  exact List.mem_map.2 ⟨i,qMl.2 ((hX i).1 hi),rfl⟩
 ·intro h
  obtain⟨i,hi,rfl⟩:=List.mem_map.1 h
  exact List.mem_map.2 ⟨i,(hX i).2 (qMl.1 hi),rfl⟩
theorem qRs (l:List Mb) (refs:List Rf) (idx:Int):(qG2 l refs idx).Nodup:=List.nodup_range.filter _
theorem qRt {l:List Mb} {refs:List Rf} {idx:Int}:∀ i∈qG2 l refs idx,i<l.length:=fun i hi=>by
 obtain⟨r,_,h⟩:=qMl.1 hi
 exact(qDy.1 h).1
end Go.Proofs.YtkegmchjobphdaaGreatDoor
namespace Go.Proofs.YtkegmchjobphdaaGreatDoor
open Go Y
set_option maxRecDepth 100000
set_option maxHeartbeats 4000000
inductive FitC (l:List De) (x:De):Cd→Prop
 | no (n rel val:Int) (r:Rf) (st:List Int):FitC l x (.mk 0 n rel val r st [])
 | leaf (op n rel val:Int) (r:Rf) (st:List Int) (hop:op=1∨op=2∨op=3∨op=4∨op=5∨op=6) (hr:r∈x.refs) (h3:r.mode=3 ↔ op=6) (hval:op=6→0≤val) (hst:st.length≤8) (hv:∀ k,qQc l x r=some k→qLO op n val st<k):FitC l x (.mk op n rel val r st [])
 | neg (n rel val:Int) (r:Rf) (st:List Int) (a:Cd) (ha:FitC l x a):FitC l x (.mk 7 n rel val r st [a])
 | conj (n rel val:Int) (r:Rf) (st:List Int) (a b:Cd) (ha:FitC l x a) (hb:FitC l x b):FitC l x (.mk 8 n rel val r st [a,b])
 | disj (n rel val:Int) (r:Rf) (st:List Int) (a b:Cd) (ha:FitC l x a) (hb:FitC l x b):FitC l x (.mk 9 n rel val r st [a,b])
theorem qF1 {l:List De} {d:De} {op n val:Int} {r:Rf} {st:List Int} (h:qEc l d op n val r st=0):r∈d.refs∧(r.mode=3→op=6)∧∀ k,qQc l d r=some k→qLO op n val st<k:=by
 unfold qEc at h
 split at h
 ·omega
 ·rename_i h1
  split at h
  ·omega
  ·rename_i h2
   refine⟨by simpa using h1,fun e=>by omega,fun k hk=>?_⟩
   rw [hk] at h
   simp only [] at h
   split at h <;> omega
theorem qXt {f:Nat→Cd→Option Nat} {a:Cd} {az:List Cd} {m k:Nat} (h:(a::az).foldlM f m=some k):∃ q,f m a=some q∧az.foldlM f q=some k:=by
 rw [List.foldlM_cons] at h
 cases hq:f m a with
 | none=>rw [hq] at h;cases h
 | some q=>rw [hq] at h;exact⟨q,rfl,h⟩
theorem qO6 (l:List De) (x:De):∀ (d:Nat) (c:Cd) (left k:Nat),qA6 d c left=some k→qBR l x c=[]→FitC l x c
 | 0,_,_,_,h,_=>by rw [qA6] at h;cases h
 | d+1, .mk op n rel val r st ar,left,k,h,hI=>by
  rw [qA6] at h
  split at h
  ·cases h
  split at h
  rotate_left
  ·cases h
  rename_i hh
  unfold qAd at hh
  split at hh
  ·simp only [Bool.and_eq_true,decide_eq_true_eq] at hh
   obtain⟨hl,ha⟩:=hh
   obtain rfl:=List.eq_nil_of_length_eq_zero ha
   rw [qBR] at hI
   unfold qAy at hl
   split at hl
   ·rename_i hop
    simp only [Bool.and_eq_true,decide_eq_true_eq] at hl
    rw [if_neg (by omega),qEJ] at hI
    obtain⟨t1,t2,t3⟩:=qF1 hI
    refine .leaf _ _ _ _ _ _ (by omega) t1 ⟨t2,fun e=>by omega⟩ (fun e=>by omega) (by rw [hl.2];simp) t3
   ·split at hl
    ·rename_i hop
     simp only [Bool.and_eq_true,decide_eq_true_eq,qQe] at hl
     rw [if_neg (by omega),qEJ] at hI
     obtain⟨t1,t2,t3⟩:=qF1 hI
     refine .leaf _ _ _ _ _ _ (by omega) t1 ⟨t2,fun e=>by omega⟩ (fun e=>by omega) hl.2.1.2 t3
    ·split at hl
     ·rename_i hop
      simp only [Bool.and_eq_true,decide_eq_true_eq,qGZ] at hl
      rw [if_neg (by omega),qEJ] at hI
      obtain⟨t1,t2,t3⟩:=qF1 hI
      refine .leaf _ _ _ _ _ _ (by omega) t1 ⟨t2,fun _=>hl.1.1.1.1.1.2⟩ (fun e=>by omega) (by rw [hl.2];simp) t3
     ·cases hl
  ·rename_i hN
   simp only [Bool.and_eq_true,decide_eq_true_eq] at hh
   obtain⟨ha,_⟩:=hh
   unfold qAe at ha hN
   split at ha
   ·rename_i h7
    subst h7
    match ar,ha,h,hI with
    | [a],_,h,hI=>
     obtain⟨q,hq,_⟩:=qXt h
     rw [qBR] at hI
     exact .neg _ _ _ _ _ _ (qO6 l x d a _ _ hq (List.append_eq_nil_iff.1 hI).1)
   ·split at ha
    ·rename_i h89
     match ar,ha,h,hI with
     | [a,b],_,h,hI=>
      obtain⟨q,hq,h⟩:=qXt h
      obtain⟨q2,hq2,_⟩:=qXt h
      rw [qBR,qBO] at hI
      have hI2:=List.append_eq_nil_iff.1 hI
      have hb:=(List.append_eq_nil_iff.1 hI2.2).1
      have hfa:=qO6 l x d a _ _ hq hI2.1
      have hfb:=qO6 l x d b _ _ hq2 hb
      rcases h89 with rfl | rfl
      ·exact .conj _ _ _ _ _ _ _ hfa hfb
      ·exact .disj _ _ _ _ _ _ _ hfa hfb
    ·rename_i h7 h89
     rw [if_neg h7,if_neg h89] at hN
     exact absurd rfl hN
theorem qU5 {l:List De} {x:De}:∀ {c:Cd},qFa c=true→FitC l x c
 | .mk op n rel val r st ar,h=>by
  simp only [qFa,Bool.and_eq_true,decide_eq_true_eq] at h
  obtain⟨⟨rfl,_⟩,h⟩:=h
  obtain rfl:=List.eq_nil_of_length_eq_zero h
  exact .no ..
theorem qXT:∀ {c:Cd},qFa c=true→∃ n rel val r st,c=.mk 0 n rel val r st []
 | .mk op n rel val r st ar,h=>by
  simp only [qFa,Bool.and_eq_true,decide_eq_true_eq] at h
  obtain⟨⟨rfl,_⟩,h⟩:=h
  obtain rfl:=List.eq_nil_of_length_eq_zero h
  exact⟨_,_,_,_,_,rfl⟩
theorem qJH:∀ {l:List Cs},qBw l=true→∀ c∈l,qEo c.nums=true∧(qFa c.cond=true∨(qA6 8 c.cond 30).isSome=true)
 | [],_,c,hc=>by cases hc
 | [x],h,c,hc=>by
  simp only [qBw,Bool.and_eq_true] at h
  rw [List.mem_singleton.1 hc]
  exact⟨h.1, .inl h.2⟩
 | x::y::r,h,c,hc=>by
  simp only [qBw,Bool.and_eq_true] at h
  rcases List.mem_cons.1 hc with rfl | hc
  ·exact⟨h.1.1, .inr h.1.2⟩
  ·exact qJH (l:=y::r) h.2 c hc
theorem qJI:∀ {l:List Cs},qBw l=true→l ≠ []→∃ c∈l,qFa c.cond=true
 | [],_,h=>absurd rfl h
 | [x],h,_=>by
  simp only [qBw,Bool.and_eq_true] at h
  exact⟨x,List.mem_singleton.2 rfl,h.2⟩
 | x::y::r,h,_=>by
  simp only [qBw,Bool.and_eq_true] at h
  obtain⟨c,hc,e⟩:=qJI (l:=y::r) h.2 (by simp)
  exact⟨c,List.mem_cons_of_mem _ hc,e⟩
theorem qQS {l:List De} {d:De} {g:Int} {cs:List Cs} (h:casesI l d g cs=[]):∀ c∈cs,qBR l d c.cond=[]∧qL9 d c.nums g=true:=by
 intro c hc
 rw [casesI,List.flatMap_eq_nil_iff] at h
 have h:=List.append_eq_nil_iff.1 (h c hc)
 refine⟨h.1,?_⟩
 by_cases hr:qL9 d c.nums g=true
 ·exact hr
 ·rw [if_neg hr] at h;cases h.2
theorem qSJ (p:List De) (d:De) (r:List De):qAL p (d::r)=qFs p d++qAL p r:=by rw [qAL,List.flatMap_cons];rfl
section
variable {ds:List De} (h:FineP ds)
include h
theorem FineP.declB {j:Nat} (hj:j<ds.length):declB (ds.getD j de0)=true:=by
 have hv:=h.valid
 simp only [qBq,Bool.and_eq_true] at hv
 exact List.all_eq_true.1 hv.2 _ (qAG de0 hj)
theorem FineP.casesB {j:Nat} (hj:j<ds.length) (hk:(ds.getD j de0).kind=3∨(ds.getD j de0).kind=5):casesB (ds.getD j de0).cases=true:=by
 have hd:=h.declB hj
 simp only [Go.Proofs.YtkegmchjobphdaaGreatDoor.declB,Bool.and_eq_true] at hd
 have h2:=hd.2
 unfold qBo at h2
 rcases hk with e | e
 ·rw [if_neg (by omega),if_neg (by omega),if_pos e] at h2
  simp only [Bool.and_eq_true] at h2
  exact h2.2
 ·rw [if_neg (by omega),if_neg (by omega),if_neg (by omega),if_neg (by omega),if_pos e] at h2
  simp only [Bool.and_eq_true] at h2
  exact h2.2
theorem FineP.casesI {j:Nat} (hj:j<ds.length) (hk:(ds.getD j de0).kind=3∨(ds.getD j de0).kind=5):casesI (ds.take j) (ds.getD j de0) (qAk ds) (ds.getD j de0).cases=[]:=by
 have h1:=h.one hj
 unfold qCp at h1
 rcases hk with e | e
 ·rw [if_neg (by omega),if_neg (by omega),if_pos e] at h1
  exact(List.append_eq_nil_iff.1 (List.append_eq_nil_iff.1 (List.append_eq_nil_iff.1 (List.append_eq_nil_iff.1 h1).2).2).2).2
 ·rw [if_neg (by omega),if_neg (by omega),if_neg (by omega),if_neg (by omega)] at h1
  exact(List.append_eq_nil_iff.1 h1).2
theorem FineP.case {j:Nat} (hj:j<ds.length) (hk:(ds.getD j de0).kind=3∨(ds.getD j de0).kind=5) {c:Cs} (hc:c∈(ds.getD j de0).cases):FitC (ds.take j) (ds.getD j de0) c.cond∧qL9 (ds.getD j de0) c.nums (qAk ds)=true∧1≤c.nums.length∧c.nums.length≤8:=by
 have hB:=h.casesB hj hk
 simp only [Go.Proofs.YtkegmchjobphdaaGreatDoor.casesB,Bool.and_eq_true,decide_eq_true_eq] at hB
 obtain⟨h1,h2⟩:=qJH hB.2 c hc
 obtain⟨h3,h4⟩:=qQS (h.casesI hj hk) c hc
 simp only [qEo,Bool.and_eq_true,decide_eq_true_eq] at h1
 refine⟨?_,h4,h1.1.1,h1.1.2⟩
 rcases h2 with h2 | h2
 ·exact qU5 h2
 ·obtain⟨k,hk⟩:=Option.isSome_iff_exists.1 h2
  exact qO6 _ _ _ _ _ _ hk h3
theorem FineP.few {j:Nat} (hj:j<ds.length) (hk:(ds.getD j de0).kind=3∨(ds.getD j de0).kind=5):1≤(ds.getD j de0).cases.length∧(ds.getD j de0).cases.length≤12:=by
 have hB:=h.casesB hj hk
 simp only [Go.Proofs.YtkegmchjobphdaaGreatDoor.casesB,Bool.and_eq_true,decide_eq_true_eq] at hB
 exact hB.1
theorem FineP.last {j:Nat} (hj:j<ds.length) (hk:(ds.getD j de0).kind=3∨(ds.getD j de0).kind=5):∃ c∈(ds.getD j de0).cases,∃ n rel val r st,c.cond=.mk 0 n rel val r st []:=by
 have hB:=h.casesB hj hk
 simp only [Go.Proofs.YtkegmchjobphdaaGreatDoor.casesB,Bool.and_eq_true,decide_eq_true_eq] at hB
 obtain⟨c,hc,e⟩:=qJI hB.2 (fun e=>by rw [e] at hB;have:=hB.1.1;simp at this)
 exact⟨c,hc,qXT e⟩
theorem FineP.member {m:Mb} (hm:m∈qAL ds ds):∃ j,j<ds.length∧m.d=ds.getD j de0∧((ds.getD j de0).kind=3∨(ds.getD j de0).kind=4)∧0≤m.idx∧m.idx<(qDo ds (ds.getD j de0):Nat)∧m∈qFs ds (ds.getD j de0):=by
 have _:=h
 obtain⟨d,hd,hb⟩:=List.mem_flatMap.1 hm
 obtain⟨j,hj,rfl⟩:=qEX de0 hd
 have e:=qPP hb
 have hk:=(qOh hm).2
 rw [e] at hk
 obtain⟨i,hi,rfl⟩:=qEX mb0 hb
 have:=qTU hk hi
 exact⟨j,hj,e,hk,by rw [this.2];omega,by rw [this.2,qDo];omega,hb⟩
theorem FineP.card {m:Mb} (hm:m∈qAL ds ds):2≤m.d.n∧m.d.n≤4:=by
 obtain⟨j,hj,e,hk,_⟩:=h.member hm
 rw [e]
 exact qFW (h.one hj) hk
theorem FineP.size6 {d:De} (hd:d∈ds):qIN ds d.plate≤6:=by
 obtain⟨j,hj,rfl⟩:=qEX de0 hd
 by_cases hp:(ds.getD j de0).plate=[]
 ·have key:∀ (l:List De),(∀ d∈l,d.kind=2→d.name ≠ [])→qIN l []=0:=by
   intro l
   induction l with
   | nil=>intro _;rfl
   | cons x l ih=>
    intro hl
    rw [qIN,if_neg (fun e=>hl x (List.mem_cons_self ..) e.1 e.2)]
    exact ih fun d hd=>hl d (List.mem_cons_of_mem _ hd)
  rw [hp,key ds fun d hd hk=>by
   obtain⟨i,hi,rfl⟩:=qEX de0 hd
   exact(h.ok hi).name (.inl hk)]
  decide
 ·by_cases h3:(ds.getD j de0).kind=3
  ·obtain⟨u,_,_,hs,_,h6⟩:=h.size hj h3 hp
   rw [hs];exact h6
  ·exact absurd ((h.ok hj).plate h3) hp
theorem FineP.mem_len {k:Nat} (hk:k<ds.length):qVE (ds.take k) (ds.getD k de0)=(qFs ds (ds.getD k de0)).length:=by
 unfold qVE
 by_cases h3:(ds.getD k de0).kind=3
 ·rw [if_pos h3]
  by_cases hp:(ds.getD k de0).plate=[]
  ·rw [if_pos hp,← qDo,qEM (.inl h3) hp]
  ·rw [if_neg hp,← qDo,qDB (.inl h3) hp]
   obtain⟨u,hu,hk2,hs,_⟩:=h.size hk h3 hp
   rw [hs,qCx,hu]
   simp only [hk2,if_true]
 ·rw [if_neg h3]
  by_cases h4:(ds.getD k de0).kind=4
  ·rw [if_pos h4,← qDo,qEM (.inr h4) ((h.ok hk).plate h3)]
  ·rw [if_neg h4,qFs,if_neg (by omega)];rfl
theorem FineP.nodes:∀ n k,n+k=ds.length→qAT (ds.take k) (ds.drop k)=(qAL ds (ds.drop k)).length∧qAf (ds.take k) (ds.drop k)=((qAL ds (ds.drop k)).map fun m=>m.d.n.toNat).foldr (· * ·) 1:=by
 intro n
 induction n with
 | zero=>
  intro k hk
  rw [List.drop_eq_nil_of_le (by omega)]
  exact⟨rfl,rfl⟩
 | succ n ih=>
  intro k hk
  obtain⟨i1,i2⟩:=ih (k+1) (by omega)
  have hk':k<ds.length:=by omega
  rw [qAD de0 hk'] at i1 i2
  rw [qDJ de0 hk',qAT,qAf,i1,i2,h.mem_len hk',qSJ,List.length_append,List.map_append,List.foldr_append]
  refine⟨rfl,?_⟩
  have key:∀ (B:List Mb) (x:Nat),(∀ m∈B,m.d=ds.getD k de0)→(B.map fun m=>m.d.n.toNat).foldr (· * ·) x=(ds.getD k de0).n.toNat ^ B.length * x:=by
   intro B
   induction B with
   | nil=>intro x _;simp
   | cons m B ihB=>
    intro x hB
    rw [List.map_cons,List.foldr_cons,ihB x fun y hy=>hB y (List.mem_cons_of_mem _ hy),hB m (List.mem_cons_self ..),List.length_cons,Nat.pow_succ,Nat.mul_comm ((ds.getD k de0).n.toNat ^ B.length) (ds.getD k de0).n.toNat,Nat.mul_assoc]
  exact(key _ _ fun m hm=>qPP hm).symm
theorem FineP.eight:1≤(qAL ds ds).length∧(qAL ds ds).length≤8:=by
 have hb:=qZ3 (base_nil h.clean).2.2
 have:=(h.nodes ds.length 0 rfl).1
 rw [List.take_zero,List.drop_zero] at this
 omega
theorem FineP.len:2≤ds.length∧ds.length≤30:=by
 have h1:=(qHN h.valid).1
 have h8:=h.eight.1
 refine⟨?_,h1⟩
 have hh:=(base_nil h.clean).1
 match ds,hh,h8 with
 | [],hh,h8=>cases hh
 | [d],hh,h8=>
  unfold qEw at hh
  simp only [] at hh
  split at hh
  ·rename_i hk
   rw [qAL,List.flatMap_cons,List.flatMap_nil,List.append_nil,qFs,if_neg (by omega)] at h8
   simp at h8
  ·cases hh
 | a::b::r,_,_=>simp
end
end Go.Proofs.YtkegmchjobphdaaGreatDoor
namespace Go.Proofs.YtkegmchjobphdaaGreatDoor
open Go Y
set_option maxRecDepth 100000
set_option maxHeartbeats 4000000
section
variable (card:Nat→Nat)
def qBu:List Nat→List Int→List (List Int)
 | [],v=>[v]
 | x::r,v=>(List.range (card x)).flatMap fun c=>qBu r (v.set x (c:Nat))
def stepG:List Nat→List Int→Bool × List Int
 | [],v=>(false,v)
 | x::r,v=>match stepG r v with
  | (true,u)=>(true,u)
  | (false,u)=>if u.getD x 0+1<(card x:Nat) then(true,u.set x (u.getD x 0+1)) else(false,u.set x 0)
end
theorem qFO (l:List Mb) (cs:List Cs) (idx:Int):∀ (nodes:List Nat) (v:List Int),qDs l cs idx nodes v=(qBu (fun i=>((l.getD i mb0).d.n).toNat) nodes v).map (qDw l cs idx)
 | [],v=>rfl
 | x::r,v=>by
  rw [qDs,qBu,List.map_flatMap]
  congr 1
  funext c
  exact qFO l cs idx r _
def qIU (s:List Int→Bool × List Int) (e:Bool × List Int):List (List Int)→Prop
 | []=>True
 | [a]=>s a=e
 | a::b::r=>s a=(true,b)∧qIU s e (b::r)
theorem qOw {s:List Int→Bool × List Int} {e:Bool × List Int}:∀ {A B:List (List Int)} {b:List Int},qIU s (true,b) A→qIU s e (b::B)→qIU s e (A++b::B)
 | [],_,_,_,h=>h
 | [_],_,_,h,k=>⟨h,k⟩
 | _::c::r,_,_,h,k=>⟨h.1,qOw (A:=c::r) h.2 k⟩
theorem qOv {s t:List Int→Bool × List Int} {e e':Bool × List Int} (h1:∀ a b,s a=(true,b)→t a=(true,b)) (h2:∀ a,s a=e→t a=e'):∀ {A:List (List Int)},qIU s e A→qIU t e' A
 | [],_=>trivial
 | [a],h=>h2 a h
 | a::b::r,h=>⟨h1 a b h.1,qOv h1 h2 (A:=b::r) h.2⟩
theorem qIF (card:Nat→Nat):∀ (nodes:List Nat) (v:List Int),(∀ x∈nodes,1≤card x∧x<v.length∧v.getD x 0=0)→∃ B,qBu card nodes v=v::B
 | [],v,_=>⟨[],rfl⟩
 | x::r,v,h=>by
  obtain⟨hc,hx,hz⟩:=h x (List.mem_cons_self ..)
  have hv:v.set x ((0:Nat):Int)=v:=by
   apply List.ext_getElem?
   intro i
   rw [List.getElem?_set]
   by_cases e:x=i
   ·subst e
    rw [if_pos rfl,if_pos hx]
    rw [List.getD_eq_getElem?_getD,List.getElem?_eq_getElem hx] at hz
    rw [List.getElem?_eq_getElem hx]
    have hz:v[x]=0:=hz
    rw [hz];rfl
   ·rw [if_neg e]
  obtain⟨B,hB⟩:=qIF card r v fun y hy=>h y (List.mem_cons_of_mem _ hy)
  obtain⟨m,hm⟩:∃ m,card x=m+1:=⟨card x - 1,by omega⟩
  rw [qBu,hm,List.range_succ_eq_map,List.flatMap_cons,hv,hB]
  exact⟨_,rfl⟩
theorem qW4 {v:List Int} {x:Nat} {c:Int} (h:x<v.length):(v.set x c).getD x 0=c:=by
 rw [List.getD_eq_getElem?_getD,List.getElem?_set,if_pos rfl,if_pos h];rfl
theorem qRR {v:List Int} {x y:Nat} {c:Int} (h:x ≠ y):(v.set x c).getD y 0=v.getD y 0:=by
 rw [List.getD_eq_getElem?_getD,List.getElem?_set,if_neg h,← List.getD_eq_getElem?_getD]
theorem qUh {v:List Int} {x:Nat} (hx:x<v.length) (hz:v.getD x 0=0):v.set x 0=v:=by
 apply List.ext_getElem?
 intro i
 rw [List.getElem?_set]
 by_cases e:x=i
 ·subst e
  rw [if_pos rfl,if_pos hx]
  rw [List.getD_eq_getElem?_getD,List.getElem?_eq_getElem hx] at hz
  rw [List.getElem?_eq_getElem hx]
  have hz:v[x]=0:=hz
  rw [hz]
 ·rw [if_neg e]
theorem qLn (card:Nat→Nat):∀ (nodes:List Nat) (v:List Int),nodes.Nodup→(∀ x∈nodes,1≤card x∧x<v.length∧v.getD x 0=0)→qIU (stepG card nodes) (false,v) (qBu card nodes v)
 | [],v,_,_=>rfl
 | x::r,v,hn,h=>by
  obtain⟨hc,hx,hz⟩:=h x (List.mem_cons_self ..)
  rw [List.nodup_cons] at hn
  have hr:∀ (c:Int),∀ y∈r,1≤card y∧y<(v.set x c).length∧(v.set x c).getD y 0=0:=fun c y hy=>by
   obtain⟨a1,a2,a3⟩:=h y (List.mem_cons_of_mem _ hy)
   refine⟨a1,by rw [List.length_set];exact a2,?_⟩
   rw [qRR (fun e=>hn.1 (by rw [e];exact hy))];exact a3
  have blk:∀ (c:Nat) (e:Bool × List Int),(if ((c:Nat):Int)+1<(card x:Nat) then(true,v.set x (((c+1:Nat)):Int)) else(false,v))=e→qIU (stepG card (x::r)) e (qBu card r (v.set x (c:Nat))):=by
   intro c e he
   refine qOv (s:=stepG card r) (e:=(false,v.set x (c:Nat))) (fun a b hab=>?_) (fun a ha=>?_) (qLn card r _ hn.2 (hr _))
   ·rw [stepG,hab]
   ·rw [stepG,ha]
    simp only [qW4 hx,List.set_set]
    rw [← he]
    split
    ·rw [Int.natCast_add];rfl
    ·rw [qUh hx hz]
  have go:∀ (m c:Nat),c+m=card x→1≤m→qIU (stepG card (x::r)) (false,v) ((List.range' c m).flatMap fun c=>qBu card r (v.set x (c:Nat))):=by
   intro m
   induction m with
   | zero=>intro c _ h1;omega
   | succ m ih=>
    intro c hcm _
    rw [List.range'_succ,List.flatMap_cons]
    by_cases hm:m=0
    ·subst hm
     rw [List.range'_zero,List.flatMap_nil,List.append_nil]
     exact blk c _ (by rw [if_neg (by omega)])
    ·obtain⟨B,hB⟩:=qIF card r (v.set x ((c+1:Nat):Int)) (hr _)
     have ih:=ih (c+1) (by omega) (by omega)
     obtain⟨k,rfl⟩:∃ k,m=k+1:=⟨m - 1,by omega⟩
     rw [List.range'_succ,List.flatMap_cons,hB] at ih ⊢
     rw [List.cons_append] at ih ⊢
     exact qOw (blk c _ (by rw [if_pos (by omega)])) ih
  rw [qBu,List.range_eq_range']
  exact go (card x) 0 (by omega) hc
theorem qSn {s:List Int→Bool × List Int} {e:Bool × List Int}:∀ {A:List (List Int)},qIU s e A→∀ k,k<A.length→s (A.getD k [])=if k+1<A.length then(true,A.getD (k+1) []) else e
 | [],_,k,hk=>by cases hk
 | [a],h,k,hk=>by
  obtain rfl:k=0:=by simpa using hk
  rw [if_neg (by simp)];exact h
 | a::b::r,h,k,hk=>by
  cases k with
  | zero=>rw [if_pos (by simp)];exact h.1
  | succ k=>
   have ih:=qSn (A:=b::r) h.2 k (by simpa using hk)
   show s ((b::r).getD k [])=if k+1+1<(b::r).length+1 then(true,(b::r).getD (k+1) []) else e
   rw [ih]
   by_cases h1:k+1<(b::r).length
   ·rw [if_pos h1,if_pos (by omega)]
   ·rw [if_neg h1,if_neg (by omega)]
end Go.Proofs.YtkegmchjobphdaaGreatDoor
namespace Go.Proofs.YtkegmchjobphdaaGreatDoor
open Go Y
set_option maxRecDepth 100000
set_option maxHeartbeats 4000000
def qZW (fd:Fd) (vals:List Int) (op n rel val:Int) (st:List Int):Bool:=match fd with
 | .none=>false
 | .one i=>if op=5 then st.any fun x=>decide (x=vals.getD i 0) else qQh op (vals.getD i 0) n
 | .many l=>qQh rel ((l.filter fun i=>decide (vals.getD i 0=val)).length:Nat) n
theorem qSV {l:List Mb} {idx:Int} {vals:List Int} {op n rel val:Int} {r:Rf} {st:List Int} {fd:Fd} (h:qCK l r idx=fd.list) (h6:op=6 ↔ ∃ k,fd=.many k):qQD l idx vals op n rel val r st=qZW fd vals op n rel val st:=by
 unfold qQD
 rw [h]
 cases fd with
 | none=>
  rw [if_neg (fun e=>by obtain⟨k,hk⟩:=h6.1 e;cases hk)];rfl
 | one i=>
  rw [if_neg (fun e=>by obtain⟨k,hk⟩:=h6.1 e;cases hk)];rfl
 | many k=>rw [if_pos (h6.2 ⟨k,rfl⟩)];rfl
theorem qS1 {base size:Nat} {r:Rf} {idx:Int} (_:r.mode=0∨r.mode=1∨r.mode=2∨r.mode=3):(∃ k,qBj base size r idx=.many k) ↔ r.mode=3:=by
 unfold qBj
 constructor
 ·rintro⟨k,hk⟩
  split at hk
  ·cases hk
  ·split at hk
   ·cases hk
   ·split at hk
    ·assumption
    ·split at hk
     ·split at hk <;> cases hk
     ·cases hk
 ·intro e
  rw [if_neg (by omega),if_neg (by omega),if_pos e]
  exact⟨_,rfl⟩
theorem qM2 {l:List Mb} {idx:Int} {v u:List Int} (h:∀ i,i<l.length→v.getD i 0=u.getD i 0) (op n rel val:Int) (r:Rf) (st:List Int):qQD l idx v op n rel val r st=qQD l idx u op n rel val r st:=by
 have hN:∀ i∈qCK l r idx,i<l.length:=fun i hi=>(qDy.1 hi).1
 unfold qQD
 have e1:(qCK l r idx).filter (fun i=>decide (v.getD i 0=val))=(qCK l r idx).filter fun i=>decide (u.getD i 0=val):=List.filter_congr fun i hi=>by rw [h i (hN i hi)]
 rw [e1]
 split
 ·rfl
 ·cases hq:qCK l r idx with
  | nil=>rfl
  | cons i k=>
   have:=h i (hN i (by rw [hq];exact List.mem_cons_self ..))
   simp only [this]
mutual
theorem qGf {l:List Mb} {idx:Int} {v u:List Int} (h:∀ i,i<l.length→v.getD i 0=u.getD i 0):∀ c:Cd,qAc l idx v c=qAc l idx u c
 | .mk op n rel val r st ar=>by rw [qAc,qAc,qFh h ar,qM2 h]
theorem qFh {l:List Mb} {idx:Int} {v u:List Int} (h:∀ i,i<l.length→v.getD i 0=u.getD i 0):∀ c:List Cd,qBH l idx v c=qBH l idx u c
 | []=>rfl
 | c::r=>by rw [qBH,qBH,qGf h c,qFh h r]
end
theorem qMn {l:List Mb} {cs:List Cs} {idx:Int} {v u:List Int} (h:∀ i,i<l.length→v.getD i 0=u.getD i 0):qDw l cs idx v=qDw l cs idx u:=by
 have:(fun c:Cs=>qAc l idx v c.cond)=fun c:Cs=>qAc l idx u c.cond:=funext fun c=>qGf h c.cond
 unfold qDw
 rw [this]
theorem qY5 {v:List Int} {x i:Nat} {c:Int}:(v.set x c).getD i 0=if x=i∧x<v.length then c else v.getD i 0:=by
 rw [List.getD_eq_getElem?_getD,List.getElem?_set]
 by_cases e:x=i
 ·subst e
  by_cases hx:x<v.length
  ·rw [if_pos rfl,if_pos hx,if_pos ⟨rfl,hx⟩];rfl
  ·rw [if_pos rfl,if_neg hx,if_neg (fun h=>hx h.2),List.getD_eq_getElem?_getD,List.getElem?_eq_none (by omega)]
 ·rw [if_neg e,if_neg (fun h=>e h.1),List.getD_eq_getElem?_getD]
theorem qHh {l:List Mb} {cs:List Cs} {idx:Int}:∀ {nodes:List Nat} {v u:List Int},(∀ i,i<l.length→v.getD i 0=u.getD i 0)→(∀ x∈nodes,x<v.length∧x<u.length)→qDs l cs idx nodes v=qDs l cs idx nodes u
 | [],v,u,h,_=>by rw [qDs,qDs,qMn h]
 | x::r,v,u,h,hn=>by
  rw [qDs,qDs]
  congr 1
  funext c
  obtain⟨h1,h2⟩:=hn x (List.mem_cons_self ..)
  refine qHh (fun i hi=>?_) fun y hy=>?_
  ·rw [qY5,qY5,h i hi]
   by_cases e:x=i
   ·rw [if_pos ⟨e,h1⟩,if_pos ⟨e,h2⟩]
   ·rw [if_neg (fun h=>e h.1),if_neg (fun h=>e h.1)]
  ·rw [List.length_set,List.length_set];exact hn y (List.mem_cons_of_mem _ hy)
theorem qT2 (n i:Nat):(qBS n).getD i 0=0:=by
 rw [qBS,List.getD_eq_getElem?_getD,List.getElem?_replicate]
 split <;> rfl
theorem qIg {l:List Mb} {cs:List Cs} {idx:Int} {nodes:List Nat} {n m:Nat} (h:∀ x∈nodes,x<n∧x<m):qDs l cs idx nodes (qBS n)=qDs l cs idx nodes (qBS m):=
 qHh (fun i _=>by rw [qT2,qT2]) fun x hx=>by rw [qBS,qBS,List.length_replicate,List.length_replicate];exact h x hx
theorem qPG {card:Nat→Nat}:∀ {nodes:List Nat} {v w:List Int},w∈qBu card nodes v→w.length=v.length∧(∀ i,i ∉ nodes→w.getD i 0=v.getD i 0)∧∀ i∈nodes,i<v.length→∃ c:Nat,c<card i∧w.getD i 0=c
 | [],v,w,h=>by
  rw [qBu,List.mem_singleton] at h
  subst h
  exact⟨rfl,fun _ _=>rfl,fun i hi=>by cases hi⟩
 | x::r,v,w,h=>by
  rw [qBu,List.mem_flatMap] at h
  obtain⟨c,hc,h⟩:=h
  have hc:=List.mem_range.1 hc
  obtain⟨h1,h2,h3⟩:=qPG h
  rw [List.length_set] at h1 h3
  refine⟨h1,fun i hi=>?_,fun i hi hl=>?_⟩
  ·rw [h2 i (fun e=>hi (List.mem_cons_of_mem _ e)),qY5,if_neg (fun e=>hi (by rw [e.1];exact List.mem_cons_self ..))]
  ·by_cases hr:i∈r
   ·exact h3 i hr hl
   ·rcases List.mem_cons.1 hi with rfl | hi
    ·exact⟨c,hc,by rw [h2 i hr,qY5,if_pos ⟨rfl,hl⟩]⟩
    ·exact absurd hi hr
end Go.Proofs.YtkegmchjobphdaaGreatDoor
namespace Go.Proofs.YtkegmchjobphdaaGreatDoor
open Go Y
set_option maxRecDepth 100000
set_option maxHeartbeats 4000000
theorem qYr {n:Nat} (h:n<18446744073709551616):(n:Int)=IntKind.u64.wrap (n:Int):=by
 simp [IntKind.wrap,IntKind.bits,IntKind.signed]
 omega
theorem bvG {n:Nat} (h:n<18446744073709551616):(BitVec.ofInt 64 (n:Int)).toNat=n:=by
 rw [BitVec.ofInt_natCast,BitVec.toNat_ofNat]
 exact Nat.mod_eq_of_lt h
theorem orG {a b:Nat} (ha:a<18446744073709551616) (hb:b<18446744073709551616):((a ||| b:Nat):Int)=IntKind.u64.wrap (((BitVec.ofInt 64 (a:Int) ||| BitVec.ofInt 64 (b:Int)).toNat:Nat):Int):=by
 rw [BitVec.toNat_or,bvG ha,bvG hb]
 exact qYr (Nat.or_lt_two_pow (n:=64) ha hb)
theorem qb4 {k:Nat} (hk:k<64):((2 ^ k:Nat):Int)=IntKind.u64.wrap (1 * 2 ^ (min ((k:Int)).toNat 64)):=by
 rw [Int.toNat_natCast,Nat.min_eq_left (by omega),Int.one_mul]
 have:(2:Nat) ^ k<2 ^ 64:=Nat.pow_lt_pow_right (by decide) hk
 have e:((2:Int) ^ k)=((2 ^ k:Nat):Int):=by norm_cast
 rw [e]
 exact qYr this
theorem qcB {k:Nat} (hk:k<64):2 ^ k<18446744073709551616:=Nat.pow_lt_pow_right (a:=2) (by decide) hk
theorem qPE:∀ (a b:List Mb) (i:Nat),qKP (a++b) i=qKP a i+qKP b (i+a.length)
 | [],b,i=>by rw [List.nil_append,qKP,Nat.zero_add,List.length_nil,Nat.add_zero]
 | m::a,b,i=>by
  rw [List.cons_append,qKP,qKP,qPE a b (i+1),List.length_cons,show i+(a.length+1)=i+1+a.length by omega];exact(Nat.add_assoc ..).symm
theorem qTF:∀ (a:List Mb) (i:Nat),qKP a i+2 ^ i≤2 ^ (i+a.length)
 | [],i=>by rw [qKP,Nat.zero_add];exact Nat.le_refl _
 | m::a,i=>by
  have h:=qTF a (i+1)
  have e:2 ^ (i+1)=2 ^ i * 2:=Nat.pow_succ ..
  rw [qKP,List.length_cons,show i+(a.length+1)=i+1+a.length by omega]
  split <;> omega
theorem qTE (l:List Mb) {k:Nat} (hk:k<l.length):qKP (l.take (k+1)) 0=qKP (l.take k) 0+(if (l.getD k mb0).d.kind=4 then 2 ^ k else 0):=by
 rw [qAD mb0 hk,qPE,List.length_take,Nat.min_eq_left (by omega),Nat.zero_add,qKP,qKP,Nat.add_zero]
theorem qXy (l:List Mb) {k:Nat} (hk:k≤l.length):qKP (l.take k) 0<2 ^ k:=by
 have h:=qTF (l.take k) 0
 rw [List.length_take,Nat.min_eq_left hk,Nat.zero_add] at h
 omega
theorem qZL {a k:Nat} (h:a<2 ^ k):a ||| 2 ^ k=a+2 ^ k:=by
 have:=Nat.two_pow_add_eq_or_of_lt (i:=k) (b:=a) h 1
 rw [Nat.mul_one] at this
 rw [Nat.or_comm,← this,Nat.add_comm]
section
variable {ds:List De} (h:FineP ds)
include h
theorem FineP.refn {j:Nat} (hj:j<ds.length):(ds.getD j de0).refs.length≤8∧∀ r∈(ds.getD j de0).refs,-100000≤r.n∧r.n≤100000:=by
 have hd:=h.declB hj
 simp only [Go.Proofs.YtkegmchjobphdaaGreatDoor.declB,Bool.and_eq_true,decide_eq_true_eq] at hd
 refine⟨hd.1.1.2,fun r hr=>?_⟩
 obtain⟨k,_,_,_,_,h0,_,_,_,_,h9⟩:=h.ref hj hr
 exact⟨by omega,by omega⟩
theorem FineP.name_len {d:De} (hd:d∈ds):d.name.length≤10:=by
 obtain⟨j,hj,rfl⟩:=qEX de0 hd
 have hd:=h.declB hj
 simp only [Go.Proofs.YtkegmchjobphdaaGreatDoor.declB,Bool.and_eq_true] at hd
 have h2:=hd.2
 unfold qBo at h2
 split at h2
 ·simp only [Bool.and_eq_true,decide_eq_true_eq] at h2
  rw [h2.1.1.1];decide
 ·split at h2
  ·simp only [Bool.and_eq_true,decide_eq_true_eq,qBU] at h2
   exact h2.1.1.1.1.1.1.2
  ·split at h2
   ·simp only [Bool.and_eq_true,decide_eq_true_eq,qBU] at h2
    exact h2.1.1.1.1.1.2
   ·split at h2
    ·simp only [Bool.and_eq_true,decide_eq_true_eq,qBU] at h2
     exact h2.1.1.1.1.1.2
    ·split at h2
     ·simp only [Bool.and_eq_true,decide_eq_true_eq] at h2
      rw [h2.1.1.2];decide
     ·cases h2
end
theorem qJ7 (l:List Mb) (idx:Int) (vals:List Int) (n rel val:Int) (r:Rf) (st:List Int):qAc l idx vals (.mk 0 n rel val r st [])=true:=by rw [qAc,if_pos rfl]
theorem qR0 {l:List Mb} {cs:List Cs} {idx:Int} {vals:List Int} (h:∃ c∈cs,qAc l idx vals c.cond=true):∃ c∈cs,qDw l cs idx vals=c.nums∧qAc l idx vals c.cond=true:=by
 unfold qDw
 cases hf:cs.find? fun c=>qAc l idx vals c.cond with
 | none=>
  obtain⟨c,hc,e⟩:=h
  have:=List.find?_eq_none.1 hf c hc
  rw [e] at this
  exact absurd rfl this
 | some c=>exact⟨c,List.mem_of_find?_eq_some hf,rfl,by have:=List.find?_some hf;exact this⟩
theorem FineP.nums {ds:List De} (h:FineP ds) {j:Nat} (hj:j<ds.length) (hk:(ds.getD j de0).kind=3∨(ds.getD j de0).kind=5) (l:List Mb) (idx:Int) (vals:List Int):∃ c∈(ds.getD j de0).cases,qDw l (ds.getD j de0).cases idx vals=c.nums∧qAc l idx vals c.cond=true:=by
 obtain⟨c,hc,n,rel,val,r,st,e⟩:=h.last hj hk
 exact qR0 ⟨c,hc,by rw [e,qJ7]⟩
theorem FineP.rows {ds:List De} (h:FineP ds) {j:Nat} (hj:j<ds.length) (hk:(ds.getD j de0).kind=3∨(ds.getD j de0).kind=5) {l:List Mb} {idx:Int} {nodes:List Nat} {vals:List Int} {r:List Int} (hr:r∈qDs l (ds.getD j de0).cases idx nodes vals):∃ c∈(ds.getD j de0).cases,r=c.nums:=by
 rw [qFO,List.mem_map] at hr
 obtain⟨v,_,rfl⟩:=hr
 obtain⟨c,hc,e,_⟩:=h.nums hj hk l idx v
 exact⟨c,hc,e⟩
end Go.Proofs.YtkegmchjobphdaaGreatDoor
namespace Go.Proofs.YtkegmchjobphdaaGreatDoor
open Go Y
set_option maxRecDepth 100000
set_option maxHeartbeats 40000000
theorem qSI (p:List De) {ds:List De} {k:Nat} (hk:k<ds.length):qAL p (ds.take (k+1))=qAL p (ds.take k)++qFs p (ds.getD k de0):=by
 rw [qAD de0 hk,qAL,qAL,List.flatMap_append]
 show _++(qFs p _++[])=_
 rw [List.append_nil]
theorem qPO {p:List De} {d:De} (h:qIN p d.plate≤6):(qFs p d).length≤6:=by
 unfold qFs
 split
 ·split
  ·show 1≤6;decide
  ·rw [List.length_map,List.length_range];omega
 ·decide
theorem qPu {α:Type} (f:Nat→α) (n:Nat):(List.range (n+1)).map f=(List.range n).map f++[f n]:=by rw [List.range_succ,List.map_append];rfl
abbrev TN:TypeId:=3
end Go.Proofs.YtkegmchjobphdaaGreatDoor
namespace Go.Proofs.YtkegmchjobphdaaGreatDoor
open Go Y
set_option maxRecDepth 100000
set_option maxHeartbeats 40000000
abbrev TBd:TypeId:=109
abbrev qWb:TypeId:=155
abbrev qVp:TypeId:=156
abbrev qQW:TypeId:=215
def Fd.pv:Fd→PV
 | .none=>.iface qQW (.agg [])
 | .one i=>.iface qWb (i64 (i:Nat))
 | .many l=>.iface qVp (qET l)
abbrev qWJ (r:Rf) (idx:Int):List PV:=[.str r.name,i64 r.mode, .str r.plate,i64 r.n,i64 idx]
abbrev qbE:List PV:=[.str [],i64 0, .str [],i64 0,i64 0]
theorem qVJ {r r':Rf} {i i':Int} (h:qWJ r i=qWJ r' i'):r=r'∧i=i':=by
 obtain⟨a,b,c,d⟩:=r
 obtain⟨a',b',c',d'⟩:=r'
 injection h with h1 h;injection h with h2 h;injection h with h3 h;injection h with h4 h;injection h with h5 h
 injection h1 with h1;injection h2 with _ h2;injection h3 with h3;injection h4 with _ h4;injection h5 with _ h5
 simp only [] at h1 h2 h3 h4
 subst h1 h2 h3 h4 h5
 exact⟨rfl,rfl⟩
open Classical in
theorem qLZ {a b:List PV} {x:PV}:∀ {l:List (List PV × PV)},qC5 (qKa l a x) b=if b=a then some x else qC5 l b
 | []=>by simp only [qKa,qC5]
 | (k,y)::l=>by
  by_cases h:a=k
  ·subst h
   simp only [qKa,if_true,qC5]
   by_cases e:b=a
   ·rw [if_pos e,if_pos e]
   ·rw [if_neg e,if_neg e,if_neg e]
  ·simp only [qKa,if_neg h,qC5,qLZ (l:=l)]
   by_cases e:b=k
   ·rw [if_pos e,if_pos e,if_neg (fun q=>h (by rw [← q,e]))]
   ·rw [if_neg e,if_neg e]
def qBI (eb es:List (List UInt8 × PV)) (en:List (List PV × PV)):Prop:=∀ (r:Rf) (idx:Int) (x:PV) (b s:Nat),qC5 en (qWJ r idx)=some x→qAX eb r.name=some (i64 (b:Nat))→qAX es r.name=some (i64 (s:Nat))→x=(qBj b s r idx).pv
theorem qR9 {eb es:List (List UInt8 × PV)} {en:List (List PV × PV)} (h:qBI eb es en) {r:Rf} {idx:Int} {b s:Nat} (h1:qAX eb r.name=some (i64 (b:Nat))) (h2:qAX es r.name=some (i64 (s:Nat))):qBI eb es (qKa en (qWJ r idx) (qBj b s r idx).pv):=by
 intro r' i' x b' s' hf e1 e2
 rw [qLZ] at hf
 by_cases e:qWJ r' i'=qWJ r idx
 ·rw [if_pos e] at hf
  obtain⟨rfl,rfl⟩:=qVJ e
  rw [h1] at e1
  rw [h2] at e2
  injection e1 with e1;injection e1 with _ e1
  injection e2 with e2;injection e2 with _ e2
  injection hf with hf
  rw [← hf,Int.ofNat_inj.1 e1,Int.ofNat_inj.1 e2]
 ·rw [if_neg e] at hf
  exact h r' i' x b' s' hf e1 e2
def bdO (ds:List De) (ms:List (List PV)) (ns:List (List UInt8)) (b z n:Nat):AObj:=⟨TBd,false, .bx [.p (des ds), .p (.lsts 2 ms), .p (strs ns), .mp b, .mp z, .mp n]⟩
def mapO (e:List (List UInt8 × PV)):AObj:=⟨68,false, .ms e⟩
def nkO (e:List (List PV × PV)):AObj:=⟨107,false, .mk qbE e⟩
abbrev bdL (ds:List De) (ms:List (List PV)) (ns:List (List UInt8)) (eb es:List (List UInt8 × PV)) (en:List (List PV × PV)):List (Nat × AObj):=[(3,nkO en),(2,mapO es),(1,mapO eb),(0,bdO ds ms ns 1 2 3)]
abbrev bdH (ds:List De) (ms:List (List PV)) (ns:List (List UInt8)) (eb es:List (List UInt8 × PV)) (en:List (List PV × PV)):Hp:=⟨4,bdL ds ms ns eb es en⟩
def usO (r:Rf) (idx:Int):AObj:=⟨212,false, .bx ((qWJ r idx).map .p)⟩
def qbB (l:List Nat):AObj:=⟨TN,false, .pu (l.map fun i=>i64 (i:Nat))⟩
abbrev qU1:OT:=(.pure 0 (.pure 1 (.pure 2 (.pure 3 (.pure 4 (.pure 5 (.pure 6 (.pure 7 (.pure 8 (.pure 9 (.pure 10 .fin)))))))))))
abbrev qYY:OT:=(.pure 0 (.pure 1 (.pure 2 (.pure 3 (.pure 4 (.pure 5 (.pure 6 (.pure 7 (.pure 8 (.pure 9 (.pure 10 (.pure 11 (.pure 12 (.pure 13 (.pure 14 (.pure 15 .fin))))))))))))))))
abbrev qP2:OT:=(.pure 0 (.pure 1 (.pure 2 (.pure 3 (.pure 4 (.pure 5 (.eff 6 [] .fin .nil)))))))
theorem qWO (ds:List De) (ms:List (List PV)) (ns:List (List UInt8)) (eb es:List (List UInt8 × PV)) (en:List (List PV × PV)) (r:Rf) (idx:Int) (b s:Nat) (hi:0≤idx∧idx≤1000) (hr:0≤r.n∧r.n≤100000) (hbl:b≤1000) (hsl:s≤1000) (hb:qAX eb r.name=some (i64 (b:Nat))) (hs:qAX es r.name=some (i64 (s:Nat))) (hN:qBI eb es en) :
  HoldsG cx 58 [.ptr 0 0 0, .p r.pv, .p (i64 idx)] (bdH ds ms ns eb es en) fun e H'=>∃ en',qBI eb es en'∧e=.returned (.p (qBj b s r idx).pv)∧H'=bdH ds ms ns eb es en':=by
 have hput:=qR9 hN (idx:=idx) hb hs
 obtain⟨rn,rm,rp,ri⟩:=r
 simp only [] at hr hb hs
 cases hk:qC5 en (qWJ ⟨rn,rm,rp,ri⟩ idx) with
 | some x=>
  have hx:=hN _ _ x b s hk hb hs
  rw [hx] at hk
  clear hput hx
  generalize qBj b s ⟨rn,rm,rp,ri⟩ idx=fd at hk ⊢
  cases fd with
  | none=>
   refine qAA Tryz.func58 rfl rfl rfl ?_
   refine qAH qU1 (by kernel_rfl) ?_
   refine⟨_,⟨by kernel_rfl, .inl ⟨_,hk,rfl⟩⟩,?_⟩
   exact⟨[],[],[], .returned (.p (.iface qQW (.agg []))),bdH ds ms ns eb es en,rfl,sk,sk,en,hN,rfl,rfl⟩
  | one i=>
   refine qAA Tryz.func58 rfl rfl rfl ?_
   refine qAH qU1 (by kernel_rfl) ?_
   refine⟨_,⟨by kernel_rfl, .inl ⟨_,hk,rfl⟩⟩,?_⟩
   exact⟨[],[],[], .returned (.p (.iface qWb (i64 (i:Nat)))),bdH ds ms ns eb es en,rfl,sk,sk,en,hN,rfl,rfl⟩
  | many l=>
   refine qAA Tryz.func58 rfl rfl rfl ?_
   refine qAH qU1 (by kernel_rfl) ?_
   refine⟨_,⟨by kernel_rfl, .inl ⟨_,hk,rfl⟩⟩,?_⟩
   exact⟨[],[],[], .returned (.p (.iface qVp (qET l))),bdH ds ms ns eb es en,rfl,sk,sk,en,hN,rfl,rfl⟩
 | none=>
  by_cases m0:rm=0
  ·have hx:qBj b s ⟨rn,rm,rp,ri⟩ idx=.one b:=by rw [qBj,if_pos m0]
   rw [hx] at hput ⊢
   refine qAA Tryz.func58 rfl rfl rfl ?_
   refine qAH qU1 (by kernel_rfl) ?_
   refine⟨_,⟨by kernel_rfl, .inr ⟨hk,rfl⟩⟩,?_⟩
   refine qAH qYY (by kernel_rfl) ?_
   refine⟨_, .inl ⟨_,hb,rfl⟩,?_⟩
   refine⟨_, .inl ⟨_,hs,rfl⟩,?_⟩
   refine And.intro (fun _=>?_) (fun q=>absurd m0 q)
   refine qAH qP2 (by kernel_rfl) ?_
   refine⟨by kernel_rfl,[], .iface qWb (i64 (b:Nat)),rfl,rfl,rfl,_,rfl,?_⟩
   exact⟨[],[],[], .returned (.p (.iface qWb (i64 (b:Nat)))),bdH ds ms ns eb es _,rfl,sk,sk,_,hput,rfl,rfl⟩
  by_cases m2:rm=2
  ·obtain⟨m,hm⟩:∃ m:Nat,m=b+ri.toNat:=⟨_,rfl⟩
   have hx:qBj b s ⟨rn,rm,rp,ri⟩ idx=.one m:=by rw [qBj,if_neg m0,if_pos m2,hm]
   rw [hx] at hput ⊢
   refine qAA Tryz.func58 rfl rfl rfl ?_
   refine qAH qU1 (by kernel_rfl) ?_
   refine⟨_,⟨by kernel_rfl, .inr ⟨hk,rfl⟩⟩,?_⟩
   refine qAH qYY (by kernel_rfl) ?_
   refine⟨_, .inl ⟨_,hb,rfl⟩,?_⟩
   refine⟨_, .inl ⟨_,hs,rfl⟩,?_⟩
   refine And.intro (fun q=>absurd q m0) (fun _=>?_)
   refine And.intro (fun _=>?_) (fun q=>absurd m2 q)
   refine⟨((m:Nat):Int),by rw [show(b:Int)+ri=(m:Nat) by omega];exact w6z,?_⟩
   refine qAH qP2 (by kernel_rfl) ?_
   refine⟨by kernel_rfl,[], .iface qWb (i64 (m:Nat)),rfl,rfl,rfl,_,rfl,?_⟩
   exact⟨[],[],[], .returned (.p (.iface qWb (i64 (m:Nat)))),bdH ds ms ns eb es _,rfl,sk,sk,_,hput,rfl,rfl⟩
  by_cases m3:rm=3
  ·obtain⟨M,hM⟩:∃ M:List Nat,M=(List.range s).map fun k=>b+k:=⟨_,rfl⟩
   have hx:qBj b s ⟨rn,rm,rp,ri⟩ idx=.many M:=by rw [qBj,if_neg m0,if_neg m2,if_pos m3,hM]
   rw [hx] at hput ⊢
   refine qAA Tryz.func58 rfl rfl rfl ?_
   refine qAH qU1 (by kernel_rfl) ?_
   refine⟨_,⟨by kernel_rfl, .inr ⟨hk,rfl⟩⟩,?_⟩
   refine qAH qYY (by kernel_rfl) ?_
   refine⟨_, .inl ⟨_,hb,rfl⟩,?_⟩
   refine⟨_, .inl ⟨_,hs,rfl⟩,?_⟩
   refine And.intro (fun q=>absurd q m0) (fun _=>?_)
   refine And.intro (fun q=>absurd q m2) (fun _=>?_)
   refine And.intro (fun _=>?_) (fun q=>absurd m3 q)
   refine⟨Nat × List Nat,fun x=>[(0, .ptr 0 0 0),(7, .ptr 5 0 0),(10, .p (i64 (b:Nat))),(13, .sl 6 1 0 x.2.length),(60, .p (i64 (s:Nat))),(61, .p (i64 x.1))],fun x=>⟨7,(6,qbB x.2)::(5,usO ⟨rn,rm,rp,ri⟩ idx)::bdL ds ms ns eb es en⟩,fun x=>x.1≤s∧x.2=(List.range x.1).map fun k=>b+k,fun x=>s - x.1,?_,?_⟩
   ·exact⟨(0,[]),⟨Nat.zero_le _,rfl⟩,qAB [] [] [(6,1)] rfl (sk) (sk) rfl⟩
   rintro⟨k,cur⟩ ⟨k1,k2⟩
   simp only [] at k1 k2
   have hcl:cur.length≤1000:=by rw [k2,List.length_map,List.length_range];omega
   (first | refine qAO (fun q1=>?_) (fun q1=>?_) | refine qAP (fun q1=>?_) (fun q1=>?_) | refine qAQ (fun q1=>?_) (fun q1=>?_))
   ·have q1:(k:Int)<(s:Nat):=q1
    have hnx:=qPu (fun k=>b+k) k
    rw [← k2] at hnx
    obtain⟨m,hm⟩:∃ m:Nat,m=b+k:=⟨_,rfl⟩
    rw [← hm] at hnx
    refine⟨((m:Nat):Int),by rw [show(b:Int)+k=(m:Nat) by omega];exact w6z,?_⟩
    refine⟨by show 0+1≤1;omega,[i64 (m:Nat)],rfl,?_⟩
    refine⟨by show 0+cur.length≤(cur.map fun i=>i64 (i:Nat)).length;simp,cur.map fun i=>i64 (i:Nat),qAR (by simp),by show(cur.length+1) * 8≤140737488355328;omega,(cur++[m]).map fun i=>i64 (i:Nat),by rw [List.map_append];rfl,?_⟩
    refine⟨_,w6z,?_⟩
    exact⟨(k+1,cur++[m]),⟨by show k+1≤s;omega,hnx.symm⟩,qAB [] [(5,5),(6,8)] [] rfl ⟨⟨rfl,rfl⟩,⟨rfl,rfl⟩,rfl,congrArg (fun j:Nat=>AV.sl 8 1 0 j) (qAI cur _).symm,rfl,rfl,trivial⟩ (sk) rfl,by show s - (k+1)<s - k;omega⟩
   ·have q1:¬ (k:Int)<(s:Nat):=q1
    rw [show k=s by omega,← hM] at k2
    subst k2
    refine qAH qP2 (by kernel_rfl) ?_
    refine⟨by kernel_rfl,[6], .iface qVp (qET cur),rfl,⟨_,rfl,⟨_,rfl,by show 0+cur.length≤(cur.map fun i=>i64 (i:Nat)).length;simp,qAR (by simp)⟩⟩,rfl,_,rfl,?_⟩
    exact⟨[],[],[], .returned (.p (.iface qVp (qET cur))),bdH ds ms ns eb es _,rfl,⟨_,rfl,⟨_,rfl,⟨_,rfl,by show 0+cur.length≤(cur.map fun i=>i64 (i:Nat)).length;simp,qAR (by simp)⟩⟩⟩,sk,_,hput,rfl,rfl⟩
  by_cases m1:rm=1
  ·by_cases hlt:idx+ri<(s:Nat)
   ·obtain⟨m,hm⟩:∃ m:Nat,m=b+(idx+ri).toNat:=⟨_,rfl⟩
    have hx:qBj b s ⟨rn,rm,rp,ri⟩ idx=.one m:=by rw [qBj,if_neg m0,if_neg m2,if_neg m3,if_pos m1,if_pos hlt,hm]
    rw [hx] at hput ⊢
    refine qAA Tryz.func58 rfl rfl rfl ?_
    refine qAH qU1 (by kernel_rfl) ?_
    refine⟨_,⟨by kernel_rfl, .inr ⟨hk,rfl⟩⟩,?_⟩
    refine qAH qYY (by kernel_rfl) ?_
    refine⟨_, .inl ⟨_,hb,rfl⟩,?_⟩
    refine⟨_, .inl ⟨_,hs,rfl⟩,?_⟩
    refine And.intro (fun q=>absurd q m0) (fun _=>?_)
    refine And.intro (fun q=>absurd q m2) (fun _=>?_)
    refine And.intro (fun q=>absurd q m3) (fun _=>?_)
    refine And.intro (fun _=>?_) (fun q=>absurd m1 q)
    refine⟨idx+ri,wrap_i64 (n:=idx+ri) (by omega) (by omega),?_⟩
    refine And.intro (fun _=>?_) (fun q=>absurd hlt q)
    refine⟨_,w6z,?_⟩
    refine⟨((m:Nat):Int),by rw [show(b:Int)+idx+ri=(m:Nat) by omega];exact w6z,?_⟩
    refine qAH qP2 (by kernel_rfl) ?_
    refine⟨by kernel_rfl,[], .iface qWb (i64 (m:Nat)),rfl,rfl,rfl,_,rfl,?_⟩
    exact⟨[],[],[], .returned (.p (.iface qWb (i64 (m:Nat)))),bdH ds ms ns eb es _,rfl,sk,sk,_,hput,rfl,rfl⟩
   ·have hx:qBj b s ⟨rn,rm,rp,ri⟩ idx=.none:=by rw [qBj,if_neg m0,if_neg m2,if_neg m3,if_pos m1,if_neg hlt]
    rw [hx] at hput ⊢
    refine qAA Tryz.func58 rfl rfl rfl ?_
    refine qAH qU1 (by kernel_rfl) ?_
    refine⟨_,⟨by kernel_rfl, .inr ⟨hk,rfl⟩⟩,?_⟩
    refine qAH qYY (by kernel_rfl) ?_
    refine⟨_, .inl ⟨_,hb,rfl⟩,?_⟩
    refine⟨_, .inl ⟨_,hs,rfl⟩,?_⟩
    refine And.intro (fun q=>absurd q m0) (fun _=>?_)
    refine And.intro (fun q=>absurd q m2) (fun _=>?_)
    refine And.intro (fun q=>absurd q m3) (fun _=>?_)
    refine And.intro (fun _=>?_) (fun q=>absurd m1 q)
    refine⟨idx+ri,wrap_i64 (n:=idx+ri) (by omega) (by omega),?_⟩
    refine And.intro (fun q=>absurd q hlt) (fun _=>?_)
    refine qAH qP2 (by kernel_rfl) ?_
    refine⟨by kernel_rfl,[], .iface qQW (.agg []),rfl,rfl,rfl,_,rfl,?_⟩
    exact⟨[],[],[], .returned (.p (.iface qQW (.agg []))),bdH ds ms ns eb es _,rfl,sk,sk,_,hput,rfl,rfl⟩
  ·have hx:qBj b s ⟨rn,rm,rp,ri⟩ idx=.none:=by rw [qBj,if_neg m0,if_neg m2,if_neg m3,if_neg m1]
   rw [hx] at hput ⊢
   refine qAA Tryz.func58 rfl rfl rfl ?_
   refine qAH qU1 (by kernel_rfl) ?_
   refine⟨_,⟨by kernel_rfl, .inr ⟨hk,rfl⟩⟩,?_⟩
   refine qAH qYY (by kernel_rfl) ?_
   refine⟨_, .inl ⟨_,hb,rfl⟩,?_⟩
   refine⟨_, .inl ⟨_,hs,rfl⟩,?_⟩
   refine And.intro (fun q=>absurd q m0) (fun _=>?_)
   refine And.intro (fun q=>absurd q m2) (fun _=>?_)
   refine And.intro (fun q=>absurd q m3) (fun _=>?_)
   refine And.intro (fun q=>absurd q m1) (fun _=>?_)
   refine qAH qP2 (by kernel_rfl) ?_
   refine⟨by kernel_rfl,[], .iface qQW (.agg []),rfl,rfl,rfl,_,rfl,?_⟩
   exact⟨[],[],[], .returned (.p (.iface qQW (.agg []))),bdH ds ms ns eb es _,rfl,sk,sk,_,hput,rfl,rfl⟩
end Go.Proofs.YtkegmchjobphdaaGreatDoor
namespace Go.Proofs.YtkegmchjobphdaaGreatDoor
open Go Y
set_option maxRecDepth 100000
set_option maxHeartbeats 40000000
theorem qZS {l:List Nat} {k:Nat} (h:k<l.length):(l.map fun i=>i64 ((i:Nat):Int))[k]?=some (i64 ((l.getD k 0:Nat):Int)):=qDj (f:=fun i:Nat=>i64 ((i:Nat):Int)) 0 h
inductive GnC:Cd→Prop
 | no (n rel val:Int) (r:Rf) (st:List Int):GnC (.mk 0 n rel val r st [])
 | leaf (op n rel val:Int) (r:Rf) (st:List Int) (h0:op ≠ 0) (h7:op ≠ 7) (h8:op ≠ 8) (h9:op ≠ 9) (hr:-100000≤r.n∧r.n≤100000) (hs:st.length≤100):GnC (.mk op n rel val r st [])
 | neg (n rel val:Int) (r:Rf) (st:List Int) (a:Cd) (ha:GnC a):GnC (.mk 7 n rel val r st [a])
 | conj (n rel val:Int) (r:Rf) (st:List Int) (a b:Cd) (ha:GnC a) (hb:GnC b):GnC (.mk 8 n rel val r st [a,b])
 | disj (n rel val:Int) (r:Rf) (st:List Int) (a b:Cd) (ha:GnC a) (hb:GnC b):GnC (.mk 9 n rel val r st [a,b])
theorem qWK {l:List Int} {k:Nat} (h:k<l.length):(l.map i64)[k]?=some (i64 (l.getD k 0)):=qDj 0 h
structure GnS (cs:List Cs):Prop where
 len:cs.length≤100
 cond:∀ c∈cs,GnC c.cond
 nums:∀ c∈cs,c.nums.length≤100
theorem qSx (f:Nat→List (List Int)) (n:Nat):(List.range (n+1)).flatMap f=(List.range n).flatMap f++f n:=by
 rw [List.range_succ,List.flatMap_append]
 show _++(f n++[])=_
 rw [List.append_nil]
theorem qLV {f:Nat→List (List Int)} {B:Nat} (h:∀ x,(f x).length≤B):∀ n,((List.range n).flatMap f).length≤n * B
 | 0=>by simp
 | n+1=>by
  rw [qSx,List.length_append]
  have h1:=qLV h n
  have h2:=h n
  rw [Nat.add_mul];omega
abbrev TGr:TypeId:=51
def grO (g:Gr):AObj:=⟨TGr,false, .bx (g.cells.map .p)⟩
deriving instance DecidableEq for Nd, Ut, Gr
abbrev TNd:TypeId:=72
theorem qR8 (l:List Nat):qET l=ints (qJx l):=by
 show PV.lst _=PV.lst _
 rw [qJx,List.map_map];rfl
structure NdZ (x:Nd):Prop where
 pars:x.pars.length≤1000000
 rows:x.rows.length≤1000000
 row:∀ r∈x.rows,r.length≤1000000
theorem qO7 (b s:Nat) (r:Rf) (idx:Int) (hs:s≤1000):(qBj b s r idx).list.length≤1000:=by
 unfold qBj
 split
 ·show 1≤1000;decide
 ·split
  ·show 1≤1000;decide
  ·split
   ·show((List.range s).map _).length≤1000
    rw [List.length_map,List.length_range];exact hs
   ·split
    ·split
     ·show 1≤1000;decide
     ·show 0≤1000;decide
    ·show 0≤1000;decide
theorem qSw {α:Type} (f:Rf→List α) {refs:List Rf} {k:Nat} (h:k<refs.length):(refs.take (k+1)).flatMap f=(refs.take k).flatMap f++f (refs.getD k rf0):=by
 rw [qAD rf0 h,List.flatMap_append]
 show _++(f _++[])=_
 rw [List.append_nil]
theorem qOd (a b:List Nat):qJx (a++b)=qJx a++qJx b:=List.map_append
theorem qXa (l:List Nat):(qJx l).map i64=l.map fun i=>i64 ((i:Nat):Int):=by rw [qJx,List.map_map];rfl
abbrev bdF (k:Nat) (v:AV) (refs:List Rf) (idx:Int):List (Nat × AV):=[(0, .ptr 0 0 0),(2, .p (i64 idx)),(7,v),(12, .p (qE7 refs)),(13, .p (i64 refs.length)),(14, .p (i64 k))]
theorem qXU (ds:List De) (ms:List (List PV)) (ns:List (List UInt8)) (eb es:List (List UInt8 × PV)) (en:List (List PV × PV)) (refs:List Rf) (idx:Int) (F:Rf→Nat × Nat) (hrl:refs.length≤100) (hi:0≤idx∧idx≤1000)
  (hF:∀ r∈refs,0≤r.n∧r.n≤100000∧(F r).1≤1000∧(F r).2≤1000∧qAX eb r.name=some (i64 ((F r).1:Nat))∧qAX es r.name=some (i64 ((F r).2:Nat))) (hN:qBI eb es en) :
  HoldsG cx 35 [.ptr 0 0 0, .p (qE7 refs), .p (i64 idx)] (bdH ds ms ns eb es en) fun e H'=>∃ en' s,qBI eb es en'∧s.Perm (qJx (refs.flatMap fun r=>(qBj (F r).1 (F r).2 r idx).list))∧s.Pairwise (·≤·)∧e=.returned (.p (ints (qCj s)))∧H'=bdH ds ms ns eb es en':=by
 have hrm:(refs.map Rf.cells).length=refs.length:=List.length_map ..
 refine qAA Tryz.func35 rfl rfl rfl ?_
 refine⟨Nat × List Int × List (List PV × PV),fun x=>bdF x.1 (.sl 4 1 0 x.2.1.length) refs idx,fun x=>⟨5,(4,iO x.2.1)::bdL ds ms ns eb es x.2.2⟩,
  fun x=>x.1≤refs.length∧x.2.1.length≤1000 * x.1∧x.2.1=qJx ((refs.take x.1).flatMap fun r=>(qBj (F r).1 (F r).2 r idx).list)∧qBI eb es x.2.2,fun x=>refs.length - x.1,?_,?_⟩
 ·exact⟨(0,[],en),⟨Nat.zero_le _,Nat.le_refl _,rfl,hN⟩,qAB [] [] [(4,1)] rfl ⟨⟨rfl,rfl⟩,rfl,⟨rfl,rfl,rfl,rfl⟩,rfl,congrArg (fun n:Nat=>i64 n) hrm.symm,rfl,trivial⟩ (sk) rfl⟩
 rintro⟨k,xs,en1⟩ ⟨k1,k2,k3,hN1⟩
 simp only [] at k1 k2 k3 hN1
 (first | refine qAO (fun m1=>?_) (fun m1=>?_) | refine qAP (fun m1=>?_) (fun m1=>?_) | refine qAQ (fun m1=>?_) (fun m1=>?_))
 ·have m1:(k:Int)<(refs.length:Nat):=m1
  have hk:k<refs.length:=by omega
  have hcell:=qPt hk
  obtain⟨r0,r1,f1,f2,f3,f4⟩:=hF _ (qAG rf0 hk)
  have hnx:=qSw (fun r=>(qBj (F r).1 (F r).2 r idx).list) hk
  have hfl:=qO7 (F (refs.getD k rf0)).1 (F (refs.getD k rf0)).2 (refs.getD k rf0) idx f2
  have hfd:=qWO ds ms ns eb es en1 (refs.getD k rf0) idx _ _ hi ⟨r0,r1⟩ f1 f2 f3 f4 hN1
  clear f1 f2 f3 f4 r0 r1
  generalize qBj (F (refs.getD k rf0)).1 (F (refs.getD k rf0)).2 (refs.getD k rf0) idx=fd at hnx hfl hfd
  generalize refs.getD k rf0=r at hcell hfd
  obtain⟨rn,rm,rp,ri⟩:=r
  cases fd with
  | none=>
   rw [Fd.list,List.append_nil] at hnx
   refine⟨_,⟨by omega,(Rf.mk rn rm rp ri).cells,hcell,rfl⟩,?_⟩
   refine hfd.holds.useT [] [] rfl (sk) (sk) fun e0 H0 hq=>?_
   obtain⟨en',hN',rfl,rfl⟩:=hq
   refine⟨rfl,_,⟨6,(bdL ds ms ns eb es en')++[(5,rfO ⟨rn,rm,rp,ri⟩),(4,iO xs)]⟩,rfl,rfl,?_⟩
   refine⟨_,w6z,?_⟩
   exact⟨(k+1,xs,en'),⟨by show k+1≤refs.length;omega,by show xs.length≤1000 * (k+1);omega,by show xs=_;rw [hnx,k3],hN'⟩,qAB [] [] [] rfl (sk) (sk) rfl,by show refs.length - (k+1)<refs.length - k;omega⟩
  | one i=>
   rw [Fd.list] at hnx
   refine⟨_,⟨by omega,(Rf.mk rn rm rp ri).cells,hcell,rfl⟩,?_⟩
   refine hfd.holds.useT [] [] rfl (sk) (sk) fun e0 H0 hq=>?_
   obtain⟨en',hN',rfl,rfl⟩:=hq
   refine⟨rfl,_,⟨6,(bdL ds ms ns eb es en')++[(5,rfO ⟨rn,rm,rp,ri⟩),(4,iO xs)]⟩,rfl,rfl,?_⟩
   refine⟨by show 0+1≤1;omega,[i64 (i:Nat)],rfl,?_⟩
   refine⟨by show 0+xs.length≤(xs.map i64).length;simp,xs.map i64,qAR (by simp),by show(xs.length+1) * 8≤140737488355328;omega,(xs++[((i:Nat):Int)]).map i64,by rw [List.map_append];rfl,?_⟩
   refine⟨_,w6z,?_⟩
   exact⟨(k+1,xs++[((i:Nat):Int)],en'),⟨by show k+1≤refs.length;omega,by show(xs++[((i:Nat):Int)]).length≤1000 * (k+1);rw [qAI];omega,by show xs++[((i:Nat):Int)]=_;rw [hnx,qOd,← k3];rfl,hN'⟩,qAB [] [(4,7)] [] rfl ⟨⟨rfl,rfl⟩,rfl,congrArg (fun j:Nat=>AV.sl 7 1 0 j) (qAI xs _).symm,rfl,rfl,rfl,trivial⟩ (sk) rfl,by show refs.length - (k+1)<refs.length - k;omega⟩
  | many l=>
   rw [Fd.list] at hnx hfl
   refine⟨_,⟨by omega,(Rf.mk rn rm rp ri).cells,hcell,rfl⟩,?_⟩
   refine hfd.holds.useT [] [] rfl (sk) (sk) fun e0 H0 hq=>?_
   obtain⟨en',hN',rfl,rfl⟩:=hq
   refine⟨rfl,_,⟨6,(bdL ds ms ns eb es en')++[(5,rfO ⟨rn,rm,rp,ri⟩),(4,iO xs)]⟩,rfl,rfl,?_⟩
   refine⟨by show 0+xs.length≤(xs.map i64).length;simp,xs.map i64,qAR (by simp),by show(xs.length+(l.map fun i=>i64 ((i:Nat):Int)).length) * 8≤140737488355328;rw [List.length_map];omega,(xs++qJx l).map i64,by rw [List.map_append,qXa],?_⟩
   refine⟨_,w6z,?_⟩
   exact⟨(k+1,xs++qJx l,en'),⟨by show k+1≤refs.length;omega,by show(xs++qJx l).length≤1000 * (k+1);rw [List.length_append,qJx,List.length_map];omega,by show xs++qJx l=_;rw [hnx,qOd,← k3],hN'⟩,qAB [] [(4,6)] [] rfl ⟨⟨rfl,rfl⟩,rfl,congrArg (fun j:Nat=>AV.sl 6 1 0 j) (by rw [List.length_append,List.length_map,qJx,List.length_map]),rfl,rfl,rfl,trivial⟩ (sk) rfl,by show refs.length - (k+1)<refs.length - k;omega⟩
 have m1:¬ (k:Int)<(refs.length:Nat):=m1
 rw [qAh (by omega)] at k3
 refine(qV2 xs (by omega)).holds.useT [] [(0,4)] rfl (sk) (sk) fun e0 H0 hq=>?_
 obtain⟨ys,hp,hs,rfl,rfl⟩:=hq
 have hlen:=hp.length_eq
 refine⟨rfl,_,⟨5,(4,iO ys)::bdL ds ms ns eb es en1⟩,rfl,rfl,?_⟩
 have hCp:=qLm ys (by omega)
 rw [hlen] at hCp
 have hcl:=qNP ys
 refine hCp.holds.useT [] [(0,4)] rfl (sk) (sk) fun e0 H0 hq=>?_
 obtain⟨rfl,rfl⟩:=hq
 refine⟨rfl,_,⟨5,(4,iO (qCj ys++List.replicate (xs.length - (qCj ys).length) 0))::bdL ds ms ns eb es en1⟩,rfl,rfl,?_⟩
 refine⟨[4],[],[], .returned (.p (ints (qCj ys))),bdH ds ms ns eb es en1,rfl,⟨_,rfl,⟨(qCj ys).map i64,rfl,by show 0+(qCj ys).length≤((qCj ys++List.replicate (xs.length - (qCj ys).length) 0).map i64).length;simp,?_⟩⟩,sk,en1,ys,hN1,by rw [← k3];exact hp,hs,rfl,rfl⟩
 show(qCj ys).map i64=(((qCj ys++List.replicate (xs.length - (qCj ys).length) 0).map i64).drop 0).take (qCj ys).length
 rw [List.drop_zero,List.map_append,List.take_left' (List.length_map ..)]
structure TabOK (ds:List De) (eb es:List (List UInt8 × PV)):Prop where
 base:∀ k,k<ds.length→((ds.getD k de0).kind=3∨(ds.getD k de0).kind=4)→qAX eb (ds.getD k de0).name=some (i64 ((qAL ds (ds.take k)).length:Nat))
 size:∀ k,k<ds.length→((ds.getD k de0).kind=3∨(ds.getD k de0).kind=4)→qAX es (ds.getD k de0).name=some (i64 (qDo ds (ds.getD k de0):Nat))
theorem qR4 {ds:List De} (h:FineP ds) (ms:List (List PV)) (ns:List (List UInt8)) {eb es:List (List UInt8 × PV)} {en:List (List PV × PV)} (hT:TabOK ds eb es) {j:Nat} (hj:j<ds.length) (idx:Int) (hi:0≤idx∧idx≤1000) (hN:qBI eb es en) :
  HoldsG cx 35 [.ptr 0 0 0, .p (qE7 (ds.getD j de0).refs), .p (i64 idx)] (bdH ds ms ns eb es en) fun e H'=>∃ en',qBI eb es en'∧e=.returned (.p (qET (qG2 (qAL ds ds) (ds.getD j de0).refs idx)))∧H'=bdH ds ms ns eb es en':=by
 obtain⟨hrl,hrn⟩:=h.refn hj
 have key:∀ r:Rf,∃ p:Nat × Nat,r∈(ds.getD j de0).refs→0≤r.n∧r.n≤100000∧p.1≤1000∧p.2≤1000∧qAX eb r.name=some (i64 (p.1:Nat))∧qAX es r.name=some (i64 (p.2:Nat))∧qCK (qAL ds ds) r idx=(qBj p.1 p.2 r idx).list:=by
  intro r
  by_cases hr:r∈(ds.getD j de0).refs
  ·obtain⟨k,k1,k2,k3,k4,k5,k6,k7,k8,k9,k10⟩:=h.ref hj hr
   have hk:k<ds.length:=by omega
   have hl8:=h.eight.2
   have hA:=(qMt ds hk).eq
   refine⟨((qAL ds (ds.take k)).length,qDo ds (ds.getD k de0)),fun _=>⟨k5,by omega,?_,?_,?_,?_,qI1 h.dist hk k2 k3 idx hi.1 k5 k4 k6 k7⟩⟩
   ·rw [hA,List.length_append,List.length_append] at hl8
    show(qAL ds (ds.take k)).length≤1000
    omega
   ·rw [hA,List.length_append,List.length_append] at hl8
    show qDo ds _≤1000
    rw [qDo];omega
   ·rw [← k3];exact hT.base k hk k2
   ·rw [← k3];exact hT.size k hk k2
  ·exact⟨(0,0),fun e=>absurd e hr⟩
 obtain⟨F,hF⟩:=Classical.axiomOfChoice key
 have hh:=qXU ds ms ns eb es en (ds.getD j de0).refs idx F (by omega) hi (fun r hr=>⟨(hF r hr).1,(hF r hr).2.1,(hF r hr).2.2.1,(hF r hr).2.2.2.1,(hF r hr).2.2.2.2.1,(hF r hr).2.2.2.2.2.1⟩) hN
 refine fun Γ w args' hR hA=>?_
 obtain⟨c1,c2⟩:=hh Γ w args' hR hA
 refine⟨c1,c2.mono fun _ _=>Post.mono fun e H' hq=>?_⟩
 obtain⟨en',s,q1,q2,q3,q4,q5⟩:=hq
 refine⟨en',q1,?_,q5⟩
 rw [q4,qR8,← qXM (s:=s) (fun i=>?_) q2 q3]
 rw [List.mem_flatMap]
 constructor
 ·rintro⟨r,hr,hx⟩
  exact⟨r,hr,by rw [(hF r hr).2.2.2.2.2.2];exact hx⟩
 ·rintro⟨r,hr,hx⟩
  exact⟨r,hr,by rw [(hF r hr).2.2.2.2.2.2] at hx;exact hx⟩
theorem qJB (rel a b:Int):Pure cx 102 [i64 rel,i64 a,i64 b] (·=.ret [.bool (qQh rel a b)]):=by
 obtain⟨R,hR⟩:∃ R,R=qQh rel a b:=⟨_,rfl⟩
 rw [← hR]
 refine qAF Tryz.func102 rfl rfl rfl ?_
 (first | refine qAO (fun r1=>?_) (fun r1=>?_) | refine qAP (fun r1=>?_) (fun r1=>?_) | refine qAQ (fun r1=>?_) (fun r1=>?_))
 ·have r1:rel=1:=r1
  rw [qQh,if_pos r1] at hR
  (first | refine qAO (fun e=>?_) (fun e=>?_) | refine qAP (fun e=>?_) (fun e=>?_) | refine qAQ (fun e=>?_) (fun e=>?_))
  ·have e:a=b:=e
   exact qAY _ rfl rfl (qAl (by rw [hR,decide_eq_true e]))
  ·have e:¬ a=b:=e
   exact qAY _ rfl rfl (qAl (by rw [hR,decide_eq_false e]))
 have r1:¬ rel=1:=r1
 (first | refine qAO (fun r2=>?_) (fun r2=>?_) | refine qAP (fun r2=>?_) (fun r2=>?_) | refine qAQ (fun r2=>?_) (fun r2=>?_))
 ·have r2:rel=2:=r2
  rw [qQh,if_neg r1,if_pos r2] at hR
  (first | refine qAO (fun e=>?_) (fun e=>?_) | refine qAP (fun e=>?_) (fun e=>?_) | refine qAQ (fun e=>?_) (fun e=>?_))
  ·have e:a=b:=e
   exact qAY _ rfl rfl (qAl (by rw [hR,decide_eq_false (fun h=>h e)]))
  ·have e:¬ a=b:=e
   exact qAY _ rfl rfl (qAl (by rw [hR,decide_eq_true e]))
 have r2:¬ rel=2:=r2
 (first | refine qAO (fun r3=>?_) (fun r3=>?_) | refine qAP (fun r3=>?_) (fun r3=>?_) | refine qAQ (fun r3=>?_) (fun r3=>?_))
 ·have r3:rel=3:=r3
  rw [qQh,if_neg r1,if_neg r2,if_pos r3] at hR
  (first | refine qAO (fun e=>?_) (fun e=>?_) | refine qAP (fun e=>?_) (fun e=>?_) | refine qAQ (fun e=>?_) (fun e=>?_))
  ·have e:a<b:=e
   exact qAY _ rfl rfl (qAl (by rw [hR,decide_eq_true e]))
  ·have e:¬ a<b:=e
   exact qAY _ rfl rfl (qAl (by rw [hR,decide_eq_false e]))
 ·have r3:¬ rel=3:=r3
  rw [qQh,if_neg r1,if_neg r2,if_neg r3] at hR
  (first | refine qAO (fun e=>?_) (fun e=>?_) | refine qAP (fun e=>?_) (fun e=>?_) | refine qAQ (fun e=>?_) (fun e=>?_))
  ·have e:a≤b:=e
   exact qAY _ rfl rfl (qAl (by rw [hR,decide_eq_true e]))
  ·have e:¬ a≤b:=e
   exact qAY _ rfl rfl (qAl (by rw [hR,decide_eq_false e]))
theorem qVR (st:List Int) (v:Int) (hs:st.length≤100):Pure cx 201 [ints st,i64 v] fun r=>∃ n:Int,r=.ret [i64 n]∧(0≤n ↔ (st.any fun x=>decide (x=v))=true):=by
 have hm:(st.map i64).length=st.length:=List.length_map ..
 refine qAF Tryz.func201 rfl rfl rfl ?_
 refine⟨Nat,fun k=>[(0, .p (ints st)),(1, .p (i64 v)),(7, .p (i64 st.length)),(8, .p (i64 k))],fun _=>⟨0,[]⟩,fun k=>k≤st.length∧∀ x∈st.take k,¬ x=v,fun k=>st.length - k,?_,?_⟩
 ·exact⟨0,⟨Nat.zero_le _,fun x hx=>by cases hx⟩,qAB [] [] [] rfl ⟨rfl,rfl,congrArg (fun n:Nat=>i64 n) hm.symm,rfl,trivial⟩ (sk) rfl⟩
 rintro k ⟨k1,k2⟩
 (first | refine qAO (fun m1=>?_) (fun m1=>?_) | refine qAP (fun m1=>?_) (fun m1=>?_) | refine qAQ (fun m1=>?_) (fun m1=>?_))
 rotate_left
 ·have m1:¬ (k:Int)<(st.length:Nat):=m1
  rw [qAh (by omega)] at k2
  refine qAY (i64 (-1)) rfl rfl ⟨-1,rfl,fun h=>absurd h (by decide),fun h=>?_⟩
  obtain⟨x,hx,e⟩:=List.any_eq_true.1 h
  exact absurd (of_decide_eq_true e) (k2 x hx)
 have m1:(k:Int)<(st.length:Nat):=m1
 have hk:k<st.length:=by omega
 have hcell:=qWK hk
 have hmem:=qAG 0 hk
 have hnx:=qAD 0 hk
 generalize st.getD k 0=x at hcell hmem hnx
 refine⟨_,⟨by omega,_,hcell,rfl⟩,?_⟩
 (first | refine qAO (fun e1=>?_) (fun e1=>?_) | refine qAP (fun e1=>?_) (fun e1=>?_) | refine qAQ (fun e1=>?_) (fun e1=>?_))
 ·have e1:v=x:=e1
  exact qAY (i64 (k:Nat)) rfl rfl ⟨((k:Nat):Int),rfl,fun _=>List.any_eq_true.2 ⟨x,hmem,decide_eq_true e1.symm⟩,fun _=>by omega⟩
 ·have e1:¬ v=x:=e1
  refine⟨_,w6z,?_⟩
  refine⟨k+1,⟨by omega,fun y hy=>?_⟩,qAB [] [] [] rfl (sk) (sk) rfl,by show st.length - (k+1)<st.length - k;omega⟩
  rw [hnx] at hy
  rcases List.mem_append.1 hy with hy | hy
  ·exact k2 y hy
  ·rw [List.mem_singleton.1 hy];exact fun e=>e1 e.symm
theorem qNE (st:List Int) (v:Int) (hs:st.length≤100):Pure cx 151 [ints st,i64 v] (·=.ret [.bool (st.any fun x=>decide (x=v))]):=by
 have hI:=qVR st v hs
 generalize (st.any fun x=>decide (x=v))=b at hI
 refine qAF Tryz.func151 rfl rfl rfl ?_
 refine hI.at fun r hr=>?_
 obtain⟨n,rfl,hn⟩:=hr
 (first | refine qAO (fun e=>?_) (fun e=>?_) | refine qAP (fun e=>?_) (fun e=>?_) | refine qAQ (fun e=>?_) (fun e=>?_))
 ·have e:0≤n:=e
  exact qAY _ rfl rfl (qAl (hn.1 e).symm)
 ·have e:¬ 0≤n:=e
  refine qAY _ rfl rfl (qAl ?_)
  cases b
  ·rfl
  ·exact absurd (hn.2 rfl) e
def qUX (op v n:Int) (st:List Int):Bool:=if op=5 then st.any fun x=>decide (x=v) else qQh op v n
theorem qXp (op n rel val:Int) (r:Rf) (st:List Int) (ar:List Cd) (v:Int) (hs:st.length≤100):Pure cx 100 [(Cd.mk op n rel val r st ar).pv,i64 v] (·=.ret [.bool (qUX op v n st)]):=by
 obtain⟨R,hR⟩:∃ R,R=qUX op v n st:=⟨_,rfl⟩
 rw [← hR]
 rw [qUX] at hR
 obtain⟨rn,rm,rp,ri⟩:=r
 refine qAF Tryz.func100 rfl rfl rfl ?_
 (first | refine qAO (fun o5=>?_) (fun o5=>?_) | refine qAP (fun o5=>?_) (fun o5=>?_) | refine qAQ (fun o5=>?_) (fun o5=>?_))
 ·have o5:op=5:=o5
  rw [if_pos o5] at hR
  refine(qNE st v hs).eq rfl ?_
  exact qAY _ rfl rfl (qAl hR.symm)
 ·have o5:¬ op=5:=o5
  rw [if_neg o5] at hR
  refine(qJB op v n).eq rfl ?_
  exact qAY _ rfl rfl (qAl hR.symm)
structure ValsOK (vals:List Int):Prop where
 len:vals.length=8
 val:∀ i,i<8→0≤vals.getD i 0∧vals.getD i 0<4
abbrev TV8:TypeId:=220
abbrev va8 (u:List Int):List AV:=[.p (i64 (u.getD 0 0)), .p (i64 (u.getD 1 0)), .p (i64 (u.getD 2 0)), .p (i64 (u.getD 3 0)), .p (i64 (u.getD 4 0)), .p (i64 (u.getD 5 0)), .p (i64 (u.getD 6 0)), .p (i64 (u.getD 7 0))]
def vaO (vals:List Int):AObj:=⟨TV8,false, .bx (va8 vals)⟩
theorem qHP:∀ {u:List Int},u.length=8→va8 u=u.map fun x=>AV.p (i64 x)
 | [_,_,_,_,_,_,_,_],_=>rfl
abbrev va4 (u:List Int):List AV:=[.p (i64 (u.getD 0 0)), .p (i64 (u.getD 1 0)), .p (i64 (u.getD 2 0)), .p (i64 (u.getD 3 0))]
theorem qMP:∀ {u:List Int},u.length=4→va4 u=u.map fun x=>AV.p (i64 x)
 | [_,_,_,_],_=>rfl
def qCF (l:List Mb) (idx:Int) (c:Cd) (g:FuncId) (caps:List PV):Prop:=∀ vals:List Int,ValsOK vals→HoldsG cx g (.ptr 0 0 0::caps.map .p) ⟨1,[(0,vaO vals)]⟩ fun e H'=>e=.returned (.p (.bool (qAc l idx vals c)))∧H'=⟨1,[(0,vaO vals)]⟩
theorem qBC (ρ:Nat→Nat) (ni:List (Nat × Nat)) (L:List (Nat × AObj)):∀ l:List PV,qDn ρ ni L (l.map .p) (l.map .p)
 | []=>rfl
 | x::l=>⟨_,_,rfl,qUm L x,qBC ρ ni L l⟩
theorem qMb (ρ:Nat→Nat) (ni:List (Nat × Nat)) (L:List (Nat × AObj)) (l:List Int):qDn ρ ni L (l.map fun x=>AV.p (i64 x)) (l.map fun x=>AV.p (i64 x)):=by
 have:=qBC ρ ni L (l.map i64)
 rwa [List.map_map] at this
theorem qWx {vals:List Int} {i:Nat} (hl:vals.length=8) (h:i<8):(va8 vals)[0+i * (0+1)]?=some (.p (i64 (vals.getD i 0))):=by
 rw [show 0+i * (0+1)=i by omega,qHP hl]
 exact qDj 0 (by omega)
theorem qVy {vals:List Int} {i:Nat} (hl:vals.length=4) (h:i<4):(va4 vals)[0+i * (0+1)]?=some (.p (i64 (vals.getD i 0))):=by
 rw [show 0+i * (0+1)=i by omega,qMP hl]
 exact qDj 0 (by omega)
theorem qb6 (ρ:Nat→Nat) (ni:List (Nat × Nat)) (L:List (Nat × AObj)) {u:List Int} (hl:u.length=4) (v:Nat) (c:Int):qDn ρ ni L (spl (va4 u) (0+v * (0+1)) [.p (i64 c)]) (va4 (u.set v c)):=by
 rw [show 0+v * (0+1)=v by omega,qF2,qMP hl,qMP (by rw [List.length_set];exact hl),← List.map_set (f:=fun x=>AV.p (i64 x))]
 exact qMb _ _ _ _
theorem qXA (l:List Mb) (idx n rel val:Int) (r:Rf) (st:List Int):qCF l idx (.mk 0 n rel val r st []) 98 []:=fun vals hv=>by
 have hR:qAc l idx vals (.mk 0 n rel val r st [])=true:=by rw [qAc,if_pos rfl]
 rw [hR]
 refine qAA Tryz.func98 rfl rfl rfl ?_
 exact⟨[],[],[], .returned (.p (.bool true)),⟨1,[(0,vaO vals)]⟩,rfl,sk,sk,rfl,rfl⟩
theorem qW7 (l:List Mb) (idx:Int) (c:Cd) (h:∀ vals,qAc l idx vals c=false):qCF l idx c 103 []:=fun vals hv=>by
 rw [h]
 refine qAA Tryz.func103 rfl rfl rfl ?_
 exact⟨[],[],[], .returned (.p (.bool false)),⟨1,[(0,vaO vals)]⟩,rfl,sk,sk,rfl,rfl⟩
theorem qXD {l:List Mb} {idx n rel val:Int} {r:Rf} {st:List Int} {a:Cd} {g:FuncId} {caps:List PV} (ha:qCF l idx a g caps):qCF l idx (.mk 7 n rel val r st [a]) 95 [.fp [.lst [.fn (.func g) [] caps]]]:=fun vals hv=>by
 have hA:=ha vals hv
 rw [qAc,if_neg (by decide),if_pos rfl,qBH,qBH]
 show HoldsG cx _ _ _ fun e H'=>e=.returned (.p (.bool (!qAc l idx vals a)))∧_
 generalize qAc l idx vals a=p at hA
 refine qAA Tryz.func95 rfl rfl rfl ?_
 refine⟨_,⟨by omega,_,rfl,rfl⟩,?_⟩
 refine hA.holds.useT [] [] rfl (sk) ⟨_,_,rfl,⟨rfl,rfl⟩,qBC _ _ _ caps⟩ fun e0 H0 hq=>?_
 obtain⟨rfl,rfl⟩:=hq
 refine⟨rfl,_,⟨1,[(0,vaO vals)]⟩,rfl,rfl,?_⟩
 exact⟨[],[],[], .returned (.p (.bool (!p))),⟨1,[(0,vaO vals)]⟩,rfl,sk,sk,rfl,rfl⟩
theorem qXC {l:List Mb} {idx n rel val:Int} {r:Rf} {st:List Int} {a b:Cd} {g k:FuncId} {caps kaps:List PV} (ha:qCF l idx a g caps) (hb:qCF l idx b k kaps):qCF l idx (.mk 8 n rel val r st [a,b]) 96 [.fp [.lst [.fn (.func g) [] caps, .fn (.func k) [] kaps]]]:=fun vals hv=>by
 have hA:=ha vals hv
 have hB:=hb vals hv
 rw [qAc,if_neg (by decide),if_neg (by decide),if_pos rfl,qBH,qBH,qBH]
 show HoldsG cx _ _ _ fun e H'=>e=.returned (.p (.bool (qAc l idx vals a && qAc l idx vals b)))∧_
 generalize qAc l idx vals a=p at hA
 generalize qAc l idx vals b=q at hB
 cases p
 ·refine qAA Tryz.func96 rfl rfl rfl ?_
  refine⟨_,⟨by omega,_,rfl,rfl⟩,?_⟩
  refine hA.holds.useT [] [] rfl (sk) ⟨_,_,rfl,⟨rfl,rfl⟩,qBC _ _ _ caps⟩ fun e0 H0 hq=>?_
  obtain⟨rfl,rfl⟩:=hq
  refine⟨rfl,_,⟨1,[(0,vaO vals)]⟩,rfl,rfl,?_⟩
  exact⟨[],[],[], .returned (.p (.bool false)),⟨1,[(0,vaO vals)]⟩,rfl,sk,sk,rfl,rfl⟩
 ·refine qAA Tryz.func96 rfl rfl rfl ?_
  refine⟨_,⟨by omega,_,rfl,rfl⟩,?_⟩
  refine hA.holds.useT [] [] rfl (sk) ⟨_,_,rfl,⟨rfl,rfl⟩,qBC _ _ _ caps⟩ fun e0 H0 hq=>?_
  obtain⟨rfl,rfl⟩:=hq
  refine⟨rfl,_,⟨1,[(0,vaO vals)]⟩,rfl,rfl,?_⟩
  refine⟨_,⟨by omega,_,rfl,rfl⟩,?_⟩
  refine hB.holds.useT [] [] rfl (sk) ⟨_,_,rfl,⟨rfl,rfl⟩,qBC _ _ _ kaps⟩ fun e0 H0 hq=>?_
  obtain⟨rfl,rfl⟩:=hq
  refine⟨rfl,_,⟨1,[(0,vaO vals)]⟩,rfl,rfl,?_⟩
  exact⟨[],[],[], .returned (.p (.bool q)),⟨1,[(0,vaO vals)]⟩,rfl,sk,sk,rfl,rfl⟩
theorem qXB {l:List Mb} {idx n rel val:Int} {r:Rf} {st:List Int} {a b:Cd} {g k:FuncId} {caps kaps:List PV} (ha:qCF l idx a g caps) (hb:qCF l idx b k kaps):qCF l idx (.mk 9 n rel val r st [a,b]) 97 [.fp [.lst [.fn (.func g) [] caps, .fn (.func k) [] kaps]]]:=fun vals hv=>by
 have hA:=ha vals hv
 have hB:=hb vals hv
 rw [qAc,if_neg (by decide),if_neg (by decide),if_neg (by decide),if_pos rfl,qBH,qBH,qBH]
 show HoldsG cx _ _ _ fun e H'=>e=.returned (.p (.bool (qAc l idx vals a || qAc l idx vals b)))∧_
 generalize qAc l idx vals a=p at hA
 generalize qAc l idx vals b=q at hB
 cases p
 ·refine qAA Tryz.func97 rfl rfl rfl ?_
  refine⟨_,⟨by omega,_,rfl,rfl⟩,?_⟩
  refine hA.holds.useT [] [] rfl (sk) ⟨_,_,rfl,⟨rfl,rfl⟩,qBC _ _ _ caps⟩ fun e0 H0 hq=>?_
  obtain⟨rfl,rfl⟩:=hq
  refine⟨rfl,_,⟨1,[(0,vaO vals)]⟩,rfl,rfl,?_⟩
  refine⟨_,⟨by omega,_,rfl,rfl⟩,?_⟩
  refine hB.holds.useT [] [] rfl (sk) ⟨_,_,rfl,⟨rfl,rfl⟩,qBC _ _ _ kaps⟩ fun e0 H0 hq=>?_
  obtain⟨rfl,rfl⟩:=hq
  refine⟨rfl,_,⟨1,[(0,vaO vals)]⟩,rfl,rfl,?_⟩
  exact⟨[],[],[], .returned (.p (.bool q)),⟨1,[(0,vaO vals)]⟩,rfl,sk,sk,rfl,rfl⟩
 ·refine qAA Tryz.func97 rfl rfl rfl ?_
  refine⟨_,⟨by omega,_,rfl,rfl⟩,?_⟩
  refine hA.holds.useT [] [] rfl (sk) ⟨_,_,rfl,⟨rfl,rfl⟩,qBC _ _ _ caps⟩ fun e0 H0 hq=>?_
  obtain⟨rfl,rfl⟩:=hq
  refine⟨rfl,_,⟨1,[(0,vaO vals)]⟩,rfl,rfl,?_⟩
  exact⟨[],[],[], .returned (.p (.bool true)),⟨1,[(0,vaO vals)]⟩,rfl,sk,sk,rfl,rfl⟩
abbrev qaz:OT:=(.pure 0 (.pure 1 (.pure 2 (.pure 3 (.pure 4 (.pure 5 (.eff 6 [] (.pure 7 .fin) .nil)))))))
abbrev qay:OT:=(.pure 0 (.pure 1 (.pure 2 (.pure 3 (.pure 4 (.pure 5 (.pure 6 (.pure 7 (.eff 8 [] (.pure 9 .fin) .nil)))))))))
theorem qW9 {l:List Mb} {idx op n rel val:Int} {r:Rf} {st:List Int} {i:Nat} (hi:i<8) (hs:st.length≤100) (h:∀ vals,qAc l idx vals (.mk op n rel val r st [])=qUX op (vals.getD i 0) n st):qCF l idx (.mk op n rel val r st []) 99 [.fp (Cd.mk op n rel val r st []).cells, .fp [i64 (i:Nat)]]:=fun vals hv=>by
 rw [h]
 have hT:=qXp op n rel val r st [] (vals.getD i 0) hs
 have hc:=qWx (vals:=vals) (i:=i) hv.len hi
 generalize vals.getD i 0=z at hT hc
 obtain⟨rn,rm,rp,ri⟩:=r
 refine qAA Tryz.func99 rfl rfl rfl ?_
 refine qAH qaz (by kernel_rfl) ?_
 refine⟨by show(0:Int)≤(i:Nat)∧((i:Nat):Int)<8;omega,?_⟩
 refine⟨.p (i64 z),qQE rfl hc,?_⟩
 refine hT.eq rfl ?_
 exact⟨[],[],[], .returned (.p (.bool _)),⟨1,[(0,vaO vals)]⟩,rfl,sk,sk,rfl,rfl⟩
def caO (cnt:List Int):AObj:=⟨218,false, .bx (va4 cnt)⟩
def qQk (vals:List Int) (l:List Nat):List Int:=(List.range 4).map fun (z:Nat)=>(((l.filter fun i=>decide (vals.getD i 0=(z:Nat))).length:Nat):Int)
theorem qKR {vals:List Int} {l:List Nat} {z:Nat} (h:z<4):(qQk vals l).getD z 0=(((l.filter fun i=>decide (vals.getD i 0=(z:Nat))).length:Nat):Int):=by
 rw [qQk,List.getD_eq_getElem?_getD,List.getElem?_map,List.getElem?_range h];rfl
theorem qHA (vals:List Int) (l:List Nat):(qQk vals l).length=4:=by rw [qQk,List.length_map,List.length_range]
theorem qTL {vals:List Int} {l:List Nat} {i z:Nat} (hz:z<4) (h:vals.getD i 0=(z:Nat)):qQk vals (l++[i])=(qQk vals l).set z ((qQk vals l).getD z 0+1):=by
 apply List.ext_getElem?
 intro k
 rw [List.getElem?_set]
 by_cases hk:k<4
 ·have e1:(qQk vals (l++[i]))[k]?=some ((((l++[i]).filter fun i=>decide (vals.getD i 0=(k:Nat))).length:Nat):Int):=by
   rw [qQk,List.getElem?_map,List.getElem?_range hk];rfl
  have e2:(qQk vals l)[k]?=some (((l.filter fun i=>decide (vals.getD i 0=(k:Nat))).length:Nat):Int):=by
   rw [qQk,List.getElem?_map,List.getElem?_range hk];rfl
  rw [e1,e2,List.filter_append,List.length_append]
  by_cases e:z=k
  ·subst e
   rw [if_pos rfl,if_pos (by rw [qHA];exact hk),qKR hz,List.filter_cons_of_pos (by exact decide_eq_true h)]
   rfl
  ·rw [if_neg e,List.filter_cons_of_neg (by rw [decide_eq_false (by rw [h];omega)];decide)]
   rfl
 ·rw [List.getElem?_eq_none (by rw [qHA];omega),List.getElem?_eq_none (by rw [qHA];omega)]
  by_cases e:z=k
  ·omega
  ·rw [if_neg e]
theorem qW8 {l:List Mb} {idx op n rel val:Int} {r:Rf} {st:List Int} {ns:List Nat} (hn:∀ i∈ns,i<8) (hl:ns.length≤1000) (hval:0≤val∧val<4) (h:∀ vals,qAc l idx vals (.mk op n rel val r st [])=qQh rel ((ns.filter fun i=>decide (vals.getD i 0=val)).length:Nat) n):qCF l idx (.mk op n rel val r st []) 101 [.fp [qET ns], .fp (Cd.mk op n rel val r st []).cells]:=fun vals hv=>by
 rw [h]
 obtain⟨w,rfl⟩:∃ w:Nat,val=((w:Nat):Int):=⟨val.toNat,by omega⟩
 have hw4:w<4:=by omega
 have hC:=qJB rel ((ns.filter fun i=>decide (vals.getD i 0=(w:Nat))).length:Nat) n
 have hget:=qKR (vals:=vals) (l:=ns) hw4
 rw [← hget] at hC ⊢
 clear hget
 have hm:(ns.map fun i=>i64 ((i:Nat):Int)).length=ns.length:=List.length_map ..
 obtain⟨rn,rm,rp,ri⟩:=r
 refine qAA Tryz.func101 rfl rfl rfl ?_
 refine⟨Nat × List Int,fun x=>[(0, .ptr 0 0 0),(2, .p (.fp (Cd.mk op n rel ((w:Nat):Int) ⟨rn,rm,rp,ri⟩ st []).cells)),(5, .ptr 1 0 0),(8, .p (qET ns)),(9, .p (i64 ns.length)),(10, .p (i64 x.1))],fun x=>⟨2,[(1,caO x.2),(0,vaO vals)]⟩,fun x=>x.1≤ns.length∧x.2=qQk vals (ns.take x.1),fun x=>ns.length - x.1,?_,?_⟩
 ·exact⟨(0,[0,0,0,0]),⟨Nat.zero_le _,rfl⟩,qAB [] [] [] rfl ⟨⟨rfl,rfl⟩,rfl,⟨rfl,rfl⟩,rfl,congrArg (fun n:Nat=>i64 n) hm.symm,rfl,trivial⟩ (sk) rfl⟩
 rintro⟨k,cnt⟩ ⟨k1,k2⟩
 simp only [] at k1 k2
 have hcl:cnt.length=4:=by rw [k2,qHA]
 (first | refine qAO (fun m1=>?_) (fun m1=>?_) | refine qAP (fun m1=>?_) (fun m1=>?_) | refine qAQ (fun m1=>?_) (fun m1=>?_))
 ·have m1:(k:Int)<(ns.length:Nat):=m1
  have hk:k<ns.length:=by omega
  have hcell:=qZS hk
  have hy8:=hn _ (qAG 0 hk)
  have hnx:=qAD 0 hk
  generalize ns.getD k 0=y at hcell hy8 hnx
  have hc:=qWx (vals:=vals) (i:=y) hv.len hy8
  obtain⟨v0,v4⟩:=hv.val y hy8
  obtain⟨z,hz⟩:∃ z:Nat,vals.getD y 0=(z:Nat):=⟨(vals.getD y 0).toNat,by omega⟩
  have hz4:z<4:=by omega
  have hs:=qTL (l:=ns.take k) hz4 hz
  rw [← hnx,← k2] at hs
  rw [hz] at hc
  have hc2:=qVy (vals:=cnt) (i:=z) hcl hz4
  have ha:0≤cnt.getD z 0∧cnt.getD z 0≤1000:=by
   rw [k2,qKR hz4]
   have:=List.length_filter_le (fun i=>decide (vals.getD i 0=(z:Nat))) (ns.take k)
   rw [List.length_take] at this;omega
  generalize cnt.getD z 0=a at hc2 ha hs
  refine⟨_,⟨by omega,_,hcell,rfl⟩,?_⟩
  refine⟨by show(0:Int)≤(y:Nat)∧((y:Nat):Int)<8;omega,?_⟩
  refine⟨.p (i64 (z:Nat)),qQE rfl hc,?_⟩
  refine⟨by show(0:Int)≤(z:Nat)∧((z:Nat):Int)<4;omega,?_⟩
  refine⟨.p (i64 a),qQE rfl hc2,?_⟩
  refine⟨_,w6z,?_⟩
  refine⟨by show(0:Int)≤(z:Nat)∧((z:Nat):Int)<4;omega,?_⟩
  refine⟨by show 0+z * (0+1)+1≤4;omega,?_⟩
  refine⟨_,w6z,?_⟩
  refine⟨(k+1,cnt.set z (a+1)),⟨by show k+1≤ns.length;omega,hs.symm⟩,qAB [] [] [] rfl (sk) ⟨⟨_,rfl,rfl,rfl,_,rfl,qb6 _ _ _ hcl z (a+1)⟩,⟨_,rfl,rfl,rfl,_,rfl,sk⟩,trivial⟩ rfl,by show ns.length - (k+1)<ns.length - k;omega⟩
 have m1:¬ (k:Int)<(ns.length:Nat):=m1
 rw [qAh (by omega)] at k2
 rw [← k2] at hC ⊢
 have hc2:=qVy (vals:=cnt) (i:=w) hcl hw4
 generalize cnt.getD w 0=a at hC hc2 ⊢
 refine qAH qay (by kernel_rfl) ?_
 refine⟨by show(0:Int)≤(w:Nat)∧((w:Nat):Int)<4;omega,?_⟩
 refine⟨.p (i64 a),qQE rfl hc2,?_⟩
 refine hC.eq rfl ?_
 exact⟨[],[],[], .returned (.p (.bool _)),⟨1,[(0,vaO vals)]⟩,rfl,sk,sk,rfl,rfl⟩
end Go.Proofs.YtkegmchjobphdaaGreatDoor

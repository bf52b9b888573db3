/- Part 5 of the proof: Og Vc Vd Ve Ra Rb Rc Rd Vf Vg Jg Jh Ji Jj Jk Jl Gb Gc Gd Gf Gg Gh Ge Gi Ej Ea Eb Ec Ed Ex Ef -/
import Derived.Test.YtohfoaplnjcihaaGreatDoorQ4
namespace Go.Proofs.YtohfoaplnjcihaaGreatDoor
open Go Y
set_option maxRecDepth 100000
set_option maxHeartbeats 4000000
def AllT (x:Toks):Prop:=∀ t∈x,TokOK t
theorem allT_nil:AllT []:=fun t h=>by simp at h
theorem allT_cons {t:List UInt8} {x:Toks} (h:TokOK t) (hx:AllT x):AllT (t::x):=fun u hu=>by
 rcases List.mem_cons.1 hu with rfl | hu
 ·exact h
 ·exact hx u hu
theorem allT_app {x y:Toks} (hx:AllT x) (hy:AllT y):AllT (x++y):=fun u hu=>by
 rcases List.mem_append.1 hu with hu | hu
 ·exact hx u hu
 ·exact hy u hu
theorem tok_name {t:List UInt8} (h:nameN t=true):TokOK t:=⟨1,h⟩
theorem tok_dig {n:Int} (h:natB n=true):TokOK (digT n):=⟨3,(digT_num h).1⟩
theorem tok_fix:∀ t∈keysL++marksL,TokOK t:=by
 intro t ht
 rcases List.mem_append.1 ht with h | h
 ·exact⟨2,(by decide:∀ t∈keysL,rightN 2 t=true) t h⟩
 ·exact⟨4,(by decide:∀ t∈marksL,rightN 4 t=true) t h⟩
theorem fixT {x:Toks} (h:∀ t∈x,t∈keysL++marksL):AllT x:=fun t ht=>tok_fix t (h t ht)
theorem ref_toks {r:Rf} (h:refB r=true):AllT (refT r)∧(refT r).length≤6:=by
 obtain⟨nm,m,pl,n⟩:=r
 rw [refB,Bool.and_eq_true] at h
 obtain⟨hn,h⟩:=h
 simp only [] at h hn
 have k1:TokOK tLB:=tok_fix _ (by decide)
 have k2:TokOK tRB:=tok_fix _ (by decide)
 have k3:TokOK tAll:=tok_fix _ (by decide)
 have k4:TokOK tPlus:=tok_fix _ (by decide)
 suffices hs:AllT (tailT ⟨nm,m,pl,n⟩)∧(tailT ⟨nm,m,pl,n⟩).length≤5 by
  exact⟨allT_cons (tok_name hn) hs.1,by show _+1≤6;omega⟩
 unfold tailT
 simp only []
 split
 ·exact⟨allT_cons k1 (allT_cons k3 (allT_cons k2 allT_nil)),by simp⟩
 ·rename_i h3
  split
  ·rename_i h2
   rw [if_neg (by omega),if_neg (by omega),if_pos h2,Bool.and_eq_true] at h
   exact⟨allT_cons k1 (allT_cons (tok_dig h.2) (allT_cons k2 allT_nil)),by simp⟩
  ·split
   ·rename_i h1
    rw [if_neg (by omega),if_pos h1,Bool.and_eq_true] at h
    split
    ·exact⟨allT_cons k1 (allT_cons (tok_name h.1) (allT_cons k4 (allT_cons (tok_dig h.2) (allT_cons k2 allT_nil)))),by simp⟩
    ·exact⟨allT_cons k1 (allT_cons (tok_name h.1) (allT_cons k2 allT_nil)),by simp⟩
   ·exact⟨allT_nil,by simp⟩
theorem flat_toks {α:Type} {f:α→Toks} {b:Nat}:∀ {l:List α},(∀ a∈l,AllT (f a)∧(f a).length≤b)→AllT (l.flatMap f)∧(l.flatMap f).length≤b * l.length
 | [],_=>⟨allT_nil,by simp⟩
 | a::l,h=>by
  have h1:=h a (List.mem_cons_self ..)
  have h2:=flat_toks (f:=f) (b:=b) (l:=l) fun x hx=>h x (List.mem_cons_of_mem _ hx)
  rw [List.flatMap_cons]
  refine⟨allT_app h1.1 h2.1,?_⟩
  rw [List.length_append,List.length_cons,Nat.mul_succ]
  omega
theorem sep_toks {α:Type} {f:α→Toks} {b:Nat} {l:List α} (h:∀ a∈l,AllT (f a)∧(f a).length≤b):AllT (sepT f l)∧(sepT f l).length≤(b+1) * l.length:=by
 cases l with
 | nil=>exact⟨allT_nil,by simp [sepT]⟩
 | cons a l=>
  have h1:=h a (List.mem_cons_self ..)
  have h2:=flat_toks (f:=fun x=>tComma::f x) (b:=b+1) (l:=l) fun x hx=>⟨allT_cons (tok_fix _ (by decide)) (h x (List.mem_cons_of_mem _ hx)).1,by have:=(h x (List.mem_cons_of_mem _ hx)).2;simp only [List.length_cons];omega⟩
  rw [sepT]
  refine⟨allT_app h1.1 h2.1,?_⟩
  rw [List.length_append,List.length_cons,Nat.mul_succ]
  omega
theorem rel_tok (k:Int):TokOK (relT k):=by
 refine tok_fix _ ?_
 unfold relT
 split
 ·decide
 ·split
  ·decide
  ·split <;> decide
theorem leaf_toks {op n rel val:Int} {r:Rf} {st:List Int} (hb:leafB op n rel val r st=true):AllT (leafT op n rel val r st)∧(leafT op n rel val r st).length≤25:=by
 unfold leafB at hb
 unfold leafT
 by_cases c6:op=6
 ·rw [if_neg (by omega),if_neg (by omega),if_pos c6] at hb
  simp only [Bool.and_eq_true,decide_eq_true_eq] at hb
  obtain⟨⟨⟨⟨⟨⟨b1,b2⟩,b3⟩,b4⟩,b5⟩,b6⟩,b7⟩:=hb
  rw [if_pos c6]
  have hr:=ref_toks b1
  refine⟨allT_app (fixT (by decide)) (allT_app hr.1 (allT_cons (tok_fix _ (by decide)) (allT_cons (tok_dig b4) (allT_cons (tok_fix _ (by decide)) (allT_cons (rel_tok rel) (allT_cons (tok_dig b3) allT_nil)))))),?_⟩
  simp only [List.length_append,List.length_cons,List.length_nil];omega
 ·rw [if_neg c6]
  by_cases c5:op=5
  ·rw [if_neg (by omega),if_pos c5] at hb
   simp only [Bool.and_eq_true,decide_eq_true_eq] at hb
   obtain⟨⟨⟨⟨b1,b2⟩,b3⟩,b4⟩,b5⟩:=hb
   rw [if_pos c5]
   have hr:=ref_toks b1
   have hset:=setB_facts b5
   have hl8:st.length≤8:=by
    simp only [setB,Bool.and_eq_true,decide_eq_true_eq] at b5
    exact b5.1.2
   have hs:=sep_toks (f:=fun n=>[digT n]) (b:=1) (l:=st) fun a ha=>⟨allT_cons (tok_dig (hset.2.1 a ha)) allT_nil,by simp⟩
   refine⟨allT_app hr.1 (allT_app (fixT (by decide)) (allT_app hs.1 (fixT (by decide)))),?_⟩
   simp only [List.length_append,List.length_cons,List.length_nil];omega
  ·rw [if_neg c5]
   by_cases c1:op=1∨op=2∨op=3∨op=4
   ·rw [if_pos c1] at hb
    simp only [Bool.and_eq_true,decide_eq_true_eq] at hb
    have hr:=ref_toks hb.1.1.1.1
    refine⟨allT_app hr.1 (allT_cons (rel_tok op) (allT_cons (tok_dig hb.1.1.1.2) allT_nil)),?_⟩
    simp only [List.length_append,List.length_cons,List.length_nil];omega
   ·rw [if_neg c1,if_neg c5,if_neg c6] at hb
    cases hb
inductive ShN (P:Nat→Cd→Nat→Prop):Nat→Cd→Nat→Prop
 | leaf (op n rel val:Int) (r:Rf) (st:List Int) (l:Nat) (h7:¬ op=7) (h8:¬ op=8) (h9:¬ op=9) (h:leafB op n rel val r st=true):ShN P (l+1) (.mk op n rel val r st []) l
 | neg (a:Cd) (l k:Nat) (h:P l a k):ShN P (l+1) (.mk 7 0 0 0 rf0 [] [a]) k
 | conj (a b:Cd) (l m k:Nat) (ha:P l a m) (hb:P m b k):ShN P (l+1) (.mk 8 0 0 0 rf0 [] [a,b]) k
 | disj (a b:Cd) (l m k:Nat) (ha:P l a m) (hb:P m b k):ShN P (l+1) (.mk 9 0 0 0 rf0 [] [a,b]) k
theorem cond_shapeN {d:Nat} {c:Cd} {left k:Nat} (h:condV (d+1) c left=some k):ShN (fun l a k=>condV d a l=some k) left c k:=by
 obtain⟨op,n,rel,val,r,st,ar⟩:=c
 rw [condV] at h
 split at h
 ·cases h
 ·rename_i hl0
  obtain⟨l,rfl⟩:∃ l,left=l+1:=⟨left - 1,by omega⟩
  rw [Nat.add_sub_cancel] at h
  split at h
  ·rename_i hh
   unfold headB at hh
   split at hh
   ·rename_i h0
    simp only [Bool.and_eq_true,decide_eq_true_eq] at hh
    have:ar=[]:=List.length_eq_zero_iff.1 hh.2
    subst this
    unfold argsN at h0
    injection h with h
    have h:l=k:=h
    subst h
    refine .leaf op n rel val r st l ?_ ?_ ?_ hh.1
    ·rintro rfl;cases h0
    ·rintro rfl;cases h0
    ·rintro rfl;cases h0
   ·rename_i h0
    simp only [Bool.and_eq_true,decide_eq_true_eq] at hh
    obtain⟨hk,hp⟩:=hh
    obtain⟨rfl,rfl,rfl,rfl,rfl⟩:=plain_zero hp
    have two:∀ {a b:Cd},[a,b].foldlM (fun l c=>condV d c l) l=some k→∃ m,condV d a l=some m∧condV d b m=some k:=fun {a b} h=>by
     rw [List.foldlM_cons] at h
     cases h1:condV d a l with
     | none=>rw [h1] at h;cases h
     | some m=>
      rw [h1] at h
      have h:[b].foldlM (fun l c=>condV d c l) m=some k:=h
      rw [List.foldlM_cons] at h
      cases h2:condV d b m with
      | none=>rw [h2] at h;cases h
      | some m2=>
       rw [h2] at h
       exact⟨m,rfl,by rw [h2];exact h⟩
    unfold argsN at h0 hk
    by_cases c7:op=7
    ·subst c7
     obtain⟨a,rfl⟩:=len1 hk
     rw [List.foldlM_cons] at h
     cases h1:condV d a l with
     | none=>rw [h1] at h;cases h
     | some m=>
      rw [h1] at h
      exact .neg a l k (by rw [h1];exact h)
    ·rw [if_neg c7] at h0 hk
     by_cases c8:op=8
     ·subst c8
      obtain⟨a,b,rfl⟩:=len2 hk
      obtain⟨m,h1,h2⟩:=two h
      exact .conj a b l m k h1 h2
     ·by_cases c9:op=9
      ·subst c9
       obtain⟨a,b,rfl⟩:=len2 hk
       obtain⟨m,h1,h2⟩:=two h
       exact .disj a b l m k h1 h2
      ·rw [if_neg (by omega)] at h0
       exact absurd rfl h0
  ·cases h
theorem within_toks {k:Nat} {c:Cd} (h:AllT (condT c)):AllT (withinT k c)∧(withinT k c).length≤(condT c).length+2:=by
 by_cases hl:lvl c.op<k
 ·rw [withinT,inT,if_pos hl]
  exact⟨allT_cons (tok_fix _ (by decide)) (allT_app h (fixT (by decide))),by simp⟩
 ·rw [within_at hl]
  exact⟨h,by omega⟩
theorem cond_toks:∀ (d:Nat) (c:Cd) (left k:Nat),condV d c left=some k→AllT (condT c)∧(condT c).length+2+28 * k≤28 * left
 | 0,_,_,_,h=>by cases h
 | d+1,c,left,k,h=>by
  cases cond_shapeN h with
  | leaf op n rel val r st l h7 h8 h9 hb=>
   rw [condT_leaf h7 h8 h9]
   have:=leaf_toks hb
   exact⟨this.1,by omega⟩
  | neg a l k ha=>
   have ia:=cond_toks d a l k ha
   have wa:=within_toks (k:=3) ia.1
   rw [condT_neg]
   exact⟨allT_cons (tok_fix _ (by decide)) wa.1,by simp only [List.length_cons];omega⟩
  | conj a b l m k ha hb=>
   have ia:=cond_toks d a l m ha
   have ib:=cond_toks d b m k hb
   have wa:=within_toks (k:=2) ia.1
   have wb:=within_toks (k:=3) ib.1
   rw [condT_conj]
   exact⟨allT_app wa.1 (allT_cons (tok_fix _ (by decide)) wb.1),by simp only [List.length_append,List.length_cons];omega⟩
  | disj a b l m k ha hb=>
   have ia:=cond_toks d a l m ha
   have ib:=cond_toks d b m k hb
   have wa:=within_toks (k:=1) ia.1
   have wb:=within_toks (k:=2) ib.1
   rw [condT_disj]
   exact⟨allT_app wa.1 (allT_cons (tok_fix _ (by decide)) wb.1),by simp only [List.length_append,List.length_cons];omega⟩
theorem int_toks {n:Int} (h:wgtB n=true):AllT (intT n)∧(intT n).length≤2:=by
 simp only [wgtB,Bool.and_eq_true,decide_eq_true_eq] at h
 unfold intT
 split
 ·exact⟨allT_cons (tok_fix _ (by decide)) (allT_cons (tok_dig (by simp only [natB,Bool.and_eq_true,decide_eq_true_eq];omega)) allT_nil),by simp⟩
 ·exact⟨allT_cons (tok_dig (by simp only [natB,Bool.and_eq_true,decide_eq_true_eq];omega)) allT_nil,by simp⟩
theorem nums_toks {l:List Int} (h:numsB l=true):AllT (numsT l)∧(numsT l).length≤16:=by
 obtain⟨h1,h2,h3⟩:=nums_facts h
 have:=flat_toks (f:=intT) (b:=2) (l:=l) fun a ha=>int_toks (h3 a ha)
 exact⟨this.1,by have h4:=this.2;unfold numsT;omega⟩
theorem cases_toks:∀ {l:List Cs},casesT l=true→AllT (casesTx l)∧(casesTx l).length≤858 * l.length
 | [],_=>⟨allT_nil,by simp [casesTx]⟩
 | [c],h=>by
  simp only [casesT,Bool.and_eq_true] at h
  have hn:=nums_toks h.1
  rw [casesTx]
  exact⟨allT_cons (tok_fix _ (by decide)) (allT_cons (tok_fix _ (by decide)) hn.1),by simp only [List.length_cons,List.length_nil];omega⟩
 | c::d::r,h=>by
  simp only [casesT,Bool.and_eq_true] at h
  obtain⟨⟨hn,hc⟩,hr⟩:=h
  have hn:=nums_toks hn
  obtain⟨k,hk⟩:=Option.isSome_iff_exists.1 hc
  have hc:=cond_toks 8 c.cond 30 k hk
  have ih:=cases_toks (l:=d::r) hr
  rw [casesTx]
  refine⟨allT_app hc.1 (allT_cons (tok_fix _ (by decide)) (allT_app hn.1 (allT_cons (tok_fix _ (by decide)) ih.1))),?_⟩
  have:=ih.2
  simp only [List.length_append,List.length_cons] at this ⊢
  omega
theorem rule_toks {l:List Cs} (h:casesB l=true):AllT (ruleT l)∧(ruleT l).length≤10300:=by
 simp only [casesB,Bool.and_eq_true,decide_eq_true_eq] at h
 obtain⟨⟨h1,h2⟩,h3⟩:=h
 have:=cases_toks h3
 refine⟨allT_cons (tok_fix _ (by decide)) (allT_app this.1 (fixT (by decide))),?_⟩
 rw [ruleT]
 simp only [List.length_append,List.length_cons,List.length_nil]
 have h4:=this.2
 omega
theorem refs_toks {key:List UInt8} {l:List Rf} (hk:key∈keysL++marksL) (h:∀ r∈l,refB r=true) (hl:l.length≤8):AllT (refsT key l)∧(refsT key l).length≤60:=by
 unfold refsT
 split
 ·exact⟨allT_nil,by simp⟩
 ·have:=sep_toks (f:=refT) (b:=6) (l:=l) fun a ha=>ref_toks (h a ha)
  exact⟨allT_cons (tok_fix _ hk) this.1,by have h2:=this.2;simp only [List.length_cons];omega⟩
theorem decl_toks {d:De} (hv:declB d=true):AllT (declT d)∧(declT d).length≤10400:=by
 obtain⟨k,n,nm,pl,rs,cs⟩:=d
 simp only [declB,Bool.and_eq_true,decide_eq_true_eq,List.all_eq_true] at hv
 obtain⟨⟨⟨v1,v2⟩,v3⟩,v4⟩:=hv
 suffices hs:AllT (headT ⟨k,n,nm,pl,rs,cs⟩)∧(headT ⟨k,n,nm,pl,rs,cs⟩).length≤10399 by
  exact⟨allT_app hs.1 (fixT (by decide)),by rw [declT,List.length_append];simp only [List.length_cons,List.length_nil];omega⟩
 unfold kindB at v4
 unfold headT
 simp only [] at v4 ⊢
 have hd:=tok_dig v1
 by_cases c1:k=1
 ·rw [if_pos c1]
  exact⟨allT_cons (tok_fix _ (by decide)) (allT_cons hd allT_nil),by simp⟩
 rw [if_neg c1] at v4 ⊢
 by_cases c2:k=2
 ·rw [if_pos c2] at v4 ⊢
  simp only [Bool.and_eq_true,decide_eq_true_eq] at v4
  exact⟨allT_cons (tok_fix _ (by decide)) (allT_cons (tok_name v4.1.1.1) (allT_cons (tok_fix _ (by decide)) (allT_cons hd allT_nil))),by simp⟩
 rw [if_neg c2] at v4 ⊢
 by_cases c3:k=3
 ·rw [if_pos c3] at v4 ⊢
  simp only [Bool.and_eq_true,Bool.or_eq_true,decide_eq_true_eq] at v4
  obtain⟨⟨v0,v5⟩,v6⟩:=v4
  have hr:=refs_toks (key:=tFrom) (by decide) v3 v2
  have hc:=rule_toks v6
  have hp:AllT (if pl=[] then [] else [tLB,pl,tRB])∧(if pl=[] then [] else [tLB,pl,tRB]:Toks).length≤3:=by
   split
   ·exact⟨allT_nil,by simp⟩
   ·rename_i h
    exact⟨allT_cons (tok_fix _ (by decide)) (allT_cons (tok_name (v5.resolve_left h)) (fixT (by decide))),by simp⟩
  refine⟨allT_app (allT_cons (tok_fix _ (by decide)) (allT_cons (tok_name v0) allT_nil)) (allT_app hp.1 (allT_app (allT_cons (tok_fix _ (by decide)) (allT_cons hd allT_nil)) (allT_app hr.1 (allT_cons (tok_fix _ (by decide)) hc.1)))),?_⟩
  have h1:=hp.2
  have h2:=hr.2
  have h3:=hc.2
  simp only [List.length_append,List.length_cons,List.length_nil] at h1 ⊢
  omega
 rw [if_neg c3] at v4 ⊢
 by_cases c4:k=4
 ·rw [if_pos c4] at v4 ⊢
  simp only [Bool.and_eq_true,decide_eq_true_eq] at v4
  have hr:=refs_toks (key:=tSeeing) (by decide) v3 v2
  refine⟨allT_app (allT_cons (tok_fix _ (by decide)) (allT_cons (tok_name v4.1.1) (allT_cons (tok_fix _ (by decide)) (allT_cons hd allT_nil)))) hr.1,?_⟩
  have h2:=hr.2
  simp only [List.length_append,List.length_cons,List.length_nil];omega
 rw [if_neg c4] at v4 ⊢
 by_cases c5:k=5
 ·rw [if_pos c5] at v4 ⊢
  simp only [Bool.and_eq_true,decide_eq_true_eq] at v4
  have hr:=refs_toks (key:=tFrom) (by decide) v3 v2
  have hc:=rule_toks v4.2
  refine⟨allT_cons (tok_fix _ (by decide)) (allT_app hr.1 (allT_cons (tok_fix _ (by decide)) hc.1)),?_⟩
  have h2:=hr.2
  have h3:=hc.2
  simp only [List.length_append,List.length_cons];omega
 ·rw [if_neg c5]
  exact⟨allT_nil,by simp⟩
theorem tok_len {t:List UInt8} (h:TokOK t):1≤t.length∧t.length≤10:=by
 obtain⟨k,h⟩:=h
 exact right_len h
theorem spW_len:∀ {x:Toks} (b:Bool),AllT x→(spW b x).length≤11 * x.length
 | [],_,_=>by simp [spW]
 | t::x,b,h=>by
  have h1:=tok_len (h t (List.mem_cons_self ..))
  have h2:=spW_len (x:=x) true fun u hu=>h u (List.mem_cons_of_mem _ hu)
  have h3:(if b=true then [32] else []:List UInt8).length≤1:=by cases b <;> simp
  rw [spW,List.length_append,List.length_append,List.length_cons]
  omega
theorem valid_decl {ds:List De} (h:validB ds=true):ds.length≤30∧∀ d∈ds,declB d=true:=by
 simp only [validB,Bool.and_eq_true,decide_eq_true_eq,List.all_eq_true] at h
 exact h
theorem relw_c (k:Int):Pure cx 185 [i64 k] (·=.ret [.str (relT k)]):=by
 refine pure_of_vc Tryz.func185 rfl rfl rfl ?_
 (first | refine brLt (fun h1=>?_) (fun h1=>?_) | refine brLe (fun h1=>?_) (fun h1=>?_) | refine brEq (fun h1=>?_) (fun h1=>?_))
 ·have h1:k=1:=h1
  exact end1 _ rfl rfl (by rw [relT,if_pos h1])
 have h1:¬ k=1:=h1
 (first | refine brLt (fun h2=>?_) (fun h2=>?_) | refine brLe (fun h2=>?_) (fun h2=>?_) | refine brEq (fun h2=>?_) (fun h2=>?_))
 ·have h2:k=2:=h2
  exact end1 _ rfl rfl (by rw [relT,if_neg h1,if_pos h2])
 have h2:¬ k=2:=h2
 (first | refine brLt (fun h3=>?_) (fun h3=>?_) | refine brLe (fun h3=>?_) (fun h3=>?_) | refine brEq (fun h3=>?_) (fun h3=>?_))
 ·have h3:k=3:=h3
  exact end1 _ rfl rfl (by rw [relT,if_neg h1,if_neg h2,if_pos h3])
 have h3:¬ k=3:=h3
 exact end1 _ rfl rfl (by rw [relT,if_neg h1,if_neg h2,if_neg h3])
theorem leafB_all {op n rel val:Int} {r:Rf} {st:List Int} (hb:leafB op n rel val r st=true):refB r=true∧(op=6→natB n=true∧natB val=true)∧(op=5→setB st=true)∧(¬ op=5→¬ op=6→natB n=true):=by
 unfold leafB at hb
 by_cases c6:op=6
 ·rw [if_neg (by omega),if_neg (by omega),if_pos c6] at hb
  simp only [Bool.and_eq_true,decide_eq_true_eq] at hb
  obtain⟨⟨⟨⟨⟨⟨b1,b2⟩,b3⟩,b4⟩,b5⟩,b6⟩,b7⟩:=hb
  exact⟨b1,fun _=>⟨b3,b4⟩,fun h=>by omega,fun _ h=>absurd c6 h⟩
 ·by_cases c5:op=5
  ·rw [if_neg (by omega),if_pos c5] at hb
   simp only [Bool.and_eq_true,decide_eq_true_eq] at hb
   obtain⟨⟨⟨⟨b1,b2⟩,b3⟩,b4⟩,b5⟩:=hb
   exact⟨b1,fun h=>absurd h c6,fun _=>b5,fun h=>absurd c5 h⟩
  ·by_cases c1:op=1∨op=2∨op=3∨op=4
   ·rw [if_pos c1] at hb
    simp only [Bool.and_eq_true,decide_eq_true_eq] at hb
    exact⟨hb.1.1.1.1,fun h=>absurd h c6,fun h=>absurd h c5,fun _ _=>hb.1.1.1.2⟩
   ·rw [if_neg c1,if_neg c5,if_neg c6] at hb
    cases hb
abbrev setP (r:Rf) (l:List Int):Toks:=(refT r++[tIn,tLC])++sepT (fun n=>[digT n]) l
theorem test_w (st:Wst) (op n rel val:Int) (r:Rf) (s:List Int) (hv:leafB op n rel val r s=true) (hb0:st.sz+wt (leafT op n rel val r s)≤100000000):HoldsG cx 158 [.ptr 0 0 0, .p (Cd.mk op n rel val r s []).pv] (wH true st) (WQ (puts st (leafT op n rel val r s))):=by
 obtain⟨f1,f2,f3,f4⟩:=leafB_all hv
 by_cases h6:op=6
 ·subst h6
  obtain⟨g1,g2⟩:=f2 rfl
  have e:leafT 6 n rel val r s=(([]++[tCount,tLP])++refT r)++[tEq,digT val,tRP,relT rel,digT n]:=by
   rw [leafT,if_pos rfl];simp
  rw [e] at hb0 ⊢
  have hb:=hb0
  refine holdsN_of_vc Tryz.func158 rfl rfl rfl ?_
  refine And.intro (fun _=>?_) (fun h=>absurd rfl h)
  refine(put_h true (puts st ([])) ([tCount,tLP]) (by simp) (by have hz:=puts_sz ([]) st;simp only [wt_app,wt] at hb hz ⊢;omega)).holds.useT [] [(2,3)] rfl (sk) (sk) fun e0 H0 hq=>?_
  rw [← puts_app] at hq
  obtain⟨rfl,rfl⟩:=hq
  refine⟨rfl,_,⟨5,((4,bO (puts st ([]++[tCount,tLP])).s)::(0,wO 4 (puts st ([]++[tCount,tLP])))::[(2,cO ((Cd.mk 6 n rel val r s []).cells.map .p))])⟩,rfl,rfl,?_⟩
  refine(ref_w (puts st ([]++[tCount,tLP])) r f1 (by have hz:=puts_sz ([]++[tCount,tLP]) st;simp only [wt_app,wt] at hb hz ⊢;omega)).holds.useT [] [(1,4)] rfl (sk) (sk) fun e0 H0 hq=>?_
  unfold WQ at hq
  rw [← puts_app] at hq
  obtain⟨rfl,rfl⟩:=hq
  refine⟨rfl,_,⟨6,((5,bO (puts st (([]++[tCount,tLP])++refT r)).s)::(0,wO 5 (puts st (([]++[tCount,tLP])++refT r)))::[(2,cO ((Cd.mk 6 n rel val r s []).cells.map .p))])⟩,rfl,rfl,?_⟩
  refine VDraw.seq rfl ?_
  refine(itoa_c val g2).eq rfl ?_
  refine⟨sk,?_⟩
  refine(relw_c rel).eq rfl ?_
  refine⟨sk,?_⟩
  refine(itoa_c n g1).eq rfl ?_
  refine(put_h true (puts st (([]++[tCount,tLP])++refT r)) ([tEq,digT val,tRP,relT rel,digT n]) (by simp) (by have hz:=puts_sz (([]++[tCount,tLP])++refT r) st;simp only [wt_app,wt] at hb hz ⊢;omega)).holds.useT [] [(1,5),(2,6)] rfl (sk) (sk) fun e0 H0 hq=>?_
  rw [← puts_app] at hq
  obtain⟨rfl,rfl⟩:=hq
  refine⟨rfl,_,⟨8,((7,bO (puts st (([]++[tCount,tLP])++refT r++[tEq,digT val,tRP,relT rel,digT n])).s)::(0,wO 7 (puts st (([]++[tCount,tLP])++refT r++[tEq,digT val,tRP,relT rel,digT n])))::[(2,cO ((Cd.mk 6 n rel val r s []).cells.map .p))])⟩,rfl,rfl,?_⟩
  exact⟨[],[(2,7)],[], .returned und,_,rfl,sk,sk,rfl,rfl⟩
 by_cases h5:op=5
 ·subst h5
  obtain⟨s1,s2,s3⟩:=setB_facts (f3 rfl)
  have s8:s.length≤8:=by
   have:=f3 rfl
   simp only [setB,Bool.and_eq_true,decide_eq_true_eq] at this
   exact this.1.2
  have hm:(s.map i64).length=s.length:=List.length_map ..
  have e:leafT 5 n rel val r s=setP r s++[tRC]:=by
   rw [leafT,if_neg (by decide),if_pos rfl];simp [setP]
  rw [e] at hb0 ⊢
  refine holdsN_of_vc Tryz.func158 rfl rfl rfl ?_
  refine And.intro (fun h=>absurd (show(5:Int)=6 from h) (by decide)) (fun _=>?_)
  refine And.intro (fun _=>?_) (fun h=>absurd rfl h)
  have hb:st.sz+wt (([]++refT r)++[tIn,tLC])≤100000000:=by simp only [setP,wt_app,wt] at hb0 ⊢;omega
  refine(ref_w (puts st []) r f1 (by show st.sz+_≤_;simp only [wt_app,wt] at hb ⊢;omega)).holds.useT [] [] rfl (sk) (sk) fun e0 H0 hq=>?_
  unfold WQ at hq
  rw [← puts_app] at hq
  obtain⟨rfl,rfl⟩:=hq
  refine⟨rfl,_,⟨4,((3,bO (puts st ([]++refT r)).s)::(0,wO 3 (puts st ([]++refT r)))::[(2,cO ((Cd.mk 5 n rel val r s []).cells.map .p))])⟩,rfl,rfl,?_⟩
  refine(put_h true (puts st ([]++refT r)) ([tIn,tLC]) (by simp) (by have hz:=puts_sz ([]++refT r) st;simp only [wt_app,wt] at hb hz ⊢;omega)).holds.useT [] [(1,3),(2,4)] rfl (sk) (sk) fun e0 H0 hq=>?_
  rw [← puts_app] at hq
  obtain⟨rfl,rfl⟩:=hq
  refine⟨rfl,_,⟨6,((5,bO (puts st ([]++refT r++[tIn,tLC])).s)::(0,wO 5 (puts st ([]++refT r++[tIn,tLC])))::[(2,cO ((Cd.mk 5 n rel val r s []).cells.map .p))])⟩,rfl,rfl,?_⟩
  refine⟨Toks × Nat,fun x=>[(0, .ptr 0 0 0),(55, .p (ints s)),(56, .p (i64 (s.map i64).length)),(57, .p (i64 x.2))],fun x=>wH' (puts st x.1),fun x=>x.2≤s.length∧x.1=setP r (s.take x.2),fun x=>s.length - x.2,?_,?_⟩
  ·exact⟨(([]++refT r)++[tIn,tLC],0),⟨Nat.zero_le _,by simp [setP,sepT]⟩,ent_of [] [(2,5)] [] rfl (sk) (sk) rfl⟩
  clear hb
  rintro⟨P,k⟩ ⟨k1,k2⟩
  simp only [] at k1 k2
  (first | refine brLt (fun m1=>?_) (fun m1=>?_) | refine brLe (fun m1=>?_) (fun m1=>?_) | refine brEq (fun m1=>?_) (fun m1=>?_))
  rotate_left
  ·have m1:¬ (k:Int)<((s.map i64).length:Nat):=m1
   rw [hm] at m1
   have e:s.take k=s:=take_all (by omega)
   rw [e] at k2
   rw [← k2] at hb0
   have hb:=hb0
   refine(put_h true (puts st (P)) ([tRC]) (by simp) (by have hz:=puts_sz (P) st;simp only [wt_app,wt] at hb hz ⊢;omega)).holds.useT [] [(1,2),(2,3)] rfl (sk) (sk) fun e0 H0 hq=>?_
   rw [← puts_app] at hq
   obtain⟨rfl,rfl⟩:=hq
   refine⟨rfl,_,⟨5,((4,bO (puts st (P++[tRC])).s)::(0,wO 4 (puts st (P++[tRC])))::[])⟩,rfl,rfl,?_⟩
   exact⟨[],[(2,4)],[], .returned und,wH' (puts st (P++[tRC])),rfl,sk,sk,rfl,by rw [k2]⟩
  have m1:(k:Int)<((s.map i64).length:Nat):=m1
  rw [hm] at m1
  have hk:k<s.length:=by omega
  have hn:=s2 _ (getD_memL 0 hk)
  have hw:=sep_wt (f:=fun n=>[digT n]) s (k+1)
  have hcell:=icell hk
  have et:setP r (s.take (k+1))=setP r (s.take k)++((if k=0 then [] else [tComma])++[digT (s.getD k 0)]):=by
   rw [setP,sep_take 0 hk];simp [setP]
  have hb:st.sz+wt (setP r (s.take (k+1)))≤100000000:=by
   simp only [setP,wt_app,wt] at hb0 hw ⊢;omega
  rw [et] at hb
  rw [← k2] at et hb
  clear k2
  generalize s.getD k 0=x at hn hcell et hb
  refine⟨_,⟨by omega,i64 x,hcell,rfl⟩,?_⟩
  by_cases c:k=0
  ·rw [if_pos c] at et hb
   refine And.intro (fun h=>absurd (show(0:Int)<(k:Nat) from h) (by omega)) (fun _=>?_)
   refine(itoa_c x hn).eq rfl ?_
   have hb:st.sz+wt (P++[digT x])≤100000000:=hb
   refine(put_h true (puts st (P)) ([digT x]) (by simp) (by have hz:=puts_sz (P) st;simp only [wt_app,wt] at hb hz ⊢;omega)).holds.useT [] [(1,2),(2,3)] rfl (sk) (sk) fun e0 H0 hq=>?_
   rw [← puts_app] at hq
   obtain⟨rfl,rfl⟩:=hq
   refine⟨rfl,_,⟨5,((4,bO (puts st (P++[digT x])).s)::(0,wO 4 (puts st (P++[digT x])))::[])⟩,rfl,rfl,?_⟩
   refine⟨_,wrap_i64 (by omega) (by omega),?_⟩
   exact⟨(P++[digT x],k+1),⟨hk,et.symm⟩,ent_of [] [(2,4)] [] rfl (sk) (sk) rfl,by show s.length - (k+1)<s.length - k;omega⟩
  ·rw [if_neg c] at et hb
   rw [← List.append_assoc] at et hb
   refine And.intro (fun _=>?_) (fun h=>absurd (show(0:Int)<(k:Nat) by omega) h)
   refine(put_h true (puts st (P)) ([tComma]) (by simp) (by have hz:=puts_sz (P) st;simp only [wt_app,wt] at hb hz ⊢;omega)).holds.useT [] [(1,2),(2,3)] rfl (sk) (sk) fun e0 H0 hq=>?_
   rw [← puts_app] at hq
   obtain⟨rfl,rfl⟩:=hq
   refine⟨rfl,_,⟨5,((4,bO (puts st (P++[tComma])).s)::(0,wO 4 (puts st (P++[tComma])))::[])⟩,rfl,rfl,?_⟩
   refine(itoa_c x hn).eq rfl ?_
   refine(put_h true (puts st (P++[tComma])) ([digT x]) (by simp) (by have hz:=puts_sz (P++[tComma]) st;simp only [wt_app,wt] at hb hz ⊢;omega)).holds.useT [] [(1,4),(2,5)] rfl (sk) (sk) fun e0 H0 hq=>?_
   rw [← puts_app] at hq
   obtain⟨rfl,rfl⟩:=hq
   refine⟨rfl,_,⟨7,((6,bO (puts st (P++[tComma]++[digT x])).s)::(0,wO 6 (puts st (P++[tComma]++[digT x])))::[])⟩,rfl,rfl,?_⟩
   refine⟨_,wrap_i64 (by omega) (by omega),?_⟩
   exact⟨((P++[tComma])++[digT x],k+1),⟨hk,et.symm⟩,ent_of [] [(2,6)] [] rfl (sk) (sk) rfl,by show s.length - (k+1)<s.length - k;omega⟩
 ·have e:leafT op n rel val r s=([]++refT r)++[relT op,digT n]:=by
   rw [leafT,if_neg h6,if_neg h5];rfl
  have g1:=f4 h5 h6
  rw [e] at hb0 ⊢
  have hb:=hb0
  refine holdsN_of_vc Tryz.func158 rfl rfl rfl ?_
  refine And.intro (fun h=>absurd h h6) (fun _=>?_)
  refine And.intro (fun h=>absurd h h5) (fun _=>?_)
  refine(ref_w (puts st []) r f1 (by show st.sz+_≤_;simp only [wt_app,wt] at hb ⊢;omega)).holds.useT [] [] rfl (sk) (sk) fun e0 H0 hq=>?_
  unfold WQ at hq
  rw [← puts_app] at hq
  obtain⟨rfl,rfl⟩:=hq
  refine⟨rfl,_,⟨4,((3,bO (puts st ([]++refT r)).s)::(0,wO 3 (puts st ([]++refT r)))::[(2,cO ((Cd.mk op n rel val r s []).cells.map .p))])⟩,rfl,rfl,?_⟩
  refine VDraw.seq rfl ?_
  refine(relw_c op).eq rfl ?_
  refine⟨sk,?_⟩
  refine(itoa_c n g1).eq rfl ?_
  refine(put_h true (puts st ([]++refT r)) ([relT op,digT n]) (by simp) (by have hz:=puts_sz ([]++refT r) st;simp only [wt_app,wt] at hb hz ⊢;omega)).holds.useT [] [(1,3),(2,4)] rfl (sk) (sk) fun e0 H0 hq=>?_
  rw [← puts_app] at hq
  obtain⟨rfl,rfl⟩:=hq
  refine⟨rfl,_,⟨6,((5,bO (puts st ([]++refT r++[relT op,digT n])).s)::(0,wO 5 (puts st ([]++refT r++[relT op,digT n])))::[(2,cO ((Cd.mk op n rel val r s []).cells.map .p))])⟩,rfl,rfl,?_⟩
  exact⟨[],[(2,5)],[], .returned und,_,rfl,sk,sk,rfl,rfl⟩
theorem within_par {k:Nat} {c:Cd} (h:lvl c.op<k):withinT k c=tLP::(condT c++[tRP]):=if_pos h
def CwOK (d:Nat):Prop:=∀ (c:Cd),(∃ l k,condV d c l=some k)→∀ (st:Wst) (L:Nat),L≤2→st.sz+wt (withinT (L+1) c)≤100000000→HoldsG cx 115 [.ptr 0 0 0, .p c.pv, .p (i64 L)] (wH true st) (WQ (puts st (withinT (L+1) c)))
abbrev ccO (c:Cd):AObj:=cO (c.cells.map .p)
theorem cond_wStep {d:Nat} (ih:CwOK d):CwOK (d+1):=by
 intro c ⟨l,k,hv⟩ st L hL hb
 cases cond_shape hv with
 | leaf op n rel val r s h7 h8 h9 hl=>
  have hX:withinT (L+1) (.mk op n rel val r s [])=[]++leafT op n rel val r s:=by
   rw [within_at (by show ¬ lvl op<L+1;rw [lvl_leaf h7 h8 h9];omega),condT_leaf h7 h8 h9];rfl
  rw [hX] at hb ⊢
  refine holdsN_of_vc Tryz.func115 rfl rfl rfl ?_
  refine And.intro (fun h=>absurd h h9) (fun _=>?_)
  refine And.intro (fun h=>absurd h h8) (fun _=>?_)
  refine And.intro (fun h=>absurd (show(2:Int)<(L:Nat) from h) (by omega)) (fun _=>?_)
  refine And.intro (fun h=>absurd h h9) (fun _=>?_)
  refine And.intro (fun h=>absurd h h8) (fun _=>?_)
  refine And.intro (fun h=>absurd h h7) (fun _=>?_)
  refine(test_w (puts st []) op n rel val r s hl hb).holds.useT [] [] rfl (sk) (sk) fun e0 H0 hq=>?_
  unfold WQ at hq
  rw [← puts_app] at hq
  obtain⟨rfl,rfl⟩:=hq
  refine⟨rfl,_,⟨4,((3,bO (puts st ([]++leafT op n rel val r s)).s)::(0,wO 3 (puts st ([]++leafT op n rel val r s)))::[(2,ccO _)])⟩,rfl,rfl,?_⟩
  exact⟨[],[(2,3)],[], .returned und,wH' (puts st ([]++leafT op n rel val r s)),rfl,sk,sk,rfl,rfl⟩
 | neg a pa=>
  obtain⟨A,hA⟩:∃ A,A=withinT 3 a:=⟨_,rfl⟩
  have hX:withinT (L+1) (.mk 7 0 0 0 rf0 [] [a])=([]++[tNot])++A:=by
   rw [within_at (by show ¬ lvl 7<L+1;have:lvl 7=3:=rfl;omega),condT_neg,hA];rfl
  rw [hX] at hb ⊢
  have ha:=fun s h=>ih a pa s 2 (by omega) h
  have ha:∀ s:Wst,s.sz+wt A≤100000000→HoldsG cx 115 [.ptr 0 0 0, .p a.pv, .p (i64 (2:Nat))] (wH true s) (WQ (puts s A)):=fun s h=>by rw [hA] at h ⊢;exact ha s h
  clear hA hX hv pa
  obtain⟨ao,an,ar,av,af,at',aa⟩:=a
  refine holdsN_of_vc Tryz.func115 rfl rfl rfl ?_
  refine And.intro (fun h=>absurd (show(7:Int)=9 from h) (by decide)) (fun _=>?_)
  refine And.intro (fun h=>absurd (show(7:Int)=8 from h) (by decide)) (fun _=>?_)
  refine And.intro (fun h=>absurd (show(2:Int)<(L:Nat) from h) (by omega)) (fun _=>?_)
  refine And.intro (fun h=>absurd (show(7:Int)=9 from h) (by decide)) (fun _=>?_)
  refine And.intro (fun h=>absurd (show(7:Int)=8 from h) (by decide)) (fun _=>?_)
  refine And.intro (fun _=>?_) (fun h=>absurd rfl h)
  refine(put_h true (puts st ([])) ([tNot]) (by simp) (by have hz:=puts_sz ([]) st;simp only [wt_app,wt] at hb hz ⊢;omega)).holds.useT [] [(2,3)] rfl (sk) (sk) fun e0 H0 hq=>?_
  rw [← puts_app] at hq
  obtain⟨rfl,rfl⟩:=hq
  refine⟨rfl,_,⟨5,((4,bO (puts st ([]++[tNot])).s)::(0,wO 4 (puts st ([]++[tNot])))::[(2,ccO _)])⟩,rfl,rfl,?_⟩
  refine⟨_,⟨by decide,_,rfl,rfl⟩,?_⟩
  refine(ha (puts st ([]++[tNot])) (by have hz:=puts_sz ([]++[tNot]) st;simp only [wt_app,wt] at hb hz ⊢;omega)).holds.useT [] [(1,4)] rfl (sk) (sk) fun e0 H0 hq=>?_
  unfold WQ at hq
  rw [← puts_app] at hq
  obtain⟨rfl,rfl⟩:=hq
  refine⟨rfl,_,⟨6,((5,bO (puts st (([]++[tNot])++A)).s)::(0,wO 5 (puts st (([]++[tNot])++A)))::[(2,ccO _)])⟩,rfl,rfl,?_⟩
  exact⟨[],[(2,5)],[], .returned und,wH' (puts st (([]++[tNot])++A)),rfl,sk,sk,rfl,rfl⟩
 | conj a b pa pb=>
  have ha:=fun s h=>ih a pa s 1 (by omega) h
  have hc:=fun s h=>ih b pb s 2 (by omega) h
  obtain⟨A,hA⟩:∃ A,A=withinT 2 a:=⟨_,rfl⟩
  obtain⟨B,hB⟩:∃ B,B=withinT 3 b:=⟨_,rfl⟩
  have ha:∀ s:Wst,s.sz+wt A≤100000000→HoldsG cx 115 [.ptr 0 0 0, .p a.pv, .p (i64 (1:Nat))] (wH true s) (WQ (puts s A)):=fun s h=>by rw [hA] at h ⊢;exact ha s h
  have hc:∀ s:Wst,s.sz+wt B≤100000000→HoldsG cx 115 [.ptr 0 0 0, .p b.pv, .p (i64 (2:Nat))] (wH true s) (WQ (puts s B)):=fun s h=>by rw [hB] at h ⊢;exact hc s h
  have hC:condT (.mk 8 0 0 0 rf0 [] [a,b])=A++tAnd::B:=by rw [condT_conj,hA,hB]
  by_cases hp:1<L
  ·have hX:withinT (L+1) (.mk 8 0 0 0 rf0 [] [a,b])=(((([]++[tLP])++A)++[tAnd])++B)++[tRP]:=by
    rw [within_par (show lvl 8<L+1 by have:lvl 8=2:=rfl;omega),hC];simp
   rw [hX] at hb
   clear hA hB hC pa pb hv
   generalize withinT (L+1) (.mk 8 0 0 0 rf0 [] [a,b])=X at hX ⊢
   obtain⟨ao,an,ar,av,af,at',aa⟩:=a
   obtain⟨bo,bn,br,bv,bf,bt,ba⟩:=b
   refine holdsN_of_vc Tryz.func115 rfl rfl rfl ?_
   refine And.intro (fun h=>absurd (show(8:Int)=9 from h) (by decide)) (fun _=>?_)
   refine And.intro (fun _=>?_) (fun h=>absurd rfl h)
   refine And.intro (fun _=>?_) (fun h=>absurd (show(1:Int)<(L:Nat) by omega) h)
   refine(put_h true (puts st ([])) ([tLP]) (by simp) (by have hz:=puts_sz ([]) st;simp only [wt_app,wt] at hb hz ⊢;omega)).holds.useT [] [(2,3)] rfl (sk) (sk) fun e0 H0 hq=>?_
   rw [← puts_app] at hq
   obtain⟨rfl,rfl⟩:=hq
   refine⟨rfl,_,⟨5,((4,bO (puts st ([]++[tLP])).s)::(0,wO 4 (puts st ([]++[tLP])))::[(2,ccO _)])⟩,rfl,rfl,?_⟩
   refine And.intro (fun h=>absurd (show(8:Int)=9 from h) (by decide)) (fun _=>?_)
   refine And.intro (fun _=>?_) (fun h=>absurd rfl h)
   refine⟨_,⟨by decide,_,rfl,rfl⟩,?_⟩
   refine(ha (puts st ([]++[tLP])) (by have hz:=puts_sz ([]++[tLP]) st;simp only [wt_app,wt] at hb hz ⊢;omega)).holds.useT [] [(1,4)] rfl (sk) (sk) fun e0 H0 hq=>?_
   unfold WQ at hq
   rw [← puts_app] at hq
   obtain⟨rfl,rfl⟩:=hq
   refine⟨rfl,_,⟨7,((6,bO (puts st (([]++[tLP])++A)).s)::(0,wO 6 (puts st (([]++[tLP])++A)))::[(5,sU [tRP]),(2,ccO _)])⟩,rfl,rfl,?_⟩
   refine(put_h true (puts st (([]++[tLP])++A)) ([tAnd]) (by simp) (by have hz:=puts_sz (([]++[tLP])++A) st;simp only [wt_app,wt] at hb hz ⊢;omega)).holds.useT [] [(1,6),(2,7)] rfl (sk) (sk) fun e0 H0 hq=>?_
   rw [← puts_app] at hq
   obtain⟨rfl,rfl⟩:=hq
   refine⟨rfl,_,⟨9,((8,bO (puts st (([]++[tLP])++A++[tAnd])).s)::(0,wO 8 (puts st (([]++[tLP])++A++[tAnd])))::[(5,sU [tRP]),(2,ccO _)])⟩,rfl,rfl,?_⟩
   refine⟨_,⟨by decide,_,rfl,rfl⟩,?_⟩
   refine(hc (puts st ((([]++[tLP])++A)++[tAnd])) (by have hz:=puts_sz ((([]++[tLP])++A)++[tAnd]) st;simp only [wt_app,wt] at hb hz ⊢;omega)).holds.useT [] [(1,8)] rfl (sk) (sk) fun e0 H0 hq=>?_
   unfold WQ at hq
   rw [← puts_app] at hq
   obtain⟨rfl,rfl⟩:=hq
   refine⟨rfl,_,⟨10,((9,bO (puts st (((([]++[tLP])++A)++[tAnd])++B)).s)::(0,wO 9 (puts st (((([]++[tLP])++A)++[tAnd])++B)))::[(5,sU [tRP]),(2,ccO _)])⟩,rfl,rfl,?_⟩
   refine(putd_h true (puts st (((([]++[tLP])++A)++[tAnd])++B)) [tRP] (by simp) (by have hz:=puts_sz (((([]++[tLP])++A)++[tAnd])++B) st;simp only [wt_app,wt] at hb hz ⊢;omega)).useT [] [(1,9),(2,5)] rfl (sk) (sk) fun e0 H0 hq=>?_
   rw [← puts_app] at hq
   obtain⟨rfl,rfl⟩:=hq
   refine⟨rfl,_,⟨11,((10,bO (puts st ((((([]++[tLP])++A)++[tAnd])++B)++[tRP])).s)::(0,wO 10 (puts st ((((([]++[tLP])++A)++[tAnd])++B)++[tRP])))::[(2,ccO _)])⟩,rfl,rfl,?_⟩
   exact⟨[],[(2,10)],[], .returned und,wH' (puts st ((((([]++[tLP])++A)++[tAnd])++B)++[tRP])),rfl,sk,sk,rfl,by rw [hX]⟩
  ·have hX:withinT (L+1) (.mk 8 0 0 0 rf0 [] [a,b])=(([]++A)++[tAnd])++B:=by
    rw [within_at (by show ¬ lvl 8<L+1;have:lvl 8=2:=rfl;omega),hC];simp
   rw [hX] at hb
   clear hA hB hC pa pb hv
   generalize withinT (L+1) (.mk 8 0 0 0 rf0 [] [a,b])=X at hX ⊢
   obtain⟨ao,an,ar,av,af,at',aa⟩:=a
   obtain⟨bo,bn,br,bv,bf,bt,ba⟩:=b
   refine holdsN_of_vc Tryz.func115 rfl rfl rfl ?_
   refine And.intro (fun h=>absurd (show(8:Int)=9 from h) (by decide)) (fun _=>?_)
   refine And.intro (fun _=>?_) (fun h=>absurd rfl h)
   refine And.intro (fun h=>absurd (show(1:Int)<(L:Nat) from h) (by omega)) (fun _=>?_)
   refine And.intro (fun h=>absurd (show(8:Int)=9 from h) (by decide)) (fun _=>?_)
   refine And.intro (fun _=>?_) (fun h=>absurd rfl h)
   refine⟨_,⟨by decide,_,rfl,rfl⟩,?_⟩
   refine(ha (puts st []) (by show st.sz+wt A≤100000000;simp only [wt_app,wt] at hb ⊢;omega)).holds.useT [] [] rfl (sk) (sk) fun e0 H0 hq=>?_
   unfold WQ at hq
   rw [← puts_app] at hq
   obtain⟨rfl,rfl⟩:=hq
   refine⟨rfl,_,⟨4,((3,bO (puts st ([]++A)).s)::(0,wO 3 (puts st ([]++A)))::[(2,ccO _)])⟩,rfl,rfl,?_⟩
   refine(put_h true (puts st ([]++A)) ([tAnd]) (by simp) (by have hz:=puts_sz ([]++A) st;simp only [wt_app,wt] at hb hz ⊢;omega)).holds.useT [] [(1,3),(2,4)] rfl (sk) (sk) fun e0 H0 hq=>?_
   rw [← puts_app] at hq
   obtain⟨rfl,rfl⟩:=hq
   refine⟨rfl,_,⟨6,((5,bO (puts st ([]++A++[tAnd])).s)::(0,wO 5 (puts st ([]++A++[tAnd])))::[(2,ccO _)])⟩,rfl,rfl,?_⟩
   refine⟨_,⟨by decide,_,rfl,rfl⟩,?_⟩
   refine(hc (puts st (([]++A)++[tAnd])) (by have hz:=puts_sz (([]++A)++[tAnd]) st;simp only [wt_app,wt] at hb hz ⊢;omega)).holds.useT [] [(1,5)] rfl (sk) (sk) fun e0 H0 hq=>?_
   unfold WQ at hq
   rw [← puts_app] at hq
   obtain⟨rfl,rfl⟩:=hq
   refine⟨rfl,_,⟨7,((6,bO (puts st ((([]++A)++[tAnd])++B)).s)::(0,wO 6 (puts st ((([]++A)++[tAnd])++B)))::[(2,ccO _)])⟩,rfl,rfl,?_⟩
   exact⟨[],[(2,6)],[], .returned und,wH' (puts st ((([]++A)++[tAnd])++B)),rfl,sk,sk,rfl,by rw [hX]⟩
 | disj a b pa pb=>
  have ha:=fun s h=>ih a pa s 0 (by omega) h
  have hc:=fun s h=>ih b pb s 1 (by omega) h
  obtain⟨A,hA⟩:∃ A,A=withinT 1 a:=⟨_,rfl⟩
  obtain⟨B,hB⟩:∃ B,B=withinT 2 b:=⟨_,rfl⟩
  have ha:∀ s:Wst,s.sz+wt A≤100000000→HoldsG cx 115 [.ptr 0 0 0, .p a.pv, .p (i64 (0:Nat))] (wH true s) (WQ (puts s A)):=fun s h=>by rw [hA] at h ⊢;exact ha s h
  have hc:∀ s:Wst,s.sz+wt B≤100000000→HoldsG cx 115 [.ptr 0 0 0, .p b.pv, .p (i64 (1:Nat))] (wH true s) (WQ (puts s B)):=fun s h=>by rw [hB] at h ⊢;exact hc s h
  have hC:condT (.mk 9 0 0 0 rf0 [] [a,b])=A++tOr::B:=by rw [condT_disj,hA,hB]
  by_cases hp:0<L
  ·have hX:withinT (L+1) (.mk 9 0 0 0 rf0 [] [a,b])=(((([]++[tLP])++A)++[tOr])++B)++[tRP]:=by
    rw [within_par (show lvl 9<L+1 by have:lvl 9=1:=rfl;omega),hC];simp
   rw [hX] at hb
   clear hA hB hC pa pb hv
   generalize withinT (L+1) (.mk 9 0 0 0 rf0 [] [a,b])=X at hX ⊢
   obtain⟨ao,an,ar,av,af,at',aa⟩:=a
   obtain⟨bo,bn,br,bv,bf,bt,ba⟩:=b
   refine holdsN_of_vc Tryz.func115 rfl rfl rfl ?_
   refine And.intro (fun _=>?_) (fun h=>absurd rfl h)
   refine And.intro (fun _=>?_) (fun h=>absurd (show(0:Int)<(L:Nat) by omega) h)
   refine(put_h true (puts st ([])) ([tLP]) (by simp) (by have hz:=puts_sz ([]) st;simp only [wt_app,wt] at hb hz ⊢;omega)).holds.useT [] [(2,3)] rfl (sk) (sk) fun e0 H0 hq=>?_
   rw [← puts_app] at hq
   obtain⟨rfl,rfl⟩:=hq
   refine⟨rfl,_,⟨5,((4,bO (puts st ([]++[tLP])).s)::(0,wO 4 (puts st ([]++[tLP])))::[(2,ccO _)])⟩,rfl,rfl,?_⟩
   refine And.intro (fun _=>?_) (fun h=>absurd rfl h)
   refine⟨_,⟨by decide,_,rfl,rfl⟩,?_⟩
   refine(ha (puts st ([]++[tLP])) (by have hz:=puts_sz ([]++[tLP]) st;simp only [wt_app,wt] at hb hz ⊢;omega)).holds.useT [] [(1,4)] rfl (sk) (sk) fun e0 H0 hq=>?_
   unfold WQ at hq
   rw [← puts_app] at hq
   obtain⟨rfl,rfl⟩:=hq
   refine⟨rfl,_,⟨7,((6,bO (puts st (([]++[tLP])++A)).s)::(0,wO 6 (puts st (([]++[tLP])++A)))::[(5,sU [tRP]),(2,ccO _)])⟩,rfl,rfl,?_⟩
   refine(put_h true (puts st (([]++[tLP])++A)) ([tOr]) (by simp) (by have hz:=puts_sz (([]++[tLP])++A) st;simp only [wt_app,wt] at hb hz ⊢;omega)).holds.useT [] [(1,6),(2,7)] rfl (sk) (sk) fun e0 H0 hq=>?_
   rw [← puts_app] at hq
   obtain⟨rfl,rfl⟩:=hq
   refine⟨rfl,_,⟨9,((8,bO (puts st (([]++[tLP])++A++[tOr])).s)::(0,wO 8 (puts st (([]++[tLP])++A++[tOr])))::[(5,sU [tRP]),(2,ccO _)])⟩,rfl,rfl,?_⟩
   refine⟨_,⟨by decide,_,rfl,rfl⟩,?_⟩
   refine(hc (puts st ((([]++[tLP])++A)++[tOr])) (by have hz:=puts_sz ((([]++[tLP])++A)++[tOr]) st;simp only [wt_app,wt] at hb hz ⊢;omega)).holds.useT [] [(1,8)] rfl (sk) (sk) fun e0 H0 hq=>?_
   unfold WQ at hq
   rw [← puts_app] at hq
   obtain⟨rfl,rfl⟩:=hq
   refine⟨rfl,_,⟨10,((9,bO (puts st (((([]++[tLP])++A)++[tOr])++B)).s)::(0,wO 9 (puts st (((([]++[tLP])++A)++[tOr])++B)))::[(5,sU [tRP]),(2,ccO _)])⟩,rfl,rfl,?_⟩
   refine(putd_h true (puts st (((([]++[tLP])++A)++[tOr])++B)) [tRP] (by simp) (by have hz:=puts_sz (((([]++[tLP])++A)++[tOr])++B) st;simp only [wt_app,wt] at hb hz ⊢;omega)).useT [] [(1,9),(2,5)] rfl (sk) (sk) fun e0 H0 hq=>?_
   rw [← puts_app] at hq
   obtain⟨rfl,rfl⟩:=hq
   refine⟨rfl,_,⟨11,((10,bO (puts st ((((([]++[tLP])++A)++[tOr])++B)++[tRP])).s)::(0,wO 10 (puts st ((((([]++[tLP])++A)++[tOr])++B)++[tRP])))::[(2,ccO _)])⟩,rfl,rfl,?_⟩
   exact⟨[],[(2,10)],[], .returned und,wH' (puts st ((((([]++[tLP])++A)++[tOr])++B)++[tRP])),rfl,sk,sk,rfl,by rw [hX]⟩
  ·have hX:withinT (L+1) (.mk 9 0 0 0 rf0 [] [a,b])=(([]++A)++[tOr])++B:=by
    rw [within_at (by show ¬ lvl 9<L+1;have:lvl 9=1:=rfl;omega),hC];simp
   rw [hX] at hb
   clear hA hB hC pa pb hv
   generalize withinT (L+1) (.mk 9 0 0 0 rf0 [] [a,b])=X at hX ⊢
   obtain⟨ao,an,ar,av,af,at',aa⟩:=a
   obtain⟨bo,bn,br,bv,bf,bt,ba⟩:=b
   refine holdsN_of_vc Tryz.func115 rfl rfl rfl ?_
   refine And.intro (fun _=>?_) (fun h=>absurd rfl h)
   refine And.intro (fun h=>absurd (show(0:Int)<(L:Nat) from h) (by omega)) (fun _=>?_)
   refine And.intro (fun _=>?_) (fun h=>absurd rfl h)
   refine⟨_,⟨by decide,_,rfl,rfl⟩,?_⟩
   refine(ha (puts st []) (by show st.sz+wt A≤100000000;simp only [wt_app,wt] at hb ⊢;omega)).holds.useT [] [] rfl (sk) (sk) fun e0 H0 hq=>?_
   unfold WQ at hq
   rw [← puts_app] at hq
   obtain⟨rfl,rfl⟩:=hq
   refine⟨rfl,_,⟨4,((3,bO (puts st ([]++A)).s)::(0,wO 3 (puts st ([]++A)))::[(2,ccO _)])⟩,rfl,rfl,?_⟩
   refine(put_h true (puts st ([]++A)) ([tOr]) (by simp) (by have hz:=puts_sz ([]++A) st;simp only [wt_app,wt] at hb hz ⊢;omega)).holds.useT [] [(1,3),(2,4)] rfl (sk) (sk) fun e0 H0 hq=>?_
   rw [← puts_app] at hq
   obtain⟨rfl,rfl⟩:=hq
   refine⟨rfl,_,⟨6,((5,bO (puts st ([]++A++[tOr])).s)::(0,wO 5 (puts st ([]++A++[tOr])))::[(2,ccO _)])⟩,rfl,rfl,?_⟩
   refine⟨_,⟨by decide,_,rfl,rfl⟩,?_⟩
   refine(hc (puts st (([]++A)++[tOr])) (by have hz:=puts_sz (([]++A)++[tOr]) st;simp only [wt_app,wt] at hb hz ⊢;omega)).holds.useT [] [(1,5)] rfl (sk) (sk) fun e0 H0 hq=>?_
   unfold WQ at hq
   rw [← puts_app] at hq
   obtain⟨rfl,rfl⟩:=hq
   refine⟨rfl,_,⟨7,((6,bO (puts st ((([]++A)++[tOr])++B)).s)::(0,wO 6 (puts st ((([]++A)++[tOr])++B)))::[(2,ccO _)])⟩,rfl,rfl,?_⟩
   exact⟨[],[(2,6)],[], .returned und,wH' (puts st ((([]++A)++[tOr])++B)),rfl,sk,sk,rfl,by rw [hX]⟩
theorem cond_w:∀ d,CwOK d
 | 0=>fun c h=>by obtain⟨l,k,h⟩:=h;cases h
 | d+1=>cond_wStep (cond_w d)
theorem lvl_pos (op:Int):1≤lvl op:=by
 unfold lvl
 split
 ·decide
 ·split
  ·decide
  ·split <;> decide
theorem cond_w0 {op n rel val:Int} {r:Rf} {s:List Int} {ar:List Cd} (k:Nat) (h:condV 8 (.mk op n rel val r s ar) 30=some k) (st:Wst) (hb:st.sz+wt (condT (.mk op n rel val r s ar))≤100000000):HoldsG cx 115 [.ptr 0 0 0, .p (Cd.mk op n rel val r s ar).pv, .p (i64 0)] (wH true st) (WQ (puts st (condT (.mk op n rel val r s ar)))):=by
 have e:withinT (0+1) (.mk op n rel val r s ar)=condT (.mk op n rel val r s ar):=within_at (by have:=lvl_pos op;show ¬ lvl op<0+1;omega)
 have:=cond_w 8 _ ⟨_,_,h⟩ st 0 (by omega) (by rw [e];exact hb)
 rw [e] at this
 exact this
def cseO (c:Cs):AObj:=⟨TCase,false, .bx (c.cells.map .p)⟩
theorem dropCs {l:List Cs} {k:Nat} (h:k<l.length):l.drop k=l.getD k cs0::l.drop (k+1):=by
 rw [List.getD_eq_getElem?_getD,List.getElem?_eq_getElem h];exact List.drop_eq_getElem_cons h
theorem dropIs {l:List Int} {k:Nat} (h:k<l.length):l.drop k=l.getD k 0::l.drop (k+1):=by
 rw [List.getD_eq_getElem?_getD,List.getElem?_eq_getElem h];exact List.drop_eq_getElem_cons h
theorem casesTx_last {l:List Cs} {i:Nat} {c:Cd} {ns:List Int} (h:i+1=l.length) (hx:l.getD i cs0=⟨c,ns⟩):casesTx (l.drop i)=[tElse]++([tCol]++numsT ns):=by
 rw [dropCs (by omega),hx,List.drop_eq_nil_of_le (show l.length≤i+1 by omega)];rfl
theorem casesTx_step {l:List Cs} {i:Nat} {c:Cd} {ns:List Int} (h:i+1<l.length) (hx:l.getD i cs0=⟨c,ns⟩):casesTx (l.drop i)=condT c++([tCol]++(numsT ns++([tSemi]++casesTx (l.drop (i+1))))):=by
 obtain⟨d,r,hd⟩:∃ d r,l.drop (i+1)=d::r:=⟨_,_,dropCs h⟩
 rw [dropCs (by omega),hx,hd];rfl
theorem rule_w (st:Wst) (l:List Cs) (hv:casesB l=true) (hb0:st.sz+wt (ruleT l)≤100000000):HoldsG cx 72 [.ptr 0 0 0, .p (css l)] (wH true st) (WQ (puts st (ruleT l))):=by
 have h0:([]++[tLC])++(casesTx (l.drop 0)++[tRC])=ruleT l:=rfl
 generalize ruleT l=G at h0 hb0 ⊢
 have hm:(l.map Cs.cells).length=l.length:=List.length_map ..
 simp only [casesB,Bool.and_eq_true,decide_eq_true_eq] at hv
 obtain⟨⟨v1,v2⟩,v3⟩:=hv
 refine holdsN_of_vc Tryz.func72 rfl rfl rfl ?_
 have hb:st.sz+wt ([]++[tLC])≤100000000:=by rw [← h0,wt_app] at hb0;omega
 refine(put_h true (puts st ([])) ([tLC]) (by simp) (by have hz:=puts_sz ([]) st;simp only [wt_app,wt] at hb hz ⊢;omega)).holds.useT [] [] rfl (sk) (sk) fun e0 H0 hq=>?_
 rw [← puts_app] at hq
 obtain⟨rfl,rfl⟩:=hq
 refine⟨rfl,_,⟨4,((3,bO (puts st ([]++[tLC])).s)::(0,wO 3 (puts st ([]++[tLC])))::[])⟩,rfl,rfl,?_⟩
 refine⟨Toks × Nat,fun x=>[(0, .ptr 0 0 0),(1, .p (css l)),(12, .p (css l)),(13, .p (i64 (l.map Cs.cells).length)),(14, .p (i64 x.2))],fun x=>wH' (puts st x.1),fun x=>x.2≤l.length∧casesT (l.drop x.2)=true∧x.1++(casesTx (l.drop x.2)++[tRC])=G,fun x=>l.length - x.2,?_,?_⟩
 ·exact⟨([]++[tLC],0),⟨Nat.zero_le _,v3,h0⟩,ent_of [] [(2,3)] [] rfl (sk) (sk) rfl⟩
 clear h0 hb
 rintro⟨P,i⟩ ⟨i0,i2,i3⟩
 simp only [] at i0 i2 i3
 (first | refine brLt (fun j1=>?_) (fun j1=>?_) | refine brLe (fun j1=>?_) (fun j1=>?_) | refine brEq (fun j1=>?_) (fun j1=>?_))
 rotate_left
 ·have j1:¬ (i:Int)<((l.map Cs.cells).length:Nat):=j1
  rw [hm] at j1
  rw [List.drop_eq_nil_of_le (by omega)] at i3
  have i3:P++[tRC]=G:=i3
  have hb:st.sz+wt (P++[tRC])≤100000000:=by rw [i3];exact hb0
  refine(put_h true (puts st (P)) ([tRC]) (by simp) (by have hz:=puts_sz (P) st;simp only [wt_app,wt] at hb hz ⊢;omega)).holds.useT [] [(1,2),(2,3)] rfl (sk) (sk) fun e0 H0 hq=>?_
  rw [← puts_app] at hq
  obtain⟨rfl,rfl⟩:=hq
  refine⟨rfl,_,⟨5,((4,bO (puts st (P++[tRC])).s)::(0,wO 4 (puts st (P++[tRC])))::[])⟩,rfl,rfl,?_⟩
  exact⟨[],[(2,4)],[], .returned und,wH' (puts st (P++[tRC])),rfl,sk,sk,rfl,by rw [i3]⟩
 have j1:(i:Int)<((l.map Cs.cells).length:Nat):=j1
 rw [hm] at j1
 have i1:i<l.length:=by omega
 have hcell:=scell i1
 have hstep:=fun h=>casesT_step (l:=l) (i:=i) h
 have hlast:=fun h=>casesT_last (l:=l) (i:=i) h
 rcases hx:l.getD i cs0 with ⟨⟨op,n,rel,val,r,s,ar⟩,nums⟩
 rw [hx] at hcell hstep hlast
 simp only [] at hstep hlast
 have hnm:(nums.map i64).length=nums.length:=List.length_map ..
 have hnums:numsB nums=true:=by
  rcases Nat.lt_or_ge (i+1) l.length with h3 | h3
  ·rw [hstep h3] at i2
   simp only [Bool.and_eq_true] at i2
   exact i2.1.1
  ·rw [hlast (by omega)] at i2
   simp only [Bool.and_eq_true] at i2
   exact i2.1
 obtain⟨_,_,hwt⟩:=nums_facts hnums
 refine⟨_,⟨by omega,(⟨.mk op n rel val r s ar,nums⟩:Cs).cells,hcell,rfl⟩,?_⟩
 refine⟨((l.length - 1:Nat):Int),by show _=IntKind.i64.wrap (((l.map Cs.cells).length:Int) - 1);rw [hm,show(l.length:Int) - 1=((l.length - 1:Nat):Int) by omega];exact wrap_i64 (by omega) (by omega),?_⟩
 (first | refine brLt (fun m4=>?_) (fun m4=>?_) | refine brLe (fun m4=>?_) (fun m4=>?_) | refine brEq (fun m4=>?_) (fun m4=>?_))
 ·have m4:(i:Int)=((l.length - 1:Nat):Int):=m4
  have hR:=casesTx_last (by omega) hx
  rw [hR] at i3
  obtain⟨F,hF⟩:∃ F,((P++[tElse])++[tCol])++numsT (nums.drop 0)=F:=⟨_,rfl⟩
  have hFG:F++[tRC]=G:=by rw [← hF,← i3];simp
  have hFw:st.sz+wt F≤100000000:=by rw [← hFG,wt_app] at hb0;omega
  have hb:st.sz+wt ((P++[tElse])++[tCol])≤100000000:=by rw [← hF,wt_app] at hFw;omega
  refine(put_h true (puts st (P)) ([tElse]) (by simp) (by have hz:=puts_sz (P) st;simp only [wt_app,wt] at hb hz ⊢;omega)).holds.useT [] [(1,2),(2,4)] rfl (sk) (sk) fun e0 H0 hq=>?_
  rw [← puts_app] at hq
  obtain⟨rfl,rfl⟩:=hq
  refine⟨rfl,_,⟨6,((5,bO (puts st (P++[tElse])).s)::(0,wO 5 (puts st (P++[tElse])))::[(3,cseO ⟨.mk op n rel val r s ar,nums⟩)])⟩,rfl,rfl,?_⟩
  refine(put_h true (puts st (P++[tElse])) ([tCol]) (by simp) (by have hz:=puts_sz (P++[tElse]) st;simp only [wt_app,wt] at hb hz ⊢;omega)).holds.useT [] [(1,5),(2,6)] rfl (sk) (sk) fun e0 H0 hq=>?_
  rw [← puts_app] at hq
  obtain⟨rfl,rfl⟩:=hq
  refine⟨rfl,_,⟨8,((7,bO (puts st (P++[tElse]++[tCol])).s)::(0,wO 7 (puts st (P++[tElse]++[tCol])))::[(3,cseO ⟨.mk op n rel val r s ar,nums⟩)])⟩,rfl,rfl,?_⟩
  refine⟨Toks × Nat,fun y=>[(0, .ptr 0 0 0),(1, .p (css l)),(6,vB true),(12, .p (css l)),(13, .p (i64 (l.map Cs.cells).length)),(14, .p (i64 i)),(36, .p (ints nums)),(37, .p (i64 (nums.map i64).length)),(38, .p (i64 y.2))],fun y=>wH' (puts st y.1),fun y=>y.2≤nums.length∧y.1++numsT (nums.drop y.2)=F,fun y=>nums.length - y.2,?_,?_⟩
  ·exact⟨(((P++[tElse])++[tCol]),0),⟨Nat.zero_le _,hF⟩,ent_of [] [(2,7)] [] rfl (sk) (sk) rfl⟩
  clear hb
  rintro⟨Q,k⟩ ⟨k1,k2⟩
  simp only [] at k1 k2
  (first | refine brLt (fun m1=>?_) (fun m1=>?_) | refine brLe (fun m1=>?_) (fun m1=>?_) | refine brEq (fun m1=>?_) (fun m1=>?_))
  ·have m1:(k:Int)<((nums.map i64).length:Nat):=m1
   rw [hnm] at m1
   have hk:k<nums.length:=by omega
   have hw:=hwt _ (getD_memL 0 hk)
   have hcell2:=icell hk
   have hd:=dropIs hk
   generalize nums.getD k 0=x at hw hcell2 hd
   have e2:numsT (nums.drop k)=intT x++numsT (nums.drop (k+1)):=by rw [hd];rfl
   rw [e2,← List.append_assoc] at k2
   have hb:st.sz+wt (Q++intT x)≤100000000:=by rw [← k2,wt_app] at hFw;omega
   simp only [wgtB,Bool.and_eq_true,decide_eq_true_eq] at hw
   refine⟨_,⟨by omega,i64 x,hcell2,rfl⟩,?_⟩
   by_cases c:x<0
   ·have e3:intT x=[tMinus]++[digT (-x)]:=if_pos c
    rw [e3,← List.append_assoc] at k2 hb
    refine And.intro (fun _=>?_) (fun h=>absurd c h)
    refine(put_h true (puts st (Q)) ([tMinus]) (by simp) (by have hz:=puts_sz (Q) st;simp only [wt_app,wt] at hb hz ⊢;omega)).holds.useT [] [(1,2),(2,3)] rfl (sk) (sk) fun e0 H0 hq=>?_
    rw [← puts_app] at hq
    obtain⟨rfl,rfl⟩:=hq
    refine⟨rfl,_,⟨5,((4,bO (puts st (Q++[tMinus])).s)::(0,wO 4 (puts st (Q++[tMinus])))::[])⟩,rfl,rfl,?_⟩
    refine⟨-x,by rw [Int.zero_sub];exact wrap_i64 (by omega) (by omega),?_⟩
    refine(itoa_c (-x) (by simp only [natB,Bool.and_eq_true,decide_eq_true_eq];omega)).eq rfl ?_
    refine(put_h true (puts st (Q++[tMinus])) ([digT (-x)]) (by simp) (by have hz:=puts_sz (Q++[tMinus]) st;simp only [wt_app,wt] at hb hz ⊢;omega)).holds.useT [] [(1,4),(2,5)] rfl (sk) (sk) fun e0 H0 hq=>?_
    rw [← puts_app] at hq
    obtain⟨rfl,rfl⟩:=hq
    refine⟨rfl,_,⟨7,((6,bO (puts st (Q++[tMinus]++[digT (-x)])).s)::(0,wO 6 (puts st (Q++[tMinus]++[digT (-x)])))::[])⟩,rfl,rfl,?_⟩
    refine⟨_,wrap_i64 (by omega) (by omega),?_⟩
    exact⟨((Q++[tMinus])++[digT (-x)],k+1),⟨hk,k2⟩,ent_of [] [(2,6)] [] rfl (sk) (sk) rfl,by show nums.length - (k+1)<nums.length - k;omega⟩
   ·have e3:intT x=[digT x]:=if_neg c
    rw [e3] at k2 hb
    refine And.intro (fun h=>absurd h c) (fun _=>?_)
    refine(itoa_c x (by simp only [natB,Bool.and_eq_true,decide_eq_true_eq];omega)).eq rfl ?_
    refine(put_h true (puts st (Q)) ([digT x]) (by simp) (by have hz:=puts_sz (Q) st;simp only [wt_app,wt] at hb hz ⊢;omega)).holds.useT [] [(1,2),(2,3)] rfl (sk) (sk) fun e0 H0 hq=>?_
    rw [← puts_app] at hq
    obtain⟨rfl,rfl⟩:=hq
    refine⟨rfl,_,⟨5,((4,bO (puts st (Q++[digT x])).s)::(0,wO 4 (puts st (Q++[digT x])))::[])⟩,rfl,rfl,?_⟩
    refine⟨_,wrap_i64 (by omega) (by omega),?_⟩
    exact⟨(Q++[digT x],k+1),⟨hk,k2⟩,ent_of [] [(2,4)] [] rfl (sk) (sk) rfl,by show nums.length - (k+1)<nums.length - k;omega⟩
  have m1:¬ (k:Int)<((nums.map i64).length:Nat):=m1
  rw [hnm] at m1
  rw [List.drop_eq_nil_of_le (by omega),show numsT []=[] from rfl,List.append_nil] at k2
  subst k2
  refine⟨_,wrap_i64 (by omega) (by omega),?_⟩
  exact⟨(Q,i+1),⟨by omega,by rw [List.drop_eq_nil_of_le (by omega)];rfl,by rw [List.drop_eq_nil_of_le (by omega)];exact hFG⟩,ent_of [] [] [] rfl (sk) (sk) rfl,by show l.length - (i+1)<l.length - i;omega⟩
 have m4:¬ (i:Int)=((l.length - 1:Nat):Int):=m4
 have hR:=casesTx_step (by omega) hx
 rw [hR] at i3
 rw [hstep (by omega)] at i2
 simp only [Bool.and_eq_true] at i2
 obtain⟨⟨_,i4⟩,i5⟩:=i2
 obtain⟨kk,hk8⟩:=Option.isSome_iff_exists.1 i4
 obtain⟨F,hF⟩:∃ F,((P++condT (.mk op n rel val r s ar))++[tCol])++numsT (nums.drop 0)=F:=⟨_,rfl⟩
 have hFG:(F++[tSemi])++(casesTx (l.drop (i+1))++[tRC])=G:=by rw [← hF,← i3];simp
 have hFs:st.sz+wt (F++[tSemi])≤100000000:=by rw [← hFG,wt_app] at hb0;omega
 have hFw:st.sz+wt F≤100000000:=by rw [wt_app] at hFs;omega
 have hb:st.sz+wt ((P++condT (.mk op n rel val r s ar))++[tCol])≤100000000:=by rw [← hF,wt_app] at hFw;omega
 have hC:=cond_w0 kk hk8 (puts st P) (by have hz:=puts_sz P st;simp only [wt_app,wt] at hb ⊢;omega)
 generalize condT (.mk op n rel val r s ar)=X at hC hF hb
 refine(hC).holds.useT [] [(1,2)] rfl (sk) (sk) fun e0 H0 hq=>?_
 unfold WQ at hq
 rw [← puts_app] at hq
 obtain⟨rfl,rfl⟩:=hq
 refine⟨rfl,_,⟨5,((4,bO (puts st (P++X)).s)::(0,wO 4 (puts st (P++X)))::[(3,cseO ⟨.mk op n rel val r s ar,nums⟩)])⟩,rfl,rfl,?_⟩
 refine(put_h true (puts st (P++X)) ([tCol]) (by simp) (by have hz:=puts_sz (P++X) st;simp only [wt_app,wt] at hb hz ⊢;omega)).holds.useT [] [(1,4),(2,5)] rfl (sk) (sk) fun e0 H0 hq=>?_
 rw [← puts_app] at hq
 obtain⟨rfl,rfl⟩:=hq
 refine⟨rfl,_,⟨7,((6,bO (puts st (P++X++[tCol])).s)::(0,wO 6 (puts st (P++X++[tCol])))::[(3,cseO ⟨.mk op n rel val r s ar,nums⟩)])⟩,rfl,rfl,?_⟩
 refine⟨Toks × Nat,fun y=>[(0, .ptr 0 0 0),(1, .p (css l)),(6,vB false),(12, .p (css l)),(13, .p (i64 (l.map Cs.cells).length)),(14, .p (i64 i)),(36, .p (ints nums)),(37, .p (i64 (nums.map i64).length)),(38, .p (i64 y.2))],fun y=>wH' (puts st y.1),fun y=>y.2≤nums.length∧y.1++numsT (nums.drop y.2)=F,fun y=>nums.length - y.2,?_,?_⟩
 ·exact⟨(((P++X)++[tCol]),0),⟨Nat.zero_le _,hF⟩,ent_of [] [(2,6)] [] rfl (sk) (sk) rfl⟩
 clear hb
 rintro⟨Q,k⟩ ⟨k1,k2⟩
 simp only [] at k1 k2
 (first | refine brLt (fun m1=>?_) (fun m1=>?_) | refine brLe (fun m1=>?_) (fun m1=>?_) | refine brEq (fun m1=>?_) (fun m1=>?_))
 ·have m1:(k:Int)<((nums.map i64).length:Nat):=m1
  rw [hnm] at m1
  have hk:k<nums.length:=by omega
  have hw:=hwt _ (getD_memL 0 hk)
  have hcell2:=icell hk
  have hd:=dropIs hk
  generalize nums.getD k 0=x at hw hcell2 hd
  have e2:numsT (nums.drop k)=intT x++numsT (nums.drop (k+1)):=by rw [hd];rfl
  rw [e2,← List.append_assoc] at k2
  have hb:st.sz+wt (Q++intT x)≤100000000:=by rw [← k2,wt_app] at hFw;omega
  simp only [wgtB,Bool.and_eq_true,decide_eq_true_eq] at hw
  refine⟨_,⟨by omega,i64 x,hcell2,rfl⟩,?_⟩
  by_cases c:x<0
  ·have e3:intT x=[tMinus]++[digT (-x)]:=if_pos c
   rw [e3,← List.append_assoc] at k2 hb
   refine And.intro (fun _=>?_) (fun h=>absurd c h)
   refine(put_h true (puts st (Q)) ([tMinus]) (by simp) (by have hz:=puts_sz (Q) st;simp only [wt_app,wt] at hb hz ⊢;omega)).holds.useT [] [(1,2),(2,3)] rfl (sk) (sk) fun e0 H0 hq=>?_
   rw [← puts_app] at hq
   obtain⟨rfl,rfl⟩:=hq
   refine⟨rfl,_,⟨5,((4,bO (puts st (Q++[tMinus])).s)::(0,wO 4 (puts st (Q++[tMinus])))::[])⟩,rfl,rfl,?_⟩
   refine⟨-x,by rw [Int.zero_sub];exact wrap_i64 (by omega) (by omega),?_⟩
   refine(itoa_c (-x) (by simp only [natB,Bool.and_eq_true,decide_eq_true_eq];omega)).eq rfl ?_
   refine(put_h true (puts st (Q++[tMinus])) ([digT (-x)]) (by simp) (by have hz:=puts_sz (Q++[tMinus]) st;simp only [wt_app,wt] at hb hz ⊢;omega)).holds.useT [] [(1,4),(2,5)] rfl (sk) (sk) fun e0 H0 hq=>?_
   rw [← puts_app] at hq
   obtain⟨rfl,rfl⟩:=hq
   refine⟨rfl,_,⟨7,((6,bO (puts st (Q++[tMinus]++[digT (-x)])).s)::(0,wO 6 (puts st (Q++[tMinus]++[digT (-x)])))::[])⟩,rfl,rfl,?_⟩
   refine⟨_,wrap_i64 (by omega) (by omega),?_⟩
   exact⟨((Q++[tMinus])++[digT (-x)],k+1),⟨hk,k2⟩,ent_of [] [(2,6)] [] rfl (sk) (sk) rfl,by show nums.length - (k+1)<nums.length - k;omega⟩
  ·have e3:intT x=[digT x]:=if_neg c
   rw [e3] at k2 hb
   refine And.intro (fun h=>absurd h c) (fun _=>?_)
   refine(itoa_c x (by simp only [natB,Bool.and_eq_true,decide_eq_true_eq];omega)).eq rfl ?_
   refine(put_h true (puts st (Q)) ([digT x]) (by simp) (by have hz:=puts_sz (Q) st;simp only [wt_app,wt] at hb hz ⊢;omega)).holds.useT [] [(1,2),(2,3)] rfl (sk) (sk) fun e0 H0 hq=>?_
   rw [← puts_app] at hq
   obtain⟨rfl,rfl⟩:=hq
   refine⟨rfl,_,⟨5,((4,bO (puts st (Q++[digT x])).s)::(0,wO 4 (puts st (Q++[digT x])))::[])⟩,rfl,rfl,?_⟩
   refine⟨_,wrap_i64 (by omega) (by omega),?_⟩
   exact⟨(Q++[digT x],k+1),⟨hk,k2⟩,ent_of [] [(2,4)] [] rfl (sk) (sk) rfl,by show nums.length - (k+1)<nums.length - k;omega⟩
 have m1:¬ (k:Int)<((nums.map i64).length:Nat):=m1
 rw [hnm] at m1
 rw [List.drop_eq_nil_of_le (by omega),show numsT []=[] from rfl,List.append_nil] at k2
 subst k2
 have hb:=hFs
 refine(put_h true (puts st (Q)) ([tSemi]) (by simp) (by have hz:=puts_sz (Q) st;simp only [wt_app,wt] at hb hz ⊢;omega)).holds.useT [] [(1,2),(2,3)] rfl (sk) (sk) fun e0 H0 hq=>?_
 rw [← puts_app] at hq
 obtain⟨rfl,rfl⟩:=hq
 refine⟨rfl,_,⟨5,((4,bO (puts st (Q++[tSemi])).s)::(0,wO 4 (puts st (Q++[tSemi])))::[])⟩,rfl,rfl,?_⟩
 refine⟨_,wrap_i64 (by omega) (by omega),?_⟩
 exact⟨(Q++[tSemi],i+1),⟨by omega,i5,hFG⟩,ent_of [] [(2,4)] [] rfl (sk) (sk) rfl,by show l.length - (i+1)<l.length - i;omega⟩
theorem nat_of {n:Int} (h0:0≤n) (h:n≤9999):natB n=true:=by
 simp only [natB,Bool.and_eq_true,decide_eq_true_eq];omega
theorem name_len {t:List UInt8} (h:nameN t=true):t.length≤10:=(tok_len (tok_name h)).2
theorem leafB_facts {op n rel val:Int} {r:Rf} {st:List Int} (hb:leafB op n rel val r st=true):refB r=true∧(op=6→natB n=true∧natB val=true∧1≤rel∧rel≤4)∧(op=5→setB st=true)∧(¬ op=5→¬ op=6→natB n=true∧1≤op∧op≤4):=by
 unfold leafB at hb
 by_cases c6:op=6
 ·rw [if_neg (by omega),if_neg (by omega),if_pos c6] at hb
  simp only [Bool.and_eq_true,decide_eq_true_eq] at hb
  obtain⟨⟨⟨⟨⟨⟨b1,b2⟩,b3⟩,b4⟩,b5⟩,b6⟩,b7⟩:=hb
  exact⟨b1,fun _=>⟨b3,b4,b5,b6⟩,fun h=>by omega,fun _ h=>absurd c6 h⟩
 ·by_cases c5:op=5
  ·rw [if_neg (by omega),if_pos c5] at hb
   simp only [Bool.and_eq_true,decide_eq_true_eq] at hb
   obtain⟨⟨⟨⟨b1,b2⟩,b3⟩,b4⟩,b5⟩:=hb
   exact⟨b1,fun h=>absurd h c6,fun _=>b5,fun h=>absurd c5 h⟩
  ·by_cases c1:op=1∨op=2∨op=3∨op=4
   ·rw [if_pos c1] at hb
    simp only [Bool.and_eq_true,decide_eq_true_eq] at hb
    exact⟨hb.1.1.1.1,fun h=>absurd h c6,fun h=>absurd h c5,fun _ _=>⟨hb.1.1.1.2,by omega,by omega⟩⟩
   ·rw [if_neg c1,if_neg c5,if_neg c6] at hb
    cases hb
theorem lineT_len {d:De} (hv:declB d=true):(lineT d).length≤200000:=by
 have:=decl_toks hv
 have h2:=spW_len false this.1
 rw [lineT,List.length_append]
 have h3:=this.2
 simp only [List.length_cons,List.length_nil]
 omega
theorem textT_cons (d:De) (ds:List De):textT (d::ds)=lineT d++textT ds:=rfl
theorem textT_len:∀ {ds:List De},(∀ d∈ds,declB d=true)→(textT ds).length≤200000 * ds.length
 | [],_=>by simp [textT]
 | d::ds,h=>by
  have h1:=lineT_len (h d (List.mem_cons_self ..))
  have h2:=textT_len (ds:=ds) fun x hx=>h x (List.mem_cons_of_mem _ hx)
  rw [textT_cons,List.length_append,List.length_cons,Nat.mul_succ]
  omega
theorem decl_w (u:Bool) (st:Wst) (d:De) (hv:declB d=true) (hb0:st.sz+wt (declT d)≤100000000):HoldsG cx 42 [.ptr 0 0 0, .p d.pv] (wH u st) (WQ (puts st (declT d))):=by
 obtain⟨k,n,nm,pl,rs,cs⟩:=d
 simp only [declB,Bool.and_eq_true,decide_eq_true_eq,List.all_eq_true] at hv
 obtain⟨⟨⟨v1,v2⟩,v3⟩,v4⟩:=hv
 unfold kindB at v4
 simp only [] at v4
 by_cases c1:k=1
 ·subst c1
  have e:declT ⟨1,n,nm,pl,rs,cs⟩=([]++[tGrain,digT n])++[tSemi]:=rfl
  have hb:=hb0
  rw [e] at hb
  generalize declT ⟨1,n,nm,pl,rs,cs⟩=X at e ⊢
  refine holdsN_of_vc Tryz.func42 rfl rfl rfl ?_
  refine(itoa_c n v1).eq rfl ?_
  refine And.intro (fun _=>?_) (fun h=>absurd rfl h)
  refine(put_h u (puts st ([])) ([tGrain,digT n]) (by simp) (by have hz:=puts_sz ([]) st;simp only [wt_app,wt] at hb hz ⊢;omega)).holds.useT [] [(2,3)] rfl (by first | (cases u <;> (exact sk)) | (exact sk)) (sk) fun e0 H0 hq=>?_
  rw [← puts_app] at hq
  obtain⟨rfl,rfl⟩:=hq
  refine⟨rfl,_,⟨5,((4,bO (puts st ([]++[tGrain,digT n])).s)::(0,wO 4 (puts st ([]++[tGrain,digT n])))::[(2,deO _)])⟩,rfl,rfl,?_⟩
  refine(put_h true (puts st ([]++[tGrain,digT n])) ([tSemi]) (by simp) (by have hz:=puts_sz ([]++[tGrain,digT n]) st;simp only [wt_app,wt] at hb hz ⊢;omega)).holds.useT [] [(1,4),(2,5)] rfl (sk) (sk) fun e0 H0 hq=>?_
  rw [← puts_app] at hq
  obtain⟨rfl,rfl⟩:=hq
  refine⟨rfl,_,⟨7,((6,bO (puts st ([]++[tGrain,digT n]++[tSemi])).s)::(0,wO 6 (puts st ([]++[tGrain,digT n]++[tSemi])))::[(2,deO _)])⟩,rfl,rfl,?_⟩
  exact⟨[],[(2,6)],[], .returned und,wH' (puts st (([]++[tGrain,digT n])++[tSemi])),rfl,sk,sk,rfl,by rw [e]⟩
 rw [if_neg c1] at v4
 by_cases c2:k=2
 ·subst c2
  have e:declT ⟨2,n,nm,pl,rs,cs⟩=([]++[tPlate,nm,tEq,digT n])++[tSemi]:=rfl
  have hb:=hb0
  rw [e] at hb
  generalize declT ⟨2,n,nm,pl,rs,cs⟩=X at e ⊢
  refine holdsN_of_vc Tryz.func42 rfl rfl rfl ?_
  refine(itoa_c n v1).eq rfl ?_
  refine And.intro (fun h=>absurd (show(2:Int)=1 from h) (by decide)) (fun _=>?_)
  refine And.intro (fun _=>?_) (fun h=>absurd rfl h)
  refine(put_h u (puts st ([])) ([tPlate,nm,tEq,digT n]) (by simp) (by have hz:=puts_sz ([]) st;simp only [wt_app,wt] at hb hz ⊢;omega)).holds.useT [] [(2,3)] rfl (by first | (cases u <;> (exact sk)) | (exact sk)) (sk) fun e0 H0 hq=>?_
  rw [← puts_app] at hq
  obtain⟨rfl,rfl⟩:=hq
  refine⟨rfl,_,⟨5,((4,bO (puts st ([]++[tPlate,nm,tEq,digT n])).s)::(0,wO 4 (puts st ([]++[tPlate,nm,tEq,digT n])))::[(2,deO _)])⟩,rfl,rfl,?_⟩
  refine(put_h true (puts st ([]++[tPlate,nm,tEq,digT n])) ([tSemi]) (by simp) (by have hz:=puts_sz ([]++[tPlate,nm,tEq,digT n]) st;simp only [wt_app,wt] at hb hz ⊢;omega)).holds.useT [] [(1,4),(2,5)] rfl (sk) (sk) fun e0 H0 hq=>?_
  rw [← puts_app] at hq
  obtain⟨rfl,rfl⟩:=hq
  refine⟨rfl,_,⟨7,((6,bO (puts st ([]++[tPlate,nm,tEq,digT n]++[tSemi])).s)::(0,wO 6 (puts st ([]++[tPlate,nm,tEq,digT n]++[tSemi])))::[(2,deO _)])⟩,rfl,rfl,?_⟩
  exact⟨[],[(2,6)],[], .returned und,wH' (puts st (([]++[tPlate,nm,tEq,digT n])++[tSemi])),rfl,sk,sk,rfl,by rw [e]⟩
 rw [if_neg c2] at v4
 by_cases c3:k=3
 ·subst c3
  simp only [if_true,Bool.and_eq_true] at v4
  obtain⟨_,v6⟩:=v4
  by_cases hp:pl=[]
  ·have e:declT ⟨3,n,nm,pl,rs,cs⟩=((((([]++[tNode,nm])++[tCol,digT n])++refsT tFrom rs)++[tEq])++ruleT cs)++[tSemi]:=by
    show([tNode,nm]++((if pl=[] then [] else [tLB,pl,tRB])++([tCol,digT n]++(refsT tFrom rs++(tEq::ruleT cs)))))++[tSemi]=_
    rw [if_pos hp];simp
   have hb:=hb0
   rw [e] at hb
   generalize declT ⟨3,n,nm,pl,rs,cs⟩=X at e ⊢
   refine holdsN_of_vc Tryz.func42 rfl rfl rfl ?_
   refine(itoa_c n v1).eq rfl ?_
   refine And.intro (fun h=>absurd (show(3:Int)=1 from h) (by decide)) (fun _=>?_)
   refine And.intro (fun h=>absurd (show(3:Int)=2 from h) (by decide)) (fun _=>?_)
   refine And.intro (fun _=>?_) (fun h=>absurd rfl h)
   refine(put_h u (puts st ([])) ([tNode,nm]) (by simp) (by have hz:=puts_sz ([]) st;simp only [wt_app,wt] at hb hz ⊢;omega)).holds.useT [] [(2,3)] rfl (by first | (cases u <;> (exact sk)) | (exact sk)) (sk) fun e0 H0 hq=>?_
   rw [← puts_app] at hq
   obtain⟨rfl,rfl⟩:=hq
   refine⟨rfl,_,⟨5,((4,bO (puts st ([]++[tNode,nm])).s)::(0,wO 4 (puts st ([]++[tNode,nm])))::[(2,deO _)])⟩,rfl,rfl,?_⟩
   refine And.intro (fun _=>?_) (fun h=>absurd hp h)
   refine(put_h true (puts st ([]++[tNode,nm])) ([tCol,digT n]) (by simp) (by have hz:=puts_sz ([]++[tNode,nm]) st;simp only [wt_app,wt] at hb hz ⊢;omega)).holds.useT [] [(1,4),(2,5)] rfl (sk) (sk) fun e0 H0 hq=>?_
   rw [← puts_app] at hq
   obtain⟨rfl,rfl⟩:=hq
   refine⟨rfl,_,⟨7,((6,bO (puts st ([]++[tNode,nm]++[tCol,digT n])).s)::(0,wO 6 (puts st ([]++[tNode,nm]++[tCol,digT n])))::[(2,deO _)])⟩,rfl,rfl,?_⟩
   refine(refs_w (puts st (([]++[tNode,nm])++[tCol,digT n])) tFrom rs v3 v2 (by have hz:=puts_sz (([]++[tNode,nm])++[tCol,digT n]) st;simp only [wt_app,wt] at hb hz ⊢;omega)).holds.useT [] [(1,6)] rfl (sk) (sk) fun e0 H0 hq=>?_
   unfold WQ at hq
   rw [← puts_app] at hq
   obtain⟨rfl,rfl⟩:=hq
   refine⟨rfl,_,⟨8,((7,bO (puts st ((([]++[tNode,nm])++[tCol,digT n])++refsT tFrom rs)).s)::(0,wO 7 (puts st ((([]++[tNode,nm])++[tCol,digT n])++refsT tFrom rs)))::[(2,deO _)])⟩,rfl,rfl,?_⟩
   refine(put_h true (puts st ((([]++[tNode,nm])++[tCol,digT n])++refsT tFrom rs)) ([tEq]) (by simp) (by have hz:=puts_sz ((([]++[tNode,nm])++[tCol,digT n])++refsT tFrom rs) st;simp only [wt_app,wt] at hb hz ⊢;omega)).holds.useT [] [(1,7),(2,8)] rfl (sk) (sk) fun e0 H0 hq=>?_
   rw [← puts_app] at hq
   obtain⟨rfl,rfl⟩:=hq
   refine⟨rfl,_,⟨10,((9,bO (puts st ((([]++[tNode,nm])++[tCol,digT n])++refsT tFrom rs++[tEq])).s)::(0,wO 9 (puts st ((([]++[tNode,nm])++[tCol,digT n])++refsT tFrom rs++[tEq])))::[(2,deO _)])⟩,rfl,rfl,?_⟩
   refine(rule_w (puts st (((([]++[tNode,nm])++[tCol,digT n])++refsT tFrom rs)++[tEq])) cs v6 (by have hz:=puts_sz (((([]++[tNode,nm])++[tCol,digT n])++refsT tFrom rs)++[tEq]) st;simp only [wt_app,wt] at hb hz ⊢;omega)).holds.useT [] [(1,9)] rfl (sk) (sk) fun e0 H0 hq=>?_
   unfold WQ at hq
   rw [← puts_app] at hq
   obtain⟨rfl,rfl⟩:=hq
   refine⟨rfl,_,⟨11,((10,bO (puts st ((((([]++[tNode,nm])++[tCol,digT n])++refsT tFrom rs)++[tEq])++ruleT cs)).s)::(0,wO 10 (puts st ((((([]++[tNode,nm])++[tCol,digT n])++refsT tFrom rs)++[tEq])++ruleT cs)))::[(2,deO _)])⟩,rfl,rfl,?_⟩
   refine(put_h true (puts st ((((([]++[tNode,nm])++[tCol,digT n])++refsT tFrom rs)++[tEq])++ruleT cs)) ([tSemi]) (by simp) (by have hz:=puts_sz ((((([]++[tNode,nm])++[tCol,digT n])++refsT tFrom rs)++[tEq])++ruleT cs) st;simp only [wt_app,wt] at hb hz ⊢;omega)).holds.useT [] [(1,10),(2,11)] rfl (sk) (sk) fun e0 H0 hq=>?_
   rw [← puts_app] at hq
   obtain⟨rfl,rfl⟩:=hq
   refine⟨rfl,_,⟨13,((12,bO (puts st ((((([]++[tNode,nm])++[tCol,digT n])++refsT tFrom rs)++[tEq])++ruleT cs++[tSemi])).s)::(0,wO 12 (puts st ((((([]++[tNode,nm])++[tCol,digT n])++refsT tFrom rs)++[tEq])++ruleT cs++[tSemi])))::[(2,deO _)])⟩,rfl,rfl,?_⟩
   exact⟨[],[(2,12)],[], .returned und,wH' (puts st (((((([]++[tNode,nm])++[tCol,digT n])++refsT tFrom rs)++[tEq])++ruleT cs)++[tSemi])),rfl,sk,sk,rfl,by rw [e]⟩
  ·have e:declT ⟨3,n,nm,pl,rs,cs⟩=(((((([]++[tNode,nm])++[tLB,pl,tRB])++[tCol,digT n])++refsT tFrom rs)++[tEq])++ruleT cs)++[tSemi]:=by
    show([tNode,nm]++((if pl=[] then [] else [tLB,pl,tRB])++([tCol,digT n]++(refsT tFrom rs++(tEq::ruleT cs)))))++[tSemi]=_
    rw [if_neg hp];simp
   have hb:=hb0
   rw [e] at hb
   generalize declT ⟨3,n,nm,pl,rs,cs⟩=X at e ⊢
   refine holdsN_of_vc Tryz.func42 rfl rfl rfl ?_
   refine(itoa_c n v1).eq rfl ?_
   refine And.intro (fun h=>absurd (show(3:Int)=1 from h) (by decide)) (fun _=>?_)
   refine And.intro (fun h=>absurd (show(3:Int)=2 from h) (by decide)) (fun _=>?_)
   refine And.intro (fun _=>?_) (fun h=>absurd rfl h)
   refine(put_h u (puts st ([])) ([tNode,nm]) (by simp) (by have hz:=puts_sz ([]) st;simp only [wt_app,wt] at hb hz ⊢;omega)).holds.useT [] [(2,3)] rfl (by first | (cases u <;> (exact sk)) | (exact sk)) (sk) fun e0 H0 hq=>?_
   rw [← puts_app] at hq
   obtain⟨rfl,rfl⟩:=hq
   refine⟨rfl,_,⟨5,((4,bO (puts st ([]++[tNode,nm])).s)::(0,wO 4 (puts st ([]++[tNode,nm])))::[(2,deO _)])⟩,rfl,rfl,?_⟩
   refine And.intro (fun h=>absurd h hp) (fun _=>?_)
   refine(put_h true (puts st ([]++[tNode,nm])) ([tLB,pl,tRB]) (by simp) (by have hz:=puts_sz ([]++[tNode,nm]) st;simp only [wt_app,wt] at hb hz ⊢;omega)).holds.useT [] [(1,4),(2,5)] rfl (sk) (sk) fun e0 H0 hq=>?_
   rw [← puts_app] at hq
   obtain⟨rfl,rfl⟩:=hq
   refine⟨rfl,_,⟨7,((6,bO (puts st ([]++[tNode,nm]++[tLB,pl,tRB])).s)::(0,wO 6 (puts st ([]++[tNode,nm]++[tLB,pl,tRB])))::[(2,deO _)])⟩,rfl,rfl,?_⟩
   refine(put_h true (puts st (([]++[tNode,nm])++[tLB,pl,tRB])) ([tCol,digT n]) (by simp) (by have hz:=puts_sz (([]++[tNode,nm])++[tLB,pl,tRB]) st;simp only [wt_app,wt] at hb hz ⊢;omega)).holds.useT [] [(1,6),(2,7)] rfl (sk) (sk) fun e0 H0 hq=>?_
   rw [← puts_app] at hq
   obtain⟨rfl,rfl⟩:=hq
   refine⟨rfl,_,⟨9,((8,bO (puts st (([]++[tNode,nm])++[tLB,pl,tRB]++[tCol,digT n])).s)::(0,wO 8 (puts st (([]++[tNode,nm])++[tLB,pl,tRB]++[tCol,digT n])))::[(2,deO _)])⟩,rfl,rfl,?_⟩
   refine(refs_w (puts st ((([]++[tNode,nm])++[tLB,pl,tRB])++[tCol,digT n])) tFrom rs v3 v2 (by have hz:=puts_sz ((([]++[tNode,nm])++[tLB,pl,tRB])++[tCol,digT n]) st;simp only [wt_app,wt] at hb hz ⊢;omega)).holds.useT [] [(1,8)] rfl (sk) (sk) fun e0 H0 hq=>?_
   unfold WQ at hq
   rw [← puts_app] at hq
   obtain⟨rfl,rfl⟩:=hq
   refine⟨rfl,_,⟨10,((9,bO (puts st (((([]++[tNode,nm])++[tLB,pl,tRB])++[tCol,digT n])++refsT tFrom rs)).s)::(0,wO 9 (puts st (((([]++[tNode,nm])++[tLB,pl,tRB])++[tCol,digT n])++refsT tFrom rs)))::[(2,deO _)])⟩,rfl,rfl,?_⟩
   refine(put_h true (puts st (((([]++[tNode,nm])++[tLB,pl,tRB])++[tCol,digT n])++refsT tFrom rs)) ([tEq]) (by simp) (by have hz:=puts_sz (((([]++[tNode,nm])++[tLB,pl,tRB])++[tCol,digT n])++refsT tFrom rs) st;simp only [wt_app,wt] at hb hz ⊢;omega)).holds.useT [] [(1,9),(2,10)] rfl (sk) (sk) fun e0 H0 hq=>?_
   rw [← puts_app] at hq
   obtain⟨rfl,rfl⟩:=hq
   refine⟨rfl,_,⟨12,((11,bO (puts st (((([]++[tNode,nm])++[tLB,pl,tRB])++[tCol,digT n])++refsT tFrom rs++[tEq])).s)::(0,wO 11 (puts st (((([]++[tNode,nm])++[tLB,pl,tRB])++[tCol,digT n])++refsT tFrom rs++[tEq])))::[(2,deO _)])⟩,rfl,rfl,?_⟩
   refine(rule_w (puts st ((((([]++[tNode,nm])++[tLB,pl,tRB])++[tCol,digT n])++refsT tFrom rs)++[tEq])) cs v6 (by have hz:=puts_sz ((((([]++[tNode,nm])++[tLB,pl,tRB])++[tCol,digT n])++refsT tFrom rs)++[tEq]) st;simp only [wt_app,wt] at hb hz ⊢;omega)).holds.useT [] [(1,11)] rfl (sk) (sk) fun e0 H0 hq=>?_
   unfold WQ at hq
   rw [← puts_app] at hq
   obtain⟨rfl,rfl⟩:=hq
   refine⟨rfl,_,⟨13,((12,bO (puts st (((((([]++[tNode,nm])++[tLB,pl,tRB])++[tCol,digT n])++refsT tFrom rs)++[tEq])++ruleT cs)).s)::(0,wO 12 (puts st (((((([]++[tNode,nm])++[tLB,pl,tRB])++[tCol,digT n])++refsT tFrom rs)++[tEq])++ruleT cs)))::[(2,deO _)])⟩,rfl,rfl,?_⟩
   refine(put_h true (puts st (((((([]++[tNode,nm])++[tLB,pl,tRB])++[tCol,digT n])++refsT tFrom rs)++[tEq])++ruleT cs)) ([tSemi]) (by simp) (by have hz:=puts_sz (((((([]++[tNode,nm])++[tLB,pl,tRB])++[tCol,digT n])++refsT tFrom rs)++[tEq])++ruleT cs) st;simp only [wt_app,wt] at hb hz ⊢;omega)).holds.useT [] [(1,12),(2,13)] rfl (sk) (sk) fun e0 H0 hq=>?_
   rw [← puts_app] at hq
   obtain⟨rfl,rfl⟩:=hq
   refine⟨rfl,_,⟨15,((14,bO (puts st (((((([]++[tNode,nm])++[tLB,pl,tRB])++[tCol,digT n])++refsT tFrom rs)++[tEq])++ruleT cs++[tSemi])).s)::(0,wO 14 (puts st (((((([]++[tNode,nm])++[tLB,pl,tRB])++[tCol,digT n])++refsT tFrom rs)++[tEq])++ruleT cs++[tSemi])))::[(2,deO _)])⟩,rfl,rfl,?_⟩
   exact⟨[],[(2,14)],[], .returned und,wH' (puts st ((((((([]++[tNode,nm])++[tLB,pl,tRB])++[tCol,digT n])++refsT tFrom rs)++[tEq])++ruleT cs)++[tSemi])),rfl,sk,sk,rfl,by rw [e]⟩
 rw [if_neg c3] at v4
 by_cases c4:k=4
 ·subst c4
  have e:declT ⟨4,n,nm,pl,rs,cs⟩=(([]++[tChoose,nm,tCol,digT n])++refsT tSeeing rs)++[tSemi]:=rfl
  have hb:=hb0
  rw [e] at hb
  generalize declT ⟨4,n,nm,pl,rs,cs⟩=X at e ⊢
  refine holdsN_of_vc Tryz.func42 rfl rfl rfl ?_
  refine(itoa_c n v1).eq rfl ?_
  refine And.intro (fun h=>absurd (show(4:Int)=1 from h) (by decide)) (fun _=>?_)
  refine And.intro (fun h=>absurd (show(4:Int)=2 from h) (by decide)) (fun _=>?_)
  refine And.intro (fun h=>absurd (show(4:Int)=3 from h) (by decide)) (fun _=>?_)
  refine And.intro (fun _=>?_) (fun h=>absurd rfl h)
  refine(put_h u (puts st ([])) ([tChoose,nm,tCol,digT n]) (by simp) (by have hz:=puts_sz ([]) st;simp only [wt_app,wt] at hb hz ⊢;omega)).holds.useT [] [(2,3)] rfl (by first | (cases u <;> (exact sk)) | (exact sk)) (sk) fun e0 H0 hq=>?_
  rw [← puts_app] at hq
  obtain⟨rfl,rfl⟩:=hq
  refine⟨rfl,_,⟨5,((4,bO (puts st ([]++[tChoose,nm,tCol,digT n])).s)::(0,wO 4 (puts st ([]++[tChoose,nm,tCol,digT n])))::[(2,deO _)])⟩,rfl,rfl,?_⟩
  refine(refs_w (puts st ([]++[tChoose,nm,tCol,digT n])) tSeeing rs v3 v2 (by have hz:=puts_sz ([]++[tChoose,nm,tCol,digT n]) st;simp only [wt_app,wt] at hb hz ⊢;omega)).holds.useT [] [(1,4)] rfl (sk) (sk) fun e0 H0 hq=>?_
  unfold WQ at hq
  rw [← puts_app] at hq
  obtain⟨rfl,rfl⟩:=hq
  refine⟨rfl,_,⟨6,((5,bO (puts st (([]++[tChoose,nm,tCol,digT n])++refsT tSeeing rs)).s)::(0,wO 5 (puts st (([]++[tChoose,nm,tCol,digT n])++refsT tSeeing rs)))::[(2,deO _)])⟩,rfl,rfl,?_⟩
  refine(put_h true (puts st (([]++[tChoose,nm,tCol,digT n])++refsT tSeeing rs)) ([tSemi]) (by simp) (by have hz:=puts_sz (([]++[tChoose,nm,tCol,digT n])++refsT tSeeing rs) st;simp only [wt_app,wt] at hb hz ⊢;omega)).holds.useT [] [(1,5),(2,6)] rfl (sk) (sk) fun e0 H0 hq=>?_
  rw [← puts_app] at hq
  obtain⟨rfl,rfl⟩:=hq
  refine⟨rfl,_,⟨8,((7,bO (puts st (([]++[tChoose,nm,tCol,digT n])++refsT tSeeing rs++[tSemi])).s)::(0,wO 7 (puts st (([]++[tChoose,nm,tCol,digT n])++refsT tSeeing rs++[tSemi])))::[(2,deO _)])⟩,rfl,rfl,?_⟩
  exact⟨[],[(2,7)],[], .returned und,wH' (puts st ((([]++[tChoose,nm,tCol,digT n])++refsT tSeeing rs)++[tSemi])),rfl,sk,sk,rfl,by rw [e]⟩
 rw [if_neg c4] at v4
 by_cases c5:k=5
 ·subst c5
  simp only [if_true,Bool.and_eq_true] at v4
  obtain⟨_,v6⟩:=v4
  have e:declT ⟨5,n,nm,pl,rs,cs⟩=(((([]++[tGain])++refsT tFrom rs)++[tEq])++ruleT cs)++[tSemi]:=by
   show(tGain::(refsT tFrom rs++(tEq::ruleT cs)))++[tSemi]=_
   simp
  have hb:=hb0
  rw [e] at hb
  generalize declT ⟨5,n,nm,pl,rs,cs⟩=X at e ⊢
  refine holdsN_of_vc Tryz.func42 rfl rfl rfl ?_
  refine(itoa_c n v1).eq rfl ?_
  refine And.intro (fun h=>absurd (show(5:Int)=1 from h) (by decide)) (fun _=>?_)
  refine And.intro (fun h=>absurd (show(5:Int)=2 from h) (by decide)) (fun _=>?_)
  refine And.intro (fun h=>absurd (show(5:Int)=3 from h) (by decide)) (fun _=>?_)
  refine And.intro (fun h=>absurd (show(5:Int)=4 from h) (by decide)) (fun _=>?_)
  refine And.intro (fun _=>?_) (fun h=>absurd rfl h)
  refine(put_h u (puts st ([])) ([tGain]) (by simp) (by have hz:=puts_sz ([]) st;simp only [wt_app,wt] at hb hz ⊢;omega)).holds.useT [] [(2,3)] rfl (by first | (cases u <;> (exact sk)) | (exact sk)) (sk) fun e0 H0 hq=>?_
  rw [← puts_app] at hq
  obtain⟨rfl,rfl⟩:=hq
  refine⟨rfl,_,⟨5,((4,bO (puts st ([]++[tGain])).s)::(0,wO 4 (puts st ([]++[tGain])))::[(2,deO _)])⟩,rfl,rfl,?_⟩
  refine(refs_w (puts st ([]++[tGain])) tFrom rs v3 v2 (by have hz:=puts_sz ([]++[tGain]) st;simp only [wt_app,wt] at hb hz ⊢;omega)).holds.useT [] [(1,4)] rfl (sk) (sk) fun e0 H0 hq=>?_
  unfold WQ at hq
  rw [← puts_app] at hq
  obtain⟨rfl,rfl⟩:=hq
  refine⟨rfl,_,⟨6,((5,bO (puts st (([]++[tGain])++refsT tFrom rs)).s)::(0,wO 5 (puts st (([]++[tGain])++refsT tFrom rs)))::[(2,deO _)])⟩,rfl,rfl,?_⟩
  refine(put_h true (puts st (([]++[tGain])++refsT tFrom rs)) ([tEq]) (by simp) (by have hz:=puts_sz (([]++[tGain])++refsT tFrom rs) st;simp only [wt_app,wt] at hb hz ⊢;omega)).holds.useT [] [(1,5),(2,6)] rfl (sk) (sk) fun e0 H0 hq=>?_
  rw [← puts_app] at hq
  obtain⟨rfl,rfl⟩:=hq
  refine⟨rfl,_,⟨8,((7,bO (puts st (([]++[tGain])++refsT tFrom rs++[tEq])).s)::(0,wO 7 (puts st (([]++[tGain])++refsT tFrom rs++[tEq])))::[(2,deO _)])⟩,rfl,rfl,?_⟩
  refine(rule_w (puts st ((([]++[tGain])++refsT tFrom rs)++[tEq])) cs v6 (by have hz:=puts_sz ((([]++[tGain])++refsT tFrom rs)++[tEq]) st;simp only [wt_app,wt] at hb hz ⊢;omega)).holds.useT [] [(1,7)] rfl (sk) (sk) fun e0 H0 hq=>?_
  unfold WQ at hq
  rw [← puts_app] at hq
  obtain⟨rfl,rfl⟩:=hq
  refine⟨rfl,_,⟨9,((8,bO (puts st (((([]++[tGain])++refsT tFrom rs)++[tEq])++ruleT cs)).s)::(0,wO 8 (puts st (((([]++[tGain])++refsT tFrom rs)++[tEq])++ruleT cs)))::[(2,deO _)])⟩,rfl,rfl,?_⟩
  refine(put_h true (puts st (((([]++[tGain])++refsT tFrom rs)++[tEq])++ruleT cs)) ([tSemi]) (by simp) (by have hz:=puts_sz (((([]++[tGain])++refsT tFrom rs)++[tEq])++ruleT cs) st;simp only [wt_app,wt] at hb hz ⊢;omega)).holds.useT [] [(1,8),(2,9)] rfl (sk) (sk) fun e0 H0 hq=>?_
  rw [← puts_app] at hq
  obtain⟨rfl,rfl⟩:=hq
  refine⟨rfl,_,⟨11,((10,bO (puts st (((([]++[tGain])++refsT tFrom rs)++[tEq])++ruleT cs++[tSemi])).s)::(0,wO 10 (puts st (((([]++[tGain])++refsT tFrom rs)++[tEq])++ruleT cs++[tSemi])))::[(2,deO _)])⟩,rfl,rfl,?_⟩
  exact⟨[],[(2,10)],[], .returned und,wH' (puts st ((((([]++[tGain])++refsT tFrom rs)++[tEq])++ruleT cs)++[tSemi])),rfl,sk,sk,rfl,by rw [e]⟩
 ·rw [if_neg c5] at v4
  cases v4
theorem len_h (u:Bool) (st:Wst):HoldsG cx 44 [.ptr 0 0 0] (wH u st) fun e H'=>e=.returned (.p (i64 st.s.length))∧H'=wH u st:=by
 refine holds_of_vc Tryz.func44 rfl rfl rfl ?_
 exact⟨rfl,rfl⟩
theorem strg_h (u:Bool) (st:Wst) (h0:st.s ≠ []) (hx:st.s.length≤100000000):HoldsG cx 45 [.ptr 0 0 0] (wH u st) fun e H'=>e=.returned (.p (.str st.s))∧H'=⟨2,[(0,wOu u 1 st)]⟩:=by
 obtain⟨s,n,g⟩:=st
 have h0:s ≠ []:=h0
 have hx:s.length≤100000000:=hx
 refine holdsN_of_vc Tryz.func45 rfl rfl rfl ?_
 refine VDraw.seq rfl ?_
 refine And.intro (fun h1=>?_) (fun h1=>?_)
 ·refine⟨sk,?_⟩
  refine⟨s,h0,rfl,by omega,by simp,by rw [List.take_of_length_le (by simp)],?_⟩
  exact⟨[],[],[], .returned (.p (.str s)),⟨2,[(0,wOu u 1 ⟨s,n,g⟩)]⟩,rfl,sk,by cases u <;> (exact sk),rfl,rfl⟩
 ·exact absurd (List.eq_nil_of_length_eq_zero h1) h0
theorem strgE_h (u:Bool) (st:Wst) (h0:st.s=[]):HoldsG cx 45 [.ptr 0 0 0] (wH u st) fun e H'=>e=.returned (.p (.str []))∧H'=wH u st:=by
 obtain⟨s,n,g⟩:=st
 have h0:s=[]:=h0
 subst h0
 refine holdsN_of_vc Tryz.func45 rfl rfl rfl ?_
 refine VDraw.seq rfl ?_
 refine And.intro (fun h1=>?_) (fun h1=>?_)
 ·cases h1
 ·refine⟨sk,?_⟩
  refine⟨rfl,?_⟩
  exact⟨[],[],[], .returned (.p (.str [])),wH u ⟨[],n,g⟩,rfl,sk,by cases u <;> (exact sk),rfl,rfl⟩
theorem wt_all:∀ {x:Toks},AllT x→wt x≤12 * x.length
 | [],_=>Nat.zero_le _
 | t::x,h=>by
  have h1:=tok_len (h t (List.mem_cons_self ..))
  have h2:=wt_all (x:=x) fun u hu=>h u (List.mem_cons_of_mem _ hu)
  rw [wt,List.length_cons];omega
theorem decl_wt {d:De} (h:declB d=true):wt (declT d)≤130000:=by
 have h1:=decl_toks h
 have h2:=wt_all h1.1
 have:=h1.2
 omega
theorem decl_st (S:List UInt8) (n:Nat) (d:De):endW (puts ⟨S,n,false⟩ (declT d))=⟨S++lineT d,n+(declT d).length,false⟩:=by
 obtain⟨h1,h2,h3⟩:=puts_spW (declT d) ⟨S,n,false⟩
 rw [endW,h1,h2,lineT,List.append_assoc]
theorem textT_snoc (ds:List De) (d:De):textT (ds++[d])=textT ds++lineT d:=by
 rw [textT,List.flatMap_append];simp [textT]
theorem cntT_snoc (ds:List De) (d:De):cntT (ds++[d])=cntT ds+(declT d).length:=by
 rw [cntT,List.map_append,List.sum_append];simp [cntT]
theorem cntT_len:∀ {ds:List De},(∀ d∈ds,declB d=true)→cntT ds≤10400 * ds.length
 | [],_=>Nat.zero_le _
 | d::ds,h=>by
  have h1:=(decl_toks (h d (List.mem_cons_self ..))).2
  have h2:=cntT_len (ds:=ds) fun x hx=>h x (List.mem_cons_of_mem _ hx)
  show(declT d).length+cntT ds≤_
  rw [List.length_cons];omega
theorem ptext_c (ds:List De) (hb:BigP ds):Pure cx 13 [srcV ds] (·=.ret (txtV ds)):=by
 have hR:=pcheck_c ds hb
 refine pure_of_vc Tryz.func13 rfl rfl rfl ?_
 by_cases hv:validB ds=true
 rotate_left
 ·have e:txtV ds=[.str [],i64 380]:=by rw [txtV,if_neg hv]
  rw [chkV,if_neg hv] at hR
  refine hR.eq rfl ?_
  refine And.intro (fun h=>absurd (show(380:Int)=0 from h) (by decide)) (fun _=>?_)
  exact end2 (.str []) (i64 380) rfl rfl rfl (by rw [e] <;> rfl)
 rw [chkV,if_pos hv] at hR
 refine hR.eq rfl ?_
 refine And.intro (fun _=>?_) (fun h=>absurd rfl h)
 obtain⟨v1,v2⟩:=valid_decl hv
 have hm:(ds.map De.cells).length=ds.length:=List.length_map ..
 have e1:(textT ds).length≤8000∧cntT ds≤1500→txtV ds=[.str (textT ds),i64 0]:=fun h=>by rw [txtV,if_pos hv,if_pos h]
 have e2:¬ ((textT ds).length≤8000∧cntT ds≤1500)→txtV ds=[.str [],i64 3]:=fun h=>by rw [txtV,if_pos hv,if_neg h]
 generalize txtV ds=X at e1 e2 ⊢
 refine⟨Wst × Nat × Bool,fun x=>[(5, .ptr 0 0 0),(14, .p (des ds)),(15, .p (i64 (ds.map De.cells).length)),(16, .p (i64 x.2.1))],fun x=>wH x.2.2 x.1,fun x=>x.2.1≤ds.length∧x.1=⟨textT (ds.take x.2.1),cntT (ds.take x.2.1),false⟩,fun x=>ds.length - x.2.1,?_,?_⟩
 ·exact⟨(⟨[],0,false⟩,0,false),⟨Nat.zero_le _,rfl⟩,ent_of [] [(0,1)] [(1,1)] rfl (sk) (sk) rfl⟩
 rintro⟨st,i,u⟩ ⟨k1,k2⟩
 simp only [] at k1 k2
 have hst:st.sz≤10000000:=by
  have t1:=textT_len (ds:=ds.take i) fun d hd=>v2 d (List.mem_of_mem_take hd)
  have t2:=cntT_len (ds:=ds.take i) fun d hd=>v2 d (List.mem_of_mem_take hd)
  have t3:(ds.take i).length≤30:=by rw [List.length_take];omega
  rw [k2]
  show cntT (ds.take i)+(textT (ds.take i)).length≤_
  omega
 (first | refine brLt (fun m1=>?_) (fun m1=>?_) | refine brLe (fun m1=>?_) (fun m1=>?_) | refine brEq (fun m1=>?_) (fun m1=>?_))
 ·have m1:(i:Int)<((ds.map De.cells).length:Nat):=m1
  rw [hm] at m1
  have hi:i<ds.length:=by omega
  have hd:=v2 _ (getD_memL de0 hi)
  have hcell:=decell hi
  have ht:=take_succ_getD de0 hi
  generalize ds.getD i de0=d at hd hcell ht
  have hw:=decl_wt hd
  have hn:(⟨textT (ds.take (i+1)),cntT (ds.take (i+1)),false⟩:Wst)=endW (puts st (declT d)):=by
   rw [ht,textT_snoc,cntT_snoc,k2,decl_st]
  have hD:=decl_w u st d hd (by omega)
  have hz:=puts_sz (declT d) st
  clear ht hd
  obtain⟨k,n,nm,pl,rs,cs⟩:=d
  generalize declT ⟨k,n,nm,pl,rs,cs⟩=Y at hD hw hn hz
  refine⟨_,⟨by omega,(⟨k,n,nm,pl,rs,cs⟩:De).cells,hcell,rfl⟩,?_⟩
  refine hD.holds.useT [] [] rfl (by cases u <;> (exact sk)) (sk) fun e0 H0 hq=>?_
  obtain⟨rfl,rfl⟩:=hq
  refine⟨rfl,_,⟨4,((3,bO (puts st Y).s)::(0,wO 3 (puts st Y))::[(2,deO _)])⟩,rfl,rfl,?_⟩
  refine(end_h (puts st Y) (by omega)).holds.useT [] [(1,3)] rfl (sk) (sk) fun e0 H0 hq=>?_
  obtain⟨rfl,rfl⟩:=hq
  refine⟨rfl,_,⟨5,((4,bO (endW (puts st Y)).s)::(0,wO 4 (endW (puts st Y)))::[(2,deO _)])⟩,rfl,rfl,?_⟩
  refine⟨_,wrap_i64 (by omega) (by omega),?_⟩
  exact⟨(endW (puts st Y),i+1,true),⟨hi,hn.symm⟩,ent_of [] [(1,4)] [] rfl (sk) (sk) rfl,by show ds.length - (i+1)<ds.length - i;omega⟩
 ·have m1:¬ (i:Int)<((ds.map De.cells).length:Nat):=m1
  rw [hm] at m1
  rw [take_all (by omega)] at k2
  have ks:st.s=textT ds:=by rw [k2]
  have kn:st.n=cntT ds:=by rw [k2]
  rw [← ks,← kn] at e1 e2
  clear k2 ks kn
  cases u
  ·refine(len_h false st).holds.useT [] [] rfl (sk) (sk) fun e0 H0 hq=>?_
   obtain⟨rfl,rfl⟩:=hq
   refine⟨rfl,_,wH false st,rfl,rfl,?_⟩
   have hsl:st.s.length≤10000000:=by
    have:st.n+st.s.length≤10000000:=hst
    omega
   (first | refine brLt (fun c1=>?_) (fun c1=>?_) | refine brLe (fun c1=>?_) (fun c1=>?_) | refine brEq (fun c1=>?_) (fun c1=>?_))
   ·have c1:(8000:Int)<(st.s.length:Nat):=c1
    exact end2 (.str []) (i64 3) rfl rfl rfl (by rw [e2 (by omega)] <;> rfl)
   have c1:¬ (8000:Int)<(st.s.length:Nat):=c1
   (first | refine brLt (fun c2=>?_) (fun c2=>?_) | refine brLe (fun c2=>?_) (fun c2=>?_) | refine brEq (fun c2=>?_) (fun c2=>?_))
   ·have c2:(1500:Int)<(st.n:Nat):=c2
    exact end2 (.str []) (i64 3) rfl rfl rfl (by rw [e2 (by omega)] <;> rfl)
   have c2:¬ (1500:Int)<(st.n:Nat):=c2
   have e3:=e1 (by omega)
   by_cases hs:st.s=[]
   ·refine(strgE_h false st hs).holds.useT [] [] rfl (sk) (sk) fun e0 H0 hq=>?_
    obtain⟨rfl,rfl⟩:=hq
    refine⟨rfl,_,wH false st,rfl,rfl,?_⟩
    exact end2 (.str []) (i64 0) rfl rfl rfl (by rw [e3,hs] <;> rfl)
   ·refine(strg_h false st hs (by omega)).holds.useT [] [] rfl (sk) (sk) fun e0 H0 hq=>?_
    obtain⟨rfl,rfl⟩:=hq
    refine⟨rfl,_,⟨2,[(0,wOu false 1 st)]⟩,rfl,rfl,?_⟩
    exact end2 (.str st.s) (i64 0) rfl rfl rfl (by rw [e3] <;> rfl)
  ·refine(len_h true st).holds.useT [] [] rfl (sk) (sk) fun e0 H0 hq=>?_
   obtain⟨rfl,rfl⟩:=hq
   refine⟨rfl,_,wH true st,rfl,rfl,?_⟩
   have hsl:st.s.length≤10000000:=by
    have:st.n+st.s.length≤10000000:=hst
    omega
   (first | refine brLt (fun c1=>?_) (fun c1=>?_) | refine brLe (fun c1=>?_) (fun c1=>?_) | refine brEq (fun c1=>?_) (fun c1=>?_))
   ·have c1:(8000:Int)<(st.s.length:Nat):=c1
    exact end2 (.str []) (i64 3) rfl rfl rfl (by rw [e2 (by omega)] <;> rfl)
   have c1:¬ (8000:Int)<(st.s.length:Nat):=c1
   (first | refine brLt (fun c2=>?_) (fun c2=>?_) | refine brLe (fun c2=>?_) (fun c2=>?_) | refine brEq (fun c2=>?_) (fun c2=>?_))
   ·have c2:(1500:Int)<(st.n:Nat):=c2
    exact end2 (.str []) (i64 3) rfl rfl rfl (by rw [e2 (by omega)] <;> rfl)
   have c2:¬ (1500:Int)<(st.n:Nat):=c2
   have e3:=e1 (by omega)
   by_cases hs:st.s=[]
   ·refine(strgE_h true st hs).holds.useT [] [] rfl (sk) (sk) fun e0 H0 hq=>?_
    obtain⟨rfl,rfl⟩:=hq
    refine⟨rfl,_,wH true st,rfl,rfl,?_⟩
    exact end2 (.str []) (i64 0) rfl rfl rfl (by rw [e3,hs] <;> rfl)
   ·refine(strg_h true st hs (by omega)).holds.useT [] [] rfl (sk) (sk) fun e0 H0 hq=>?_
    obtain⟨rfl,rfl⟩:=hq
    refine⟨rfl,_,⟨2,[(0,wOu true 1 st)]⟩,rfl,rfl,?_⟩
    exact end2 (.str st.s) (i64 0) rfl rfl rfl (by rw [e3] <;> rfl)
set_option maxHeartbeats 40000000
theorem vdraw_ot {C : Cx} {rd : Bool} {n0 N : Nat} {all : List Oper} {σ : Sg} {ds : List AD} {H : Hp} {K : Sg → List AD → Hp → Prop} {X : List AP → Sg → List AD → Hp → Prop} (ot : OT)
    (h : (C.P.follows .mixedOrders && slotsOK N all (masks all []) && otOK all (masks all []) ot [] [] []) = true) (hv : vD C rd all σ K X ot [] ds H) :
    ∃ ot, (C.P.follows .mixedOrders && slotsOK N all (masks all []) && otOK all (masks all []) ot [] [] []) = true ∧
    ((vD C rd all σ K X ot [] ds H) ∨
     ∃ (α : Type) (sl : α → List (Nat × AV)) (hp : α → Hp) (pr : α → Prop),
      vD C rd all σ (fun σ' ds' H' => ∃ x, pr x ∧ Ent C n0 N σ' ds' H' (sets (fun _ => .junk) (sl x)) ds (hp x)) X ot [] ds H ∧
      ∀ x, pr x → K (sets (fun _ => .junk) (sl x)) ds (hp x)) := ⟨_, h, .inl hv⟩
theorem vdraw_otTo {C : Cx} {rd : Bool} {n0 N : Nat} {all : List Oper} {σ : Sg} {ds : List AD} {H : Hp} {K : Sg → List AD → Hp → Prop} {X : List AP → Sg → List AD → Hp → Prop} (sl : List (Nat × AV)) (hp : Hp) (ot : OT)
    (h : (C.P.follows .mixedOrders && slotsOK N all (masks all []) && otOK all (masks all []) ot [] [] []) = true)
    (hv : vD C rd all σ (fun σ' ds' H' => Ent C n0 N σ' ds' H' (sets (fun _ => .junk) sl) ds hp) X ot [] ds H) (hk : K (sets (fun _ => .junk) sl) ds hp) :
    ∃ ot, (C.P.follows .mixedOrders && slotsOK N all (masks all []) && otOK all (masks all []) ot [] [] []) = true ∧
    ((vD C rd all σ K X ot [] ds H) ∨
     ∃ (α : Type) (sl : α → List (Nat × AV)) (hp : α → Hp) (pr : α → Prop),
      vD C rd all σ (fun σ' ds' H' => ∃ x, pr x ∧ Ent C n0 N σ' ds' H' (sets (fun _ => .junk) (sl x)) ds (hp x)) X ot [] ds H ∧
      ∀ x, pr x → K (sets (fun _ => .junk) (sl x)) ds (hp x)) :=
  ⟨_, h, .inr ⟨Unit, fun _ => sl, fun _ => hp, fun _ => True, by
    have e : (fun σ' ds' H' => ∃ _x : Unit, True ∧ Ent C n0 N σ' ds' H' (sets (fun _ => .junk) sl) ds hp) = fun σ' ds' H' => Ent C n0 N σ' ds' H' (sets (fun _ => .junk) sl) ds hp := by
      funext a b c
      exact propext ⟨fun ⟨_, _, h⟩ => h, fun h => ⟨(), trivial, h⟩⟩
    rw [e]; exact hv, fun _ _ => hk⟩⟩
abbrev otI:OT:=(.pure 0 (.pure 1 (.pure 2 (.pure 3 (.pure 4 (.pure 5 (.pure 6 (.pure 7 (.pure 8 (.pure 9 (.pure 10 (.pure 11 (.pure 12 (.pure 13 (.pure 14 (.pure 15 (.pure 16 (.pure 17 (.pure 18 (.pure 19 (.pure 20 (.pure 21 (.pure 22 (.pure 23 (.pure 24 (.pure 25 (.pure 26 (.pure 27 (.pure 28 (.pure 29 (.pure 30 (.eff 31 [] (.pure 32 (.pure 33 (.pure 34 .fin))) .nil))))))))))))))))))))))))))))))))
theorem Out.val {α:Type} {b:Bool} {p:Nat} {r:Rd α} {a a':α} {q:Nat} {b':Bool} (h:Out b p r a q b') (e:b'=false→a=a'):Out b p r a' q b':=by
 cases b'
 ·rw [← e rfl];exact h
 ·cases b
  ·exact h
  ·exact h
theorem Out.live {α:Type} {b:Bool} {p:Nat} {r:Rd α} {a:α} {q:Nat} (h:Out b p r a q false):b=false:=by
 cases b
 ·rfl
 ·exact absurd h.1 (by decide)
theorem ints_stop {ws:List Wd} {b0 b b2:Bool} {q0 q q2:Nat} {R:Rd (List Int)} {acc:List Int} {v:Int} (k:LK b0 q0 R (fun f=>(intR ws q).then fun n q'=>intsR ws f (acc++[n]) q') ws.length q b) (o:Out b q (intR ws q) v q2 b2) (hs:b2=false→¬ (txt ws q2=tMinus∨knd ws q2=3)):Out b0 q0 R (acc++[v]) q2 b2:=by
 obtain⟨f,hf,hk⟩:=k
 refine hk _ _ _ (o.then ?_)
 cases b2
 ·have:=hf o.live
  obtain⟨g,rfl⟩:∃ g,f=g+1:=⟨f - 1,by omega⟩
  rw [intsR,if_neg (hs rfl)]
  exact Out.same
 ·exact Out.bad
theorem rints_h (ws:List Wd) (F q0:Nat) (b0:Bool) (hF:ws.length<F) (hg:GoodW ws) (hq0:q0≤ws.length):HoldsG cx 140 [.ptr 0 0 0] (rrH ws q0 b0) (RQ ws b0 q0 (numsR ws F q0) fun l=>.p (ints l)):=by
 refine holdsN_of_vc Tryz.func140 rfl rfl rfl ?_
 have hl:=hg.len
 have hl':(ws.map Wd.cells).length=ws.length:=List.length_map ..
 refine⟨List Int × Nat × Bool,fun x=>[(0, .ptr 0 0 0),(3, .sl 1 1 0 x.1.length)],fun x=>⟨2,[(1,iO x.1),(0,rrO ws x.2.1 x.2.2)]⟩,fun x=>x.2.1≤ws.length∧(x.2.2=true→x.1=[])∧x.1.length≤x.2.1∧LK b0 q0 (numsR ws F q0) (fun f=>(intR ws x.2.1).then fun n q'=>intsR ws f (x.1++[n]) q') ws.length x.2.1 x.2.2,fun x=>ws.length - x.2.1,?_,?_⟩
 ·exact⟨([],q0,b0),⟨hq0,fun _=>rfl,by simp,F,fun _=>by simp only [];omega,fun l q' b' ho=>ho⟩,ent_of [] [] [(1,1)] rfl (sk) (sk) rfl⟩
 rintro⟨acc,q,b⟩ ⟨k1,k2,k3,k4⟩
 simp only [] at k1 k2 k3 k4
 by_cases c:Tk ws b q tMinus
 ·have q1l:q+1≤ws.length:=txt_lt (by rw [c.2];decide)
  refine(take_h ws q b tMinus hg k1 (by decide) (by decide)).holds.useT [] [] rfl (sk) (sk) fun e0 H0 hq=>?_
  obtain⟨rfl,rfl⟩:=hq.1 c
  refine⟨rfl,_,⟨2,(0,rrO ws (q+1) false)::[(1,iO acc)]⟩,rfl,rfl,?_⟩
  refine(rnum_h ws (q+1) false hg q1l).holds.useT [] [] rfl (sk) (sk) fun e0 H0 hq=>?_
  obtain⟨n,q2,b2,q2l,o2,rfl,rfl⟩:=hq
  obtain⟨v,hv⟩:∃ v,v=IntKind.i64.wrap ((-1) * n):=⟨_,rfl⟩
  have hvn:b2=false→-n=v:=fun e=>by
   subst e
   have:=num_bd hg (out_inr o2)
   rw [hv,show(-1) * n=-n by omega]
   exact wrap_i64 (by omega) (by omega)
  have o:Out b q (intR ws q) v q2 b2:=Out.yes c (o2.then (by
   cases b2
   ·exact Out.ret (hvn rfl)
   ·exact Out.bad)).mv
  clear hvn o2
  cases b2
  ·refine⟨rfl,_,⟨2,(0,rrO ws q2 false)::[(1,iO acc)]⟩,rfl,rfl,?_⟩
   refine⟨v,hv,?_⟩
   have hb:=o.live
   have k5:LK b0 q0 (numsR ws F q0) (fun f=>(intR ws q).then fun n q'=>intsR ws f (acc++[n]) q') ws.length q false:=by rw [← hb];exact k4
   have o5:Out false q (intR ws q) v q2 false:=by rw [hb] at o;exact o
   have hlt:=int_lt (out_inr o5)
   refine⟨by show 0+1≤1;omega,[i64 v],rfl,?_⟩
   refine⟨by show 0+acc.length≤(acc.map i64).length;simp,acc.map i64,takeAll (by simp),by show(acc.length+1) * 8≤140737488355328;omega,(acc++[v]).map i64,by simp,?_⟩
   by_cases hs:txt ws q2=tMinus∨knd ws q2=3
   ·have hql:q2<ws.length:=by
     rcases hs with h | h
     ·exact txt_lt (ws:=ws) (q:=q2) (by rw [h];decide)
     ·exact knd_lt (ws:=ws) (q:=q2) (by rw [h];decide)
    refine vdraw_otTo [(0, .ptr 0 0 0),(3, .sl 3 1 0 (acc.length+1)),(48,vB false)] ⟨4,[(3,iO (acc++[v])),(0,rrO ws q2 false)]⟩ otI (by kernel_rfl) ?_ ?_
    ·refine And.intro (fun h=>absurd (show((ws.map Wd.cells).length:Int)≤(q2:Nat) from h) (by rw [hl'];omega)) (fun _=>?_)
     refine⟨_,⟨by omega,(wat ws q2).cells,wdcell (by omega),rfl⟩,?_⟩
     refine And.intro (fun h2=>?_) (fun h2=>?_)
     ·exact ent_of [] [] [] rfl (sk) (sk) rfl
     have h2:¬ knd ws q2=3:=h2
     have c2:Tk ws false q2 tMinus:=⟨rfl,hs.resolve_right h2⟩
     refine(is_h ws q2 false tMinus hg q2l (by decide) (by decide)).holds.useT [] [] rfl (sk) (sk) fun e0 H0 hq=>?_
     obtain⟨rfl,rfl⟩:=hq.1 c2
     refine⟨rfl,_,⟨4,[(0,rrO ws q2 false),(3,iO (acc++[v])),(2,iO [v])]⟩,rfl,rfl,?_⟩
     exact ent_of [] [] [] rfl (sk) (sk) rfl
    exact⟨(acc++[v],q2,false),⟨q2l,fun e=>absurd (show false=true from e) (by decide),by show(acc++[v]).length≤q2;rw [snoc_len];omega,k5.step (fun f l q' b' ho=>o5.then (by rw [intsR,if_pos hs];exact ho)) (fun _=>⟨hlt,q2l⟩)⟩,ent_of [] [(1,3)] [] rfl ⟨⟨rfl,rfl⟩,congrArg (fun k:Nat=>AV.sl 3 1 0 k) (snoc_len acc v).symm,trivial⟩ (sk) rfl,by show ws.length - q2<ws.length - q;omega⟩
   ·refine vdraw_otTo [(0, .ptr 0 0 0),(3, .sl 3 1 0 (acc.length+1)),(48,vB true)] ⟨4,[(3,iO (acc++[v])),(0,rrO ws q2 false)]⟩ otI (by kernel_rfl) ?_ ?_
    ·(first | refine brLt (fun h1=>?_) (fun h1=>?_) | refine brLe (fun h1=>?_) (fun h1=>?_) | refine brEq (fun h1=>?_) (fun h1=>?_))
     ·exact ent_of [] [] [] rfl (sk) (sk) rfl
     have h1:¬ ((ws.map Wd.cells).length:Int)≤(q2:Nat):=h1
     rw [hl'] at h1
     refine⟨_,⟨by omega,(wat ws q2).cells,wdcell (by omega),rfl⟩,?_⟩
     refine And.intro (fun h2=>absurd (.inr h2) hs) (fun _=>?_)
     refine(is_h ws q2 false tMinus hg q2l (by decide) (by decide)).holds.useT [] [] rfl (sk) (sk) fun e0 H0 hq=>?_
     obtain⟨rfl,rfl⟩:=hq.2 (fun c2=>hs (.inl c2.2))
     refine⟨rfl,_,⟨4,[(0,rrO ws q2 false),(3,iO (acc++[v])),(2,iO [v])]⟩,rfl,rfl,?_⟩
     exact ent_of [] [] [] rfl (sk) (sk) rfl
    exact⟨[3],[],[], .returned (.p (ints (acc++[v]))),rrH ws q2 false,rfl,⟨_,rfl,⟨_,rfl,by show 0+(acc.length+1)≤((acc++[v]).map i64).length;simp,takeAll (by simp)⟩⟩,sk,acc++[v],q2,false,q2l,ints_stop k4 o (fun _=>hs),rfl,rfl⟩
  ·refine⟨rfl,_,⟨2,(0,rrO ws q2 true)::[(1,iO acc)]⟩,rfl,rfl,?_⟩
   refine⟨v,hv,?_⟩
   refine⟨by show 0+1≤1;omega,[i64 v],rfl,?_⟩
   refine⟨by show 0+acc.length≤(acc.map i64).length;simp,acc.map i64,takeAll (by simp),by show(acc.length+1) * 8≤140737488355328;omega,(acc++[v]).map i64,by simp,?_⟩
   refine vdraw_ot otI (by kernel_rfl) ?_
   exact⟨[3],[],[], .returned (.p (ints (acc++[v]))),rrH ws q2 true,rfl,⟨_,rfl,⟨_,rfl,by show 0+(acc.length+1)≤((acc++[v]).map i64).length;simp,takeAll (by simp)⟩⟩,sk,acc++[v],q2,true,q2l,ints_stop k4 o (fun e=>by cases e),rfl,rfl⟩
 ·refine(take_h ws q b tMinus hg k1 (by decide) (by decide)).holds.useT [] [] rfl (sk) (sk) fun e0 H0 hq=>?_
  obtain⟨rfl,rfl⟩:=hq.2 c
  refine⟨rfl,_,⟨2,(0,rrO ws q b)::[(1,iO acc)]⟩,rfl,rfl,?_⟩
  refine(rnum_h ws q b hg k1).holds.useT [] [] rfl (sk) (sk) fun e0 H0 hq=>?_
  obtain⟨n,q2,b2,q2l,o2,rfl,rfl⟩:=hq
  obtain⟨v,hv⟩:∃ v,v=IntKind.i64.wrap (1 * n):=⟨_,rfl⟩
  have hvn:b2=false→n=v:=fun e=>by
   subst e
   have hb:=o2.live
   subst hb
   have:=num_bd hg (out_inr o2)
   rw [hv,Int.one_mul]
   exact wrap_i64 (by omega) (by omega)
  have o:Out b q (intR ws q) v q2 b2:=Out.no c (o2.val hvn)
  clear hvn o2
  cases b2
  ·refine⟨rfl,_,⟨2,(0,rrO ws q2 false)::[(1,iO acc)]⟩,rfl,rfl,?_⟩
   refine⟨v,hv,?_⟩
   have hb:=o.live
   have k5:LK b0 q0 (numsR ws F q0) (fun f=>(intR ws q).then fun n q'=>intsR ws f (acc++[n]) q') ws.length q false:=by rw [← hb];exact k4
   have o5:Out false q (intR ws q) v q2 false:=by rw [hb] at o;exact o
   have hlt:=int_lt (out_inr o5)
   refine⟨by show 0+1≤1;omega,[i64 v],rfl,?_⟩
   refine⟨by show 0+acc.length≤(acc.map i64).length;simp,acc.map i64,takeAll (by simp),by show(acc.length+1) * 8≤140737488355328;omega,(acc++[v]).map i64,by simp,?_⟩
   by_cases hs:txt ws q2=tMinus∨knd ws q2=3
   ·have hql:q2<ws.length:=by
     rcases hs with h | h
     ·exact txt_lt (ws:=ws) (q:=q2) (by rw [h];decide)
     ·exact knd_lt (ws:=ws) (q:=q2) (by rw [h];decide)
    refine vdraw_otTo [(0, .ptr 0 0 0),(3, .sl 3 1 0 (acc.length+1)),(48,vB false)] ⟨4,[(3,iO (acc++[v])),(0,rrO ws q2 false)]⟩ otI (by kernel_rfl) ?_ ?_
    ·refine And.intro (fun h=>absurd (show((ws.map Wd.cells).length:Int)≤(q2:Nat) from h) (by rw [hl'];omega)) (fun _=>?_)
     refine⟨_,⟨by omega,(wat ws q2).cells,wdcell (by omega),rfl⟩,?_⟩
     refine And.intro (fun h2=>?_) (fun h2=>?_)
     ·exact ent_of [] [] [] rfl (sk) (sk) rfl
     have h2:¬ knd ws q2=3:=h2
     have c2:Tk ws false q2 tMinus:=⟨rfl,hs.resolve_right h2⟩
     refine(is_h ws q2 false tMinus hg q2l (by decide) (by decide)).holds.useT [] [] rfl (sk) (sk) fun e0 H0 hq=>?_
     obtain⟨rfl,rfl⟩:=hq.1 c2
     refine⟨rfl,_,⟨4,[(0,rrO ws q2 false),(3,iO (acc++[v])),(2,iO [v])]⟩,rfl,rfl,?_⟩
     exact ent_of [] [] [] rfl (sk) (sk) rfl
    exact⟨(acc++[v],q2,false),⟨q2l,fun e=>absurd (show false=true from e) (by decide),by show(acc++[v]).length≤q2;rw [snoc_len];omega,k5.step (fun f l q' b' ho=>o5.then (by rw [intsR,if_pos hs];exact ho)) (fun _=>⟨hlt,q2l⟩)⟩,ent_of [] [(1,3)] [] rfl ⟨⟨rfl,rfl⟩,congrArg (fun k:Nat=>AV.sl 3 1 0 k) (snoc_len acc v).symm,trivial⟩ (sk) rfl,by show ws.length - q2<ws.length - q;omega⟩
   ·refine vdraw_otTo [(0, .ptr 0 0 0),(3, .sl 3 1 0 (acc.length+1)),(48,vB true)] ⟨4,[(3,iO (acc++[v])),(0,rrO ws q2 false)]⟩ otI (by kernel_rfl) ?_ ?_
    ·(first | refine brLt (fun h1=>?_) (fun h1=>?_) | refine brLe (fun h1=>?_) (fun h1=>?_) | refine brEq (fun h1=>?_) (fun h1=>?_))
     ·exact ent_of [] [] [] rfl (sk) (sk) rfl
     have h1:¬ ((ws.map Wd.cells).length:Int)≤(q2:Nat):=h1
     rw [hl'] at h1
     refine⟨_,⟨by omega,(wat ws q2).cells,wdcell (by omega),rfl⟩,?_⟩
     refine And.intro (fun h2=>absurd (.inr h2) hs) (fun _=>?_)
     refine(is_h ws q2 false tMinus hg q2l (by decide) (by decide)).holds.useT [] [] rfl (sk) (sk) fun e0 H0 hq=>?_
     obtain⟨rfl,rfl⟩:=hq.2 (fun c2=>hs (.inl c2.2))
     refine⟨rfl,_,⟨4,[(0,rrO ws q2 false),(3,iO (acc++[v])),(2,iO [v])]⟩,rfl,rfl,?_⟩
     exact ent_of [] [] [] rfl (sk) (sk) rfl
    exact⟨[3],[],[], .returned (.p (ints (acc++[v]))),rrH ws q2 false,rfl,⟨_,rfl,⟨_,rfl,by show 0+(acc.length+1)≤((acc++[v]).map i64).length;simp,takeAll (by simp)⟩⟩,sk,acc++[v],q2,false,q2l,ints_stop k4 o (fun _=>hs),rfl,rfl⟩
  ·refine⟨rfl,_,⟨2,(0,rrO ws q2 true)::[(1,iO acc)]⟩,rfl,rfl,?_⟩
   refine⟨v,hv,?_⟩
   refine⟨by show 0+1≤1;omega,[i64 v],rfl,?_⟩
   refine⟨by show 0+acc.length≤(acc.map i64).length;simp,acc.map i64,takeAll (by simp),by show(acc.length+1) * 8≤140737488355328;omega,(acc++[v]).map i64,by simp,?_⟩
   refine vdraw_ot otI (by kernel_rfl) ?_
   exact⟨[3],[],[], .returned (.p (ints (acc++[v]))),rrH ws q2 true,rfl,⟨_,rfl,⟨_,rfl,by show 0+(acc.length+1)≤((acc++[v]).map i64).length;simp,takeAll (by simp)⟩⟩,sk,acc++[v],q2,true,q2l,ints_stop k4 o (fun e=>by cases e),rfl,rfl⟩
set_option maxHeartbeats 4000000
theorem set_snoc (l:List Int) (n:Int):setN (l++[n])=insN (setN l) n:=by rw [setN,setN,List.foldl_append];rfl
def RQN (ws:List Wd) (b:Bool) (q:Nat) (r:Rd Cd) (e:AE) (H':Hp):Prop:=∃ c q' b',q'≤ws.length∧Out b q r c q' b'∧(∃ y,e=.returned (.p y)∧NilD y c.pv)∧H'=rrH ws q' b'
abbrev RC (ws:List Wd) (b:Bool) (q:Nat) (r:Rd Cd):AE→Hp→Prop:=RQ ws b q r fun c=>.p c.pv
theorem rqN_weak {ws:List Wd} {b:Bool} {q:Nat} {g:FuncId} {args:List AV} {H:Hp} {r:Rd Cd} (h:HoldsG cx g args H (RQN ws b q r)):HoldsG cx g args H (RC ws b q r):=
 h.weak fun e H' hq=>by
  obtain⟨c,q',b',h1,h2,⟨y,rfl,h3⟩,rfl⟩:=hq
  exact⟨.returned (.p c.pv),⟨_,rfl,by simp only [NilA];exact⟨_,rfl,h3⟩⟩,c,q',b',h1,h2,rfl,rfl⟩
abbrev lfI (rf:Rf) (s:List Int):AObj:=cO [.p (i64 5), .p (i64 0), .p (i64 0), .p (i64 0), .p (.str rf.name), .p (i64 rf.mode), .p (.str rf.plate), .p (i64 rf.n), .p (ints s), .p .nils]
abbrev RCondOK (ws:List Wd) (F:Nat) (q:Nat) (b:Bool):Prop:=HoldsG cx 139 [.ptr 0 0 0] (rrH ws q b) (RC ws b q (condR ws F q))
theorem nil_ins (n:Int):NilDL [.nils,i64 n] [ints [],i64 n]:=by
 simp only [NilDL,NilD]
 exact⟨_,_,rfl, .inr (.inl rfl),_,_,rfl,rfl,rfl⟩
theorem rtest_h (ws:List Wd) (F q0:Nat) (b0:Bool) (hg:GoodW ws) (hq0:q0≤ws.length) (hF:4 * (ws.length - q0)+1≤F+1) (hC:∀ q,q≤ws.length→4 * (ws.length - q)+4≤F→RCondOK ws F q false) :
  HoldsG cx 203 [.ptr 0 0 0] (rrH ws q0 b0) (RC ws b0 q0 (testR ws (F+1) q0)):=by
 refine rqN_weak ?_
 refine holdsN_of_vc Tryz.func203 rfl rfl rfl ?_
 have hl:=hg.len
 by_cases c1:Tk ws b0 q0 tLP
 ·have q1l:q0+1≤ws.length:=txt_lt (by rw [c1.2];decide)
  refine(take_h ws q0 b0 tLP hg hq0 (by decide) (by decide)).holds.useT [] [] rfl (sk) (sk) fun e0 H0 hq=>?_
  obtain⟨rfl,rfl⟩:=hq.1 c1
  refine⟨rfl,_,⟨2,(0,rrO ws (q0+1) false)::[(1,zc)]⟩,rfl,rfl,?_⟩
  refine(hC (q0+1) q1l (by omega)).holds.useT [] [] rfl (sk) (sk) fun e0 H0 hq=>?_
  obtain⟨⟨o,n,rl,vl,rf,st,ar⟩,q2,b2,q2l,o2,rfl,rfl⟩:=hq
  refine⟨rfl,_,⟨2,(0,rrO ws q2 b2)::[(1,zc)]⟩,rfl,rfl,?_⟩
  refine(must_h ws q2 b2 tRP hg q2l (by decide) (by decide)).holds.useT [] [] rfl (sk) (sk) fun e0 H0 hq=>?_
  obtain⟨u3,q3,b3,q3l,o3,rfl,rfl⟩:=hq
  refine⟨rfl,_,⟨3,(0,rrO ws q3 b3)::[(2,cO ((Cd.mk o n rl vl rf st ar).cells.map .p)),(1,zc)]⟩,rfl,rfl,?_⟩
  exact⟨[],[],[], .returned (.p (Cd.mk o n rl vl rf st ar).pv),rrH ws q3 b3,rfl,sk,sk,_,q3,b3,q3l,by rw [testR];exact Out.yes c1 (o2.then (o3.then Out.same)).mv,⟨_,rfl,NilD.refl _⟩,rfl⟩
 refine(take_h ws q0 b0 tLP hg hq0 (by decide) (by decide)).holds.useT [] [] rfl (sk) (sk) fun e0 H0 hq=>?_
 obtain⟨rfl,rfl⟩:=hq.2 c1
 refine⟨rfl,_,⟨2,(0,rrO ws q0 b0)::[(1,zc)]⟩,rfl,rfl,?_⟩
 by_cases c2:Tk ws b0 q0 tCount
 ·have q1l:q0+1≤ws.length:=txt_lt (by rw [c2.2];decide)
  refine(take_h ws q0 b0 tCount hg hq0 (by decide) (by decide)).holds.useT [] [] rfl (sk) (sk) fun e0 H0 hq=>?_
  obtain⟨rfl,rfl⟩:=hq.1 c2
  refine⟨rfl,_,⟨3,(0,rrO ws (q0+1) false)::[(2,zc),(1,zc)]⟩,rfl,rfl,?_⟩
  refine(must_h ws (q0+1) false tLP hg q1l (by decide) (by decide)).holds.useT [] [] rfl (sk) (sk) fun e0 H0 hq=>?_
  obtain⟨u2,q2,b2,q2l,o2,rfl,rfl⟩:=hq
  refine⟨rfl,_,⟨3,(0,rrO ws q2 b2)::[(2,lf 6 0 0 0 rf0),(1,zc)]⟩,rfl,rfl,?_⟩
  refine(rname_h ws q2 b2 hg q2l).holds.useT [] [] rfl (sk) (sk) fun e0 H0 hq=>?_
  obtain⟨nm,q3,b3,q3l,o3,rfl,rfl⟩:=hq
  refine⟨rfl,_,⟨3,(0,rrO ws q3 b3)::[(2,lf 6 0 0 0 rf0),(1,zc)]⟩,rfl,rfl,?_⟩
  refine(must_h ws q3 b3 tLB hg q3l (by decide) (by decide)).holds.useT [] [] rfl (sk) (sk) fun e0 H0 hq=>?_
  obtain⟨u4,q4,b4,q4l,o4,rfl,rfl⟩:=hq
  refine⟨rfl,_,⟨3,(0,rrO ws q4 b4)::[(2,lf 6 0 0 0 ⟨nm,3,[],0⟩),(1,zc)]⟩,rfl,rfl,?_⟩
  refine(must_h ws q4 b4 tAll hg q4l (by decide) (by decide)).holds.useT [] [] rfl (sk) (sk) fun e0 H0 hq=>?_
  obtain⟨u5,q5,b5,q5l,o5,rfl,rfl⟩:=hq
  refine⟨rfl,_,⟨3,(0,rrO ws q5 b5)::[(2,lf 6 0 0 0 ⟨nm,3,[],0⟩),(1,zc)]⟩,rfl,rfl,?_⟩
  refine(must_h ws q5 b5 tRB hg q5l (by decide) (by decide)).holds.useT [] [] rfl (sk) (sk) fun e0 H0 hq=>?_
  obtain⟨u6,q6,b6,q6l,o6,rfl,rfl⟩:=hq
  refine⟨rfl,_,⟨3,(0,rrO ws q6 b6)::[(2,lf 6 0 0 0 ⟨nm,3,[],0⟩),(1,zc)]⟩,rfl,rfl,?_⟩
  refine(must_h ws q6 b6 tEq hg q6l (by decide) (by decide)).holds.useT [] [] rfl (sk) (sk) fun e0 H0 hq=>?_
  obtain⟨u7,q7,b7,q7l,o7,rfl,rfl⟩:=hq
  refine⟨rfl,_,⟨3,(0,rrO ws q7 b7)::[(2,lf 6 0 0 0 ⟨nm,3,[],0⟩),(1,zc)]⟩,rfl,rfl,?_⟩
  refine(rnum_h ws q7 b7 hg q7l).holds.useT [] [] rfl (sk) (sk) fun e0 H0 hq=>?_
  obtain⟨v,q8,b8,q8l,o8,rfl,rfl⟩:=hq
  refine⟨rfl,_,⟨3,(0,rrO ws q8 b8)::[(2,lf 6 0 0 0 ⟨nm,3,[],0⟩),(1,zc)]⟩,rfl,rfl,?_⟩
  refine(must_h ws q8 b8 tRP hg q8l (by decide) (by decide)).holds.useT [] [] rfl (sk) (sk) fun e0 H0 hq=>?_
  obtain⟨u9,q9,b9,q9l,o9,rfl,rfl⟩:=hq
  refine⟨rfl,_,⟨3,(0,rrO ws q9 b9)::[(2,lf 6 0 0 v ⟨nm,3,[],0⟩),(1,zc)]⟩,rfl,rfl,?_⟩
  refine(rrel_h ws q9 b9 hg q9l).holds.useT [] [] rfl (sk) (sk) fun e0 H0 hq=>?_
  obtain⟨r,q10,b10,q10l,o10,rfl,rfl⟩:=hq
  refine⟨rfl,_,⟨3,(0,rrO ws q10 b10)::[(2,lf 6 0 0 v ⟨nm,3,[],0⟩),(1,zc)]⟩,rfl,rfl,?_⟩
  refine(rnum_h ws q10 b10 hg q10l).holds.useT [] [] rfl (sk) (sk) fun e0 H0 hq=>?_
  obtain⟨n,q11,b11,q11l,o11,rfl,rfl⟩:=hq
  refine⟨rfl,_,⟨3,(0,rrO ws q11 b11)::[(2,lf 6 0 r v ⟨nm,3,[],0⟩),(1,zc)]⟩,rfl,rfl,?_⟩
  have om:Out b3 q3 (mustsR ws [tLB,tAll,tRB,tEq] q3) () q7 b7:=o4.then (o5.then (o6.then (o7.then Out.same)))
  exact⟨[],[],[], .returned (.p (.agg [i64 6,i64 n,i64 r,i64 v, .str nm,i64 3, .str [],i64 0, .nils, .nils])),rrH ws q11 b11,rfl,sk,sk, .mk 6 n r v ⟨nm,3,[],0⟩ [] [],q11,b11,q11l,by rw [testR];exact Out.no c1 (Out.yes c2 (o2.then (o3.then (om.then (o8.then (o9.then (o10.then (o11.then Out.same))))))).mv),⟨_,rfl,nil_leaf2 6 n r v ⟨nm,3,[],0⟩⟩,rfl⟩
 refine(take_h ws q0 b0 tCount hg hq0 (by decide) (by decide)).holds.useT [] [] rfl (sk) (sk) fun e0 H0 hq=>?_
 obtain⟨rfl,rfl⟩:=hq.2 c2
 refine⟨rfl,_,⟨3,(0,rrO ws q0 b0)::[(2,zc),(1,zc)]⟩,rfl,rfl,?_⟩
 refine(rref_h ws q0 b0 hg hq0).holds.useT [] [] rfl (sk) (sk) fun e0 H0 hq=>?_
 obtain⟨rf,q1,b1,q1l,o1,rfl,rfl⟩:=hq
 refine⟨rfl,_,⟨3,(0,rrO ws q1 b1)::[(2,zc),(1,zc)]⟩,rfl,rfl,?_⟩
 by_cases c3:Tk ws b1 q1 tIn
 rotate_left
 ·refine(take_h ws q1 b1 tIn hg q1l (by decide) (by decide)).holds.useT [] [] rfl (sk) (sk) fun e0 H0 hq=>?_
  obtain⟨rfl,rfl⟩:=hq.2 c3
  refine⟨rfl,_,⟨3,(0,rrO ws q1 b1)::[(2,lf 0 0 0 0 rf),(1,zc)]⟩,rfl,rfl,?_⟩
  refine(rrel_h ws q1 b1 hg q1l).holds.useT [] [] rfl (sk) (sk) fun e0 H0 hq=>?_
  obtain⟨o,q2,b2,q2l,o2,rfl,rfl⟩:=hq
  refine⟨rfl,_,⟨3,(0,rrO ws q2 b2)::[(2,lf 0 0 0 0 rf),(1,zc)]⟩,rfl,rfl,?_⟩
  refine(rnum_h ws q2 b2 hg q2l).holds.useT [] [] rfl (sk) (sk) fun e0 H0 hq=>?_
  obtain⟨n,q3,b3,q3l,o3,rfl,rfl⟩:=hq
  refine⟨rfl,_,⟨3,(0,rrO ws q3 b3)::[(2,lf o 0 0 0 rf),(1,zc)]⟩,rfl,rfl,?_⟩
  exact⟨[],[],[], .returned (.p (.agg [i64 o,i64 n,i64 0,i64 0, .str rf.name,i64 rf.mode, .str rf.plate,i64 rf.n, .nils, .nils])),rrH ws q3 b3,rfl,sk,sk, .mk o n 0 0 rf [] [],q3,b3,q3l,by rw [testR];exact Out.no c1 (Out.no c2 (o1.then (Out.no c3 (o2.then (o3.then Out.same))))),⟨_,rfl,nil_leaf2 o n 0 0 rf⟩,rfl⟩
 have q2l:q1+1≤ws.length:=txt_lt (by rw [c3.2];decide)
 refine(take_h ws q1 b1 tIn hg q1l (by decide) (by decide)).holds.useT [] [] rfl (sk) (sk) fun e0 H0 hq=>?_
 obtain⟨rfl,rfl⟩:=hq.1 c3
 refine⟨rfl,_,⟨3,(0,rrO ws (q1+1) false)::[(2,lf 0 0 0 0 rf),(1,zc)]⟩,rfl,rfl,?_⟩
 refine(must_h ws (q1+1) false tLC hg q2l (by decide) (by decide)).holds.useT [] [] rfl (sk) (sk) fun e0 H0 hq=>?_
 obtain⟨u3,q3,b3,q3l,o3,rfl,rfl⟩:=hq
 refine⟨rfl,_,⟨3,(0,rrO ws q3 b3)::[(2,lf 5 0 0 0 rf),(1,zc)]⟩,rfl,rfl,?_⟩
 refine(rnum_h ws q3 b3 hg q3l).holds.useT [] [] rfl (sk) (sk) fun e0 H0 hq=>?_
 obtain⟨n0,q4,b4,q4l,o4,rfl,rfl⟩:=hq
 refine⟨rfl,_,⟨3,(0,rrO ws q4 b4)::[(2,lf 5 0 0 0 rf),(1,zc)]⟩,rfl,rfl,?_⟩
 refine((insert_c [] n0 List.Pairwise.nil (by simp)).arg (nil_ins n0)).eq rfl ?_
 have hlt1:b1=false:=c3.1
 have hFq:b3=false→ws.length - q4<F∧(b4=false→q3<q4):=fun e=>by
  subst e
  have h3:=must_lt (out_inr o3)
  subst hlt1
  have hb0:=o1.live
  subst hb0
  have h1:=ref_lt (out_inr o1)
  refine⟨?_,fun e=>?_⟩
  ·cases b4
   ·have:=num_lt (out_inr o4)
    omega
   ·have:q3≤q4:=by
     have h4:numR ws q3=.inl q4:=o4
     rw [numR] at h4
     split at h4
     ·cases h4
     ·injection h4 with h4;omega
    omega
  ·subst e;exact num_lt (out_inr o4)
 have hlist:LK b3 q3 (listR ws (numR ws) F q3) (fun f=>moreR ws (numR ws) f [n0] q4) ws.length q4 b4:=⟨F,fun e=>by subst e;exact(hFq o4.live).1,fun l q' b' ho=>o4.then ho⟩
 refine⟨List Int × List Int × Nat × Bool,fun x=>[(0, .ptr 0 0 0),(2, .ptr 1 0 0),(4, .ptr 2 0 0)],fun x=>⟨3,[(0,rrO ws x.2.2.1 x.2.2.2),(2,lfI rf x.2.1),(1,zc)]⟩,fun x=>x.2.2.1≤ws.length∧(x.2.2.2=false→x.1.length≤x.2.2.1)∧x.1.length≤1501∧(x.2.1=setN x.1∧Inc x.2.1∧x.2.1.length≤x.1.length)∧LK b3 q3 (listR ws (numR ws) F q3) (fun f=>moreR ws (numR ws) f x.1 x.2.2.1) ws.length x.2.2.1 x.2.2.2,fun x=>if x.2.2.2=true then 0 else ws.length+1 - x.2.2.1,?_,?_⟩
 ·exact⟨([n0],[n0],q4,b4),⟨q4l,fun e=>by simp only [] at e;have:=(hFq (by subst e;exact o4.live)).2 e;simp only [List.length_singleton];omega,by simp,⟨rfl,by simp [Inc],by simp⟩,hlist⟩,ent_of [] [] [] rfl (sk) (sk) rfl⟩
 clear hlist hFq
 rintro⟨acc,s,q,b⟩ ⟨k1,k2,k3,⟨k5,k6,k7⟩,k4⟩
 simp only [] at k1 k2 k3 k4 k5 k6 k7
 by_cases c:Tk ws b q tComma
 ·have ql:q+1≤ws.length:=txt_lt (by rw [c.2];decide)
  refine(take_h ws q b tComma hg k1 (by decide) (by decide)).holds.useT [] [] rfl (sk) (sk) fun e0 H0 hq=>?_
  obtain⟨rfl,rfl⟩:=hq.1 c
  refine⟨rfl,_,⟨3,(0,rrO ws (q+1) false)::[(2,lfI rf s),(1,zc)]⟩,rfl,rfl,?_⟩
  refine VDraw.seq rfl ?_
  refine(rnum_h ws (q+1) false hg ql).holds.useT [] [] rfl (sk) (sk) fun e0 H0 hq=>?_
  obtain⟨n,q5,b5,q5l,o5,rfl,rfl⟩:=hq
  refine⟨rfl,_,⟨3,(0,rrO ws q5 b5)::[(2,lfI rf s),(1,zc)]⟩,rfl,rfl,?_⟩
  refine⟨sk,?_⟩
  refine(insert_c s n k6 (by omega)).eq rfl ?_
  have hal:=k2 c.1
  have hlt:b5=false→q+1<q5:=fun e=>by subst e;exact num_lt (out_inr o5)
  have hil:=ins_len s n
  have c':=c
  obtain⟨rfl,ct⟩:=c'
  exact⟨(acc++[n],insN s n,q5,b5),⟨q5l,fun e=>by have:=hlt e;show(acc++[n]).length≤q5;rw [snoc_len];omega,by show(acc++[n]).length≤1501;rw [snoc_len];omega,⟨by show insN s n=setN (acc++[n]);rw [set_snoc,k5],ins_inc s n k6,by show(insN s n).length≤(acc++[n]).length;rw [snoc_len];omega⟩,k4.step (fun f l q' b' ho=>by rw [moreR];exact Out.yes ⟨rfl,ct⟩ (o5.then ho).mv) (fun e=>⟨by have:=hlt e;show q<q5;omega,q5l⟩)⟩,ent_of [] [] [] rfl (sk) (sk) rfl,by show(if b5=true then 0 else ws.length+1 - q5)<(if false=true then 0 else ws.length+1 - q);cases b5 <;> simp <;> (try have:=hlt rfl) <;> omega⟩
 ·refine(take_h ws q b tComma hg k1 (by decide) (by decide)).holds.useT [] [] rfl (sk) (sk) fun e0 H0 hq=>?_
  obtain⟨rfl,rfl⟩:=hq.2 c
  refine⟨rfl,_,⟨3,(0,rrO ws q b)::[(2,lfI rf s),(1,zc)]⟩,rfl,rfl,?_⟩
  have ol:=k4.stop (fun e f=>by rw [moreR,if_neg (fun h=>c ⟨e,h⟩)])
  refine(must_h ws q b tRC hg k1 (by decide) (by decide)).holds.useT [] [] rfl (sk) (sk) fun e0 H0 hq=>?_
  obtain⟨u6,q6,b6,q6l,o6,rfl,rfl⟩:=hq
  refine⟨rfl,_,⟨3,(0,rrO ws q6 b6)::[(2,lfI rf s),(1,zc)]⟩,rfl,rfl,?_⟩
  exact⟨[],[],[], .returned (.p (.agg [i64 5,i64 0,i64 0,i64 0, .str rf.name,i64 rf.mode, .str rf.plate,i64 rf.n,ints s, .nils])),rrH ws q6 b6,rfl,sk,sk, .mk 5 0 0 0 rf s [],q6,b6,q6l,by rw [testR];exact Out.no c1 (Out.no c2 (o1.then (Out.yes c3 (o3.then (ol.then (o6.then (Out.ret (by rw [k5]))))).mv))),⟨_,rfl,nil_leaf 5 0 0 0 rf s⟩,rfl⟩
structure RAll (ws:List Wd) (f:Nat):Prop where
 cond:∀ q b,q≤ws.length→4 * (ws.length - q)+4≤f→RCondOK ws f q b
 conj:∀ q b,q≤ws.length→4 * (ws.length - q)+3≤f→HoldsG cx 173 [.ptr 0 0 0] (rrH ws q b) (RC ws b q (conjR ws f q))
 neg:∀ q b,q≤ws.length→4 * (ws.length - q)+2≤f→HoldsG cx 194 [.ptr 0 0 0] (rrH ws q b) (RC ws b q (negR ws f q))
 test:∀ q b,q≤ws.length→4 * (ws.length - q)+1≤f→HoldsG cx 203 [.ptr 0 0 0] (rrH ws q b) (RC ws b q (testR ws f q))
theorem rneg_h (ws:List Wd) (F q0:Nat) (b0:Bool) (hg:GoodW ws) (hq0:q0≤ws.length) (hF:4 * (ws.length - q0)+2≤F+1) (ih:RAll ws F) :
  HoldsG cx 194 [.ptr 0 0 0] (rrH ws q0 b0) (RC ws b0 q0 (negR ws (F+1) q0)):=by
 refine holdsN_of_vc Tryz.func194 rfl rfl rfl ?_
 have hl:=hg.len
 by_cases c1:Tk ws b0 q0 tNot
 ·have q1l:q0+1≤ws.length:=txt_lt (by rw [c1.2];decide)
  refine(take_h ws q0 b0 tNot hg hq0 (by decide) (by decide)).holds.useT [] [] rfl (sk) (sk) fun e0 H0 hq=>?_
  obtain⟨rfl,rfl⟩:=hq.1 c1
  refine⟨rfl,_,⟨2,(0,rrO ws (q0+1) false)::[(1,zc)]⟩,rfl,rfl,?_⟩
  refine(ih.neg (q0+1) false q1l (by omega)).holds.useT [] [] rfl (sk) (sk) fun e0 H0 hq=>?_
  obtain⟨⟨o,n,rl,vl,rf,st,ar⟩,q2,b2,q2l,o2,rfl,rfl⟩:=hq
  refine⟨rfl,_,⟨2,(0,rrO ws q2 b2)::[(1,zc)]⟩,rfl,rfl,?_⟩
  exact⟨[2],[],[], .returned (.p (Cd.mk 7 0 0 0 rf0 [] [.mk o n rl vl rf st ar]).pv),rrH ws q2 b2,rfl,⟨_,rfl,⟨_,rfl,_,_,rfl,rfl,_,_,rfl,rfl,_,_,rfl,rfl,_,_,rfl,rfl,_,_,rfl,rfl,_,_,rfl,rfl,_,_,rfl,rfl,_,_,rfl,rfl,_,_,rfl, .inr (.inl rfl),_,_,rfl,⟨_,rfl,by show 0+1≤1;omega,rfl⟩,rfl⟩⟩,sk,_,q2,b2,q2l,by rw [negR];exact Out.yes c1 (o2.then Out.same).mv,rfl,rfl⟩
 refine(take_h ws q0 b0 tNot hg hq0 (by decide) (by decide)).holds.useT [] [] rfl (sk) (sk) fun e0 H0 hq=>?_
 obtain⟨rfl,rfl⟩:=hq.2 c1
 refine⟨rfl,_,⟨2,(0,rrO ws q0 b0)::[(1,zc)]⟩,rfl,rfl,?_⟩
 refine(ih.test q0 b0 hq0 (by omega)).holds.useT [] [] rfl (sk) (sk) fun e0 H0 hq=>?_
 obtain⟨⟨o,n,rl,vl,rf,st,ar⟩,q2,b2,q2l,o2,rfl,rfl⟩:=hq
 refine⟨rfl,_,⟨2,(0,rrO ws q2 b2)::[(1,zc)]⟩,rfl,rfl,?_⟩
 exact⟨[],[],[], .returned (.p (Cd.mk o n rl vl rf st ar).pv),rrH ws q2 b2,rfl,sk,sk,_,q2,b2,q2l,by rw [negR];exact Out.no c1 o2,rfl,rfl⟩
theorem rconj_h (ws:List Wd) (F q0:Nat) (b0:Bool) (hg:GoodW ws) (hq0:q0≤ws.length) (hF:4 * (ws.length - q0)+3≤F+1) (ih:∀ f,f≤F→RAll ws f) :
  HoldsG cx 173 [.ptr 0 0 0] (rrH ws q0 b0) (RC ws b0 q0 (conjR ws (F+1) q0)):=by
 refine holdsN_of_vc Tryz.func173 rfl rfl rfl ?_
 have hl:=hg.len
 refine((ih F (Nat.le_refl _)).neg q0 b0 hq0 (by omega)).holds.useT [] [] rfl (sk) (sk) fun e0 H0 hq=>?_
 obtain⟨⟨o,n,rl,vl,rf,st,ar⟩,q1,b1,q1l,o1,rfl,rfl⟩:=hq
 refine⟨rfl,_,⟨2,(0,rrO ws q1 b1)::[(1,zc)]⟩,rfl,rfl,?_⟩
 have hlt1:b1=false→q0<q1:=fun e=>by
  subst e
  have:=o1.live
  subst this
  exact neg_lt F (out_inr o1)
 refine⟨Cd × Nat × Bool,fun x=>[(0, .ptr 0 0 0),(2, .ptr 1 0 0),(3, .ptr 2 0 0)],fun x=>⟨3,[(2,cO (x.1.cells.map .p)),(0,rrO ws x.2.1 x.2.2),(1,zc)]⟩,fun x=>x.2.1≤ws.length∧∃ f,f≤F∧(x.2.2=false→4 * (ws.length - x.2.1)+2≤f)∧∀ l q' b',Out x.2.2 x.2.1 (andR ws f x.1 x.2.1) l q' b'→Out b0 q0 (conjR ws (F+1) q0) l q' b',fun x=>if x.2.2=true then 0 else ws.length+1 - x.2.1,?_,?_⟩
 ·exact⟨(.mk o n rl vl rf st ar,q1,b1),⟨q1l,F,Nat.le_refl _,fun e=>by simp only [] at e ⊢;have:=hlt1 e;omega,fun l q' b' ho=>by rw [conjR];exact o1.then ho⟩,ent_of [] [] [] rfl (sk) (sk) rfl⟩
 clear o1 hlt1
 rintro⟨⟨o,n,rl,vl,rf,st,ar⟩,q,b⟩ ⟨k1,f,k0,k2,k3⟩
 simp only [] at k1 k0 k2 k3
 by_cases c1:Tk ws b q tAnd
 ·have ql:q+1≤ws.length:=txt_lt (by rw [c1.2];decide)
  have hf:=k2 c1.1
  obtain⟨f,rfl⟩:∃ g,f=g+1:=⟨f - 1,by omega⟩
  refine(take_h ws q b tAnd hg k1 (by decide) (by decide)).holds.useT [] [] rfl (sk) (sk) fun e0 H0 hq=>?_
  obtain⟨rfl,rfl⟩:=hq.1 c1
  refine⟨rfl,_,⟨3,(0,rrO ws (q+1) false)::[(2,cO ((Cd.mk o n rl vl rf st ar).cells.map .p)),(1,zc)]⟩,rfl,rfl,?_⟩
  refine VDraw.seq rfl ?_
  refine((ih f (by omega)).neg (q+1) false ql (by omega)).holds.useT [] [] rfl (sk) (sk) fun e0 H0 hq=>?_
  obtain⟨⟨o',n',rl',vl',rf',st',ar'⟩,q2,b2,q2l,o2,rfl,rfl⟩:=hq
  have hlt2:b2=false→q+1<q2:=fun e=>by subst e;exact neg_lt f (out_inr o2)
  refine⟨rfl,_,⟨3,(0,rrO ws q2 b2)::[(2,cO ((Cd.mk o n rl vl rf st ar).cells.map .p)),(1,zc)]⟩,rfl,rfl,?_⟩
  refine⟨sk,?_⟩
  have c':=c1
  obtain⟨rfl,ct⟩:=c'
  exact⟨(.mk 8 0 0 0 rf0 [] [.mk o n rl vl rf st ar, .mk o' n' rl' vl' rf' st' ar'],q2,b2),⟨q2l,f,by omega,fun e=>by simp only [] at e ⊢;have:=hlt2 e;omega,fun l q' b' ho=>k3 l q' b' (by rw [andR];exact Out.yes ⟨rfl,ct⟩ (o2.then ho).mv)⟩,ent_of [3] [] [] rfl ⟨⟨rfl,rfl⟩,⟨rfl,rfl⟩,⟨rfl,rfl⟩,trivial⟩
   ⟨⟨_,rfl,rfl,rfl,_,rfl,_,_,rfl,rfl,_,_,rfl,rfl,_,_,rfl,rfl,_,_,rfl,rfl,_,_,rfl,rfl,_,_,rfl,rfl,_,_,rfl,rfl,_,_,rfl,rfl,_,_,rfl, .inr (.inl rfl),_,_,rfl,⟨_,rfl,by show 0+2≤2;omega,rfl⟩,rfl⟩,sk⟩ rfl,by show(if b2=true then 0 else ws.length+1 - q2)<(if false=true then 0 else ws.length+1 - q);cases b2 <;> simp <;> (try have:=hlt2 rfl) <;> omega⟩
 ·refine(take_h ws q b tAnd hg k1 (by decide) (by decide)).holds.useT [] [] rfl (sk) (sk) fun e0 H0 hq=>?_
  obtain⟨rfl,rfl⟩:=hq.2 c1
  refine⟨rfl,_,⟨3,(0,rrO ws q b)::[(2,cO ((Cd.mk o n rl vl rf st ar).cells.map .p)),(1,zc)]⟩,rfl,rfl,?_⟩
  have hst:Out b q (andR ws f (.mk o n rl vl rf st ar) q) (.mk o n rl vl rf st ar) q b:=by
   cases b
   ·have hf:=k2 rfl
    obtain⟨f,rfl⟩:∃ g,f=g+1:=⟨f - 1,by omega⟩
    rw [andR,if_neg (fun h=>c1 ⟨rfl,h⟩)]
    exact Out.same
   ·exact Out.bad
  exact⟨[],[],[], .returned (.p (Cd.mk o n rl vl rf st ar).pv),rrH ws q b,rfl,sk,sk,_,q,b,k1,k3 _ _ _ hst,rfl,rfl⟩
theorem rcond_h (ws:List Wd) (F q0:Nat) (b0:Bool) (hg:GoodW ws) (hq0:q0≤ws.length) (hF:4 * (ws.length - q0)+4≤F+1) (ih:∀ f,f≤F→RAll ws f) :
  HoldsG cx 139 [.ptr 0 0 0] (rrH ws q0 b0) (RC ws b0 q0 (condR ws (F+1) q0)):=by
 refine holdsN_of_vc Tryz.func139 rfl rfl rfl ?_
 have hl:=hg.len
 refine((ih F (Nat.le_refl _)).conj q0 b0 hq0 (by omega)).holds.useT [] [] rfl (sk) (sk) fun e0 H0 hq=>?_
 obtain⟨⟨o,n,rl,vl,rf,st,ar⟩,q1,b1,q1l,o1,rfl,rfl⟩:=hq
 refine⟨rfl,_,⟨2,(0,rrO ws q1 b1)::[(1,zc)]⟩,rfl,rfl,?_⟩
 have hlt1:b1=false→q0<q1:=fun e=>by
  subst e
  have:=o1.live
  subst this
  exact conj_lt F (out_inr o1)
 refine⟨Cd × Nat × Bool,fun x=>[(0, .ptr 0 0 0),(2, .ptr 1 0 0),(3, .ptr 2 0 0)],fun x=>⟨3,[(2,cO (x.1.cells.map .p)),(0,rrO ws x.2.1 x.2.2),(1,zc)]⟩,fun x=>x.2.1≤ws.length∧∃ f,f≤F∧(x.2.2=false→4 * (ws.length - x.2.1)+3≤f)∧∀ l q' b',Out x.2.2 x.2.1 (orR ws f x.1 x.2.1) l q' b'→Out b0 q0 (condR ws (F+1) q0) l q' b',fun x=>if x.2.2=true then 0 else ws.length+1 - x.2.1,?_,?_⟩
 ·exact⟨(.mk o n rl vl rf st ar,q1,b1),⟨q1l,F,Nat.le_refl _,fun e=>by simp only [] at e ⊢;have:=hlt1 e;omega,fun l q' b' ho=>by rw [condR];exact o1.then ho⟩,ent_of [] [] [] rfl (sk) (sk) rfl⟩
 clear o1 hlt1
 rintro⟨⟨o,n,rl,vl,rf,st,ar⟩,q,b⟩ ⟨k1,f,k0,k2,k3⟩
 simp only [] at k1 k0 k2 k3
 by_cases c1:Tk ws b q tOr
 ·have ql:q+1≤ws.length:=txt_lt (by rw [c1.2];decide)
  have hf:=k2 c1.1
  obtain⟨f,rfl⟩:∃ g,f=g+1:=⟨f - 1,by omega⟩
  refine(take_h ws q b tOr hg k1 (by decide) (by decide)).holds.useT [] [] rfl (sk) (sk) fun e0 H0 hq=>?_
  obtain⟨rfl,rfl⟩:=hq.1 c1
  refine⟨rfl,_,⟨3,(0,rrO ws (q+1) false)::[(2,cO ((Cd.mk o n rl vl rf st ar).cells.map .p)),(1,zc)]⟩,rfl,rfl,?_⟩
  refine VDraw.seq rfl ?_
  refine((ih f (by omega)).conj (q+1) false ql (by omega)).holds.useT [] [] rfl (sk) (sk) fun e0 H0 hq=>?_
  obtain⟨⟨o',n',rl',vl',rf',st',ar'⟩,q2,b2,q2l,o2,rfl,rfl⟩:=hq
  have hlt2:b2=false→q+1<q2:=fun e=>by subst e;exact conj_lt f (out_inr o2)
  refine⟨rfl,_,⟨3,(0,rrO ws q2 b2)::[(2,cO ((Cd.mk o n rl vl rf st ar).cells.map .p)),(1,zc)]⟩,rfl,rfl,?_⟩
  refine⟨sk,?_⟩
  have c':=c1
  obtain⟨rfl,ct⟩:=c'
  exact⟨(.mk 9 0 0 0 rf0 [] [.mk o n rl vl rf st ar, .mk o' n' rl' vl' rf' st' ar'],q2,b2),⟨q2l,f,by omega,fun e=>by simp only [] at e ⊢;have:=hlt2 e;omega,fun l q' b' ho=>k3 l q' b' (by rw [orR];exact Out.yes ⟨rfl,ct⟩ (o2.then ho).mv)⟩,ent_of [3] [] [] rfl ⟨⟨rfl,rfl⟩,⟨rfl,rfl⟩,⟨rfl,rfl⟩,trivial⟩
   ⟨⟨_,rfl,rfl,rfl,_,rfl,_,_,rfl,rfl,_,_,rfl,rfl,_,_,rfl,rfl,_,_,rfl,rfl,_,_,rfl,rfl,_,_,rfl,rfl,_,_,rfl,rfl,_,_,rfl,rfl,_,_,rfl, .inr (.inl rfl),_,_,rfl,⟨_,rfl,by show 0+2≤2;omega,rfl⟩,rfl⟩,sk⟩ rfl,by show(if b2=true then 0 else ws.length+1 - q2)<(if false=true then 0 else ws.length+1 - q);cases b2 <;> simp <;> (try have:=hlt2 rfl) <;> omega⟩
 ·refine(take_h ws q b tOr hg k1 (by decide) (by decide)).holds.useT [] [] rfl (sk) (sk) fun e0 H0 hq=>?_
  obtain⟨rfl,rfl⟩:=hq.2 c1
  refine⟨rfl,_,⟨3,(0,rrO ws q b)::[(2,cO ((Cd.mk o n rl vl rf st ar).cells.map .p)),(1,zc)]⟩,rfl,rfl,?_⟩
  have hst:Out b q (orR ws f (.mk o n rl vl rf st ar) q) (.mk o n rl vl rf st ar) q b:=by
   cases b
   ·have hf:=k2 rfl
    obtain⟨f,rfl⟩:∃ g,f=g+1:=⟨f - 1,by omega⟩
    rw [orR,if_neg (fun h=>c1 ⟨rfl,h⟩)]
    exact Out.same
   ·exact Out.bad
  exact⟨[],[],[], .returned (.p (Cd.mk o n rl vl rf st ar).pv),rrH ws q b,rfl,sk,sk,_,q,b,k1,k3 _ _ _ hst,rfl,rfl⟩
theorem rc_all (ws:List Wd) (hg:GoodW ws):∀ F f,f≤F→RAll ws f
 | 0,f,hf=>by
  have:f=0:=by omega
  subst this
  exact⟨fun q _ _ h=>absurd h (by omega),fun q _ _ h=>absurd h (by omega),fun q _ _ h=>absurd h (by omega),fun q _ _ h=>absurd h (by omega)⟩
 | F+1,f,hf=>by
  have ih:=rc_all ws hg F
  by_cases h:f≤F
  ·exact ih f h
  have:f=F+1:=by omega
  subst this
  exact⟨fun q b hq hb=>rcond_h ws F q b hg hq hb ih,fun q b hq hb=>rconj_h ws F q b hg hq hb ih,fun q b hq hb=>rneg_h ws F q b hg hq hb (ih F (Nat.le_refl _)),fun q b hq hb=>rtest_h ws F q b hg hq hb fun q hq hb=>(ih F (Nat.le_refl _)).cond q false hq hb⟩
theorem rcond_all (ws:List Wd) (F q:Nat) (b:Bool) (hg:GoodW ws) (hq:q≤ws.length) (hF:4 * (ws.length - q)+4≤F):RCondOK ws F q b:=(rc_all ws hg F F (Nat.le_refl _)).cond q b hq hF
def RQG {α:Type} (ws:List Wd) (b:Bool) (q:Nat) (r:Rd α) (val:α→PV) (e:AE) (H':Hp):Prop:=∃ a q' b',q'≤ws.length∧Out b q r a q' b'∧(∃ y,e=.returned (.p y)∧NilD y (val a))∧H'=rrH ws q' b'
theorem rqG_weak {α:Type} {ws:List Wd} {b:Bool} {q:Nat} {g:FuncId} {args:List AV} {H:Hp} {r:Rd α} {val:α→PV} (h:HoldsG cx g args H (RQG ws b q r val)):HoldsG cx g args H (RQ ws b q r fun a=>.p (val a)):=
 h.weak fun e H' hq=>by
  obtain⟨c,q',b',h1,h2,⟨y,rfl,h3⟩,rfl⟩:=hq
  exact⟨.returned (.p (val c)),⟨_,rfl,by simp only [NilA];exact⟨_,rfl,h3⟩⟩,c,q',b',h1,h2,rfl,rfl⟩
def cC (c:Cd) (v:PV):AObj:=⟨TCase,false, .bx (c.cells.map .p++[.p v])⟩
theorem rrule_h (ws:List Wd) (F q0:Nat) (b0:Bool) (hF:4 * ws.length+8≤F) (hg:GoodW ws) (hq0:q0≤ws.length):HoldsG cx 101 [.ptr 0 0 0] (rrH ws q0 b0) (RQ ws b0 q0 (ruleR ws F q0) fun l=>.p (css l)):=by
 refine rqG_weak ?_
 refine holdsN_of_vc Tryz.func101 rfl rfl rfl ?_
 have hl:=hg.len
 refine(must_h ws q0 b0 tLC hg hq0 (by decide) (by decide)).holds.useT [] [] rfl (sk) (sk) fun e0 H0 hq=>?_
 obtain⟨u1,q1,b1,q1l,o1,rfl,rfl⟩:=hq
 refine⟨rfl,_,⟨1,(0,rrO ws q1 b1)::[]⟩,rfl,rfl,?_⟩
 refine⟨List Cs × Nat × Bool,fun x=>[(0, .ptr 0 0 0),(3, .sl 1 11 0 x.1.length)],fun x=>⟨2,[(1,csO x.1),(0,rrO ws x.2.1 x.2.2)]⟩,fun x=>x.2.1≤ws.length∧(x.2.2=false→x.1.length≤x.2.1)∧x.1.length≤1501∧LK b1 q1 (casesR ws F F [] q1) (fun f=>casesR ws F f x.1 x.2.1) ws.length x.2.1 x.2.2,fun x=>if x.2.2=true then 0 else ws.length+1 - x.2.1,?_,?_⟩
 ·exact⟨([],q1,b1),⟨q1l,fun _=>by simp,by simp,F,fun _=>by simp only [];omega,fun l q' b' ho=>ho⟩,ent_of [] [] [(1,11)] rfl (sk) (sk) rfl⟩
 rintro⟨acc,q,b⟩ ⟨k1,k2,k3,k4⟩
 simp only [] at k1 k2 k3 k4
 have hend:(b=true∨b=false∧txt ws q=tElse)→∀ {L:List Cs} {q9:Nat} {b9:Bool},Out b q ((mustR ws tElse q).then fun _ q=>ruleEnd ws F acc q) L q9 b9→Out b1 q1 (casesR ws F F [] q1) L q9 b9:=by
  intro hh L q9 b9 ho
  obtain⟨f,hf,hk⟩:=k4
  refine hk _ _ _ ?_
  rcases hh with rfl | ⟨rfl,ht⟩
  ·exact ho
  ·have:=hf rfl
   obtain⟨f,rfl⟩:∃ g,f=g+1:=⟨f - 1,by omega⟩
   simp only [] at ho ⊢
   rw [casesR,if_pos ht]
   rw [mustR,if_pos ht] at ho
   exact ho
 cases b
 rotate_left
 ·refine(must_h ws q true tElse hg k1 (by decide) (by decide)).holds.useT [] [] rfl (sk) (sk) fun e0 H0 hq=>?_
  obtain⟨u2,q2,b2,q2l,o2,rfl,rfl⟩:=hq
  refine⟨rfl,_,⟨2,(0,rrO ws q2 b2)::[(1,csO acc)]⟩,rfl,rfl,?_⟩
  refine(must_h ws q2 b2 tCol hg q2l (by decide) (by decide)).holds.useT [] [] rfl (sk) (sk) fun e0 H0 hq=>?_
  obtain⟨u3,q3,b3,q3l,o3,rfl,rfl⟩:=hq
  refine⟨rfl,_,⟨2,(0,rrO ws q3 b3)::[(1,csO acc)]⟩,rfl,rfl,?_⟩
  refine(rints_h ws F q3 b3 (by omega) hg q3l).holds.useT [] [] rfl (sk) (sk) fun e0 H0 hq=>?_
  obtain⟨l,q4,b4,q4l,o4,rfl,rfl⟩:=hq
  refine⟨rfl,_,⟨2,(0,rrO ws q4 b4)::[(1,csO acc)]⟩,rfl,rfl,?_⟩
  refine⟨by show 0+1≤1;omega,[endC l],rfl,?_⟩
  refine⟨by show 0+acc.length≤(acc.map Cs.cells).length;simp,acc.map Cs.cells,takeAll (by simp),by show(acc.length+1) * 152≤140737488355328;omega,acc.map Cs.cells++[endC l],rfl,?_⟩
  refine(must_h ws q4 b4 tRC hg q4l (by decide) (by decide)).holds.useT [] [] rfl (sk) (sk) fun e0 H0 hq=>?_
  obtain⟨u5,q5,b5,q5l,o5,rfl,rfl⟩:=hq
  refine⟨rfl,_,⟨4,(0,rrO ws q5 b5)::[(3,⟨TCase,false, .pus (acc.map Cs.cells++[endC l])⟩),(2,⟨TCase,false, .pus [endC l]⟩)]⟩,rfl,rfl,?_⟩
  exact⟨[3],[],[], .returned (.p (.lsts 11 (acc.map Cs.cells++[endC l]))),rrH ws q5 b5,rfl,⟨_,rfl,⟨_,rfl,by show 0+(acc.length+1)≤(acc.map Cs.cells++[endC l]).length;simp,takeAll (by simp)⟩⟩,sk,acc++[⟨cd0,l⟩],q5,b5,q5l,o1.then (hend (.inl rfl) (o2.then (o3.then (o4.then (o5.then Out.same))))),⟨_,rfl,nil_css acc l⟩,rfl⟩
 by_cases c:Tk ws false q tElse
 ·refine(is_h ws q false tElse hg k1 (by decide) (by decide)).holds.useT [] [] rfl (sk) (sk) fun e0 H0 hq=>?_
  obtain⟨rfl,rfl⟩:=hq.1 c
  refine⟨rfl,_,⟨2,(0,rrO ws q false)::[(1,csO acc)]⟩,rfl,rfl,?_⟩
  refine(must_h ws q false tElse hg k1 (by decide) (by decide)).holds.useT [] [] rfl (sk) (sk) fun e0 H0 hq=>?_
  obtain⟨u2,q2,b2,q2l,o2,rfl,rfl⟩:=hq
  refine⟨rfl,_,⟨2,(0,rrO ws q2 b2)::[(1,csO acc)]⟩,rfl,rfl,?_⟩
  refine(must_h ws q2 b2 tCol hg q2l (by decide) (by decide)).holds.useT [] [] rfl (sk) (sk) fun e0 H0 hq=>?_
  obtain⟨u3,q3,b3,q3l,o3,rfl,rfl⟩:=hq
  refine⟨rfl,_,⟨2,(0,rrO ws q3 b3)::[(1,csO acc)]⟩,rfl,rfl,?_⟩
  refine(rints_h ws F q3 b3 (by omega) hg q3l).holds.useT [] [] rfl (sk) (sk) fun e0 H0 hq=>?_
  obtain⟨l,q4,b4,q4l,o4,rfl,rfl⟩:=hq
  refine⟨rfl,_,⟨2,(0,rrO ws q4 b4)::[(1,csO acc)]⟩,rfl,rfl,?_⟩
  refine⟨by show 0+1≤1;omega,[endC l],rfl,?_⟩
  refine⟨by show 0+acc.length≤(acc.map Cs.cells).length;simp,acc.map Cs.cells,takeAll (by simp),by show(acc.length+1) * 152≤140737488355328;omega,acc.map Cs.cells++[endC l],rfl,?_⟩
  refine(must_h ws q4 b4 tRC hg q4l (by decide) (by decide)).holds.useT [] [] rfl (sk) (sk) fun e0 H0 hq=>?_
  obtain⟨u5,q5,b5,q5l,o5,rfl,rfl⟩:=hq
  refine⟨rfl,_,⟨4,(0,rrO ws q5 b5)::[(3,⟨TCase,false, .pus (acc.map Cs.cells++[endC l])⟩),(2,⟨TCase,false, .pus [endC l]⟩)]⟩,rfl,rfl,?_⟩
  exact⟨[3],[],[], .returned (.p (.lsts 11 (acc.map Cs.cells++[endC l]))),rrH ws q5 b5,rfl,⟨_,rfl,⟨_,rfl,by show 0+(acc.length+1)≤(acc.map Cs.cells++[endC l]).length;simp,takeAll (by simp)⟩⟩,sk,acc++[⟨cd0,l⟩],q5,b5,q5l,o1.then (hend (.inr c) (o2.then (o3.then (o4.then (o5.then Out.same))))),⟨_,rfl,nil_css acc l⟩,rfl⟩
 refine(is_h ws q false tElse hg k1 (by decide) (by decide)).holds.useT [] [] rfl (sk) (sk) fun e0 H0 hq=>?_
 obtain⟨rfl,rfl⟩:=hq.2 c
 refine⟨rfl,_,⟨2,(0,rrO ws q false)::[(1,csO acc)]⟩,rfl,rfl,?_⟩
 clear hend
 have hal:=k2 rfl
 refine(rcond_all ws F q false hg k1 (by omega)).holds.useT [] [] rfl (sk) (sk) fun e0 H0 hq=>?_
 obtain⟨⟨o,n,rl,vl,rf,st,ar⟩,q2,b2,q2l,o2,rfl,rfl⟩:=hq
 refine⟨rfl,_,⟨2,(0,rrO ws q2 b2)::[(1,csO acc)]⟩,rfl,rfl,?_⟩
 refine(must_h ws q2 b2 tCol hg q2l (by decide) (by decide)).holds.useT [] [] rfl (sk) (sk) fun e0 H0 hq=>?_
 obtain⟨u3,q3,b3,q3l,o3,rfl,rfl⟩:=hq
 refine⟨rfl,_,⟨3,(0,rrO ws q3 b3)::[(2,cC (.mk o n rl vl rf st ar) .nils),(1,csO acc)]⟩,rfl,rfl,?_⟩
 refine(rints_h ws F q3 b3 (by omega) hg q3l).holds.useT [] [] rfl (sk) (sk) fun e0 H0 hq=>?_
 obtain⟨l,q4,b4,q4l,o4,rfl,rfl⟩:=hq
 refine⟨rfl,_,⟨3,(0,rrO ws q4 b4)::[(2,cC (.mk o n rl vl rf st ar) .nils),(1,csO acc)]⟩,rfl,rfl,?_⟩
 refine(must_h ws q4 b4 tSemi hg q4l (by decide) (by decide)).holds.useT [] [] rfl (sk) (sk) fun e0 H0 hq=>?_
 obtain⟨u5,q5,b5,q5l,o5,rfl,rfl⟩:=hq
 refine⟨rfl,_,⟨3,(0,rrO ws q5 b5)::[(2,cC (.mk o n rl vl rf st ar) (ints l)),(1,csO acc)]⟩,rfl,rfl,?_⟩
 obtain⟨x,hx⟩:∃ x:Cs,x=⟨.mk o n rl vl rf st ar,l⟩:=⟨_,rfl⟩
 refine⟨by show 0+1≤1;omega,[x.cells],by rw [hx];rfl,?_⟩
 refine⟨by show 0+acc.length≤(acc.map Cs.cells).length;simp,acc.map Cs.cells,takeAll (by simp),by show(acc.length+1) * 152≤140737488355328;omega,(acc++[x]).map Cs.cells,by simp,?_⟩
 have hlt:b5=false→q+1≤q5:=fun e=>by
  subst e
  have h5:=o5.live
  subst h5
  have h4:=o4.live
  subst h4
  have h3:=o3.live
  subst h3
  have h2:=o2.live
  have g2:=cond_lt F (out_inr o2)
  have g3:=must_lt (out_inr o3)
  have g4:=nums_lt (out_inr o4)
  have g5:=must_lt (out_inr o5)
  omega
 exact⟨(acc++[x],q5,b5),⟨q5l,fun e=>by have:=hlt e;show(acc++[x]).length≤q5;rw [snoc_len];omega,by show(acc++[x]).length≤1501;rw [snoc_len];omega,k4.step (fun f l' q' b' ho=>by rw [casesR,if_neg (fun h=>c ⟨rfl,h⟩)];exact o2.then (o3.then (o4.then (o5.then (by rw [hx] at ho;exact ho))))) (fun e=>⟨by have:=hlt e;show q<q5;omega,q5l⟩)⟩,ent_of [] [(1,4)] [] rfl ⟨⟨rfl,rfl⟩,congrArg (fun k:Nat=>AV.sl 4 11 0 k) (snoc_len acc x).symm,trivial⟩ (sk) rfl,by show(if b5=true then 0 else ws.length+1 - q5)<(if false=true then 0 else ws.length+1 - q);cases b5 <;> simp <;> (try have:=hlt rfl) <;> omega⟩
def declS (ws:List Wd) (F q:Nat):Rd De:=(declR ws F q).then fun d q=>(mustR ws tSemi q).then fun _ q=>.inr (d,q)
def rdO (k n:Int) (nm pl:List UInt8) (rs cs:PV):AObj:=⟨TDecl,false, .bx [.p (i64 k), .p (i64 n), .p (.str nm), .p (.str pl), .p rs, .p cs]⟩
abbrev dz:AObj:=rdO 0 0 [] [] .nils .nils
theorem rnil_de {k n:Int} {nm pl:List UInt8} {l:List Rf} {cs:List Cs} {rs c2:PV} (h1:NilD rs (rfl_ l)) (h2:NilD c2 (css cs)):NilD (.agg [i64 k,i64 n, .str nm, .str pl,rs,c2]) (De.pv ⟨k,n,nm,pl,l,cs⟩):=by
 show NilD _ (.agg [i64 k,i64 n, .str nm, .str pl,rfl_ l,css cs])
 simp only [NilD,NilDL]
 exact⟨_,rfl,_,_,rfl,rfl,_,_,rfl,rfl,_,_,rfl,rfl,_,_,rfl,rfl,_,_,rfl,h1,_,_,rfl,h2,rfl⟩
theorem nil_lsts (s:Nat):NilD .nils (.lsts s []):=by simp only [NilD];exact .inr (.inr ⟨s,rfl⟩)
theorem rdecl_h (ws:List Wd) (F q0:Nat) (b0:Bool) (hF:4 * ws.length+8≤F) (hg:GoodW ws) (hq0:q0≤ws.length):HoldsG cx 56 [.ptr 0 0 0] (rrH ws q0 b0) (RQ ws b0 q0 (declS ws F q0) fun d=>.p d.pv):=by
 refine rqG_weak ?_
 refine holdsN_of_vc Tryz.func56 rfl rfl rfl ?_
 have hl:=hg.len
 by_cases c1:Tk ws b0 q0 tGrain
 ·have q1l:q0+1≤ws.length:=txt_lt (by rw [c1.2];decide)
  refine(take_h ws q0 b0 tGrain hg hq0 (by decide) (by decide)).holds.useT [] [] rfl (sk) (sk) fun e0 H0 hq=>?_
  obtain⟨rfl,rfl⟩:=hq.1 c1
  refine⟨rfl,_,⟨3,(0,rrO ws (q0+1) false)::[(2,dz),(1,dz)]⟩,rfl,rfl,?_⟩
  refine(rnum_h ws (q0+1) false hg q1l).holds.useT [] [] rfl (sk) (sk) fun e0 H0 hq=>?_
  obtain⟨n,q2,b2,q2l,o2,rfl,rfl⟩:=hq
  refine⟨rfl,_,⟨3,(0,rrO ws q2 b2)::[(2,dz),(1,dz)]⟩,rfl,rfl,?_⟩
  refine(must_h ws q2 b2 tSemi hg q2l (by decide) (by decide)).holds.useT [] [] rfl (sk) (sk) fun e0 H0 hq=>?_
  obtain⟨u9,q9,b9,q9l,o9,rfl,rfl⟩:=hq
  refine⟨rfl,_,⟨3,(0,rrO ws q9 b9)::[(2,rdO 1 n [] [] .nils .nils),(1,dz)]⟩,rfl,rfl,?_⟩
  exact⟨[],[],[], .returned (.p (.agg [i64 1,i64 n, .str [], .str [], .nils, .nils])),rrH ws q9 b9,rfl,sk,sk,⟨1,n,[],[],[],[]⟩,q9,b9,q9l,Out.then (by rw [declR];exact Out.yes c1 (o2.then Out.same).mv) (o9.then Out.same),⟨_,rfl,rnil_de (by first | exact NilD.refl _ | exact nil_lsts 4) (by first | exact NilD.refl _ | exact nil_lsts 11)⟩,rfl⟩
 refine(take_h ws q0 b0 tGrain hg hq0 (by decide) (by decide)).holds.useT [] [] rfl (sk) (sk) fun e0 H0 hq=>?_
 obtain⟨rfl,rfl⟩:=hq.2 c1
 refine⟨rfl,_,⟨3,(0,rrO ws q0 b0)::[(2,dz),(1,dz)]⟩,rfl,rfl,?_⟩
 by_cases c2:Tk ws b0 q0 tPlate
 ·have q1l:q0+1≤ws.length:=txt_lt (by rw [c2.2];decide)
  refine(take_h ws q0 b0 tPlate hg hq0 (by decide) (by decide)).holds.useT [] [] rfl (sk) (sk) fun e0 H0 hq=>?_
  obtain⟨rfl,rfl⟩:=hq.1 c2
  refine⟨rfl,_,⟨3,(0,rrO ws (q0+1) false)::[(2,dz),(1,dz)]⟩,rfl,rfl,?_⟩
  refine(rname_h ws (q0+1) false hg q1l).holds.useT [] [] rfl (sk) (sk) fun e0 H0 hq=>?_
  obtain⟨nm,q2,b2,q2l,o2,rfl,rfl⟩:=hq
  refine⟨rfl,_,⟨3,(0,rrO ws q2 b2)::[(2,dz),(1,dz)]⟩,rfl,rfl,?_⟩
  refine(must_h ws q2 b2 tEq hg q2l (by decide) (by decide)).holds.useT [] [] rfl (sk) (sk) fun e0 H0 hq=>?_
  obtain⟨u3,q3,b3,q3l,o3,rfl,rfl⟩:=hq
  refine⟨rfl,_,⟨3,(0,rrO ws q3 b3)::[(2,rdO 2 0 nm [] .nils .nils),(1,dz)]⟩,rfl,rfl,?_⟩
  refine(rnum_h ws q3 b3 hg q3l).holds.useT [] [] rfl (sk) (sk) fun e0 H0 hq=>?_
  obtain⟨n,q4,b4,q4l,o4,rfl,rfl⟩:=hq
  refine⟨rfl,_,⟨3,(0,rrO ws q4 b4)::[(2,rdO 2 0 nm [] .nils .nils),(1,dz)]⟩,rfl,rfl,?_⟩
  refine(must_h ws q4 b4 tSemi hg q4l (by decide) (by decide)).holds.useT [] [] rfl (sk) (sk) fun e0 H0 hq=>?_
  obtain⟨u9,q9,b9,q9l,o9,rfl,rfl⟩:=hq
  refine⟨rfl,_,⟨3,(0,rrO ws q9 b9)::[(2,rdO 2 n nm [] .nils .nils),(1,dz)]⟩,rfl,rfl,?_⟩
  exact⟨[],[],[], .returned (.p (.agg [i64 2,i64 n, .str nm, .str [], .nils, .nils])),rrH ws q9 b9,rfl,sk,sk,⟨2,n,nm,[],[],[]⟩,q9,b9,q9l,Out.then (by rw [declR];exact Out.no c1 (Out.yes c2 (o2.then (o3.then (o4.then Out.same))).mv)) (o9.then Out.same),⟨_,rfl,rnil_de (by first | exact NilD.refl _ | exact nil_lsts 4) (by first | exact NilD.refl _ | exact nil_lsts 11)⟩,rfl⟩
 refine(take_h ws q0 b0 tPlate hg hq0 (by decide) (by decide)).holds.useT [] [] rfl (sk) (sk) fun e0 H0 hq=>?_
 obtain⟨rfl,rfl⟩:=hq.2 c2
 refine⟨rfl,_,⟨3,(0,rrO ws q0 b0)::[(2,dz),(1,dz)]⟩,rfl,rfl,?_⟩
 by_cases c3:Tk ws b0 q0 tNode
 ·have q1l:q0+1≤ws.length:=txt_lt (by rw [c3.2];decide)
  refine(take_h ws q0 b0 tNode hg hq0 (by decide) (by decide)).holds.useT [] [] rfl (sk) (sk) fun e0 H0 hq=>?_
  obtain⟨rfl,rfl⟩:=hq.1 c3
  refine⟨rfl,_,⟨3,(0,rrO ws (q0+1) false)::[(2,dz),(1,dz)]⟩,rfl,rfl,?_⟩
  refine(rname_h ws (q0+1) false hg q1l).holds.useT [] [] rfl (sk) (sk) fun e0 H0 hq=>?_
  obtain⟨nm,q2,b2,q2l,o2,rfl,rfl⟩:=hq
  refine⟨rfl,_,⟨3,(0,rrO ws q2 b2)::[(2,dz),(1,dz)]⟩,rfl,rfl,?_⟩
  have hb:∀ {d:De} {q9:Nat} {b9:Bool},Out b2 q2 (if txt ws q2=tLB then(nameR ws (q2+1)).then fun pl q=>(mustR ws tRB q).then fun _ q=>nodeTail ws F nm pl q else nodeTail ws F nm [] q2) d q9 b9→Out b0 q0 (declR ws F q0) d q9 b9:=
   fun ho=>by rw [declR];exact Out.no c1 (Out.no c2 (Out.yes c3 (o2.then ho).mv))
  by_cases c4:Tk ws b2 q2 tLB
  ·have q3l:q2+1≤ws.length:=txt_lt (by rw [c4.2];decide)
   refine(take_h ws q2 b2 tLB hg q2l (by decide) (by decide)).holds.useT [] [] rfl (sk) (sk) fun e0 H0 hq=>?_
   obtain⟨rfl,rfl⟩:=hq.1 c4
   refine⟨rfl,_,⟨3,(0,rrO ws (q2+1) false)::[(2,rdO 3 0 nm [] .nils .nils),(1,dz)]⟩,rfl,rfl,?_⟩
   refine(rname_h ws (q2+1) false hg q3l).holds.useT [] [] rfl (sk) (sk) fun e0 H0 hq=>?_
   obtain⟨pl,q3a,b3a,q3al,o3a,rfl,rfl⟩:=hq
   refine⟨rfl,_,⟨3,(0,rrO ws q3a b3a)::[(2,rdO 3 0 nm [] .nils .nils),(1,dz)]⟩,rfl,rfl,?_⟩
   refine(must_h ws q3a b3a tRB hg q3al (by decide) (by decide)).holds.useT [] [] rfl (sk) (sk) fun e0 H0 hq=>?_
   obtain⟨u3,q3,b3,q3l,o3,rfl,rfl⟩:=hq
   refine⟨rfl,_,⟨3,(0,rrO ws q3 b3)::[(2,rdO 3 0 nm pl .nils .nils),(1,dz)]⟩,rfl,rfl,?_⟩
   have hb2:∀ {d:De} {q9:Nat} {b9:Bool},Out b3 q3 (nodeTail ws F nm pl q3) d q9 b9→Out b0 q0 (declR ws F q0) d q9 b9:=fun ho=>hb (Out.yes c4 (o3a.then (o3.then ho)).mv)
   refine(must_h ws q3 b3 tCol hg q3l (by decide) (by decide)).holds.useT [] [] rfl (sk) (sk) fun e0 H0 hq=>?_
   obtain⟨u4,q4,b4,q4l,o4,rfl,rfl⟩:=hq
   refine⟨rfl,_,⟨3,(0,rrO ws q4 b4)::[(2,rdO 3 0 nm pl .nils .nils),(1,dz)]⟩,rfl,rfl,?_⟩
   refine(rnum_h ws q4 b4 hg q4l).holds.useT [] [] rfl (sk) (sk) fun e0 H0 hq=>?_
   obtain⟨n,q5,b5,q5l,o5,rfl,rfl⟩:=hq
   refine⟨rfl,_,⟨3,(0,rrO ws q5 b5)::[(2,rdO 3 0 nm pl .nils .nils),(1,dz)]⟩,rfl,rfl,?_⟩
   refine(rrefs_h ws F q5 b5 tFrom (by decide) (by decide) (by omega) hg q5l).holds.useT [] [] rfl (sk) (sk) fun e0 H0 hq=>?_
   obtain⟨l,q6,b6,q6l,o6,rfl,rfl⟩:=hq
   refine⟨rfl,_,⟨3,(0,rrO ws q6 b6)::[(2,rdO 3 n nm pl .nils .nils),(1,dz)]⟩,rfl,rfl,?_⟩
   refine(must_h ws q6 b6 tEq hg q6l (by decide) (by decide)).holds.useT [] [] rfl (sk) (sk) fun e0 H0 hq=>?_
   obtain⟨u7,q7,b7,q7l,o7,rfl,rfl⟩:=hq
   refine⟨rfl,_,⟨3,(0,rrO ws q7 b7)::[(2,rdO 3 n nm pl (rfl_ l) .nils),(1,dz)]⟩,rfl,rfl,?_⟩
   refine(rrule_h ws F q7 b7 hF hg q7l).holds.useT [] [] rfl (sk) (sk) fun e0 H0 hq=>?_
   obtain⟨cs,q8,b8,q8l,o8,rfl,rfl⟩:=hq
   refine⟨rfl,_,⟨3,(0,rrO ws q8 b8)::[(2,rdO 3 n nm pl (rfl_ l) .nils),(1,dz)]⟩,rfl,rfl,?_⟩
   refine(must_h ws q8 b8 tSemi hg q8l (by decide) (by decide)).holds.useT [] [] rfl (sk) (sk) fun e0 H0 hq=>?_
   obtain⟨u9,q9,b9,q9l,o9,rfl,rfl⟩:=hq
   refine⟨rfl,_,⟨3,(0,rrO ws q9 b9)::[(2,rdO 3 n nm pl (rfl_ l) (css cs)),(1,dz)]⟩,rfl,rfl,?_⟩
   exact⟨[],[],[], .returned (.p (.agg [i64 3,i64 n, .str nm, .str pl,(rfl_ l),(css cs)])),rrH ws q9 b9,rfl,sk,sk,⟨3,n,nm,pl,l,cs⟩,q9,b9,q9l,Out.then (hb2 (o4.then (o5.then (o6.then (o7.then (o8.then Out.same)))))) (o9.then Out.same),⟨_,rfl,rnil_de (by first | exact NilD.refl _ | exact nil_lsts 4) (by first | exact NilD.refl _ | exact nil_lsts 11)⟩,rfl⟩
  ·refine(take_h ws q2 b2 tLB hg q2l (by decide) (by decide)).holds.useT [] [] rfl (sk) (sk) fun e0 H0 hq=>?_
   obtain⟨rfl,rfl⟩:=hq.2 c4
   refine⟨rfl,_,⟨3,(0,rrO ws q2 b2)::[(2,rdO 3 0 nm [] .nils .nils),(1,dz)]⟩,rfl,rfl,?_⟩
   have hb2:∀ {d:De} {q9:Nat} {b9:Bool},Out b2 q2 (nodeTail ws F nm [] q2) d q9 b9→Out b0 q0 (declR ws F q0) d q9 b9:=fun ho=>hb (Out.no c4 ho)
   refine(must_h ws q2 b2 tCol hg q2l (by decide) (by decide)).holds.useT [] [] rfl (sk) (sk) fun e0 H0 hq=>?_
   obtain⟨u4,q4,b4,q4l,o4,rfl,rfl⟩:=hq
   refine⟨rfl,_,⟨3,(0,rrO ws q4 b4)::[(2,rdO 3 0 nm [] .nils .nils),(1,dz)]⟩,rfl,rfl,?_⟩
   refine(rnum_h ws q4 b4 hg q4l).holds.useT [] [] rfl (sk) (sk) fun e0 H0 hq=>?_
   obtain⟨n,q5,b5,q5l,o5,rfl,rfl⟩:=hq
   refine⟨rfl,_,⟨3,(0,rrO ws q5 b5)::[(2,rdO 3 0 nm [] .nils .nils),(1,dz)]⟩,rfl,rfl,?_⟩
   refine(rrefs_h ws F q5 b5 tFrom (by decide) (by decide) (by omega) hg q5l).holds.useT [] [] rfl (sk) (sk) fun e0 H0 hq=>?_
   obtain⟨l,q6,b6,q6l,o6,rfl,rfl⟩:=hq
   refine⟨rfl,_,⟨3,(0,rrO ws q6 b6)::[(2,rdO 3 n nm [] .nils .nils),(1,dz)]⟩,rfl,rfl,?_⟩
   refine(must_h ws q6 b6 tEq hg q6l (by decide) (by decide)).holds.useT [] [] rfl (sk) (sk) fun e0 H0 hq=>?_
   obtain⟨u7,q7,b7,q7l,o7,rfl,rfl⟩:=hq
   refine⟨rfl,_,⟨3,(0,rrO ws q7 b7)::[(2,rdO 3 n nm [] (rfl_ l) .nils),(1,dz)]⟩,rfl,rfl,?_⟩
   refine(rrule_h ws F q7 b7 hF hg q7l).holds.useT [] [] rfl (sk) (sk) fun e0 H0 hq=>?_
   obtain⟨cs,q8,b8,q8l,o8,rfl,rfl⟩:=hq
   refine⟨rfl,_,⟨3,(0,rrO ws q8 b8)::[(2,rdO 3 n nm [] (rfl_ l) .nils),(1,dz)]⟩,rfl,rfl,?_⟩
   refine(must_h ws q8 b8 tSemi hg q8l (by decide) (by decide)).holds.useT [] [] rfl (sk) (sk) fun e0 H0 hq=>?_
   obtain⟨u9,q9,b9,q9l,o9,rfl,rfl⟩:=hq
   refine⟨rfl,_,⟨3,(0,rrO ws q9 b9)::[(2,rdO 3 n nm [] (rfl_ l) (css cs)),(1,dz)]⟩,rfl,rfl,?_⟩
   exact⟨[],[],[], .returned (.p (.agg [i64 3,i64 n, .str nm, .str [],(rfl_ l),(css cs)])),rrH ws q9 b9,rfl,sk,sk,⟨3,n,nm,[],l,cs⟩,q9,b9,q9l,Out.then (hb2 (o4.then (o5.then (o6.then (o7.then (o8.then Out.same)))))) (o9.then Out.same),⟨_,rfl,rnil_de (by first | exact NilD.refl _ | exact nil_lsts 4) (by first | exact NilD.refl _ | exact nil_lsts 11)⟩,rfl⟩
 refine(take_h ws q0 b0 tNode hg hq0 (by decide) (by decide)).holds.useT [] [] rfl (sk) (sk) fun e0 H0 hq=>?_
 obtain⟨rfl,rfl⟩:=hq.2 c3
 refine⟨rfl,_,⟨3,(0,rrO ws q0 b0)::[(2,dz),(1,dz)]⟩,rfl,rfl,?_⟩
 by_cases c4:Tk ws b0 q0 tChoose
 ·have q1l:q0+1≤ws.length:=txt_lt (by rw [c4.2];decide)
  refine(take_h ws q0 b0 tChoose hg hq0 (by decide) (by decide)).holds.useT [] [] rfl (sk) (sk) fun e0 H0 hq=>?_
  obtain⟨rfl,rfl⟩:=hq.1 c4
  refine⟨rfl,_,⟨3,(0,rrO ws (q0+1) false)::[(2,dz),(1,dz)]⟩,rfl,rfl,?_⟩
  refine(rname_h ws (q0+1) false hg q1l).holds.useT [] [] rfl (sk) (sk) fun e0 H0 hq=>?_
  obtain⟨nm,q2,b2,q2l,o2,rfl,rfl⟩:=hq
  refine⟨rfl,_,⟨3,(0,rrO ws q2 b2)::[(2,dz),(1,dz)]⟩,rfl,rfl,?_⟩
  refine(must_h ws q2 b2 tCol hg q2l (by decide) (by decide)).holds.useT [] [] rfl (sk) (sk) fun e0 H0 hq=>?_
  obtain⟨u3,q3,b3,q3l,o3,rfl,rfl⟩:=hq
  refine⟨rfl,_,⟨3,(0,rrO ws q3 b3)::[(2,rdO 4 0 nm [] .nils .nils),(1,dz)]⟩,rfl,rfl,?_⟩
  refine(rnum_h ws q3 b3 hg q3l).holds.useT [] [] rfl (sk) (sk) fun e0 H0 hq=>?_
  obtain⟨n,q4,b4,q4l,o4,rfl,rfl⟩:=hq
  refine⟨rfl,_,⟨3,(0,rrO ws q4 b4)::[(2,rdO 4 0 nm [] .nils .nils),(1,dz)]⟩,rfl,rfl,?_⟩
  refine(rrefs_h ws F q4 b4 tSeeing (by decide) (by decide) (by omega) hg q4l).holds.useT [] [] rfl (sk) (sk) fun e0 H0 hq=>?_
  obtain⟨l,q5,b5,q5l,o5,rfl,rfl⟩:=hq
  refine⟨rfl,_,⟨3,(0,rrO ws q5 b5)::[(2,rdO 4 n nm [] .nils .nils),(1,dz)]⟩,rfl,rfl,?_⟩
  refine(must_h ws q5 b5 tSemi hg q5l (by decide) (by decide)).holds.useT [] [] rfl (sk) (sk) fun e0 H0 hq=>?_
  obtain⟨u9,q9,b9,q9l,o9,rfl,rfl⟩:=hq
  refine⟨rfl,_,⟨3,(0,rrO ws q9 b9)::[(2,rdO 4 n nm [] (rfl_ l) .nils),(1,dz)]⟩,rfl,rfl,?_⟩
  exact⟨[],[],[], .returned (.p (.agg [i64 4,i64 n, .str nm, .str [],(rfl_ l), .nils])),rrH ws q9 b9,rfl,sk,sk,⟨4,n,nm,[],l,[]⟩,q9,b9,q9l,Out.then (by rw [declR];exact Out.no c1 (Out.no c2 (Out.no c3 (Out.yes c4 (o2.then (o3.then (o4.then (o5.then Out.same)))).mv)))) (o9.then Out.same),⟨_,rfl,rnil_de (by first | exact NilD.refl _ | exact nil_lsts 4) (by first | exact NilD.refl _ | exact nil_lsts 11)⟩,rfl⟩
 refine(take_h ws q0 b0 tChoose hg hq0 (by decide) (by decide)).holds.useT [] [] rfl (sk) (sk) fun e0 H0 hq=>?_
 obtain⟨rfl,rfl⟩:=hq.2 c4
 refine⟨rfl,_,⟨3,(0,rrO ws q0 b0)::[(2,dz),(1,dz)]⟩,rfl,rfl,?_⟩
 by_cases c5:Tk ws b0 q0 tGain
 ·have q1l:q0+1≤ws.length:=txt_lt (by rw [c5.2];decide)
  refine(take_h ws q0 b0 tGain hg hq0 (by decide) (by decide)).holds.useT [] [] rfl (sk) (sk) fun e0 H0 hq=>?_
  obtain⟨rfl,rfl⟩:=hq.1 c5
  refine⟨rfl,_,⟨3,(0,rrO ws (q0+1) false)::[(2,dz),(1,dz)]⟩,rfl,rfl,?_⟩
  refine(rrefs_h ws F (q0+1) false tFrom (by decide) (by decide) (by omega) hg q1l).holds.useT [] [] rfl (sk) (sk) fun e0 H0 hq=>?_
  obtain⟨l,q2,b2,q2l,o2,rfl,rfl⟩:=hq
  refine⟨rfl,_,⟨3,(0,rrO ws q2 b2)::[(2,rdO 5 0 [] [] .nils .nils),(1,dz)]⟩,rfl,rfl,?_⟩
  refine(must_h ws q2 b2 tEq hg q2l (by decide) (by decide)).holds.useT [] [] rfl (sk) (sk) fun e0 H0 hq=>?_
  obtain⟨u3,q3,b3,q3l,o3,rfl,rfl⟩:=hq
  refine⟨rfl,_,⟨3,(0,rrO ws q3 b3)::[(2,rdO 5 0 [] [] (rfl_ l) .nils),(1,dz)]⟩,rfl,rfl,?_⟩
  refine(rrule_h ws F q3 b3 hF hg q3l).holds.useT [] [] rfl (sk) (sk) fun e0 H0 hq=>?_
  obtain⟨cs,q4,b4,q4l,o4,rfl,rfl⟩:=hq
  refine⟨rfl,_,⟨3,(0,rrO ws q4 b4)::[(2,rdO 5 0 [] [] (rfl_ l) .nils),(1,dz)]⟩,rfl,rfl,?_⟩
  refine(must_h ws q4 b4 tSemi hg q4l (by decide) (by decide)).holds.useT [] [] rfl (sk) (sk) fun e0 H0 hq=>?_
  obtain⟨u9,q9,b9,q9l,o9,rfl,rfl⟩:=hq
  refine⟨rfl,_,⟨3,(0,rrO ws q9 b9)::[(2,rdO 5 0 [] [] (rfl_ l) (css cs)),(1,dz)]⟩,rfl,rfl,?_⟩
  exact⟨[],[],[], .returned (.p (.agg [i64 5,i64 0, .str [], .str [],(rfl_ l),(css cs)])),rrH ws q9 b9,rfl,sk,sk,⟨5,0,[],[],l,cs⟩,q9,b9,q9l,Out.then (by rw [declR];exact Out.no c1 (Out.no c2 (Out.no c3 (Out.no c4 (Out.yes c5 (o2.then (o3.then (o4.then Out.same))).mv))))) (o9.then Out.same),⟨_,rfl,rnil_de (by first | exact NilD.refl _ | exact nil_lsts 4) (by first | exact NilD.refl _ | exact nil_lsts 11)⟩,rfl⟩
 refine(take_h ws q0 b0 tGain hg hq0 (by decide) (by decide)).holds.useT [] [] rfl (sk) (sk) fun e0 H0 hq=>?_
 obtain⟨rfl,rfl⟩:=hq.2 c5
 refine⟨rfl,_,⟨3,(0,rrO ws q0 b0)::[(2,dz),(1,dz)]⟩,rfl,rfl,?_⟩
 have od:Out b0 q0 (declR ws F q0) (⟨0,0,[],[],[],[]⟩:De) q0 true:=by
  cases b0
  ·show declR ws F q0=.inl q0
   rw [declR,if_neg (fun h=>c1 ⟨rfl,h⟩),if_neg (fun h=>c2 ⟨rfl,h⟩),if_neg (fun h=>c3 ⟨rfl,h⟩),if_neg (fun h=>c4 ⟨rfl,h⟩),if_neg (fun h=>c5 ⟨rfl,h⟩)]
  ·exact Out.bad
 have q0l:=hq0
 refine(must_h ws q0 true tSemi hg q0l (by decide) (by decide)).holds.useT [] [] rfl (sk) (sk) fun e0 H0 hq=>?_
 obtain⟨u9,q9,b9,q9l,o9,rfl,rfl⟩:=hq
 refine⟨rfl,_,⟨3,(0,rrO ws q9 b9)::[(2,rdO 0 0 [] [] .nils .nils),(1,dz)]⟩,rfl,rfl,?_⟩
 exact⟨[],[],[], .returned (.p (.agg [i64 0,i64 0, .str [], .str [], .nils, .nils])),rrH ws q9 b9,rfl,sk,sk,⟨0,0,[],[],[],[]⟩,q9,b9,q9l,Out.then od (o9.then Out.same),⟨_,rfl,rnil_de (by first | exact NilD.refl _ | exact nil_lsts 4) (by first | exact NilD.refl _ | exact nil_lsts 11)⟩,rfl⟩
theorem declS_lt {ws:List Wd} {F q q':Nat} {d:De} (h:declS ws F q=.inr (d,q')):q<q':=by
 rw [declS] at h
 cases h1:declR ws F q with
 | inl e=>rw [h1] at h;cases h
 | inr x=>
  obtain⟨a,p⟩:=x
  rw [h1] at h
  have h:(mustR ws tSemi p).then _=_:=h
  have:=decl_lt h1
  cases h2:mustR ws tSemi p with
  | inl e=>rw [h2] at h;cases h
  | inr x=>
   obtain⟨u,p2⟩:=x
   rw [h2] at h
   have h:Sum.inr (a,p2)=(Sum.inr (d,q'):Rd De):=h
   have:=must_lt h2
   injection h with h
   injection h with _ h
   omega
abbrev rpH (ws:List Wd) (acc:List De) (q:Nat) (b:Bool):Hp:=⟨4,[(3,desO acc),(2,srO (.sl 3 6 0 acc.length)),(1,rrO ws q b),(0,srO (.p .nils))]⟩
theorem rParse_c (s:List UInt8):Pure cx 23 [.str s] (·=.ret (parV (parR s))):=by
 have hRd:=rRead_c s
 refine pure_of_vc Tryz.func23 rfl rfl rfl ?_
 by_cases h0:8000<s.length
 ·rw [readV,if_pos h0] at hRd
  refine hRd.eq rfl ?_
  have e:parR s=.inl ((0,0),3):=by rw [parR,if_pos h0]
  refine And.intro (fun h=>absurd (show(3:Int)=0 from h) (by decide)) (fun _=>?_)
  exact end4 (srcV []) (i64 0) (i64 0) (i64 3) rfl ⟨_,rfl,_,_,rfl, .inr (.inr ⟨6,rfl⟩),rfl⟩ rfl rfl rfl (by rw [e] <;> rfl)
 cases hr:readR s with
 | err p c=>
  rw [readV,if_neg h0,hr] at hRd
  refine hRd.eq rfl ?_
  have e:parR s=.inl ((p.1,p.2),c):=by rw [parR,if_neg h0,hr]
  have hc:¬ c=0:=by
   have:=readN_errP s _ _ _ _ _ hr
   omega
  refine And.intro (fun h=>absurd (show c=0 from h) hc) (fun _=>?_)
  exact end4 (srcV []) (i64 p.1) (i64 p.2) (i64 c) rfl ⟨_,rfl,_,_,rfl, .inr (.inr ⟨6,rfl⟩),rfl⟩ rfl rfl rfl (by rw [e] <;> rfl)
 | ok ws=>
  have hg:=read_good hr
  have hl:=hg.len
  have hl':(ws.map Wd.cells).length=ws.length:=List.length_map ..
  rw [readV,if_neg h0,hr] at hRd
  refine hRd.eq rfl ?_
  refine And.intro (fun _=>?_) (fun h=>absurd rfl h)
  obtain⟨F,hF⟩:∃ F,F=fuelW ws:=⟨_,rfl⟩
  have hF8:4 * ws.length+8≤F:=by rw [hF];exact Nat.le_refl _
  have hFb:F≤100000:=by rw [hF,fuelW];omega
  have e:parR s=match progR ws F F [] 0 with
    | .inl q=>.inl (((wat ws q).line,(wat ws q).col),381)
    | .inr (ds,_)=>if validB ds=true then .inr ds else .inl ((0,0),3):=by rw [parR,if_neg h0,hr,hF] <;> rfl
  clear hF
  refine⟨List De × Nat × Bool,fun x=>[(2, .ptr 0 0 0),(6, .p (.lsts 4 (ws.map Wd.cells))),(10, .ptr 1 0 0),(11, .ptr 2 0 0)],fun x=>rpH ws x.1 x.2.1 x.2.2,fun x=>x.2.1≤ws.length∧(x.2.2=false→x.1.length≤x.2.1)∧x.1.length≤1501∧LK false 0 (progR ws F F [] 0) (fun f=>progR ws F f x.1 x.2.1) ws.length x.2.1 x.2.2,fun x=>if x.2.2=true then 0 else ws.length+1 - x.2.1,?_,?_⟩
  ·exact⟨([],0,false),⟨Nat.zero_le _,fun _=>by simp,by simp,F,fun _=>by simp only [];omega,fun l q' b' ho=>ho⟩,ent_of [] [] [(3,6)] rfl (sk) (sk) rfl⟩
  rintro⟨acc,q,b⟩ ⟨k1,k2,k3,k4⟩
  simp only [] at k1 k2 k3 k4
  cases b
  rotate_left
  ·have o:progR ws F F [] 0=.inl q:=k4.stop (l:=[]) (fun e=>by cases e)
   rw [o] at e
   by_cases hq:q<ws.length
   ·refine And.intro (fun _=>?_) (fun h=>absurd (show(q:Int)<((ws.map Wd.cells).length:Nat) by rw [hl'];omega) h)
    refine VDraw.seq rfl ?_
    refine⟨_,⟨by omega,(wat ws q).cells,wdcell hq,rfl⟩,?_⟩
    refine⟨_,⟨by omega,(wat ws q).cells,wdcell hq,rfl⟩,?_⟩
    refine⟨sk,?_⟩
    exact end4 (srcV []) (i64 (wat ws q).line) (i64 (wat ws q).col) (i64 381) rfl ⟨_,rfl,_,_,rfl, .inr (.inr ⟨6,rfl⟩),rfl⟩ rfl rfl rfl (by rw [e] <;> rfl)
   ·refine And.intro (fun h=>absurd (show(q:Int)<((ws.map Wd.cells).length:Nat) from h) (by rw [hl'];omega)) (fun _=>?_)
    have hw:wat ws q=wd0:=wat_end (by omega)
    have e:parR s=.inl (((wat ws q).line,(wat ws q).col),381):=e
    rw [hw] at e
    exact end4 (srcV []) (i64 0) (i64 0) (i64 381) rfl ⟨_,rfl,_,_,rfl, .inr (.inr ⟨6,rfl⟩),rfl⟩ rfl rfl rfl (by rw [e] <;> rfl)
  by_cases hq:q<ws.length
  rotate_left
  ·have o:progR ws F F [] 0=.inr (acc,q):=k4.stop (fun _ f=>by rw [progR,if_neg hq])
   refine And.intro (fun h=>absurd (show(q:Int)<((ws.map Wd.cells).length:Nat) from h) (by rw [hl'];omega)) (fun _=>?_)
   have hC:=rOk_c acc (prog_bigP hg hFb o)
   rw [o] at e
   have hR:ResL (Res (marks (rpH ws acc q false).l [3]) 5) [.agg [.sl 3 6 0 acc.length]] [srcV acc]:=⟨_,_,rfl,⟨_,rfl,_,_,rfl,⟨_,rfl,by show 0+acc.length≤(acc.map De.cells).length;simp,takeAll (by simp)⟩,rfl⟩,rfl⟩
   by_cases hv:validB acc=true
   ·rw [hv] at hC
    refine hC.lends [3] rfl hR ?_
    have e:parR s=.inr acc:=e.trans (if_pos hv)
    exact end4 (srcV acc) (i64 0) (i64 0) (i64 0) rfl ⟨_,rfl,_,_,rfl,⟨_,rfl,by show 0+acc.length≤(acc.map De.cells).length;simp,takeAll (by simp)⟩,rfl⟩ rfl rfl rfl (by rw [e] <;> rfl)
   ·have e:parR s=.inl ((0,0),3):=e.trans (if_neg hv)
    rw [Bool.not_eq_true] at hv
    rw [hv] at hC
    refine hC.lends [3] rfl hR ?_
    exact end4 (srcV []) (i64 0) (i64 0) (i64 3) rfl ⟨_,rfl,_,_,rfl, .inr (.inr ⟨6,rfl⟩),rfl⟩ rfl rfl rfl (by rw [e] <;> rfl)
  refine And.intro (fun _=>?_) (fun h=>absurd (show(q:Int)<((ws.map Wd.cells).length:Nat) by rw [hl'];omega) h)
  refine VDraw.seq rfl ?_
  have hal:=k2 rfl
  refine(rdecl_h ws F q false hF8 hg k1).holds.useT [] [(0,1)] rfl (sk) (sk) fun e0 H0 hq0=>?_
  obtain⟨d,q2,b2,q2l,o2,rfl,rfl⟩:=hq0
  refine⟨rfl,_,⟨4,(1,rrO ws q2 b2)::[(3,desO acc),(2,srO (.sl 3 6 0 acc.length)),(0,srO (.p .nils))]⟩,rfl,rfl,?_⟩
  refine⟨sk,?_⟩
  refine⟨sk,?_⟩
  refine⟨by show 0+1≤1;omega,[d.cells],rfl,?_⟩
  refine⟨by show 0+acc.length≤(acc.map De.cells).length;simp,acc.map De.cells,takeAll (by simp),by show(acc.length+1) * 96≤140737488355328;omega,(acc++[d]).map De.cells,by simp,?_⟩
  have hlt:b2=false→q<q2:=fun e=>by subst e;exact declS_lt (out_inr o2)
  exact⟨(acc++[d],q2,b2),⟨q2l,fun e=>by have:=hlt e;show(acc++[d]).length≤q2;rw [snoc_len];omega,by show(acc++[d]).length≤1501;rw [snoc_len];omega,k4.step (fun f l q' b' ho=>by
   have e1:progR ws F (f+1) acc q=(declS ws F q).then fun d q=>progR ws F f (acc++[d]) q:=by
    rw [progR,if_pos hq,declS,then_assoc]
    congr 1
    funext d q
    rw [then_assoc];rfl
   rw [e1]
   exact o2.then ho) (fun e=>⟨hlt e,q2l⟩)⟩,ent_of [] [(3,5)] [] rfl (sk) ⟨⟨_,rfl,rfl,rfl,rfl⟩,⟨_,rfl,rfl,rfl,_,rfl,_,_,rfl,congrArg (fun k:Nat=>AV.sl 5 6 0 k) (snoc_len acc d).symm,rfl⟩,sk⟩ rfl,by show(if b2=true then 0 else ws.length+1 - q2)<(if false=true then 0 else ws.length+1 - q);cases b2 <;> simp <;> (try have:=hlt rfl) <;> omega⟩
set_option maxHeartbeats 40000000
abbrev otS:OT:=(.pure 0 (.pure 1 (.pure 2 (.pure 3 (.pure 4 (.pure 5 (.pure 6 (.pure 7 (.pure 8 (.pure 9 (.pure 10 (.pure 11 (.eff 12 [] (.pure 13 (.pure 14 (.pure 15 (.pure 16 (.pure 17 (.pure 18 (.pure 19 (.pure 20 (.pure 21 (.pure 22 (.pure 23 (.pure 24 (.pure 25 (.pure 26 (.eff 27 [] (.pure 28 (.pure 29 .fin)) .nil))))))))))))))) .nil)))))))))))))
theorem de_eq {k n k' n':Int} {nm pl nm' pl':List UInt8} {rs rs':List Rf} {cs cs':List Cs}:((⟨k,n,nm,pl,rs,cs⟩:De)=⟨k',n',nm',pl',rs',cs'⟩) ↔ (k=k'∧n=n'∧nm=nm'∧pl=pl'∧rs=rs'∧cs=cs'):=by
 constructor
 ·intro h;injection h with h1 h2 h3 h4 h5 h6;exact⟨h1,h2,h3,h4,h5,h6⟩
 ·rintro⟨rfl,rfl,rfl,rfl,rfl,rfl⟩;rfl
theorem cs_eq {c c':Cd} {l l':List Int}:((⟨c,l⟩:Cs)=⟨c',l'⟩) ↔ (c=c'∧l=l'):=by
 constructor
 ·intro h;injection h with h1 h2;exact⟨h1,h2⟩
 ·rintro⟨rfl,rfl⟩;rfl
abbrev smH (a b:List De) (x y:De):Hp:=⟨4,[(3,deO y),(2,deO x),(1,srO (.p (des b))),(0,srO (.p (des a)))]⟩
theorem sameP_c (a b:List De) (ha:BigP a) (hb:BigP b):Pure cx 24 [srcV a,srcV b] (·=.ret [.bool (cb (a=b))]):=by
 have hla:(a.map De.cells).length=a.length:=List.length_map ..
 have hlb:(b.map De.cells).length=b.length:=List.length_map ..
 have a1:=ha.len
 refine pure_of_vc Tryz.func24 rfl rfl rfl ?_
 refine And.intro (fun h1=>?_) (fun h1=>?_)
 rotate_left
 ·have h1:¬ ((a.map De.cells).length:Int)=((b.map De.cells).length:Nat):=h1
  rw [hla,hlb] at h1
  exact end1 _ rfl rfl (by rw [cb_f (fun e=>h1 (by rw [e]))])
 have h1:((a.map De.cells).length:Int)=((b.map De.cells).length:Nat):=h1
 rw [hla,hlb] at h1
 have hl:a.length=b.length:=by omega
 refine⟨Nat,fun k=>[(2, .ptr 0 0 0),(3, .ptr 1 0 0),(5, .p (i64 k))],fun _=>⟨2,[(1,srO (.p (des b))),(0,srO (.p (des a)))]⟩,fun k=>k≤a.length∧a.take k=b.take k,fun k=>a.length - k,?_,?_⟩
 ·exact⟨0,⟨Nat.zero_le _,rfl⟩,ent_of [] [] [] rfl (sk) (sk) rfl⟩
 rintro k ⟨k1,k2⟩
 refine And.intro (fun m1=>?_) (fun m1=>?_)
 rotate_left
 ·have m1:¬ (k:Int)<((a.map De.cells).length:Nat):=m1
  rw [hla] at m1
  exact end1 _ rfl rfl (by rw [cb_t (take_end hl (by omega) k2)])
 have m1:(k:Int)<((a.map De.cells).length:Nat):=m1
 rw [hla] at m1
 have hk:k<a.length:=by omega
 have hk':k<b.length:=by omega
 have c1:=decell hk
 have c2:=decell hk'
 have bx:=ha.decl _ (getD_memL de0 hk)
 have bY:=hb.decl _ (getD_memL de0 hk')
 have hn:=take_next de0 hk hk' k2
 have hd:¬ a.getD k de0=b.getD k de0→¬ a=b:=fun h e=>h (by rw [e])
 generalize a.getD k de0=x at c1 bx hn hd
 generalize b.getD k de0=y at c2 bY hn hd
 obtain⟨x1,x2,x3,x4,x5,x6⟩:=x
 obtain⟨y1,y2,y3,y4,y5,y6⟩:=y
 have l5:(x5.map Rf.cells).length=x5.length:=List.length_map ..
 have l5':(y5.map Rf.cells).length=y5.length:=List.length_map ..
 have l6:(x6.map Cs.cells).length=x6.length:=List.length_map ..
 have l6':(y6.map Cs.cells).length=y6.length:=List.length_map ..
 have bx5:=bx.len
 have bx6:=bx.cases
 have by6:=bY.cases
 simp only [] at bx5 bx6 by6
 refine VDraw.altTo [(2, .ptr 0 0 0),(3, .ptr 1 0 0),(5, .p (i64 k)),(6, .ptr 2 0 0),(7, .ptr 3 0 0)] (smH a b ⟨x1,x2,x3,x4,x5,x6⟩ ⟨y1,y2,y3,y4,y5,y6⟩) (by kernel_rfl) ?_ ?_
 ·refine⟨_,⟨by omega,(⟨x1,x2,x3,x4,x5,x6⟩:De).cells,c1,rfl⟩,?_⟩
  refine⟨_,⟨by omega,(⟨y1,y2,y3,y4,y5,y6⟩:De).cells,c2,rfl⟩,?_⟩
  refine And.intro ?_ ?_
  ·refine⟨(by repeat' first | exact trivial | exact rfl | exact⟨rfl,rfl⟩ | exact⟨by omega,_,c1,rfl⟩ | exact⟨by omega,_,c2,rfl⟩ | refine And.intro ?_ ?_),?_⟩
   refine⟨(by repeat' first | exact trivial | exact rfl | exact⟨rfl,rfl⟩ | exact⟨by omega,_,c1,rfl⟩ | exact⟨by omega,_,c2,rfl⟩ | refine And.intro ?_ ?_),?_⟩
   refine⟨(by repeat' first | exact trivial | exact rfl | exact⟨rfl,rfl⟩ | exact⟨by omega,_,c1,rfl⟩ | exact⟨by omega,_,c2,rfl⟩ | refine And.intro ?_ ?_),?_⟩
   exact ent_of [] [] [] rfl (sk) (sk) rfl
  ·refine⟨(by repeat' first | exact trivial | exact rfl | exact⟨rfl,rfl⟩ | exact⟨by omega,_,c1,rfl⟩ | exact⟨by omega,_,c2,rfl⟩ | refine And.intro ?_ ?_),?_⟩
   refine⟨(by repeat' first | exact trivial | exact rfl | exact⟨rfl,rfl⟩ | exact⟨by omega,_,c1,rfl⟩ | exact⟨by omega,_,c2,rfl⟩ | refine And.intro ?_ ?_),?_⟩
   refine⟨(by repeat' first | exact trivial | exact rfl | exact⟨rfl,rfl⟩ | exact⟨by omega,_,c1,rfl⟩ | exact⟨by omega,_,c2,rfl⟩ | refine And.intro ?_ ?_),?_⟩
   exact ent_of [] [(2,3),(3,2)] [] rfl (sk) (sk) rfl
 refine And.intro (fun h1=>?_) (fun h1=>end1 _ rfl rfl (by rw [cb_f (hd (fun e=>h1 (de_eq.1 e).1))]))
 have h1:x1=y1:=h1
 refine And.intro (fun h2=>?_) (fun h2=>end1 _ rfl rfl (by rw [cb_f (hd (fun e=>h2 (de_eq.1 e).2.1))]))
 have h2:x2=y2:=h2
 refine And.intro (fun h3=>?_) (fun h3=>end1 _ rfl rfl (by rw [cb_f (hd (fun e=>h3 (de_eq.1 e).2.2.1))]))
 have h3:x3=y3:=h3
 refine And.intro (fun h4=>?_) (fun h4=>end1 _ rfl rfl (by rw [cb_f (hd (fun e=>h4 (de_eq.1 e).2.2.2.1))]))
 have h4:x4=y4:=h4
 refine And.intro (fun h5=>?_) (fun h5=>?_)
 rotate_left
 ·have h5:¬ ((x5.map Rf.cells).length:Int)=((y5.map Rf.cells).length:Nat):=h5
  rw [l5,l5'] at h5
  exact end1 _ rfl rfl (by rw [cb_f (hd (fun e=>h5 (by rw [(de_eq.1 e).2.2.2.2.1])))])
 have h5:((x5.map Rf.cells).length:Int)=((y5.map Rf.cells).length:Nat):=h5
 rw [l5,l5'] at h5
 have hl5:x5.length=y5.length:=by omega
 refine And.intro (fun h6=>?_) (fun h6=>?_)
 rotate_left
 ·have h6:¬ ((x6.map Cs.cells).length:Int)=((y6.map Cs.cells).length:Nat):=h6
  rw [l6,l6'] at h6
  exact end1 _ rfl rfl (by rw [cb_f (hd (fun e=>h6 (by rw [(de_eq.1 e).2.2.2.2.2])))])
 have h6:((x6.map Cs.cells).length:Int)=((y6.map Cs.cells).length:Nat):=h6
 rw [l6,l6'] at h6
 have hl6:x6.length=y6.length:=by omega
 refine⟨Nat,fun j=>[(2, .ptr 0 0 0),(3, .ptr 1 0 0),(5, .p (i64 k)),(6, .ptr 2 0 0),(7, .ptr 3 0 0),(8, .p (i64 j))],fun _=>smH a b ⟨x1,x2,x3,x4,x5,x6⟩ ⟨y1,y2,y3,y4,y5,y6⟩,fun j=>j≤x5.length∧x5.take j=y5.take j,fun j=>x5.length - j,?_,?_⟩
 ·exact⟨0,⟨Nat.zero_le _,rfl⟩,ent_of [] [] [] rfl (sk) (sk) rfl⟩
 rintro j ⟨j1,j2⟩
 refine And.intro (fun m2=>?_) (fun m2=>?_)
 ·have m2:(j:Int)<((x5.map Rf.cells).length:Nat):=m2
  rw [l5] at m2
  have hj:j<x5.length:=by omega
  have hj':j<y5.length:=by omega
  have r1:=rcell hj
  have r2:=rcell hj'
  have hn2:=take_next rf0 hj hj' j2
  have hd2:¬ x5.getD j rf0=y5.getD j rf0→¬ x5=y5:=fun h e=>h (by rw [e])
  generalize x5.getD j rf0=u at r1 hn2 hd2
  generalize y5.getD j rf0=w at r2 hn2 hd2
  refine VDraw.seq rfl ?_
  refine⟨_,⟨by omega,u.cells,r1,rfl⟩,?_⟩
  refine⟨_,⟨by omega,w.cells,r2,rfl⟩,?_⟩
  refine⟨⟨by kernel_rfl,by kernel_rfl⟩,fun h7=>?_,fun h7=>?_⟩
  rotate_left
  ·exact end1 _ rfl rfl (by rw [cb_f (hd (fun e=>hd2 (fun e=>h7 (by rw [e])) (de_eq.1 e).2.2.2.2.1))])
  have h7:u=w:=rf_ext (by first | exact h7 | (injection h7))
  refine⟨_,wrap_i64 (by omega) (by omega),?_⟩
  exact⟨j+1,⟨hj,hn2 h7⟩,ent_of [] [] [] rfl (sk) (sk) rfl,by show x5.length - (j+1)<x5.length - j;omega⟩
 have m2:¬ (j:Int)<((x5.map Rf.cells).length:Nat):=m2
 rw [l5] at m2
 have h7:x5=y5:=take_end hl5 (by omega) j2
 refine⟨Nat,fun j=>[(2, .ptr 0 0 0),(3, .ptr 1 0 0),(5, .p (i64 k)),(6, .ptr 2 0 0),(7, .ptr 3 0 0),(9, .p (i64 j))],fun _=>smH a b ⟨x1,x2,x3,x4,x5,x6⟩ ⟨y1,y2,y3,y4,y5,y6⟩,fun j=>j≤x6.length∧x6.take j=y6.take j,fun j=>x6.length - j,?_,?_⟩
 ·exact⟨0,⟨Nat.zero_le _,rfl⟩,ent_of [] [] [] rfl (sk) (sk) rfl⟩
 rintro j ⟨j1,j2⟩
 refine And.intro (fun m2=>?_) (fun m2=>?_)
 rotate_left
 ·have m2:¬ (j:Int)<((x6.map Cs.cells).length:Nat):=m2
  rw [l6] at m2
  have h8:x6=y6:=take_end hl6 (by omega) j2
  refine⟨_,wrap_i64 (by omega) (by omega),?_⟩
  exact⟨k+1,⟨hk,hn (de_eq.2 ⟨h1,h2,h3,h4,h7,h8⟩)⟩,ent_of [] [] [] rfl (sk) (sk) rfl,by show a.length - (k+1)<a.length - k;omega⟩
 have m2:(j:Int)<((x6.map Cs.cells).length:Nat):=m2
 rw [l6] at m2
 have hj:j<x6.length:=by omega
 have hj':j<y6.length:=by omega
 have hlx:=bx6.len
 have s1:=scell hj
 have s2:=scell hj'
 have hm:=getD_memL cs0 hj
 have hm':=getD_memL cs0 hj'
 have hn2:=take_next cs0 hj hj' j2
 have hd2:¬ x6.getD j cs0=y6.getD j cs0→¬ x6=y6:=fun h e=>h (by rw [e])
 have hC:=sameC_c _ _ (bx6.cond _ hm) (by6.cond _ hm')
 have hI:=sints_c _ _ (bx6.nums _ hm) (by6.nums _ hm')
 generalize x6.getD j cs0=u at s1 hn2 hd2 hC hI
 generalize y6.getD j cs0=w at s2 hn2 hd2 hC hI
 obtain⟨⟨u1,u2,u3,u4,u5,u6,u7⟩,u8⟩:=u
 obtain⟨⟨w1,w2,w3,w4,w5,w6,w7⟩,w8⟩:=w
 simp only [] at hC hI
 refine vdraw_ot otS (by kernel_rfl) ?_
 refine⟨_,⟨by omega,(⟨.mk u1 u2 u3 u4 u5 u6 u7,u8⟩:Cs).cells,s1,rfl⟩,?_⟩
 refine⟨_,⟨by omega,(⟨.mk w1 w2 w3 w4 w5 w6 w7,w8⟩:Cs).cells,s2,rfl⟩,?_⟩
 refine(Classical.em (Cd.mk u1 u2 u3 u4 u5 u6 u7=.mk w1 w2 w3 w4 w5 w6 w7)).elim (fun e1=>?_) (fun e1=>?_)
 rotate_left
 ·rw [cb_f e1] at hC
  refine hC.eq rfl ?_
  exact end1 _ rfl rfl (by rw [cb_f (hd (fun e=>hd2 (fun e=>e1 (cs_eq.1 e).1) (de_eq.1 e).2.2.2.2.2))])
 rw [cb_t e1] at hC
 refine hC.eq rfl ?_
 refine⟨_,⟨by omega,(⟨.mk u1 u2 u3 u4 u5 u6 u7,u8⟩:Cs).cells,s1,rfl⟩,?_⟩
 refine⟨_,⟨by omega,(⟨.mk w1 w2 w3 w4 w5 w6 w7,w8⟩:Cs).cells,s2,rfl⟩,?_⟩
 refine(Classical.em (u8=w8)).elim (fun e2=>?_) (fun e2=>?_)
 rotate_left
 ·rw [cb_f e2] at hI
  refine hI.eq rfl ?_
  exact end1 _ rfl rfl (by rw [cb_f (hd (fun e=>hd2 (fun e=>e2 (cs_eq.1 e).2) (de_eq.1 e).2.2.2.2.2))])
 rw [cb_t e2] at hI
 refine hI.eq rfl ?_
 refine⟨_,wrap_i64 (by omega) (by omega),?_⟩
 exact⟨j+1,⟨hj,hn2 (cs_eq.2 ⟨e1,e2⟩)⟩,ent_of [] [] [] rfl (sk) (sk) rfl,by show x6.length - (j+1)<x6.length - j;omega⟩
set_option maxHeartbeats 4000000
def exS0:List UInt8:=[103,114,97,105,110,32,49,50,32,59,32,110,111,100,101,32,120,32,58,32,50,32,61,32,123,32,101,108,115,101,32,58,32,51,32,57,32,125,32,59]
def exD0:List De:=[⟨1,12,[],[],[],[]⟩,⟨3,2,[120],[],[],[⟨cd0,[3,9]⟩]⟩]
theorem ex_p0:parR exS0=.inr exD0:=by kernel_rfl
def exS1:List UInt8:=[110,111,100,101,32,121,32,91,32,112,32,93,32,58,32,50,32,102,114,111,109,32,120,32,44,32,121,32,91,32,112,32,43,32,49,32,93,32,61,32,123,32,120,32,61,32,49,32,97,110,100,32,110,111,116,32,121,32,91,32,112,32,43,32,49,32,93,32,105,110,32,123,32,49,32,44,32,48,32,44,32,49,32,125,32,58,32,49,32,59,32,101,108,115,101,32,58,32,45,32,50,32,125,32,59]
def exD1:List De:=[⟨3,2,[121],[112],[⟨[120],0,[],0⟩,⟨[121],1,[112],1⟩],[⟨.mk 8 0 0 0 rf0 [] [.mk 1 1 0 0 ⟨[120],0,[],0⟩ [] [], .mk 7 0 0 0 rf0 [] [.mk 5 0 0 0 ⟨[121],1,[112],1⟩ [0,1] []]],[1]⟩,⟨cd0,[(-2)]⟩]⟩]
theorem ex_p1:parR exS1=.inr exD1:=by kernel_rfl
def exS2:List UInt8:=[103,97,105,110,32,61,32,123,32,99,111,117,110,116,32,40,32,120,32,91,32,97,108,108,32,93,32,61,32,49,32,41,32,60,61,32,50,32,58,32,53,32,59,32,101,108,115,101,32,58,32,48,32,125,32,59]
def exD2:List De:=[⟨5,0,[],[],[],[⟨.mk 6 2 4 1 ⟨[120],3,[],0⟩ [] [],[5]⟩,⟨cd0,[0]⟩]⟩]
theorem ex_p2:parR exS2=.inr exD2:=by kernel_rfl
theorem ex_n0:parR [110,111,100,101,32,120,32,58,32,50,32,59]=.inl ((1,12),381):=by kernel_rfl
theorem ex_n1:parR [103,97,105,110,32,61,32,123,32,120,32,61,32,49,32,58,32,50,32,125,32,59]=.inl ((1,20),381):=by kernel_rfl
theorem ex_n2:parR [112,108,97,116,101,32,112,32,61,32,59]=.inl ((1,11),381):=by kernel_rfl
theorem ex_n3:parR [99,104,111,111,115,101,32,100,32,58,32,50,32,115,101,101,105,110,103,32,120]=.inl ((0,0),381):=by kernel_rfl
theorem ex_n4:parR [99,111,117,110,116]=.inl ((1,1),381):=by kernel_rfl
def exC0:Cd:=.mk 8 0 0 0 rf0 [] [.mk 9 0 0 0 rf0 [] [.mk 1 1 0 0 ⟨[97],0,[],0⟩ [] [], .mk 1 1 0 0 ⟨[98],0,[],0⟩ [] []], .mk 1 1 0 0 ⟨[99],0,[],0⟩ [] []]
theorem ex_w0:txtV [⟨5,0,[],[],[],[⟨exC0,[5]⟩,⟨cd0,[0]⟩]⟩]=[.str [103,97,105,110,32,61,32,123,32,40,32,97,32,61,32,49,32,111,114,32,98,32,61,32,49,32,41,32,97,110,100,32,99,32,61,32,49,32,58,32,53,32,59,32,101,108,115,101,32,58,32,48,32,125,32,59,10],i64 0]:=by kernel_rfl
def exC1:Cd:=.mk 7 0 0 0 rf0 [] [.mk 8 0 0 0 rf0 [] [.mk 1 1 0 0 ⟨[97],0,[],0⟩ [] [], .mk 3 2 0 0 ⟨[98],0,[],0⟩ [] []]]
theorem ex_w1:txtV [⟨5,0,[],[],[],[⟨exC1,[5]⟩,⟨cd0,[0]⟩]⟩]=[.str [103,97,105,110,32,61,32,123,32,110,111,116,32,40,32,97,32,61,32,49,32,97,110,100,32,98,32,60,32,50,32,41,32,58,32,53,32,59,32,101,108,115,101,32,58,32,48,32,125,32,59,10],i64 0]:=by kernel_rfl
set_option maxHeartbeats 40000000
abbrev otW:OT:=(.pure 0 (.pure 1 (.pure 2 (.pure 4 (.pure 5 (.pure 6 (.pure 7 (.pure 11 (.pure 13 (.pure 14 (.eff 3 [4,1] (.eff 8 [1] (.pure 9 (.eff 10 [1] (.pure 12 (.pure 15 (.pure 16 (.pure 17 (.eff 18 [] (.pure 19 .fin) .nil))))) .nil)) .nil) .nil)))))))))))
theorem cb_iff {p q:Prop} (h:p ↔ q):cb p=cb q:=by rw [propext h]
theorem parR_big {s:List UInt8} {ds:List De} (h:parR s=.inr ds):BigP ds:=by
 unfold parR at h
 split at h
 ·cases h
 ·cases hr:readR s with
  | err p c=>rw [hr] at h;cases h
  | ok ws=>
   rw [hr] at h
   have hg:=read_good hr
   have hl:=hg.len
   cases hp:progR ws (fuelW ws) (fuelW ws) [] 0 with
   | inl q=>simp only [hp] at h;cases h
   | inr x=>
    obtain⟨l,q⟩:=x
    simp only [hp] at h
    split at h
    ·injection h with h
     subst h
     exact prog_bigP hg (by rw [fuelW];omega) hp
    ·cases h
theorem parR_err {s:List UInt8} {p:Int × Int} {e:Int} (h:parR s=.inl (p,e)):e=3∨e=370∨e=381:=by
 unfold parR at h
 split at h
 ·injection h with h;injection h with _ h;exact .inl h.symm
 ·cases hr:readR s with
  | err p c=>
   rw [hr] at h
   injection h with h;injection h with _ h
   have:=readN_errP s _ _ _ _ _ hr
   omega
  | ok ws=>
   rw [hr] at h
   cases hp:progR ws (fuelW ws) (fuelW ws) [] 0 with
   | inl q=>simp only [hp] at h;injection h with h;injection h with _ h;omega
   | inr x=>
    obtain⟨l,q⟩:=x
    simp only [hp] at h
    split at h
    ·cases h
    ·injection h with h;injection h with _ h;omega
theorem refused_yes (s:List UInt8) (l c e:Int) (h:parR s=.inl ((l,c),e)):Pure cx 28 [.str s,i64 l,i64 c,i64 e] (·=.ret [.bool true]):=by
 have hP:=parse_c s
 rw [h] at hP
 refine pure_of_vc Tryz.func28 rfl rfl rfl ?_
 refine hP.eq rfl ?_
 refine And.intro (fun _=>?_) (fun h=>absurd rfl h)
 refine And.intro (fun _=>?_) (fun h=>absurd rfl h)
 refine And.intro (fun _=>?_) (fun h=>absurd rfl h)
 refine And.intro (fun _=>?_) (fun h=>absurd rfl h)
 exact end1 _ rfl rfl rfl
theorem reads_c (s:List UInt8) (want:List De) (hw:BigP want):Pure cx 37 [.str s,des want] (·=.ret [.bool (cb (parR s=.inr want))]):=by
 have hP:=parse_c s
 cases hp:parR s with
 | inl x=>
  obtain⟨⟨l,c⟩,e⟩:=x
  rw [hp] at hP
  have he:=parR_err hp
  refine pure_of_vc Tryz.func37 rfl rfl rfl ?_
  refine hP.eq rfl ?_
  refine And.intro (fun h=>absurd (show e=0 from h) (by omega)) (fun _=>?_)
  exact end1 _ rfl rfl (by rw [cb_f (fun e=>by cases e)])
 | inr ds=>
  rw [hp] at hP
  have hS:=sameP_c ds want (parR_big hp) hw
  rw [cb_iff (q:=(Sum.inr ds:Sum ((Int × Int) × Int) (List De))=.inr want) ⟨fun e=>by rw [e],fun e=>by injection e⟩] at hS
  refine pure_of_vc Tryz.func37 rfl rfl rfl ?_
  refine hP.eq rfl ?_
  refine And.intro (fun _=>?_) (fun h=>absurd rfl h)
  refine And.intro (fun _=>?_) (fun h=>absurd rfl h)
  refine And.intro (fun _=>?_) (fun h=>absurd rfl h)
  refine hS.eq rfl ?_
  exact end1 _ rfl rfl rfl
theorem reads_yes {s:List UInt8} {want:List De} (h:parR s=.inr want):Pure cx 37 [.str s,des want] (·=.ret [.bool true]):=by
 have:=reads_c s want (parR_big h)
 rw [cb_t h] at this
 exact this
theorem is_c (nm:List UInt8) (op n:Int):Pure cx 31 [.str nm,i64 op,i64 n] (·=.ret [(Cd.mk op n 0 0 ⟨nm,0,[],0⟩ [] []).pv]):=by
 refine Pure.nil (r:=.ret [.agg [i64 op,i64 n,i64 0,i64 0, .str nm,i64 0, .str [],i64 0, .nils, .nils]]) ?_ ⟨_,rfl,_,_,rfl,nil_leaf2 op n 0 0 ⟨nm,0,[],0⟩,rfl⟩
 refine pure_of_vc Tryz.func31 rfl rfl rfl ?_
 exact end1 _ rfl rfl rfl
theorem both_c (op:Int) (l:List Cd):Pure cx 32 [i64 op, .lsts 10 (cellsL l)] (·=.ret [(Cd.mk op 0 0 0 rf0 [] l).pv]):=by
 refine Pure.nil (r:=.ret [.agg [i64 op,i64 0,i64 0,i64 0, .str [],i64 0, .str [],i64 0, .nils, .lsts 10 (cellsL l)]]) ?_ ⟨_,rfl,_,_,rfl,?_,rfl⟩
 ·refine pure_of_vc Tryz.func32 rfl rfl rfl ?_
  exact end1 _ rfl rfl rfl
 ·show NilD _ (.agg [i64 op,i64 0,i64 0,i64 0, .str [],i64 0, .str [],i64 0, .lst [], .lsts 10 (cellsL l)])
  simp only [NilD,NilDL]
  exact⟨_,rfl,_,_,rfl,rfl,_,_,rfl,rfl,_,_,rfl,rfl,_,_,rfl,rfl,_,_,rfl,rfl,_,_,rfl,rfl,_,_,rfl,rfl,_,_,rfl,rfl,_,_,rfl, .inr (.inl rfl),_,_,rfl,⟨_,rfl,NilDLL.refl _⟩,rfl⟩
def gainD (c:Cd):De:=⟨5,0,[],[],[],[⟨c,[5]⟩,⟨cd0,[0]⟩]⟩
abbrev zc0:List PV:=[i64 0,i64 0,i64 0,i64 0, .str [],i64 0, .str [],i64 0, .nils, .nils]
theorem nil_zc (l:List Int):NilDL (zc0++[.lst (l.map i64)]) (⟨cd0,l⟩:Cs).cells:=by
 show NilDL [i64 0,i64 0,i64 0,i64 0, .str [],i64 0, .str [],i64 0, .nils, .nils, .lst (l.map i64)] [i64 0,i64 0,i64 0,i64 0, .str [],i64 0, .str [],i64 0, .lst [], .lsts 10 [], .lst (l.map i64)]
 simp only [NilD,NilDL]
 exact⟨_,_,rfl,rfl,_,_,rfl,rfl,_,_,rfl,rfl,_,_,rfl,rfl,_,_,rfl,rfl,_,_,rfl,rfl,_,_,rfl,rfl,_,_,rfl,rfl,_,_,rfl, .inr (.inl rfl),_,_,rfl, .inr (.inr ⟨10,rfl⟩),_,_,rfl,⟨_,rfl,NilDL.refl _⟩,rfl⟩
theorem gain_c (c:Cd):Pure cx 30 [c.pv] (·=.ret [(gainD c).pv]):=by
 refine Pure.nil (r:=.ret [.agg [i64 5,i64 0, .str [], .str [], .nils, .lsts 11 [c.cells++[.lst [i64 5]],zc0++[.lst [i64 0]]]]]) ?_ ⟨_,rfl,_,_,rfl,?_,rfl⟩
 ·obtain⟨o,n,r,v,rf,st,ar⟩:=c
  refine pure_of_vc Tryz.func30 rfl rfl rfl ?_
  refine end1 _ rfl ⟨_,rfl,_,_,rfl,rfl,_,_,rfl,rfl,_,_,rfl,rfl,_,_,rfl,rfl,_,_,rfl, .inl rfl,_,_,rfl,⟨_,rfl,Nat.le_refl _,⟨_,_,rfl,?_,_,_,rfl,?_,rfl⟩⟩,rfl⟩ rfl
  ·exact⟨_,_,rfl,rfl,_,_,rfl,rfl,_,_,rfl,rfl,_,_,rfl,rfl,_,_,rfl,rfl,_,_,rfl,rfl,_,_,rfl,rfl,_,_,rfl,rfl,_,_,rfl,rfl,_,_,rfl,rfl,_,_,rfl,⟨_,rfl,Nat.le_refl _,rfl⟩,rfl⟩
  ·exact⟨_,_,rfl,rfl,_,_,rfl,rfl,_,_,rfl,rfl,_,_,rfl,rfl,_,_,rfl,rfl,_,_,rfl,rfl,_,_,rfl,rfl,_,_,rfl,rfl,_,_,rfl, .inl rfl,_,_,rfl, .inl rfl,_,_,rfl,⟨_,rfl,Nat.le_refl _,rfl⟩,rfl⟩
 ·show NilD _ (.agg [i64 5,i64 0, .str [], .str [], .lsts 4 [], .lsts 11 [(⟨c,[5]⟩:Cs).cells,(⟨cd0,[0]⟩:Cs).cells]])
  simp only [NilD,NilDL]
  refine⟨_,rfl,_,_,rfl,rfl,_,_,rfl,rfl,_,_,rfl,rfl,_,_,rfl,rfl,_,_,rfl, .inr (.inr ⟨4,rfl⟩),_,_,rfl,⟨_,rfl,?_⟩,rfl⟩
  simp only [NilDLL]
  exact⟨_,_,rfl,NilDL.refl _,_,_,rfl,nil_zc [0],rfl⟩
theorem gain_big {c:Cd} (h:BigC c):BigP [gainD c]:=by
 refine⟨by show 1≤9223372036854775807;decide,fun d hd=>?_⟩
 rw [List.mem_singleton] at hd
 subst hd
 have hl:BigL [⟨c,[5]⟩,⟨cd0,[0]⟩]:=by
  refine⟨by show 2≤9223372036854775807;decide,fun x hx=>?_,fun x hx=>?_⟩
  ·rcases List.mem_cons.1 hx with rfl | hx
   ·exact h
   ·rw [List.mem_singleton.1 hx]
    exact big_leaf ⟨nil_big,nil_big⟩ (by decide)
  ·rcases List.mem_cons.1 hx with rfl | hx
   ·show 1≤9223372036854775807;decide
   ·rw [List.mem_singleton.1 hx];show 1≤9223372036854775807;decide
 exact⟨nil_big,nil_big,by show 0≤9223372036854775807;decide,(fun r hr=>by cases hr),hl⟩
abbrev gnA:List UInt8:=[103,97,105,110,32,61,32,123,32]
abbrev gnB:List UInt8:=[32,58,32,53,32,59,32,101,108,115,101,32,58,32,48,32,125,32,59,10]
theorem writes_yes (c:Cd) (want:List UInt8) (hb:BigC c) (hl:want.length≤8000) (h:txtV [gainD c]=[.str ((gnA++want)++gnB),i64 0]):Pure cx 49 [c.pv, .str want] (·=.ret [.bool true]):=by
 have hT:=ptext_c [gainD c] (gain_big hb)
 rw [h] at hT
 have hG:=gain_c c
 clear h hb
 obtain⟨o,n,r,v,rf,st,ar⟩:=c
 refine pure_of_vc Tryz.func49 rfl rfl rfl ?_
 refine hG.eq rfl ?_
 refine hT.lends [1] rfl ⟨_,_,rfl,⟨_,rfl,_,_,rfl,⟨_,rfl,Nat.le_refl _,rfl⟩,rfl⟩,rfl⟩ ?_
 refine And.intro (fun _=>?_) (fun h=>absurd rfl h)
 refine⟨by show List.length _+List.length _≤9223372036854775807;(try simp) <;> omega,?_⟩
 refine⟨by show List.length _+List.length _≤9223372036854775807;(try simp) <;> omega,?_⟩
 refine And.intro (fun _=>?_) (fun h=>absurd rfl h)
 exact end1 _ rfl rfl rfl
theorem leaf_big {nm:List UInt8} {op n:Int} (h:BigS nm):BigC (.mk op n 0 0 ⟨nm,0,[],0⟩ [] []):=big_leaf ⟨h,nil_big⟩ (by decide)
theorem c0_big:BigC exC0:=big_two (big_two (leaf_big (by decide)) (leaf_big (by decide))) (leaf_big (by decide))
theorem c1_big:BigC exC1:=big_one (big_two (leaf_big (by decide)) (leaf_big (by decide)))
theorem works_c:Pure cx 17 [] (·=.ret [.bool true]):=by
 have w0:=writes_yes exC0 [40,32,97,32,61,32,49,32,111,114,32,98,32,61,32,49,32,41,32,97,110,100,32,99,32,61,32,49] c0_big (by decide) ex_w0
 have w1:=writes_yes exC1 [110,111,116,32,40,32,97,32,61,32,49,32,97,110,100,32,98,32,60,32,50,32,41] c1_big (by decide) ex_w1
 refine pure_of_vc Tryz.func17 rfl rfl rfl ?_
 refine((reads_yes ex_p0).arg (args':=[.str exS0, .lsts 6 [[i64 1,i64 12, .str [], .str [], .nils, .nils],[i64 3,i64 2, .str [120], .str [], .nils, .lsts 11 [zc0++[.lst [i64 3,i64 9]]]]]]) ?_).lends [0,1,2] rfl ?_ ?_
 ·show NilDL [.str exS0, .lsts 6 [[i64 1,i64 12, .str [], .str [], .nils, .nils],[i64 3,i64 2, .str [120], .str [], .nils, .lsts 11 [zc0++[.lst [i64 3,i64 9]]]]]] [.str exS0, .lsts 6 [[i64 1,i64 12, .str [], .str [], .lsts 4 [], .lsts 11 []],[i64 3,i64 2, .str [120], .str [], .lsts 4 [], .lsts 11 [(⟨cd0,[3,9]⟩:Cs).cells]]]]
  simp only [NilDL,NilD,NilDLL]
  exact⟨_,_,rfl,rfl,_,_,rfl,⟨_,rfl,⟨_,_,rfl,⟨_,_,rfl,rfl,_,_,rfl,rfl,_,_,rfl,rfl,_,_,rfl,rfl,_,_,rfl, .inr (.inr ⟨4,rfl⟩),_,_,rfl, .inr (.inr ⟨11,rfl⟩),rfl⟩,_,_,rfl,⟨_,_,rfl,rfl,_,_,rfl,rfl,_,_,rfl,rfl,_,_,rfl,rfl,_,_,rfl, .inr (.inr ⟨4,rfl⟩),_,_,rfl,⟨_,rfl,⟨_,_,rfl,nil_zc [3,9],rfl⟩⟩,rfl⟩,rfl⟩⟩,rfl⟩
 ·refine⟨_,_,rfl,rfl,_,_,rfl,⟨_,rfl,Nat.le_refl _,⟨_,_,rfl,?_,_,_,rfl,?_,rfl⟩⟩,rfl⟩
  ·exact⟨_,_,rfl,rfl,_,_,rfl,rfl,_,_,rfl,rfl,_,_,rfl,rfl,_,_,rfl, .inl rfl,_,_,rfl, .inl rfl,rfl⟩
  ·refine⟨_,_,rfl,rfl,_,_,rfl,rfl,_,_,rfl,rfl,_,_,rfl,rfl,_,_,rfl, .inl rfl,_,_,rfl,⟨_,rfl,Nat.le_refl _,⟨_,_,rfl,?_,rfl⟩⟩,rfl⟩
   exact⟨_,_,rfl,rfl,_,_,rfl,rfl,_,_,rfl,rfl,_,_,rfl,rfl,_,_,rfl,rfl,_,_,rfl,rfl,_,_,rfl,rfl,_,_,rfl,rfl,_,_,rfl, .inl rfl,_,_,rfl, .inl rfl,_,_,rfl,⟨_,rfl,Nat.le_refl _,rfl⟩,rfl⟩
 refine vdraw_ot otW (by kernel_rfl) ?_
 refine(is_c [120] 1 1).eq rfl ?_
 refine⟨sk,?_⟩
 refine((both_c 7 [.mk 5 0 0 0 ⟨[121],1,[112],1⟩ [0,1] []]).arg (args':=[i64 7, .lsts 10 [[i64 5,i64 0,i64 0,i64 0, .str [121],i64 1, .str [112],i64 1, .lst [i64 0,i64 1], .nils]]]) ?_).eq rfl ?_
 ·simp only [NilD,NilDL,NilDLL]
  repeat' first | exact rfl | exact NilDL.refl _ | exact NilD.refl _ | exact .inr (.inl rfl) | exact .inr (.inr ⟨_,rfl⟩) | refine⟨_,_,rfl,?_,?_⟩ | refine⟨_,rfl,?_⟩ | refine And.intro ?_ ?_
 refine⟨sk,?_⟩
 refine(both_c 8 [.mk 1 1 0 0 ⟨[120],0,[],0⟩ [] [], .mk 7 0 0 0 rf0 [] [.mk 5 0 0 0 ⟨[121],1,[112],1⟩ [0,1] []]]).eq rfl ?_
 refine⟨sk,?_⟩
 refine((reads_yes ex_p1).arg (args':=[.str exS1, .lsts 6 [[i64 3,i64 2, .str [121], .str [112], .lsts 4 [[.str [120],i64 0, .str [],i64 0],[.str [121],i64 1, .str [112],i64 1]], .lsts 11 [(Cd.cells (.mk 8 0 0 0 rf0 [] [.mk 1 1 0 0 ⟨[120],0,[],0⟩ [] [], .mk 7 0 0 0 rf0 [] [.mk 5 0 0 0 ⟨[121],1,[112],1⟩ [0,1] []]]))++[.lst [i64 1]],zc0++[.lst [i64 (-2)]]]]]]) ?_).eq rfl ?_
 ·show NilDL [.str exS1, .lsts 6 [[i64 3,i64 2, .str [121], .str [112], .lsts 4 [[.str [120],i64 0, .str [],i64 0],[.str [121],i64 1, .str [112],i64 1]], .lsts 11 [(Cd.cells (.mk 8 0 0 0 rf0 [] [.mk 1 1 0 0 ⟨[120],0,[],0⟩ [] [], .mk 7 0 0 0 rf0 [] [.mk 5 0 0 0 ⟨[121],1,[112],1⟩ [0,1] []]]))++[.lst [i64 1]],zc0++[.lst [i64 (-2)]]]]]] [.str exS1, .lsts 6 [[i64 3,i64 2, .str [121], .str [112], .lsts 4 [[.str [120],i64 0, .str [],i64 0],[.str [121],i64 1, .str [112],i64 1]], .lsts 11 [(⟨.mk 8 0 0 0 rf0 [] [.mk 1 1 0 0 ⟨[120],0,[],0⟩ [] [], .mk 7 0 0 0 rf0 [] [.mk 5 0 0 0 ⟨[121],1,[112],1⟩ [0,1] []]],[1]⟩:Cs).cells,(⟨cd0,[-2]⟩:Cs).cells]]]]
  simp only [NilD,NilDL,NilDLL]
  repeat' first | exact rfl | exact NilDL.refl _ | exact NilD.refl _ | exact .inr (.inl rfl) | exact .inr (.inr ⟨_,rfl⟩) | refine⟨_,_,rfl,?_,?_⟩ | refine⟨_,rfl,?_⟩ | refine And.intro ?_ ?_
 refine(is_c [97] 1 1).eq rfl ?_
 refine(is_c [98] 1 1).eq rfl ?_
 refine(both_c 9 [.mk 1 1 0 0 ⟨[97],0,[],0⟩ [] [], .mk 1 1 0 0 ⟨[98],0,[],0⟩ [] []]).uses [4] rfl ⟨_,_,rfl,rfl,_,_,rfl,⟨_,rfl,Nat.le_refl _,rfl⟩,rfl⟩ ?_
 refine(is_c [99] 1 1).eq rfl ?_
 refine(both_c 8 [.mk 9 0 0 0 rf0 [] [.mk 1 1 0 0 ⟨[97],0,[],0⟩ [] [], .mk 1 1 0 0 ⟨[98],0,[],0⟩ [] []], .mk 1 1 0 0 ⟨[99],0,[],0⟩ [] []]).uses [5] rfl ⟨_,_,rfl,rfl,_,_,rfl,⟨_,rfl,Nat.le_refl _,rfl⟩,rfl⟩ ?_
 refine w0.eq rfl ?_
 refine(is_c [97] 1 1).eq rfl ?_
 refine(is_c [98] 3 2).eq rfl ?_
 refine(both_c 8 [.mk 1 1 0 0 ⟨[97],0,[],0⟩ [] [], .mk 3 2 0 0 ⟨[98],0,[],0⟩ [] []]).uses [6] rfl ⟨_,_,rfl,rfl,_,_,rfl,⟨_,rfl,Nat.le_refl _,rfl⟩,rfl⟩ ?_
 refine(both_c 7 [.mk 8 0 0 0 rf0 [] [.mk 1 1 0 0 ⟨[97],0,[],0⟩ [] [], .mk 3 2 0 0 ⟨[98],0,[],0⟩ [] []]]).uses [7] rfl ⟨_,_,rfl,rfl,_,_,rfl,⟨_,rfl,Nat.le_refl _,rfl⟩,rfl⟩ ?_
 refine w1.eq rfl ?_
 refine(refused_yes _ _ _ _ ex_n0).eq rfl ?_
 refine(refused_yes _ _ _ _ ex_n1).eq rfl ?_
 refine(refused_yes _ _ _ _ ex_n2).eq rfl ?_
 refine(refused_yes _ _ _ _ ex_n3).eq rfl ?_
 refine(refused_yes _ _ _ _ ex_n4).eq rfl ?_
 refine((gain_c (.mk 6 2 4 1 ⟨[120],3,[],0⟩ [] [])).arg (args':=[.agg [i64 6,i64 2,i64 4,i64 1, .str [120],i64 3, .str [],i64 0, .nils, .nils]]) ⟨_,_,rfl,nil_leaf2 6 2 4 1 ⟨[120],3,[],0⟩,rfl⟩).eq rfl ?_
 refine(reads_yes ex_p2).lends [8] rfl ⟨_,_,rfl,rfl,_,_,rfl,⟨_,rfl,Nat.le_refl _,rfl⟩,rfl⟩ ?_
 exact end1 _ rfl rfl rfl
structure Small (d:Nat) (c:Cd) (n:Nat):Prop where
 pos:1≤n
 valid:∀ left,n≤left→condV d c left=some (left - n)
 big:BigC c
 len:(spW true (condT c)).length≤240 * n
theorem leaf_few {op n rel val:Int} {r:Rf} {st:List Int} (hb:leafB op n rel val r st=true) (hs:st.length≤4):(leafT op n rel val r st).length≤21:=by
 unfold leafB at hb
 unfold leafT
 by_cases c6:op=6
 ·rw [if_neg (by omega),if_neg (by omega),if_pos c6] at hb
  simp only [Bool.and_eq_true,decide_eq_true_eq] at hb
  have hr:=ref_toks hb.1.1.1.1.1.1
  rw [if_pos c6]
  simp only [List.length_append,List.length_cons,List.length_nil];omega
 ·rw [if_neg c6]
  by_cases c5:op=5
  ·rw [if_neg (by omega),if_pos c5] at hb
   simp only [Bool.and_eq_true,decide_eq_true_eq] at hb
   obtain⟨⟨⟨⟨b1,b2⟩,b3⟩,b4⟩,b5⟩:=hb
   rw [if_pos c5]
   have hr:=ref_toks b1
   have hset:=setB_facts b5
   have hs:=sep_toks (f:=fun n=>[digT n]) (b:=1) (l:=st) fun a ha=>⟨allT_cons (tok_dig (hset.2.1 a ha)) allT_nil,by simp⟩
   simp only [List.length_append,List.length_cons,List.length_nil];omega
  ·rw [if_neg c5]
   by_cases c1:op=1∨op=2∨op=3∨op=4
   ·rw [if_pos c1] at hb
    simp only [Bool.and_eq_true,decide_eq_true_eq] at hb
    have hr:=ref_toks hb.1.1.1.1
    simp only [List.length_append,List.length_cons,List.length_nil];omega
   ·rw [if_neg c1,if_neg c5,if_neg c6] at hb
    cases hb
theorem ref_bigB {r:Rf} (h:refB r=true):BigR r:=by
 obtain⟨nm,m,pl,n⟩:=r
 rw [refB,Bool.and_eq_true] at h
 have h1:=name_len h.1
 refine⟨by show nm.length≤_;have h1:nm.length≤10:=h1;omega,?_⟩
 have h2:=h.2
 simp only [] at h2
 show pl.length≤_
 split at h2
 ·simp only [Bool.and_eq_true,decide_eq_true_eq] at h2
  rw [h2.1];simp
 ·split at h2
  ·simp only [Bool.and_eq_true] at h2
   have:=name_len h2.1
   omega
  ·split at h2
   ·simp only [Bool.and_eq_true,decide_eq_true_eq] at h2
    rw [h2.1];simp
   ·cases h2
theorem leafB_ref {op n rel val:Int} {r:Rf} {st:List Int} (hb:leafB op n rel val r st=true):refB r=true:=(leafB_facts hb).1
theorem leaf_small {op n rel val:Int} {r:Rf} {st:List Int} (h7:¬ op=7) (h8:¬ op=8) (h9:¬ op=9) (hb:leafB op n rel val r st=true) (hs:st.length≤4) (d:Nat):Small (d+1) (.mk op n rel val r st []) 1:=by
 refine⟨Nat.le_refl _,fun left hl=>?_,big_leaf (ref_bigB (leafB_ref hb)) (by omega),?_⟩
 ·rw [condV,if_neg (by omega),if_pos]
  ·rfl
  ·have h0:argsN op=0:=by rw [argsN,if_neg h7,if_neg (by omega)]
   rw [headB,if_pos h0,hb];rfl
 ·rw [condT_leaf h7 h8 h9]
  have h1:=leaf_few hb hs
  have h2:=spW_len true (leaf_toks hb).1
  omega
theorem len_in (k:Nat) (p:Int × Toks):(spW true (inT k p)).length≤(spW true p.2).length+4:=by
 unfold inT
 split
 ·show(spW true ([tLP]++(p.2++[tRP]))).length≤_
  rw [spW_t,spW_t]
  simp [spW]
 ·omega
theorem two_small {d na nb:Nat} {a b:Cd} {op:Int} (ho:op=8∨op=9) (ha:Small d a na) (hb:Small d b nb):Small (d+1) (.mk op 0 0 0 rf0 [] [a,b]) (1+na+nb):=by
 have h1:=ha.pos
 have h2:=hb.pos
 have l1:=ha.len
 have l2:=hb.len
 refine⟨by omega,fun left hl=>?_,big_two ha.big hb.big,?_⟩
 ·rw [condV,if_neg (by omega),if_pos]
  ·show(do
    let l ← condV d a (left - 1)
    let l ← condV d b l
    some l)=_
   rw [ha.valid _ (by omega)]
   show(do
    let l ← condV d b (left - 1 - na)
    some l)=_
   rw [hb.valid _ (by omega)]
   show some _=some _
   congr 1;omega
  ·rcases ho with rfl | rfl <;> rfl
 ·rcases ho with rfl | rfl
  ·rw [condT_conj,spW_t]
   have k1:=len_in 2 (a.op,condT a)
   have k2:=len_in 3 (b.op,condT b)
   simp only [] at k1 k2
   show((spW true (inT 2 (a.op,condT a)))++spW true ([tAnd]++inT 3 (b.op,condT b))).length≤_
   rw [spW_t,List.length_append,List.length_append]
   have k3:(spW true [tAnd]).length=4:=rfl
   omega
  ·rw [condT_disj,spW_t]
   have k1:=len_in 1 (a.op,condT a)
   have k2:=len_in 2 (b.op,condT b)
   simp only [] at k1 k2
   show((spW true (inT 1 (a.op,condT a)))++spW true ([tOr]++inT 2 (b.op,condT b))).length≤_
   rw [spW_t,List.length_append,List.length_append]
   have k3:(spW true [tOr]).length=3:=rfl
   omega
theorem neg_small {d na:Nat} {a:Cd} (ha:Small d a na):Small (d+1) (.mk 7 0 0 0 rf0 [] [a]) (1+na):=by
 have h1:=ha.pos
 have l1:=ha.len
 refine⟨by omega,fun left hl=>?_,big_one ha.big,?_⟩
 ·rw [condV,if_neg (by omega),if_pos]
  ·show(do
    let l ← condV d a (left - 1)
    some l)=_
   rw [ha.valid _ (by omega)]
   show some _=some _
   congr 1;omega
  ·rfl
 ·rw [condT_neg]
  have k1:=len_in 3 (a.op,condT a)
  simp only [] at k1
  show(spW true ([tNot]++inT 3 (a.op,condT a))).length≤_
  rw [spW_t,List.length_append]
  have k3:(spW true [tNot]).length=4:=rfl
  omega
theorem p_name:nameN [112]=true:=by decide
theorem refB0 {nm:List UInt8} (h:nameN nm=true):refB ⟨nm,0,[],0⟩=true:=by rw [refB,h];rfl
theorem refB3 {nm:List UInt8} (h:nameN nm=true):refB ⟨nm,3,[],0⟩=true:=by rw [refB,h];rfl
theorem refB2 {nm:List UInt8} {n:Int} (h:nameN nm=true) (hn:natB n=true):refB ⟨nm,2,[],n⟩=true:=by
 show(nameN nm && (decide (([]:List UInt8)=[]) && natB n))=true
 rw [h,hn];rfl
theorem refB1 {nm pl:List UInt8} {n:Int} (h:nameN nm=true) (hp:nameN pl=true) (hn:natB n=true):refB ⟨nm,1,pl,n⟩=true:=by
 show(nameN nm && (nameN pl && natB n))=true
 rw [h,hp,hn];rfl
theorem leafB1 {op n:Int} {r:Rf} (ho:1≤op∧op≤4) (hr:refB r=true) (hn:natB n=true):leafB op n 0 0 r []=true:=by
 unfold leafB
 rw [if_pos (by omega),hr,hn];rfl
theorem leafB5 {r:Rf} {st:List Int} (hr:refB r=true) (hs:setB st=true):leafB 5 0 0 0 r st=true:=by
 unfold leafB
 rw [if_neg (by decide),if_pos rfl,hr,hs];rfl
theorem nil_leafD (rf:Rf) (L:List Int) (j:Nat):NilD (.agg [i64 5,i64 0,i64 0,i64 0, .str rf.name,i64 rf.mode, .str rf.plate,i64 rf.n, .lst ((L.map i64).drop j), .nils]) (Cd.mk 5 0 0 0 rf (L.drop j) []).pv:=by
 rw [← List.map_drop]
 exact nil_leaf 5 0 0 0 rf (L.drop j)
abbrev withD (c:Cd):De:=⟨5,0,[],[],[],[⟨c,[1]⟩,⟨cd0,[-1,0]⟩]⟩
set_option maxHeartbeats 4000000
def isLP (t:List UInt8):Nat:=if t=tLP then 1 else 0
def lpP (ws:List Wd):Nat→Nat
 | 0=>0
 | q+1=>lpP ws q+isLP (txt ws q)
def pn (k:Nat) (p:Int × Nat):Nat:=p.2+if lvl p.1<k then 1 else 0
def cpJ (op:Int) (ps:List (Int × Nat)):Nat:=
 if op=9 then pn 1 (ps.getD 0 (0,0))+pn 2 (ps.getD 1 (0,0)) else if op=8 then pn 2 (ps.getD 0 (0,0))+pn 3 (ps.getD 1 (0,0)) else if op=7 then pn 3 (ps.getD 0 (0,0)) else if op=6 then 1 else 0
mutual
def cp:Cd→Nat
 | .mk op _ _ _ _ _ ar=>cpJ op (cpL ar)
def cpL:List Cd→List (Int × Nat)
 | []=>[]
 | c::r=>(c.op,cp c)::cpL r
end
def pin (k:Nat) (c:Cd):Nat:=pn k (c.op,cp c)
structure CLp (ws:List Wd) (F:Nat):Prop where
 cond:∀ {q c q'},condR ws F q=.inr (c,q')→lpP ws q+pin 1 c≤lpP ws q'
 orr:∀ {d q c q'},orR ws F d q=.inr (c,q')→∀ s,s+pin 1 d≤lpP ws q→s+pin 1 c≤lpP ws q'
 conj:∀ {q c q'},conjR ws F q=.inr (c,q')→lpP ws q+pin 2 c≤lpP ws q'
 andr:∀ {d q c q'},andR ws F d q=.inr (c,q')→∀ s,s+pin 2 d≤lpP ws q→s+pin 2 c≤lpP ws q'
 neg:∀ {q c q'},negR ws F q=.inr (c,q')→lpP ws q+pin 3 c≤lpP ws q'
 test:∀ {q c q'},testR ws F q=.inr (c,q')→lpP ws q+pin 4 c≤lpP ws q'
def lpT (x:Toks):Nat:=(x.map isLP).sum
def wgh (t:List UInt8):Int:=if t=tLP then 1 else if t=tRP then -1 else 0
def tot (x:Toks):Int:=(x.map wgh).sum
structure Bal (x:Toks):Prop where
 all:tot x=0
 pre:∀ n,0≤tot (x.take n)
def Pl (t:List UInt8):Prop:=t ≠ tLP∧t ≠ tRP
structure CanP (c:Cd):Prop where
 bal:Bal (condT c)
 lp:lpT (condT c)=cp c
def rend1 (x:Toks):List UInt8:=x.flatMap fun t=>t++[32]
theorem rend1_app (x y:Toks):rend1 (x++y)=rend1 x++rend1 y:=List.flatMap_append
theorem rend1_rendG (x:Toks):rend1 x=rendG (x.map fun t=>(t,[32])):=by
 rw [rend1,rendG,List.flatMap_map]
theorem read_rend1 {x:Toks} (hx:AllT x) (hn:x.length≤1500):∃ ws,readR (rend1 x)=.ok ws∧ws.map Wd.text=x:=by
 have h:=readR_rend (l:=x.map fun t=>(t,[32])) (g0:=[]) (.inl rfl) (fun y hy=>by
  obtain⟨t,ht,rfl⟩:=List.mem_map.1 hy
  exact⟨hx t ht,gap_sp⟩) (by rw [List.length_map];exact hn)
 rw [List.nil_append,← rend1_rendG] at h
 refine⟨_,h,?_⟩
 rw [wordsAt_text,List.map_map]
 show x.map (fun t=>t)=x
 simp
set_option maxHeartbeats 40000000
inductive ParS (s:List UInt8):Prop
 | no (l c e:Int) (h:parR s=.inl ((l,c),e)) (h1:Pure cx 22 [.str s] (·=.ret [srcV [],i64 l,i64 c,i64 e])) (h2:Pure cx 23 [.str s] (·=.ret [srcV [],i64 l,i64 c,i64 e])) (h3:Pure cx 24 [srcV [],srcV []] (·=.ret [.bool true])):ParS s
 | yes (ds:List De) (h:parR s=.inr ds) (h1:Pure cx 22 [.str s] (·=.ret [srcV ds,i64 0,i64 0,i64 0])) (h2:Pure cx 23 [.str s] (·=.ret [srcV ds,i64 0,i64 0,i64 0])) (h3:Pure cx 24 [srcV ds,srcV ds] (·=.ret [.bool true])):ParS s
theorem nil_bigP:BigP []:=⟨by simp,fun d hd=>by cases hd⟩
theorem parS (s:List UInt8):ParS s:=by
 have h1:=parse_c s
 have h2:=rParse_c s
 cases hp:parR s with
 | inl x=>
  obtain⟨⟨l,c⟩,e⟩:=x
  rw [hp] at h1 h2
  have h3:=sameP_c [] [] nil_bigP nil_bigP
  rw [cb_t rfl] at h3
  exact .no l c e hp h1 h2 h3
 | inr ds=>
  rw [hp] at h1 h2
  have h3:=sameP_c ds ds (parR_big hp) (parR_big hp)
  rw [cb_t rfl] at h3
  exact .yes ds hp h1 h2 h3
structure WithF (c:Cd):Prop where
 valid:validB [withD c]=true
 all:AllT (declT (withD c))
 num:(declT (withD c)).length≤1500
 txt:(textT [withD c]).length≤8000
 len:(rend1 (declT (withD c))).length≤8000
 can:CanP c
 big:BigP [withD c]
set_option maxHeartbeats 4000000
def lw:Toks→Nat
 | []=>0
 | x::l=>x.length+lw l
theorem lw_cons (t:List UInt8) (x:Toks):lw (t::x)=t.length+lw x:=rfl
theorem lw_n:lw []=0:=rfl
theorem lw_app:∀ a b:Toks,lw (a++b)=lw a+lw b
 | [],b=>by simp [lw]
 | x::a,b=>by rw [List.cons_append,lw,lw,lw_app a b];omega
def nbB (c:UInt8):Bool:=decide (c.toNat ≠ 32) && decide (c.toNat ≠ 10)
def nb (s:List UInt8):Nat:=(s.filter nbB).length
theorem nb_app (a b:List UInt8):nb (a++b)=nb a+nb b:=by simp [nb]
theorem nb_le (s:List UInt8):nb s≤s.length:=List.length_filter_le _ _
theorem nb_all {s:List UInt8} (h:∀ c∈s,nbB c=true):nb s=s.length:=by rw [nb,List.filter_eq_self.2 h]
theorem nb_take (s:List UInt8) (k:Nat):nb (s.take k)≤nb s:=by
 conv=>rhs;rw [← List.take_append_drop k s]
 rw [nb_app];omega
theorem nb_drop (s:List UInt8) (k:Nat):nb (s.drop k)≤nb s:=by
 conv=>rhs;rw [← List.take_append_drop k s]
 rw [nb_app];omega
theorem span_all {f:UInt8→Bool}:∀ {t:List UInt8},spanN f t=t.length→∀ c∈t,f c=true
 | [],_,c,hc=>by cases hc
 | x::t,h,c,hc=>by
  rw [spanN] at h
  have hle:=spanN_le f t
  split at h
  ·rename_i hx
   simp only [List.length_cons] at h
   rcases List.mem_cons.1 hc with rfl | hc
   ·exact hx
   ·exact span_all (by omega) c hc
  ·simp only [List.length_cons] at h;omega
theorem aln_nb {c:UInt8} (h:isAln c=true):nbB c=true:=by
 simp only [isAln,isDig,isLet,Bool.or_eq_true,Bool.and_eq_true,decide_eq_true_eq] at h
 rw [nbB,decide_eq_true (by omega),decide_eq_true (by omega)];rfl
theorem fix_nb:∀ t∈keysL++marksL,∀ c∈t,nbB c=true:=by decide
theorem right_nb {k:Int} {t:List UInt8} (h:rightN k t=true):∀ c∈t,nbB c=true:=by
 unfold rightN at h
 split at h
 ·simp only [nameN,Bool.and_eq_true,decide_eq_true_eq] at h
  exact fun c hc=>aln_nb (span_all h.1.2 c hc)
 ·split at h
  ·exact fix_nb t (List.mem_append_left _ (inL_mem h))
  ·split at h
   ·simp only [numN,Bool.and_eq_true,decide_eq_true_eq] at h
    exact fun c hc=>aln_nb (by rw [isAln,span_all h.1.2 c hc];rfl)
   ·split at h
    ·exact fix_nb t (List.mem_append_right _ (inL_mem h))
    ·cases h
def PLt (p q:Nat × Nat):Prop:=p.1<q.1∨(p.1=q.1∧p.2<q.2)
theorem PLt.trans {p q r:Nat × Nat} (h:PLt p q) (k:PLt q r):PLt p r:=by
 unfold PLt at *;omega
theorem adv_lt (p:Nat × Nat) (c:UInt8):PLt p (adv p c):=by
 unfold adv PLt
 split
 ·exact .inl (Nat.lt_succ_self _)
 ·exact .inr ⟨rfl,Nat.lt_succ_self _⟩
theorem at_lt {s:List UInt8} {a:Nat}:∀ {b:Nat},a<b→b≤s.length→PLt (at_ s a) (at_ s b)
 | 0,h,_=>by omega
 | b+1,h,hb=>by
  rw [at_succ (by omega:b<s.length)]
  rcases Nat.lt_or_ge a b with h1 | h1
  ·exact(at_lt h1 (by omega)).trans (adv_lt _ _)
  ·obtain rfl:a=b:=by omega
   exact adv_lt _ _
theorem at_one {s:List UInt8} {a:Nat} (h:a≤s.length):1≤(at_ s a).1:=by
 rcases Nat.eq_zero_or_pos a with rfl | h0
 ·exact Nat.le_refl _
 ·have:=at_lt h0 h
  have e:at_ s 0=(1,1):=rfl
  rw [e] at this
  rcases this with h1 | h1
  ·exact Nat.le_of_lt h1
  ·exact Nat.le_of_eq h1.1
structure WSp (s:List UInt8) (k:Nat) (acc:List Wd):Prop where
 pl:∀ w∈acc,∃ o,o<k∧o≤s.length∧w.line=(at_ s o).1∧w.col=(at_ s o).2
 ne:∀ i j,i<j→j<acc.length→¬ ((wat acc i).line=(wat acc j).line∧(wat acc i).col=(wat acc j).col)
 lw:lw (acc.map Wd.text)≤nb (s.take k)
theorem one_take (r:List UInt8):(oneN r).2=r.take (oneN r).2.length:=by
 have key:∀ n,r.take n=r.take (r.take n).length:=fun n=>by
  rw [List.length_take]
  rcases Nat.le_total n r.length with h | h
  ·rw [Nat.min_eq_left h]
  ·rw [Nat.min_eq_right h,List.take_of_length_le h,List.take_of_length_le (Nat.le_refl _)]
 unfold oneN
 split
 ·split
  ·exact key _
  ·split <;> exact key _
 ·split <;> exact key _
theorem wat_l {a b:List Wd} {i:Nat} (h:i<a.length):wat (a++b) i=wat a i:=by
 rw [wat,wat,List.getD_eq_getElem?_getD,List.getD_eq_getElem?_getD,List.getElem?_append_left h]
theorem wat_mem {a:List Wd} {i:Nat} (h:i<a.length):wat a i∈a:=by
 rw [wat,List.getD_eq_getElem?_getD,List.getElem?_eq_getElem h];exact List.getElem_mem h
theorem wat_r (a:List Wd) (w:Wd):wat (a++[w]) a.length=w:=by
 rw [wat,List.getD_eq_getElem?_getD,List.getElem?_append_right (Nat.le_refl _),Nat.sub_self];rfl
theorem readN_sp (s:List UInt8):∀ (f k:Nat) (acc ws:List Wd),WSp s k acc→readN f s k acc=.ok ws→∃ k',WSp s k' ws
 | 0,k,acc,ws,h,e=>by
  rw [readN] at e
  injection e with e
  subst e
  exact⟨k,h⟩
 | f+1,k,acc,ws,h,e=>by
  rw [readN] at e
  split at e
  ·cases e
  ·rename_i n hn
   rw [readB] at e
   split at e
   ·injection e with e
    subst e
    exact⟨k,h⟩
   ·rename_i hk
    split at e
    ·cases e
    ·rename_i hr
     split at e
     ·cases e
     ·have hr:rightN (oneN (s.drop (k+n))).1 (oneN (s.drop (k+n))).2=true:=hr
      have hne:s.drop (k+n) ≠ []:=fun h0=>by
       have:=congrArg List.length h0
       rw [List.length_drop] at this
       simp only [List.length_nil] at this;omega
      have h1:=one_pos hne
      have h2:=one_take (s.drop (k+n))
      have h3:=right_nb hr
      generalize oneN (s.drop (k+n))=o at e hr h1 h2 h3
      obtain⟨kd,t⟩:=o
      simp only [] at e hr h1 h2 h3
      refine readN_sp s f _ _ _ ⟨fun w hw=>?_,fun i j hij hj=>?_,?_⟩ e
      ·rcases List.mem_append.1 hw with hw | hw
       ·obtain⟨x,x1,x2⟩:=h.pl w hw
        exact⟨x,by omega,x2⟩
       ·have:=List.mem_singleton.1 hw
        subst this
        exact⟨k+n,by omega,by omega,rfl,rfl⟩
      ·rw [List.length_append] at hj
       simp only [List.length_cons,List.length_nil] at hj
       rcases Nat.lt_or_ge j acc.length with hj2 | hj2
       ·rw [wat_l hj2,wat_l (by omega)]
        exact h.ne i j hij hj2
       ·obtain rfl:j=acc.length:=by omega
        rw [wat_r,wat_l hij]
        obtain⟨x,x1,x2,x3,x4⟩:=h.pl _ (wat_mem hij)
        have:=at_lt (s:=s) (a:=x) (b:=k+n) (by omega) (by omega)
        rw [x3,x4]
        show ¬ (((at_ s x).1:Int)=((at_ s (k+n)).1:Nat)∧((at_ s x).2:Int)=((at_ s (k+n)).2:Nat))
        rcases this with h5 | h5 <;> omega
      ·have h4:=h.lw
       have h5:s.take (k+n+t.length)=s.take (k+n)++t:=by
        rw [List.take_add]
        conv=>rhs;rw [h2]
       have h6:nb (s.take k)≤nb (s.take (k+n)):=by
        have:s.take k=(s.take (k+n)).take k:=by rw [List.take_take,Nat.min_eq_left (by omega)]
        rw [this]
        exact nb_take _ _
       rw [h5,nb_app,nb_all h3,List.map_append,lw_app]
       show _+lw [t]≤_
       rw [lw_cons,lw_n];omega
theorem read_sp {s:List UInt8} {ws:List Wd} (h:readR s=.ok ws):(∀ w∈ws,1≤w.line)∧(∀ i j,i<j→j<ws.length→¬ ((wat ws i).line=(wat ws j).line∧(wat ws i).col=(wat ws j).col))∧lw (ws.map Wd.text)≤nb s:=by
 obtain⟨k,h1⟩:=readN_sp s _ _ _ _ (show WSp s 0 [] from⟨fun w hw=>(by cases hw),fun i j _ hj=>(by cases hj),Nat.zero_le _⟩) h
 refine⟨fun w hw=>?_,h1.ne,Nat.le_trans h1.lw (nb_take _ _)⟩
 obtain⟨o,_,o2,o3,_⟩:=h1.pl w hw
 rw [o3]
 have:=at_one o2
 omega
theorem lw_dig (n:Int):(digT n).length≤4:=dig_len 4 _
theorem lw_dig1 {n:Int} (h:n≤9):(digT n).length≤1:=by
 rw [digT,digN,if_pos (by omega)]
 exact Nat.le_refl _
theorem lw_flat {α:Type} {f:α→Toks} {b:Nat}:∀ {l:List α},(∀ a∈l,lw (f a)≤b)→lw (l.flatMap f)≤b * l.length
 | [],_=>Nat.zero_le _
 | a::l,h=>by
  have h1:=h a (List.mem_cons_self ..)
  have h2:=lw_flat (l:=l) fun x hx=>h x (List.mem_cons_of_mem _ hx)
  rw [List.flatMap_cons,lw_app,List.length_cons,Nat.mul_succ];omega
theorem lw_sep {α:Type} {f:α→Toks} {b:Nat}:∀ {l:List α},(∀ a∈l,lw (f a)≤b)→lw (sepT f l)≤(b+1) * l.length
 | [],_=>Nat.zero_le _
 | a::l,h=>by
  have h1:=h a (List.mem_cons_self ..)
  have h2:=lw_flat (l:=l) (f:=fun b=>tComma::f b) (b:=b+1) fun x hx=>by
   have:=h x (List.mem_cons_of_mem _ hx)
   simp only [lw_cons,List.length_cons,List.length_nil];omega
  show lw (f a++l.flatMap fun b=>tComma::f b)≤_
  rw [lw_app,List.length_cons,Nat.mul_succ];omega
structure RfS (r:Rf):Prop where
 ok:refB r=true
 nm:r.name.length=1
 pl:r.plate.length≤1
 n:r.n≤9
theorem lw_tail {r:Rf} (h:r.plate.length≤1) (hn:r.n≤9):lw (tailT r)≤5:=by
 have h1:=lw_dig1 hn
 unfold tailT
 split
 ·decide
 ·split
  ·simp only [lw_cons,lw_n,List.length_cons,List.length_nil];omega
  ·split
   ·split <;> simp only [lw_cons,lw_n,List.length_cons,List.length_nil] <;> omega
   ·exact Nat.zero_le _
theorem lw_ref {r:Rf} (h:RfS r):lw (refT r)≤6:=by
 have h1:=lw_tail h.pl h.n
 have h2:=h.nm
 rw [refT,lw_cons];omega
theorem lw_rel (k:Int):(relT k).length≤2:=by
 unfold relT
 split
 ·decide
 ·split
  ·decide
  ·split <;> decide
theorem lw_leaf {op n rel val:Int} {r:Rf} {st:List Int} (h:RfS r) (hn:n≤9) (hv:val≤9) (hs:st.length≤2∧∀ a∈st,a≤9):lw (leafT op n rel val r st)≤18:=by
 have h0:=lw_ref h
 have h1:=lw_dig1 hn
 have h2:=lw_dig1 hv
 have h3:=lw_rel rel
 have h4:=lw_rel op
 have h5:=lw_sep (f:=fun n=>[digT n]) (b:=1) (l:=st) fun a ha=>by
  have:=lw_dig1 (hs.2 a ha)
  simp only [lw_cons,lw_n];omega
 have hs1:=hs.1
 unfold leafT
 split
 ·simp only [lw_app,lw_cons,lw_n,List.length_cons,List.length_nil];omega
 ·split
  ·simp only [lw_app,lw_cons,lw_n,List.length_cons,List.length_nil];omega
  ·simp only [lw_app,lw_cons,lw_n];omega
structure CdS (d:Nat) (c:Cd) (n k:Nat):Prop where
 sm:Small d c n
 wt:lw (condT c)≤k
theorem CdS.leaf {op n rel val:Int} {r:Rf} {st:List Int} (h7:¬ op=7) (h8:¬ op=8) (h9:¬ op=9) (hb:leafB op n rel val r st=true) (hr:RfS r) (hn:n≤9) (hv:val≤9) (hs:st.length≤2∧∀ a∈st,a≤9) (d:Nat):CdS (d+1) (.mk op n rel val r st []) 1 18:=
 ⟨leaf_small h7 h8 h9 hb (by have:=hs.1;omega) d,by rw [condT_leaf h7 h8 h9];exact lw_leaf hr hn hv hs⟩
theorem lw_in (k:Nat) (p:Int × Toks):lw (inT k p)≤lw p.2+2:=by
 unfold inT
 split
 ·simp only [lw_app,lw_cons,lw_n,List.length_cons,List.length_nil];omega
 ·omega
theorem CdS.neg {d n k:Nat} {a:Cd} (ha:CdS d a n k):CdS (d+1) (.mk 7 0 0 0 rf0 [] [a]) (1+n) (k+5):=by
 refine⟨neg_small ha.sm,?_⟩
 rw [condT_neg]
 have h1:=ha.wt
 have h2:=lw_in 3 (a.op,condT a)
 simp only [] at h2
 show lw (tNot::inT 3 (a.op,condT a))≤_
 rw [lw_cons]
 simp only [List.length_cons,List.length_nil];omega
theorem CdS.two {d na nb ka kb:Nat} {a b:Cd} {op:Int} (ho:op=8∨op=9) (ha:CdS d a na ka) (hb:CdS d b nb kb):CdS (d+1) (.mk op 0 0 0 rf0 [] [a,b]) (1+na+nb) (ka+kb+7):=by
 refine⟨two_small ho ha.sm hb.sm,?_⟩
 have h1:=ha.wt
 have h2:=hb.wt
 rcases ho with rfl | rfl
 ·rw [condT_conj]
  have k1:=lw_in 2 (a.op,condT a)
  have k2:=lw_in 3 (b.op,condT b)
  simp only [] at k1 k2
  show lw (inT 2 (a.op,condT a)++(tAnd::inT 3 (b.op,condT b)))≤_
  rw [lw_app,lw_cons]
  simp only [List.length_cons,List.length_nil];omega
 ·rw [condT_disj]
  have k1:=lw_in 1 (a.op,condT a)
  have k2:=lw_in 2 (b.op,condT b)
  simp only [] at k1 k2
  show lw (inT 1 (a.op,condT a)++(tOr::inT 2 (b.op,condT b)))≤_
  rw [lw_app,lw_cons]
  simp only [List.length_cons,List.length_nil];omega
theorem CdS.le {d n k k':Nat} {a:Cd} (h:CdS d a n k) (hk:k≤k'):CdS d a n k':=⟨h.sm,Nat.le_trans h.wt hk⟩
structure NuS (l:List Int):Prop where
 ok:numsB l=true
 wt:lw (numsT l)≤6
theorem NuS.len {l:List Int} (h:NuS l):l.length≤8:=by
 have:=h.ok
 simp only [numsB,Bool.and_eq_true,decide_eq_true_eq] at this
 exact this.1.2
structure CsS (c:Cs):Prop where
 cd:∃ n,n≤3∧CdS 8 c.cond n 43
 nu:NuS c.nums
structure LsS (c:Cs):Prop where
 cd:c.cond=cd0
 nu:NuS c.nums
theorem cd0_big:BigC cd0:=big_leaf ⟨by decide,by decide⟩ (by decide)
structure RuS (l:List Cs):Prop where
 ok:casesB l=true
 wt:lw (ruleT l)≤166
 big:BigL l
theorem pre_ok (last:Cs) (hl:LsS last):∀ pre:List Cs,(∀ c∈pre,CsS c)→casesT (pre++[last])=true∧lw (casesTx (pre++[last]))≤51 * pre.length+11∧(∀ c∈pre++[last],BigC c.cond∧c.nums.length≤9223372036854775807)
 | [],_=>by
  refine⟨?_,?_,fun c hc=>?_⟩
  ·show(numsB last.nums && noneB last.cond)=true
   rw [hl.nu.ok,hl.cd];rfl
  ·have:=hl.nu.wt
   show lw (tElse::tCol::numsT last.nums)≤_
   simp only [lw_cons,List.length_cons,List.length_nil];omega
  ·have:=List.mem_singleton.1 hc
   subst this
   have:=hl.nu.len
   exact⟨by rw [hl.cd];exact cd0_big,by omega⟩
 | c::pre,h=>by
  obtain⟨h1,h2,h3⟩:=pre_ok last hl pre fun x hx=>h x (List.mem_cons_of_mem _ hx)
  obtain⟨⟨n,hn,hc⟩,hu⟩:=h c (List.mem_cons_self ..)
  obtain⟨y,t,e⟩:∃ y t,pre++[last]=y::t:=by
   cases pre with
   | nil=>exact⟨_,_,rfl⟩
   | cons a b=>exact⟨_,_,rfl⟩
  rw [e] at h1 h2 h3
  rw [List.cons_append,e]
  refine⟨?_,?_,fun x hx=>?_⟩
  ·rw [casesT,hu.ok,hc.sm.valid 30 (by omega),h1];rfl
  ·have h4:=hc.wt
   have h5:=hu.wt
   rw [casesTx]
   simp only [lw_app,lw_cons,List.length_cons,List.length_nil];omega
  ·rcases List.mem_cons.1 hx with rfl | hx
   ·have:=hu.len
    exact⟨hc.sm.big,by omega⟩
   ·exact h3 x hx
theorem rule_ok {pre:List Cs} {last:Cs} (hp:pre.length≤3) (h:∀ c∈pre,CsS c) (hl:LsS last):RuS (pre++[last]):=by
 obtain⟨h1,h2,h3⟩:=pre_ok last hl pre h
 have e:(pre++[last]).length=pre.length+1:=by simp
 refine⟨?_,?_,⟨by omega,fun c hc=>(h3 c hc).1,fun c hc=>(h3 c hc).2⟩⟩
 ·rw [casesB,h1,decide_eq_true (by omega),decide_eq_true (by omega)];rfl
 ·rw [ruleT,lw_cons,lw_app]
  simp only [lw_cons,lw_n,List.length_cons,List.length_nil];omega
structure DeS (d:De) (k:Nat):Prop where
 ok:declB d=true
 big:BigD d
 wt:lw (declT d)≤k
theorem refs_lw {key:List UInt8} {l:List Rf} (hk:key.length≤6) (h:∀ r∈l,RfS r) (hl:l.length≤2):lw (refsT key l)≤20:=by
 unfold refsT
 split
 ·exact Nat.zero_le _
 ·have:=lw_sep (f:=refT) (b:=6) (l:=l) fun r hr=>lw_ref (h r hr)
  rw [lw_cons];omega
theorem refs_all {l:List Rf} (h:∀ r∈l,RfS r):l.all refB=true:=List.all_eq_true.2 fun r hr=>(h r hr).ok
theorem rfs_big {l:List Rf} (h:∀ r∈l,RfS r):∀ r∈l,BigR r:=fun r hr=>ref_bigB (h r hr).ok
theorem bS0:BigS []:=nil_big
theorem bS1:BigS [112]:=by rw [BigS];simp
theorem bN0:([]:List Rf).length≤9223372036854775807:=by simp
theorem grain_ok {n:Int} (hn:natB n=true):DeS ⟨1,n,[],[],[],[]⟩ 10:=by
 refine⟨?_,⟨bS0,bS0,bN0,fun r hr=>(by cases hr),noL_big⟩,?_⟩
 ·rw [declB,hn];rfl
 ·have:=lw_dig n
  show lw [tGrain,digT n,tSemi]≤_
  simp only [lw_cons,lw_n,List.length_cons,List.length_nil];omega
theorem plate_ok {n:Int} (hn:natB n=true):DeS ⟨2,n,[112],[],[],[]⟩ 12:=by
 refine⟨?_,⟨bS1,bS0,bN0,fun r hr=>(by cases hr),noL_big⟩,?_⟩
 ·rw [declB,hn];rfl
 ·have:=lw_dig n
  show lw [tPlate,[112],tEq,digT n,tSemi]≤_
  simp only [lw_cons,lw_n,List.length_cons,List.length_nil];omega
theorem choose_ok {n:Int} {nm:List UInt8} {rs:List Rf} (hn:natB n=true) (h1:nameN nm=true) (h2:nm.length=1) (hr:∀ r∈rs,RfS r) (hl:rs.length≤2):DeS ⟨4,n,nm,[],rs,[]⟩ 33:=by
 refine⟨?_,⟨by show nm.length≤9223372036854775807;omega,bS0,by show rs.length≤9223372036854775807;omega,rfs_big hr,noL_big⟩,?_⟩
 ·rw [declB,hn,refs_all hr,decide_eq_true (by show rs.length≤8;omega),kindB,if_neg (by show ¬ (4:Int)=1;decide),if_neg (by show ¬ (4:Int)=2;decide),if_neg (by show ¬ (4:Int)=3;decide),if_pos rfl,h1];rfl
 ·have h3:=lw_dig n
  have h4:=refs_lw (key:=tSeeing) (by decide) hr hl
  show lw (([tChoose,nm,tCol,digT n]++refsT tSeeing rs)++[tSemi])≤_
  simp only [lw_app,lw_cons,lw_n,List.length_cons,List.length_nil];omega
theorem gain_ok {rs:List Rf} {cs:List Cs} (hr:∀ r∈rs,RfS r) (hl:rs.length≤2) (hc:RuS cs):DeS ⟨5,0,[],[],rs,cs⟩ 192:=by
 refine⟨?_,⟨bS0,bS0,by show rs.length≤9223372036854775807;omega,rfs_big hr,hc.big⟩,?_⟩
 ·rw [declB,refs_all hr,decide_eq_true (by show rs.length≤8;omega),kindB,if_neg (by show ¬ (5:Int)=1;decide),if_neg (by show ¬ (5:Int)=2;decide),if_neg (by show ¬ (5:Int)=3;decide),if_neg (by show ¬ (5:Int)=4;decide),if_pos rfl,hc.ok];rfl
 ·have h4:=refs_lw (key:=tFrom) (by decide) hr hl
  have h5:=hc.wt
  show lw ((tGain::(refsT tFrom rs++(tEq::ruleT cs)))++[tSemi])≤_
  simp only [lw_app,lw_cons,lw_n,List.length_cons,List.length_nil];omega
theorem node_ok {n:Int} {nm pl:List UInt8} {rs:List Rf} {cs:List Cs} (hn:natB n=true) (h1:nameN nm=true) (h2:nm.length=1) (hp:pl=[]∨pl=[112]) (hr:∀ r∈rs,RfS r) (hl:rs.length≤2) (hc:RuS cs):DeS ⟨3,n,nm,pl,rs,cs⟩ 201:=by
 refine⟨?_,⟨by show nm.length≤9223372036854775807;omega,by rcases hp with rfl | rfl;exact bS0;exact bS1,by show rs.length≤9223372036854775807;omega,rfs_big hr,hc.big⟩,?_⟩
 ·rw [declB,hn,refs_all hr,decide_eq_true (by show rs.length≤8;omega),kindB,if_neg (by show ¬ (3:Int)=1;decide),if_neg (by show ¬ (3:Int)=2;decide),if_pos rfl,h1,hc.ok]
  rcases hp with rfl | rfl <;> rfl
 ·have h3:=lw_dig n
  have h4:=refs_lw (key:=tFrom) (by decide) hr hl
  have h5:=hc.wt
  have h6:lw (if pl=[] then [] else [tLB,pl,tRB])≤3:=by rcases hp with rfl | rfl <;> decide
  show lw (([tNode,nm]++((if pl=[] then [] else [tLB,pl,tRB])++([tCol,digT n]++(refsT tFrom rs++(tEq::ruleT cs)))))++[tSemi])≤_
  simp only [lw_app,lw_cons,lw_n,List.length_cons,List.length_nil];omega
theorem tok_lw:∀ {x:Toks},AllT x→x.length≤lw x
 | [],_=>Nat.le_refl _
 | t::x,h=>by
  have h1:=(tok_len (h t (List.mem_cons_self ..))).1
  have h2:=tok_lw (x:=x) fun u hu=>h u (List.mem_cons_of_mem _ hu)
  rw [lw_cons,List.length_cons];omega
theorem spW_lw:∀ x:Toks,(spW true x).length≤lw x+x.length
 | []=>Nat.le_refl _
 | t::x=>by
  have:=spW_lw x
  show([32]++(t++spW true x)).length≤_
  simp only [List.length_append,List.length_cons,List.length_nil,lw_cons];omega
structure PrS (ds:List De) (k:Nat):Prop where
 ok:∀ d∈ds,declB d=true∧BigD d
 wt:lw (ds.flatMap declT)≤k
theorem PrS.nil:PrS [] 0:=⟨fun d hd=>(by cases hd),Nat.le_refl _⟩
theorem PrS.snoc {ds:List De} {d:De} {k j:Nat} (h:PrS ds k) (hd:DeS d j):PrS (ds++[d]) (k+j):=by
 refine⟨fun x hx=>?_,?_⟩
 ·rcases List.mem_append.1 hx with hx | hx
  ·exact h.ok x hx
  ·rw [List.mem_singleton.1 hx];exact⟨hd.ok,hd.big⟩
 ·have h1:=h.wt
  have h2:=hd.wt
  rw [List.flatMap_append,lw_app,List.flatMap_cons,List.flatMap_nil,List.append_nil];omega
theorem PrS.le {ds:List De} {k k':Nat} (h:PrS ds k) (hk:k≤k'):PrS ds k':=⟨h.ok,Nat.le_trans h.wt hk⟩
theorem text_lw:∀ ds:List De,(textT ds).length≤lw (ds.flatMap declT)+cntT ds
 | []=>Nat.le_refl _
 | d::ds=>by
  have h1:=text_lw ds
  have h2:=spW_lw (declT d)
  rw [spW_tf (decl_ne d),List.length_cons] at h2
  have h3:cntT (d::ds)=(declT d).length+cntT ds:=rfl
  show((spW false (declT d)++[10])++textT ds).length≤_
  rw [List.flatMap_cons,lw_app,h3]
  simp only [List.length_append,List.length_cons,List.length_nil];omega
theorem decls_all {ds:List De} (h:∀ d∈ds,declB d=true):AllT (ds.flatMap declT):=fun t ht=>by
 obtain⟨d,hd,ht⟩:=List.mem_flatMap.1 ht
 exact(decl_toks (h d hd)).1 t ht
structure DrP (ds:List De):Prop where
 valid:validB ds=true
 big:BigP ds
 txt:(textT ds).length≤2600
 cnt:cntT ds≤1300
 lw:lw (ds.flatMap declT)≤1300
theorem PrS.fin {ds:List De} {k:Nat} (h:PrS ds k) (hl:ds.length≤30) (hk:k≤1300):DrP ds:=by
 have h1:=text_lw ds
 have h2:=h.wt
 have h3:=tok_lw (decls_all fun d hd=>(h.ok d hd).1)
 rw [flat_len] at h3
 refine⟨?_,⟨by omega,fun d hd=>(h.ok d hd).2⟩,by omega,by omega,by omega⟩
 rw [validB,decide_eq_true hl,List.all_eq_true.2 fun d hd=>(h.ok d hd).1];rfl
theorem DrP.txtV {ds:List De} (h:DrP ds):txtV ds=[.str (textT ds),i64 0]:=by
 rw [Go.Proofs.YtohfoaplnjcihaaGreatDoor.txtV,if_pos h.valid,if_pos ⟨by have:=h.txt;omega,by have:=h.cnt;omega⟩]
structure Pc where
 w:UInt8
 o:UInt8
 n:UInt8
 m:UInt8
 x:UInt8
 y:UInt8
 z:UInt8
abbrev Pc.cells (p:Pc):List PV:=[u8 p.w,u8 p.o,u8 p.n,u8 p.m,u8 p.x,u8 p.y,u8 p.z]
def wO3 (a b c:UInt8):AObj:=⟨27,false, .bx [.p (u8 a), .p (u8 b), .p (u8 c)]⟩
structure Wgt (l:List Int) (k:Nat):Prop where
 len:l.length=k
 bd:∀ x∈l,0≤x∧x≤12
theorem Wgt.snoc {l:List Int} {k:Nat} {v:Int} (h:Wgt l k) (h1:0≤v) (h2:v≤12):Wgt (l++[v]) (k+1):=by
 refine⟨by rw [List.length_append,h.len];rfl,fun x hx=>?_⟩
 rcases List.mem_append.1 hx with hx | hx
 ·exact h.bd x hx
 ·rw [List.mem_singleton.1 hx];exact⟨h1,h2⟩
theorem lw_int {n:Int} (h:0≤n∧n≤12):lw (intT n)≤2:=by
 rw [intT,if_neg (by omega),lw_cons,lw_n,digT,digN]
 split
 ·exact Nat.le_succ_of_le (Nat.le_refl _)
 ·rw [digN,if_pos (by omega)]
  exact Nat.le_refl _
theorem Wgt.nu {l:List Int} {k:Nat} (h:Wgt l k) (hk:k=2∨k=3):NuS l:=by
 have h1:=h.len
 refine⟨?_,?_⟩
 ·rw [numsB,decide_eq_true (by omega),decide_eq_true (by omega),List.all_eq_true.2]
  ·rfl
  ·intro x hx
   have:=h.bd x hx
   rw [wgtB,decide_eq_true (by omega),decide_eq_true (by omega)];rfl
 ·have:=lw_flat (f:=intT) (b:=2) (l:=l) fun x hx=>lw_int (h.bd x hx)
  rw [numsT];omega
theorem tmod_bd (n:Nat) {g:Int} (h:0≤g):0≤(n:Int).tmod (g+1)∧(n:Int).tmod (g+1)≤g:=by
 have h1:=Int.tmod_nonneg (g+1) (Int.natCast_nonneg n)
 have h2:=Int.tmod_lt_of_pos (n:Int) (show 0<g+1 by omega)
 omega
theorem weights_c (a b c:UInt8) (k:Nat) (g:Int) (hk:k=2∨k=3) (hg:0≤g∧g≤12):Pure cx 67 [.agg [u8 a,u8 b,u8 c],i64 (k:Int),i64 g] fun r=>∃ l,r=.ret [ints l]∧Wgt l k:=by
 refine pure_of_vc Tryz.func67 rfl rfl rfl ?_
 refine⟨Nat × List Int × Int,fun x=>[(1, .p (i64 (k:Int))),(3, .ptr 0 0 0),(7, .sl 1 1 0 x.2.1.length),(8, .p (i64 x.2.2)),(9, .p (i64 x.1))],fun x=>⟨2,[(1,iO x.2.1),(0,wO3 a b c)]⟩,fun x=>x.1+1≤k∧Wgt x.2.1 x.1∧0≤x.2.2∧x.2.2≤12,fun x=>k - x.1,?_,?_⟩
 ·exact⟨(0,[],g),⟨by show 0+1≤k;omega,⟨rfl,fun x hx=>by cases hx⟩,hg⟩,ent_of [] [] [(1,1)] rfl (sk) (sk) rfl⟩
 rintro⟨i,acc,g⟩ ⟨k1,k2,k3,k4⟩
 simp only [] at k1 k2 k3 k4
 clear hg
 by_cases i2:i+1=k
 ·refine⟨(i:Int),by rw [← i2];rw [show((i+1:Nat):Int) - 1=(i:Int) by omega];exact wrap_i64 (by omega) (by omega),?_⟩
  refine And.intro (fun h=>absurd (show(i:Int)<(i:Int) from h) (by omega)) (fun _=>?_)
  refine⟨by show 0+1≤1;omega,[i64 g],rfl,?_⟩
  refine⟨by show 0+acc.length≤(acc.map i64).length;simp,acc.map i64,takeAll (by simp),by show(acc.length+1) * 8≤140737488355328;have:=k2.len;omega,(acc++[g]).map i64,by simp,?_⟩
  refine end1 (ints (acc++[g])) rfl ⟨_,rfl,by show 0+(acc.length+1)≤((acc++[g]).map i64).length;simp,takeAll (by simp)⟩ ⟨_,rfl,by rw [← i2];exact k2.snoc k3 k4⟩
 refine⟨(k:Int) - 1,wrap_i64 (by omega) (by omega),?_⟩
 refine And.intro (fun _=>?_) (fun h=>absurd (show(i:Int)<(k:Int) - 1 by omega) h)
 by_cases i0:i=0
 ·subst i0
  refine⟨by show(0:Int)≤_∧_<_;exact⟨by omega,by omega⟩,?_⟩
  refine⟨.p (u8 a),ldIn1 (by kernel_rfl) rfl,?_⟩
  refine⟨((a).toNat:Int),wrap_i64 (by omega) (by have:=(a).toNat_lt;omega),?_⟩
  refine⟨g+1,wrap_i64 (by omega) (by omega),?_⟩
  have hv:=tmod_bd (a).toNat k3
  refine⟨by show ¬ g+1=0;omega,?_⟩
  generalize (((a).toNat:Int)).tmod (g+1)=v at hv ⊢
  refine⟨by show 0+1≤1;omega,[i64 v],rfl,?_⟩
  refine⟨by show 0+acc.length≤(acc.map i64).length;simp,acc.map i64,takeAll (by simp),by show(acc.length+1) * 8≤140737488355328;have:=k2.len;omega,(acc++[v]).map i64,by simp,?_⟩
  refine⟨g - v,wrap_i64 (by omega) (by omega),?_⟩
  refine⟨((1:Nat):Int),by show((1:Nat):Int)=IntKind.i64.wrap (((0:Nat):Int)+1);exact wrap_i64 (by omega) (by omega),?_⟩
  exact⟨(1,acc++[v],g - v),⟨by show 1+1≤k;omega,k2.snoc hv.1 (by omega),by show 0≤g - v;omega,by show g - v≤12;omega⟩,ent_of [] [(1,3)] [] rfl ⟨rfl,⟨rfl,rfl⟩,congrArg (fun k:Nat=>AV.sl 3 1 0 k) (snoc_len acc v).symm,rfl,rfl,trivial⟩ (sk) rfl,by show k - 1<k - 0;omega⟩
 ·obtain rfl:i=1:=by omega
  refine⟨by show(0:Int)≤_∧_<_;exact⟨by omega,by omega⟩,?_⟩
  refine⟨.p (u8 b),ldIn1 (by kernel_rfl) rfl,?_⟩
  refine⟨((b).toNat:Int),wrap_i64 (by omega) (by have:=(b).toNat_lt;omega),?_⟩
  refine⟨g+1,wrap_i64 (by omega) (by omega),?_⟩
  have hv:=tmod_bd (b).toNat k3
  refine⟨by show ¬ g+1=0;omega,?_⟩
  generalize (((b).toNat:Int)).tmod (g+1)=v at hv ⊢
  refine⟨by show 0+1≤1;omega,[i64 v],rfl,?_⟩
  refine⟨by show 0+acc.length≤(acc.map i64).length;simp,acc.map i64,takeAll (by simp),by show(acc.length+1) * 8≤140737488355328;have:=k2.len;omega,(acc++[v]).map i64,by simp,?_⟩
  refine⟨g - v,wrap_i64 (by omega) (by omega),?_⟩
  refine⟨((2:Nat):Int),by show((2:Nat):Int)=IntKind.i64.wrap (((1:Nat):Int)+1);exact wrap_i64 (by omega) (by omega),?_⟩
  exact⟨(2,acc++[v],g - v),⟨by show 2+1≤k;omega,k2.snoc hv.1 (by omega),by show 0≤g - v;omega,by show g - v≤12;omega⟩,ent_of [] [(1,3)] [] rfl ⟨rfl,⟨rfl,rfl⟩,congrArg (fun k:Nat=>AV.sl 3 1 0 k) (snoc_len acc v).symm,rfl,rfl,trivial⟩ (sk) rfl,by show k - 2<k - 1;omega⟩
set_option maxHeartbeats 40000000
structure Pt where
 kind:UInt8
 card:UInt8
 frm:UInt8
 modes:UInt8
 pl:Bool
 cases:List Pc
 x:UInt8
 y:UInt8
 z:UInt8
abbrev Pt.cells (p:Pt):List PV:=[u8 p.kind,u8 p.card,u8 p.frm,u8 p.modes, .bool p.pl, .lsts 7 (p.cases.map Pc.cells),u8 p.x,u8 p.y,u8 p.z]
structure Kn where
 nm:List UInt8
 card:Int
 pl:Bool
abbrev Kn.cells (k:Kn):List PV:=[.str k.nm,i64 k.card, .bool k.pl]
def kn0:Kn:=⟨[],0,false⟩
structure KnS (k:Kn):Prop where
 ok:nameN k.nm=true
 len:k.nm.length=1
 card:k.card=2∨k.card=3
structure RcS (rs:List Rf) (cs:List Int):Prop where
 refs:∀ r∈rs,RfS r
 nums:∀ c∈cs,c=2∨c=3
 eq:rs.length=cs.length
 len:rs.length≤2
theorem RcS.snoc {rs:List Rf} {cs:List Int} {r:Rf} {c:Int} (h:RcS rs cs) (hr:RfS r) (hc:c=2∨c=3) (hl:rs.length<2):RcS (rs++[r]) (cs++[c]):=by
 have h1:=h.eq
 refine⟨fun x hx=>?_,fun x hx=>?_,by rw [List.length_append,List.length_append];simp only [List.length_cons,List.length_nil];omega,by rw [List.length_append];simp only [List.length_cons,List.length_nil];omega⟩
 ·rcases List.mem_append.1 hx with hx | hx
  ·exact h.refs x hx
  ·rw [List.mem_singleton.1 hx];exact hr
 ·rcases List.mem_append.1 hx with hx | hx
  ·exact h.nums x hx
  ·rw [List.mem_singleton.1 hx];exact hc
def ptO (p:Pt):AObj:=⟨29,false, .bx (p.cells.map .p)⟩
def rfsO (rs:List Rf):AObj:=⟨TRef,false, .pus (rs.map Rf.cells)⟩
theorem wrap_u64 {n:Int} (h0:0≤n) (h1:n<18446744073709551616):n=IntKind.u64.wrap n:=by
 show n=n % 18446744073709551616
 omega
def RfQ (e:AE) (H':Hp):Prop:=∃ rs cs,e=.returned (.tup [.sl 0 4 0 rs.length, .sl 1 1 0 cs.length])∧H'=⟨2,[(0,rfsO rs),(1,iO cs)]⟩∧RcS rs cs
theorem kncell {l:List Kn} {k:Nat} (h:k<l.length):(l.map Kn.cells)[k]?=some (l.getD k kn0).cells:=map_at kn0 h
theorem fdiv_bd (v:Nat) (e:Int) (he:0<e) (hv:v<256):0≤(v:Int).fdiv e∧(v:Int).fdiv e≤255:=by
 have h1:=Int.fdiv_nonneg (Int.natCast_nonneg v) (Int.le_of_lt he)
 have h2:(v:Int).fdiv e≤v:=by
  rw [Int.fdiv_eq_ediv_of_nonneg _ (Int.le_of_lt he)]
  exact Int.ediv_le_self _ (Int.natCast_nonneg v)
 omega
theorem pow_pos2 (e:Nat):(0:Int)<2 ^ e:=Int.pow_pos (by decide)
theorem tmod_in {n g:Int} (h:0≤n) (hg:0<g):0≤n.tmod g∧n.tmod g<g:=⟨Int.tmod_nonneg _ h,Int.tmod_lt_of_pos _ hg⟩
theorem rfs0 {nm:List UInt8} (h:nameN nm=true) (hl:nm.length=1):RfS ⟨nm,0,[],0⟩:=⟨refB0 h,hl,Nat.zero_le _,by show(0:Int)≤9;decide⟩
theorem rfs3 {nm:List UInt8} (h:nameN nm=true) (hl:nm.length=1):RfS ⟨nm,3,[],0⟩:=⟨refB3 h,hl,Nat.zero_le _,by show(0:Int)≤9;decide⟩
theorem rfs2 {nm:List UInt8} {n:Int} (h:nameN nm=true) (hl:nm.length=1) (hn:0≤n∧n<2):RfS ⟨nm,2,[],n⟩:=⟨refB2 h (nat_of hn.1 (by omega)),hl,Nat.zero_le _,by show n≤9;omega⟩
theorem rfs1 {nm:List UInt8} {n:Int} (h:nameN nm=true) (hl:nm.length=1) (hn:0≤n∧n<2):RfS ⟨nm,1,[112],n⟩:=⟨refB1 h p_name (nat_of hn.1 (by omega)),hl,Nat.le_refl _,by show n≤9;omega⟩
abbrev otC9:OT:=(.pure 0 (.pure 1 (.pure 2 (.pure 3 (.eff 4 [] (.pure 5 (.eff 6 [] .fin .nil)) .nil)))))
theorem prefs_h (p:Pt) (l:List Kn) (hl:∀ k∈l,KnS k) (h5:l.length≤5) (g:Bool) (sz:Int) (hs:sz=1∨sz=2):HoldsG cx 39 [.p (.agg p.cells), .p (.lsts 3 (l.map Kn.cells)),vB g, .p (i64 sz)] ⟨0,[]⟩ (RfQ):=by
 refine holdsN_of_vc Tryz.func39 rfl rfl rfl ?_
 have hl':(l.map Kn.cells).length=l.length:=List.length_map ..
 refine⟨Nat × List Rf × List Int,fun x=>[(1, .p (.lsts 3 (l.map Kn.cells))),(2,vB g),(3, .p (i64 sz)),(4, .ptr 0 0 0),(10, .sl 1 4 0 x.2.1.length),(11, .sl 2 1 0 x.2.2.length),(12, .p (i64 x.1))],fun x=>⟨3,[(2,iO x.2.2),(1,rfsO x.2.1),(0,ptO p)]⟩,fun x=>x.1≤l.length∧RcS x.2.1 x.2.2,fun x=>l.length - x.1,?_,?_⟩
 ·exact⟨(0,[],[]),⟨Nat.zero_le _,⟨fun r hr=>(by cases hr),fun r hr=>(by cases hr),rfl,by decide⟩⟩,ent_of [] [] [(1,4),(2,1)] rfl (sk) (sk) rfl⟩
 rintro⟨i,rs,cs⟩ ⟨k1,k2⟩
 simp only [] at k1 k2
 by_cases hi:i<l.length
 rotate_left
 ·refine And.intro (fun h=>absurd (show(i:Int)<((l.map Kn.cells).length:Nat) from h) (by rw [hl'];omega)) (fun _=>?_)
  exact⟨[],[(0,1),(1,2)],[], .returned (.tup [.sl 0 4 0 rs.length, .sl 1 1 0 cs.length]),⟨2,[(0,rfsO rs),(1,iO cs)]⟩,rfl,sk,sk,rs,cs,rfl,rfl,k2⟩
 refine And.intro (fun _=>?_) (fun h=>absurd (show(i:Int)<((l.map Kn.cells).length:Nat) by rw [hl'];omega) h)
 by_cases h2:rs.length<2
 rotate_left
 ·refine And.intro (fun h=>absurd (show(rs.length:Int)<2 from h) (by omega)) (fun _=>?_)
  exact⟨[],[(0,1),(1,2)],[], .returned (.tup [.sl 0 4 0 rs.length, .sl 1 1 0 cs.length]),⟨2,[(0,rfsO rs),(1,iO cs)]⟩,rfl,sk,sk,rs,cs,rfl,rfl,k2⟩
 refine And.intro (fun _=>?_) (fun h=>absurd (show(rs.length:Int)<2 by omega) h)
 have hcell:=kncell hi
 have hS:=hl _ (getD_memL kn0 hi)
 generalize l.getD i kn0=kn at hcell hS
 obtain⟨nm,card,b⟩:=kn
 have hm:=p.modes.toNat_lt
 have hf:=p.frm.toNat_lt
 cases b
 ·refine⟨(i:Int),wrap_u64 (by omega) (by omega),?_⟩
  refine⟨by omega,?_⟩
  have hs1:=fdiv_bd p.frm.toNat _ (pow_pos2 (min ((i:Int).toNat) (IntKind.u8.bits))) hf
  generalize (p.frm.toNat:Int).fdiv (2 ^ (min ((i:Int).toNat) (IntKind.u8.bits)))=sf at hs1 ⊢
  refine⟨by decide,?_⟩
  by_cases hz:sf.tmod 2=0
  ·refine And.intro (fun _=>?_) (fun h=>absurd hz h)
   refine⟨((i+1:Nat):Int),by rw [Int.natCast_add];exact wrap_i64 (by omega) (by omega),?_⟩
   exact⟨(i+1,rs,cs),⟨by show i+1≤l.length;omega,k2⟩,ent_of [] [] [] rfl (sk) (sk) rfl,by show l.length - (i+1)<l.length - i;omega⟩
  refine And.intro (fun h=>absurd h hz) (fun _=>?_)
  clear hz hs1
  refine⟨_,⟨by omega,(Kn.mk nm card _).cells,hcell,rfl⟩,?_⟩
  refine⟨((2 * i:Nat):Int),by show _=IntKind.i64.wrap (2 * (i:Int));rw [Int.natCast_mul];exact wrap_i64 (by omega) (by omega),?_⟩
  refine⟨((2 * i:Nat):Int),wrap_u64 (by omega) (by omega),?_⟩
  refine⟨by omega,?_⟩
  have hs2:=fdiv_bd p.modes.toNat _ (pow_pos2 (min (((2 * i:Nat):Int).toNat) (IntKind.u8.bits))) hm
  generalize (p.modes.toNat:Int).fdiv (2 ^ (min (((2 * i:Nat):Int).toNat) (IntKind.u8.bits)))=sm at hs2 ⊢
  refine⟨sm,wrap_i64 (by omega) (by omega),?_⟩
  refine⟨by decide,?_⟩
  have hs3:=tmod_in hs2.1 (show(0:Int)<4 by decide)
  generalize sm.tmod 4=m at hs3 ⊢
  refine⟨_,⟨by omega,(Kn.mk nm card _).cells,hcell,rfl⟩,?_⟩
  refine⟨by show 0+1≤1;omega,[[.str nm,i64 0, .str [],i64 0]],rfl,?_⟩
  refine⟨by show 0+rs.length≤(rs.map Rf.cells).length;simp,rs.map Rf.cells,takeAll (by simp),by show(rs.length+1) * 48≤140737488355328;omega,(rs++[Rf.mk nm 0 [] 0]).map Rf.cells,by simp,?_⟩
  refine⟨_,⟨by omega,(Kn.mk nm card _).cells,hcell,rfl⟩,?_⟩
  refine⟨by show 0+1≤1;omega,[i64 card],rfl,?_⟩
  refine⟨by show 0+cs.length≤(cs.map i64).length;simp,cs.map i64,takeAll (by simp),by show(cs.length+1) * 8≤140737488355328;have:=k2.eq;omega,(cs++[card]).map i64,by simp,?_⟩
  refine⟨((i+1:Nat):Int),by rw [Int.natCast_add];exact wrap_i64 (by omega) (by omega),?_⟩
  exact⟨(i+1,rs++[Rf.mk nm 0 [] 0],cs++[card]),⟨by show i+1≤l.length;omega,k2.snoc (rfs0 hS.ok hS.len) hS.card h2⟩,ent_of [] [(1,5),(2,7)] [] rfl ⟨rfl,rfl,rfl,⟨rfl,rfl⟩,congrArg (fun k:Nat=>AV.sl 5 4 0 k) (snoc_len rs _).symm,congrArg (fun k:Nat=>AV.sl 7 1 0 k) (snoc_len cs card).symm,rfl,trivial⟩ (sk) rfl,by show l.length - (i+1)<l.length - i;omega⟩
 cases g
 ·refine⟨(i:Int),wrap_u64 (by omega) (by omega),?_⟩
  refine⟨by omega,?_⟩
  have hs1:=fdiv_bd p.frm.toNat _ (pow_pos2 (min ((i:Int).toNat) (IntKind.u8.bits))) hf
  generalize (p.frm.toNat:Int).fdiv (2 ^ (min ((i:Int).toNat) (IntKind.u8.bits)))=sf at hs1 ⊢
  refine⟨by decide,?_⟩
  by_cases hz:sf.tmod 2=0
  ·refine And.intro (fun _=>?_) (fun h=>absurd hz h)
   refine⟨((i+1:Nat):Int),by rw [Int.natCast_add];exact wrap_i64 (by omega) (by omega),?_⟩
   exact⟨(i+1,rs,cs),⟨by show i+1≤l.length;omega,k2⟩,ent_of [] [] [] rfl (sk) (sk) rfl,by show l.length - (i+1)<l.length - i;omega⟩
  refine And.intro (fun h=>absurd h hz) (fun _=>?_)
  clear hz hs1
  refine⟨_,⟨by omega,(Kn.mk nm card _).cells,hcell,rfl⟩,?_⟩
  refine⟨((2 * i:Nat):Int),by show _=IntKind.i64.wrap (2 * (i:Int));rw [Int.natCast_mul];exact wrap_i64 (by omega) (by omega),?_⟩
  refine⟨((2 * i:Nat):Int),wrap_u64 (by omega) (by omega),?_⟩
  refine⟨by omega,?_⟩
  have hs2:=fdiv_bd p.modes.toNat _ (pow_pos2 (min (((2 * i:Nat):Int).toNat) (IntKind.u8.bits))) hm
  generalize (p.modes.toNat:Int).fdiv (2 ^ (min (((2 * i:Nat):Int).toNat) (IntKind.u8.bits)))=sm at hs2 ⊢
  refine⟨sm,wrap_i64 (by omega) (by omega),?_⟩
  refine⟨by decide,?_⟩
  have hs3:=tmod_in hs2.1 (show(0:Int)<4 by decide)
  generalize sm.tmod 4=m at hs3 ⊢
  refine⟨_,⟨by omega,(Kn.mk nm card _).cells,hcell,rfl⟩,?_⟩
  refine And.intro (fun h3=>?_) (fun h3=>?_)
  ·refine⟨by show 0+1≤1;omega,[[.str nm,i64 3, .str [],i64 0]],rfl,?_⟩
   refine⟨by show 0+rs.length≤(rs.map Rf.cells).length;simp,rs.map Rf.cells,takeAll (by simp),by show(rs.length+1) * 48≤140737488355328;omega,(rs++[Rf.mk nm 3 [] 0]).map Rf.cells,by simp,?_⟩
   refine⟨_,⟨by omega,(Kn.mk nm card _).cells,hcell,rfl⟩,?_⟩
   refine⟨by show 0+1≤1;omega,[i64 card],rfl,?_⟩
   refine⟨by show 0+cs.length≤(cs.map i64).length;simp,cs.map i64,takeAll (by simp),by show(cs.length+1) * 8≤140737488355328;have:=k2.eq;omega,(cs++[card]).map i64,by simp,?_⟩
   refine⟨((i+1:Nat):Int),by rw [Int.natCast_add];exact wrap_i64 (by omega) (by omega),?_⟩
   exact⟨(i+1,rs++[Rf.mk nm 3 [] 0],cs++[card]),⟨by show i+1≤l.length;omega,k2.snoc (rfs3 hS.ok hS.len) hS.card h2⟩,ent_of [] [(1,5),(2,7)] [] rfl ⟨rfl,rfl,rfl,⟨rfl,rfl⟩,congrArg (fun k:Nat=>AV.sl 5 4 0 k) (snoc_len rs _).symm,congrArg (fun k:Nat=>AV.sl 7 1 0 k) (snoc_len cs card).symm,rfl,trivial⟩ (sk) rfl,by show l.length - (i+1)<l.length - i;omega⟩
  ·refine vdraw_ot otC9 (by kernel_rfl) ?_
   refine⟨by show ¬ sz=0;omega,?_⟩
   have hn:=tmod_in hs3.1 (show 0<sz by omega)
   generalize m.tmod sz=n at hn ⊢
   refine⟨by show 0+1≤1;omega,[[.str nm,i64 2, .str [],i64 n]],rfl,?_⟩
   refine⟨by show 0+rs.length≤(rs.map Rf.cells).length;simp,rs.map Rf.cells,takeAll (by simp),by show(rs.length+1) * 48≤140737488355328;omega,(rs++[Rf.mk nm 2 [] n]).map Rf.cells,by simp,?_⟩
   refine⟨_,⟨by omega,(Kn.mk nm card _).cells,hcell,rfl⟩,?_⟩
   refine⟨by show 0+1≤1;omega,[i64 card],rfl,?_⟩
   refine⟨by show 0+cs.length≤(cs.map i64).length;simp,cs.map i64,takeAll (by simp),by show(cs.length+1) * 8≤140737488355328;have:=k2.eq;omega,(cs++[card]).map i64,by simp,?_⟩
   refine⟨((i+1:Nat):Int),by rw [Int.natCast_add];exact wrap_i64 (by omega) (by omega),?_⟩
   exact⟨(i+1,rs++[Rf.mk nm 2 [] n],cs++[card]),⟨by show i+1≤l.length;omega,k2.snoc (rfs2 hS.ok hS.len ⟨hn.1,by omega⟩) hS.card h2⟩,ent_of [] [(1,5),(2,7)] [] rfl ⟨rfl,rfl,rfl,⟨rfl,rfl⟩,congrArg (fun k:Nat=>AV.sl 5 4 0 k) (snoc_len rs _).symm,congrArg (fun k:Nat=>AV.sl 7 1 0 k) (snoc_len cs card).symm,rfl,trivial⟩ (sk) rfl,by show l.length - (i+1)<l.length - i;omega⟩
 ·refine⟨(i:Int),wrap_u64 (by omega) (by omega),?_⟩
  refine⟨by omega,?_⟩
  have hs1:=fdiv_bd p.frm.toNat _ (pow_pos2 (min ((i:Int).toNat) (IntKind.u8.bits))) hf
  generalize (p.frm.toNat:Int).fdiv (2 ^ (min ((i:Int).toNat) (IntKind.u8.bits)))=sf at hs1 ⊢
  refine⟨by decide,?_⟩
  by_cases hz:sf.tmod 2=0
  ·refine And.intro (fun _=>?_) (fun h=>absurd hz h)
   refine⟨((i+1:Nat):Int),by rw [Int.natCast_add];exact wrap_i64 (by omega) (by omega),?_⟩
   exact⟨(i+1,rs,cs),⟨by show i+1≤l.length;omega,k2⟩,ent_of [] [] [] rfl (sk) (sk) rfl,by show l.length - (i+1)<l.length - i;omega⟩
  refine And.intro (fun h=>absurd h hz) (fun _=>?_)
  clear hz hs1
  refine⟨_,⟨by omega,(Kn.mk nm card _).cells,hcell,rfl⟩,?_⟩
  refine⟨((2 * i:Nat):Int),by show _=IntKind.i64.wrap (2 * (i:Int));rw [Int.natCast_mul];exact wrap_i64 (by omega) (by omega),?_⟩
  refine⟨((2 * i:Nat):Int),wrap_u64 (by omega) (by omega),?_⟩
  refine⟨by omega,?_⟩
  have hs2:=fdiv_bd p.modes.toNat _ (pow_pos2 (min (((2 * i:Nat):Int).toNat) (IntKind.u8.bits))) hm
  generalize (p.modes.toNat:Int).fdiv (2 ^ (min (((2 * i:Nat):Int).toNat) (IntKind.u8.bits)))=sm at hs2 ⊢
  refine⟨sm,wrap_i64 (by omega) (by omega),?_⟩
  refine⟨by decide,?_⟩
  have hs3:=tmod_in hs2.1 (show(0:Int)<4 by decide)
  generalize sm.tmod 4=m at hs3 ⊢
  refine⟨_,⟨by omega,(Kn.mk nm card _).cells,hcell,rfl⟩,?_⟩
  refine And.intro (fun h3=>?_) (fun h3=>?_)
  ·refine⟨by decide,?_⟩
   have hn:=tmod_in hs3.1 (show(0:Int)<2 by decide)
   generalize m.tmod 2=n at hn ⊢
   refine⟨by show 0+1≤1;omega,[[.str nm,i64 1, .str [112],i64 n]],rfl,?_⟩
   refine⟨by show 0+rs.length≤(rs.map Rf.cells).length;simp,rs.map Rf.cells,takeAll (by simp),by show(rs.length+1) * 48≤140737488355328;omega,(rs++[Rf.mk nm 1 [112] n]).map Rf.cells,by simp,?_⟩
   refine⟨_,⟨by omega,(Kn.mk nm card _).cells,hcell,rfl⟩,?_⟩
   refine⟨by show 0+1≤1;omega,[i64 card],rfl,?_⟩
   refine⟨by show 0+cs.length≤(cs.map i64).length;simp,cs.map i64,takeAll (by simp),by show(cs.length+1) * 8≤140737488355328;have:=k2.eq;omega,(cs++[card]).map i64,by simp,?_⟩
   refine⟨((i+1:Nat):Int),by rw [Int.natCast_add];exact wrap_i64 (by omega) (by omega),?_⟩
   exact⟨(i+1,rs++[Rf.mk nm 1 [112] n],cs++[card]),⟨by show i+1≤l.length;omega,k2.snoc (rfs1 hS.ok hS.len hn) hS.card h2⟩,ent_of [] [(1,5),(2,7)] [] rfl ⟨rfl,rfl,rfl,⟨rfl,rfl⟩,congrArg (fun k:Nat=>AV.sl 5 4 0 k) (snoc_len rs _).symm,congrArg (fun k:Nat=>AV.sl 7 1 0 k) (snoc_len cs card).symm,rfl,trivial⟩ (sk) rfl,by show l.length - (i+1)<l.length - i;omega⟩
  ·have h3:¬ m<3:=h3
   refine And.intro (fun h4=>?_) (fun h4=>absurd (show m=3 by omega) h4)
   refine⟨by show 0+1≤1;omega,[[.str nm,i64 3, .str [],i64 0]],rfl,?_⟩
   refine⟨by show 0+rs.length≤(rs.map Rf.cells).length;simp,rs.map Rf.cells,takeAll (by simp),by show(rs.length+1) * 48≤140737488355328;omega,(rs++[Rf.mk nm 3 [] 0]).map Rf.cells,by simp,?_⟩
   refine⟨_,⟨by omega,(Kn.mk nm card _).cells,hcell,rfl⟩,?_⟩
   refine⟨by show 0+1≤1;omega,[i64 card],rfl,?_⟩
   refine⟨by show 0+cs.length≤(cs.map i64).length;simp,cs.map i64,takeAll (by simp),by show(cs.length+1) * 8≤140737488355328;have:=k2.eq;omega,(cs++[card]).map i64,by simp,?_⟩
   refine⟨((i+1:Nat):Int),by rw [Int.natCast_add];exact wrap_i64 (by omega) (by omega),?_⟩
   exact⟨(i+1,rs++[Rf.mk nm 3 [] 0],cs++[card]),⟨by show i+1≤l.length;omega,k2.snoc (rfs3 hS.ok hS.len) hS.card h2⟩,ent_of [] [(1,5),(2,7)] [] rfl ⟨rfl,rfl,rfl,⟨rfl,rfl⟩,congrArg (fun k:Nat=>AV.sl 5 4 0 k) (snoc_len rs _).symm,congrArg (fun k:Nat=>AV.sl 7 1 0 k) (snoc_len cs card).symm,rfl,trivial⟩ (sk) rfl,by show l.length - (i+1)<l.length - i;omega⟩
abbrev otD2:OT:=(.pure 0 (.pure 1 (.pure 2 (.pure 3 (.pure 4 (.pure 5 (.pure 6 (.pure 7 (.pure 8 (.pure 9 (.pure 10 (.pure 11 (.pure 12 (.pure 13 (.pure 14 (.pure 15 (.pure 16 (.pure 17 (.eff 18 [15,11,10,8,3,1] (.eff 19 [] .fin .nil) .nil)))))))))))))))))))
abbrev otD4:OT:=(.pure 0 (.pure 1 (.pure 2 (.pure 3 (.pure 4 (.pure 5 (.pure 6 (.pure 7 (.pure 8 (.pure 9 (.pure 10 (.pure 11 (.pure 12 (.pure 13 (.pure 14 (.pure 15 (.pure 16 (.pure 17 (.pure 18 (.pure 19 (.pure 20 (.pure 21 (.pure 22 (.eff 23 [] .fin .nil))))))))))))))))))))))))
abbrev otD6:OT:=(.pure 0 (.pure 1 (.pure 2 (.pure 3 (.pure 4 (.pure 5 (.pure 6 (.eff 7 [3,2] (.pure 8 (.eff 9 [3,2] (.pure 10 (.eff 11 [] .fin .nil)) .nil)) .nil))))))))
abbrev otD13:OT:=(.pure 0 (.pure 1 (.pure 2 (.pure 3 (.pure 4 (.pure 5 (.pure 6 (.eff 7 [4,1] (.pure 8 (.eff 9 [4] (.pure 10 (.eff 11 [] .fin .nil)) .nil)) .nil))))))))
abbrev otD14:OT:=(.pure 0 (.pure 1 (.pure 2 (.pure 3 (.pure 4 (.pure 5 (.pure 6 (.pure 7 (.pure 8 (.eff 9 [5,3,1] (.eff 10 [3,1] (.pure 11 (.eff 12 [] .fin .nil)) .nil) .nil))))))))))
def LfQ (r:PEnd):Prop:=∃ (y:PV) (c:Cd),r=.ret [y]∧NilD y c.pv∧∀ d,CdS (d+1) c 1 18
def CdQ (r:PEnd):Prop:=∃ (y:PV) (c:Cd) (n:Nat),r=.ret [y]∧NilD y c.pv∧n≤3∧CdS 8 c n 43
structure RcA (rs:List Rf) (cs:List Int):Prop where
 ok:RcS rs cs
 pos:1≤rs.length
theorem set01:∀ j,j<2→setB (([0,1]:List Int).drop j)=true∧(([0,1]:List Int).drop j).length≤2∧∀ a∈([0,1]:List Int).drop j,a≤9:=by decide
theorem icellC {l:List Int} {k:Nat} (h:k<l.length):(l.map i64)[k]?=some (i64 (l.getD k 0)):=map_at 0 h
theorem nil_op (op:Int) {ys:List (List PV)} {l:List Cd} (h:NilDLL ys (cellsL l)):NilD (.agg [i64 op,i64 0,i64 0,i64 0, .str [],i64 0, .str [],i64 0, .nils, .lsts 10 ys]) (Cd.mk op 0 0 0 rf0 [] l).pv:=by
 show NilD _ (.agg [i64 op,i64 0,i64 0,i64 0, .str [],i64 0, .str [],i64 0, .lst [], .lsts 10 (cellsL l)])
 simp only [NilD,NilDL]
 exact⟨_,rfl,_,_,rfl,rfl,_,_,rfl,rfl,_,_,rfl,rfl,_,_,rfl,rfl,_,_,rfl,rfl,_,_,rfl,rfl,_,_,rfl,rfl,_,_,rfl,rfl,_,_,rfl, .inr (.inl rfl),_,_,rfl,⟨_,rfl,h⟩,rfl⟩
theorem nil_agg {a b:List PV} (h:NilD (.agg a) (.agg b)):NilDL a b:=by
 simp only [NilD] at h
 obtain⟨z,e,h⟩:=h
 injection e with e
 subst e
 exact h
theorem nil_ll1 {a:List PV} {c:Cd} (h:NilD (.agg a) c.pv):NilDLL [a] (cellsL [c]):=by
 simp only [NilDLL,cellsL]
 exact⟨_,_,rfl,nil_agg h,rfl⟩
theorem nil_ll2 {a b:List PV} {c d:Cd} (h:NilD (.agg a) c.pv) (h2:NilD (.agg b) d.pv):NilDLL [a,b] (cellsL [c,d]):=by
 simp only [NilDLL,cellsL]
 exact⟨_,_,rfl,nil_agg h,_,_,rfl,nil_agg h2,rfl⟩
theorem wrap_u8' {n:Nat} (h:n<256):(n:Int)=IntKind.u8.wrap (n:Int):=by
 show(n:Int)=(n:Int) % 256
 omega
theorem u8_next (w:UInt8):((UInt8.ofNat (w.toNat+1)).toNat:Int)=IntKind.u8.wrap ((w.toNat:Int)+1):=by
 show((UInt8.ofNat (w.toNat+1)).toNat:Int)=((w.toNat:Int)+1) % 256
 rw [UInt8.toNat_ofNat']
 omega
theorem u8_half (n:UInt8):((UInt8.ofNat (n.toNat / 2)).toNat:Int)=IntKind.u8.wrap ((n.toNat:Int).tdiv 2):=by
 have hn:=n.toNat_lt
 rw [show(n.toNat:Int).tdiv 2=((n.toNat / 2:Nat):Int) from rfl,← wrap_u8' (by omega),UInt8.toNat_ofNat']
 omega
theorem cond_leaf' (p:Pc) (rs:List Rf) (cs:List Int) (h:RcA rs cs) (hm3:3≤p.m.toNat % 8):Pure cx 66 [.agg p.cells,rfl_ rs,ints cs] LfQ:=by
 refine pure_of_vc Tryz.func66 rfl rfl rfl ?_
 obtain⟨w,o,n,m,x,y,z⟩:=p
 simp only [] at hm3
 have hl':(rs.map Rf.cells).length=rs.length:=List.length_map ..
 have hpos:=h.pos
 have hk:(w.toNat:Int).tmod ((rs.map Rf.cells).length:Nat)=((w.toNat % rs.length:Nat):Int):=by rw [hl'];rfl
 have hkl:w.toNat % rs.length<rs.length:=Nat.mod_lt _ (by omega)
 generalize w.toNat % rs.length=k at hk hkl
 have hcell:=rcell hkl
 have hkc:k<cs.length:=by have:=h.ok.eq;omega
 have ccell:=icellC hkc
 have hrf:=h.ok.refs _ (getD_memL rf0 hkl)
 have hcd:=h.ok.nums _ (getD_memL 0 hkc)
 generalize rs.getD k rf0=rf at hcell hrf
 generalize cs.getD k 0=cd at ccell hcd
 obtain⟨nm,md,pl,rn⟩:=rf
 have hw:=w.toNat_lt
 have ho:=o.toNat_lt
 have hn:=n.toNat_lt
 have hm:=m.toNat_lt
 have eo:((o.toNat % 4:Nat):Int)=IntKind.i64.wrap ((o.toNat:Int).tmod 4):=by
  rw [show(o.toNat:Int).tmod 4=((o.toNat % 4:Nat):Int) from rfl];exact wrap_i64 (by omega) (by omega)
 have en:(n.toNat:Int)=IntKind.i64.wrap (n.toNat:Int):=wrap_i64 (by omega) (by omega)
 have hv0:=tmod_in (Int.natCast_nonneg n.toNat) (show 0<cd by omega)
 have hv:=hv0
 have e8:(m.toNat:Int).tmod 8=((m.toNat % 8:Nat):Int):=rfl
 have f8:(o.toNat:Int).tmod 8=((o.toNat % 8:Nat):Int):=rfl
 have hok:=hrf.ok
 refine⟨(w.toNat:Int),wrap_i64 (by omega) (by omega),?_⟩
 refine⟨by show ¬ (((rs.map Rf.cells).length:Nat):Int)=0;rw [hl'];omega,?_⟩
 generalize (w.toNat:Int).tmod ((rs.map Rf.cells).length:Nat)=kk at hk ⊢
 subst hk
 refine vdraw_ot otD2 (by kernel_rfl) ?_
 refine⟨by decide,?_⟩
 refine⟨((o.toNat % 4:Nat):Int),eo,?_⟩
 refine⟨1+((o.toNat % 4:Nat):Int),wrap_i64 (by omega) (by omega),?_⟩
 refine⟨_,⟨by omega,(⟨nm,md,pl,rn⟩:Rf).cells,hcell,rfl⟩,?_⟩
 refine⟨(n.toNat:Int),en,?_⟩
 refine⟨_,⟨by omega,i64 cd,ccell,rfl⟩,?_⟩
 refine⟨by show ¬ cd=0;omega,?_⟩
 generalize (n.toNat:Int).tmod cd=v at hv ⊢
 refine⟨⟨rfl,congrArg (fun z:Int=>AV.p (.int .i64 z)) en,rfl,rfl,congrArg (fun z:Int=>AV.p (.int .i64 z)) eo,rfl,trivial⟩,?_⟩
 refine⟨_,⟨by omega,(⟨nm,md,pl,rn⟩:Rf).cells,hcell,rfl⟩,?_⟩
 refine And.intro (fun h3=>?_) (fun h3=>?_)
 ·have h3:md=3:=h3
  refine vdraw_ot otD4 (by kernel_rfl) ?_
  refine⟨_,⟨by omega,(⟨nm,md,pl,rn⟩:Rf).cells,hcell,rfl⟩,?_⟩
  refine⟨(n.toNat:Int),en,?_⟩
  refine⟨_,⟨by omega,i64 cd,ccell,rfl⟩,?_⟩
  refine⟨by show ¬ cd=0;omega,?_⟩
  clear hv
  have hv:=hv0
  generalize (n.toNat:Int).tmod cd=v at hv ⊢
  refine⟨by decide,?_⟩
  refine⟨((o.toNat % 4:Nat):Int),eo,?_⟩
  refine⟨1+((o.toNat % 4:Nat):Int),wrap_i64 (by omega) (by omega),?_⟩
  refine⟨by decide,((n.toNat / 8:Nat):Int),wrap_u8' (by omega),?_⟩
  refine⟨((n.toNat / 8:Nat):Int),wrap_i64 (by omega) (by omega),?_⟩
  refine⟨by decide,?_⟩
  have hq:=tmod_in (Int.natCast_nonneg (n.toNat / 8)) (show(0:Int)<4 by decide)
  generalize ((n.toNat / 8:Nat):Int).tmod 4=q at hq ⊢
  have hC1:∀ d,CdS (d+1) (.mk 6 q (1+((o.toNat % 4:Nat):Int)) v ⟨nm,md,pl,rn⟩ [] []) 1 18:=CdS.leaf (by decide) (by decide) (by decide) (by rw [leafB,if_neg (by decide),if_neg (by decide),if_pos rfl,hok,decide_eq_true h3,nat_of hq.1 (by omega),nat_of hv.1 (by omega),decide_eq_true (by omega),decide_eq_true (by omega)];rfl) hrf (by omega) (by omega) ⟨by decide,fun a ha=>by cases ha⟩
  refine⟨by decide,?_⟩
  refine And.intro (fun h=>absurd (show(m.toNat:Int).tmod 8=0 from h) (by rw [e8];omega)) (fun _=>?_)
  refine And.intro (fun h=>absurd (show(m.toNat:Int).tmod 8=1 from h) (by rw [e8];omega)) (fun _=>?_)
  refine And.intro (fun h=>absurd (show(m.toNat:Int).tmod 8=2 from h) (by rw [e8];omega)) (fun _=>?_)
  refine end1 (.agg [i64 6,i64 q,i64 (1+((o.toNat % 4:Nat):Int)),i64 v, .str nm,i64 md, .str pl,i64 rn, .nils, .nils]) rfl rfl ?_
  exact⟨_, .mk 6 q (1+((o.toNat % 4:Nat):Int)) v ⟨nm,md,pl,rn⟩ [] [],rfl,nil_leaf2 6 q (1+((o.toNat % 4:Nat):Int)) v ⟨nm,md,pl,rn⟩,hC1⟩
 ·refine⟨by decide,?_⟩
  by_cases h6:5<o.toNat % 8
  rotate_left
  ·refine And.intro (fun h=>absurd (show(5:Int)<(o.toNat:Int).tmod 8 from h) (by rw [f8];omega)) (fun _=>?_)
   have hC2:∀ d,CdS (d+1) (.mk (1+((o.toNat % 4:Nat):Int)) v 0 0 ⟨nm,md,pl,rn⟩ [] []) 1 18:=CdS.leaf (by omega) (by omega) (by omega) (leafB1 (by omega) hok (nat_of hv.1 (by omega))) hrf (by omega) (by decide) ⟨by decide,fun a ha=>by cases ha⟩
   refine⟨by decide,?_⟩
   refine And.intro (fun h=>absurd (show(m.toNat:Int).tmod 8=0 from h) (by rw [e8];omega)) (fun _=>?_)
   refine And.intro (fun h=>absurd (show(m.toNat:Int).tmod 8=1 from h) (by rw [e8];omega)) (fun _=>?_)
   refine And.intro (fun h=>absurd (show(m.toNat:Int).tmod 8=2 from h) (by rw [e8];omega)) (fun _=>?_)
   refine end1 (.agg [i64 (1+((o.toNat % 4:Nat):Int)),i64 v,i64 0,i64 0, .str nm,i64 md, .str pl,i64 rn, .nils, .nils]) rfl rfl ?_
   exact⟨_, .mk (1+((o.toNat % 4:Nat):Int)) v 0 0 ⟨nm,md,pl,rn⟩ [] [],rfl,nil_leaf2 (1+((o.toNat % 4:Nat):Int)) v 0 0 ⟨nm,md,pl,rn⟩,hC2⟩
  refine And.intro (fun _=>?_) (fun h=>absurd (show(5:Int)<(o.toNat:Int).tmod 8 by rw [f8];omega) h)
  refine vdraw_ot otD6 (by kernel_rfl) ?_
  refine⟨(n.toNat:Int),en,?_⟩
  refine⟨by decide,?_⟩
  have hj:(n.toNat:Int).tmod 2=((n.toNat % 2:Nat):Int):=rfl
  have hj2:n.toNat % 2<2:=Nat.mod_lt _ (by decide)
  generalize n.toNat % 2=j at hj hj2
  generalize (n.toNat:Int).tmod 2=jj at hj ⊢
  subst hj
  have s01:=set01 j hj2
  refine⟨by show(0:Int)≤((j:Nat):Int)∧((j:Nat):Int)≤2;omega,?_⟩
  refine⟨⟨congrArg (fun z:Int=>AV.p (.int .i64 z)) en,rfl,trivial⟩,?_⟩
  refine⟨⟨congrArg (fun z:Int=>AV.p (.int .i64 z)) en,rfl,trivial⟩,?_⟩
  have hC3:∀ d,CdS (d+1) (.mk 5 0 0 0 ⟨nm,md,pl,rn⟩ (([0,1]:List Int).drop j) []) 1 18:=CdS.leaf (by decide) (by decide) (by decide) (leafB5 hok s01.1) hrf (by decide) (by decide) s01.2
  refine⟨by decide,?_⟩
  refine And.intro (fun h=>absurd (show(m.toNat:Int).tmod 8=0 from h) (by rw [e8];omega)) (fun _=>?_)
  refine And.intro (fun h=>absurd (show(m.toNat:Int).tmod 8=1 from h) (by rw [e8];omega)) (fun _=>?_)
  refine And.intro (fun h=>absurd (show(m.toNat:Int).tmod 8=2 from h) (by rw [e8];omega)) (fun _=>?_)
  refine end1 (.agg [i64 5,i64 0,i64 0,i64 0, .str nm,i64 md, .str pl,i64 rn, .lst ((([0,1]:List Int).map i64).drop j), .nils]) rfl rfl ?_
  exact⟨_, .mk 5 0 0 0 ⟨nm,md,pl,rn⟩ (([0,1]:List Int).drop j) [],rfl,nil_leafD ⟨nm,md,pl,rn⟩ [0,1] j,hC3⟩
theorem cond_leaf (p:Pc) (rs:List Rf) (cs:List Int) (h:RcA rs cs) (hm3:3≤p.m.toNat % 8):Pure cx 66 [.agg p.cells,rfl_ rs,ints cs] fun r=>∃ c:Cd,r=.ret [c.pv]∧∀ d,CdS (d+1) c 1 18:=
 (cond_leaf' p rs cs h hm3).weak fun r hr=>by
  obtain⟨y,c,rfl,h1,h2⟩:=hr
  exact⟨.ret [c.pv],⟨_,rfl,_,_,rfl,h1,rfl⟩,c,rfl,h2⟩
theorem cond_c' (p:Pc) (rs:List Rf) (cs:List Int) (h:RcA rs cs):Pure cx 66 [.agg p.cells,rfl_ rs,ints cs] CdQ:=by
 refine pure_of_vc Tryz.func66 rfl rfl rfl ?_
 obtain⟨w,o,n,m,x,y,z⟩:=p
 have hl':(rs.map Rf.cells).length=rs.length:=List.length_map ..
 have hpos:=h.pos
 have hk:(w.toNat:Int).tmod ((rs.map Rf.cells).length:Nat)=((w.toNat % rs.length:Nat):Int):=by rw [hl'];rfl
 have hkl:w.toNat % rs.length<rs.length:=Nat.mod_lt _ (by omega)
 generalize w.toNat % rs.length=k at hk hkl
 have hcell:=rcell hkl
 have hkc:k<cs.length:=by have:=h.ok.eq;omega
 have ccell:=icellC hkc
 have hrf:=h.ok.refs _ (getD_memL rf0 hkl)
 have hcd:=h.ok.nums _ (getD_memL 0 hkc)
 generalize rs.getD k rf0=rf at hcell hrf
 generalize cs.getD k 0=cd at ccell hcd
 obtain⟨nm,md,pl,rn⟩:=rf
 have hw:=w.toNat_lt
 have ho:=o.toNat_lt
 have hn:=n.toNat_lt
 have hm:=m.toNat_lt
 have eo:((o.toNat % 4:Nat):Int)=IntKind.i64.wrap ((o.toNat:Int).tmod 4):=by
  rw [show(o.toNat:Int).tmod 4=((o.toNat % 4:Nat):Int) from rfl];exact wrap_i64 (by omega) (by omega)
 have en:(n.toNat:Int)=IntKind.i64.wrap (n.toNat:Int):=wrap_i64 (by omega) (by omega)
 have hv0:=tmod_in (Int.natCast_nonneg n.toNat) (show 0<cd by omega)
 have hv:=hv0
 have e8:(m.toNat:Int).tmod 8=((m.toNat % 8:Nat):Int):=rfl
 have f8:(o.toNat:Int).tmod 8=((o.toNat % 8:Nat):Int):=rfl
 have hok:=hrf.ok
 refine⟨(w.toNat:Int),wrap_i64 (by omega) (by omega),?_⟩
 refine⟨by show ¬ (((rs.map Rf.cells).length:Nat):Int)=0;rw [hl'];omega,?_⟩
 generalize (w.toNat:Int).tmod ((rs.map Rf.cells).length:Nat)=kk at hk ⊢
 subst hk
 refine vdraw_ot otD2 (by kernel_rfl) ?_
 refine⟨by decide,?_⟩
 refine⟨((o.toNat % 4:Nat):Int),eo,?_⟩
 refine⟨1+((o.toNat % 4:Nat):Int),wrap_i64 (by omega) (by omega),?_⟩
 refine⟨_,⟨by omega,(⟨nm,md,pl,rn⟩:Rf).cells,hcell,rfl⟩,?_⟩
 refine⟨(n.toNat:Int),en,?_⟩
 refine⟨_,⟨by omega,i64 cd,ccell,rfl⟩,?_⟩
 refine⟨by show ¬ cd=0;omega,?_⟩
 generalize (n.toNat:Int).tmod cd=v at hv ⊢
 refine⟨⟨rfl,congrArg (fun z:Int=>AV.p (.int .i64 z)) en,rfl,rfl,congrArg (fun z:Int=>AV.p (.int .i64 z)) eo,rfl,trivial⟩,?_⟩
 refine⟨_,⟨by omega,(⟨nm,md,pl,rn⟩:Rf).cells,hcell,rfl⟩,?_⟩
 refine And.intro (fun h3=>?_) (fun h3=>?_)
 ·have h3:md=3:=h3
  refine vdraw_ot otD4 (by kernel_rfl) ?_
  refine⟨_,⟨by omega,(⟨nm,md,pl,rn⟩:Rf).cells,hcell,rfl⟩,?_⟩
  refine⟨(n.toNat:Int),en,?_⟩
  refine⟨_,⟨by omega,i64 cd,ccell,rfl⟩,?_⟩
  refine⟨by show ¬ cd=0;omega,?_⟩
  clear hv
  have hv:=hv0
  generalize (n.toNat:Int).tmod cd=v at hv ⊢
  refine⟨by decide,?_⟩
  refine⟨((o.toNat % 4:Nat):Int),eo,?_⟩
  refine⟨1+((o.toNat % 4:Nat):Int),wrap_i64 (by omega) (by omega),?_⟩
  refine⟨by decide,((n.toNat / 8:Nat):Int),wrap_u8' (by omega),?_⟩
  refine⟨((n.toNat / 8:Nat):Int),wrap_i64 (by omega) (by omega),?_⟩
  refine⟨by decide,?_⟩
  have hq:=tmod_in (Int.natCast_nonneg (n.toNat / 8)) (show(0:Int)<4 by decide)
  generalize ((n.toNat / 8:Nat):Int).tmod 4=q at hq ⊢
  have hC1:∀ d,CdS (d+1) (.mk 6 q (1+((o.toNat % 4:Nat):Int)) v ⟨nm,md,pl,rn⟩ [] []) 1 18:=CdS.leaf (by decide) (by decide) (by decide) (by rw [leafB,if_neg (by decide),if_neg (by decide),if_pos rfl,hok,decide_eq_true h3,nat_of hq.1 (by omega),nat_of hv.1 (by omega),decide_eq_true (by omega),decide_eq_true (by omega)];rfl) hrf (by omega) (by omega) ⟨by decide,fun a ha=>by cases ha⟩
  refine⟨by decide,?_⟩
  by_cases m0:m.toNat % 8=0
  ·refine And.intro (fun _=>?_) (fun h=>absurd (show(m.toNat:Int).tmod 8=0 by rw [e8];omega) h)
   refine end1 (.agg [i64 7,i64 0,i64 0,i64 0, .str [],i64 0, .str [],i64 0, .nils, .lsts 10 [[i64 6,i64 q,i64 (1+((o.toNat % 4:Nat):Int)),i64 v, .str nm,i64 md, .str pl,i64 rn, .nils, .nils]]]) rfl ⟨_,rfl,_,_,rfl,rfl,_,_,rfl,rfl,_,_,rfl,rfl,_,_,rfl,rfl,_,_,rfl,rfl,_,_,rfl,rfl,_,_,rfl,rfl,_,_,rfl,rfl,_,_,rfl, .inl rfl,_,_,rfl,⟨_,rfl,Nat.le_refl _,rfl⟩,rfl⟩ ?_
   exact⟨_, .mk 7 0 0 0 rf0 [] [.mk 6 q (1+((o.toNat % 4:Nat):Int)) v ⟨nm,md,pl,rn⟩ [] []],2,rfl,nil_op 7 (nil_ll1 (nil_leaf2 6 q (1+((o.toNat % 4:Nat):Int)) v ⟨nm,md,pl,rn⟩)),by decide,(hC1 6).neg.le (by decide)⟩
  refine And.intro (fun h=>absurd (show(m.toNat:Int).tmod 8=0 from h) (by rw [e8];omega)) (fun _=>?_)
  by_cases m12:m.toNat % 8=1∨m.toNat % 8=2
  rotate_left
  ·refine And.intro (fun h=>absurd (show(m.toNat:Int).tmod 8=1 from h) (by rw [e8];omega)) (fun _=>?_)
   refine And.intro (fun h=>absurd (show(m.toNat:Int).tmod 8=2 from h) (by rw [e8];omega)) (fun _=>?_)
   refine end1 (.agg [i64 6,i64 q,i64 (1+((o.toNat % 4:Nat):Int)),i64 v, .str nm,i64 md, .str pl,i64 rn, .nils, .nils]) rfl rfl ?_
   exact⟨_, .mk 6 q (1+((o.toNat % 4:Nat):Int)) v ⟨nm,md,pl,rn⟩ [] [],1,rfl,nil_leaf2 6 q (1+((o.toNat % 4:Nat):Int)) v ⟨nm,md,pl,rn⟩,by decide,(hC1 7).le (by decide)⟩
  by_cases m1:m.toNat % 8=1
  ·refine And.intro (fun _=>?_) (fun h=>absurd (show(m.toNat:Int).tmod 8=1 by rw [e8];omega) h)
   refine vdraw_ot otD13 (by kernel_rfl) ?_
   refine⟨_,u8_next w,?_⟩
   refine⟨by decide,_,u8_half n,?_⟩
   refine⟨⟨rfl,rfl,trivial⟩,?_⟩
   refine⟨⟨rfl,trivial⟩,?_⟩
   refine vdraw_ot otD14 (by kernel_rfl) ?_
   refine⟨by decide,?_⟩
   have e2:((m.toNat % 2:Nat):Int)=IntKind.i64.wrap ((m.toNat:Int).tmod 2):=by
    rw [show(m.toNat:Int).tmod 2=((m.toNat % 2:Nat):Int) from rfl];exact wrap_i64 (by omega) (by omega)
   refine⟨((m.toNat % 2:Nat):Int),e2,?_⟩
   refine⟨8+((m.toNat % 2:Nat):Int),wrap_i64 (by omega) (by omega),?_⟩
   refine(cond_leaf ⟨UInt8.ofNat (w.toNat+1),o,UInt8.ofNat (n.toNat / 2),7,x,y,z⟩ rs cs h (by show 3≤(7:UInt8).toNat % 8;decide)).at fun r hr=>?_
   obtain⟨⟨ao,an,ar,av,af,as',aa⟩,rfl,hc2⟩:=hr
   refine⟨⟨rfl,congrArg (fun z:Int=>AV.p (.int .i64 z)) e2,rfl,trivial⟩,?_⟩
   refine⟨⟨congrArg (fun z:Int=>AV.p (.int .i64 z)) e2,rfl,trivial⟩,?_⟩
   refine end1 (.agg [i64 (8+((m.toNat % 2:Nat):Int)),i64 0,i64 0,i64 0, .str [],i64 0, .str [],i64 0, .nils, .lsts 10 [[i64 6,i64 q,i64 (1+((o.toNat % 4:Nat):Int)),i64 v, .str nm,i64 md, .str pl,i64 rn, .nils, .nils],(Cd.mk ao an ar av af as' aa).cells]]) rfl ⟨_,rfl,_,_,rfl,rfl,_,_,rfl,rfl,_,_,rfl,rfl,_,_,rfl,rfl,_,_,rfl,rfl,_,_,rfl,rfl,_,_,rfl,rfl,_,_,rfl,rfl,_,_,rfl, .inl rfl,_,_,rfl,⟨_,rfl,Nat.le_refl _,rfl⟩,rfl⟩ ?_
   exact⟨_, .mk (8+((m.toNat % 2:Nat):Int)) 0 0 0 rf0 [] [.mk 6 q (1+((o.toNat % 4:Nat):Int)) v ⟨nm,md,pl,rn⟩ [] [], .mk ao an ar av af as' aa],3,rfl,nil_op _ (nil_ll2 (nil_leaf2 6 q (1+((o.toNat % 4:Nat):Int)) v ⟨nm,md,pl,rn⟩) (NilD.refl _)),by decide,CdS.two (by omega) (hC1 6) (hc2 6)⟩
  ·refine And.intro (fun h=>absurd (show(m.toNat:Int).tmod 8=1 from h) (by rw [e8];omega)) (fun _=>?_)
   refine And.intro (fun _=>?_) (fun h=>absurd (show(m.toNat:Int).tmod 8=2 by rw [e8];omega) h)
   refine vdraw_ot otD13 (by kernel_rfl) ?_
   refine⟨_,u8_next w,?_⟩
   refine⟨by decide,_,u8_half n,?_⟩
   refine⟨⟨rfl,rfl,trivial⟩,?_⟩
   refine⟨⟨rfl,trivial⟩,?_⟩
   refine vdraw_ot otD14 (by kernel_rfl) ?_
   refine⟨by decide,?_⟩
   have e2:((m.toNat % 2:Nat):Int)=IntKind.i64.wrap ((m.toNat:Int).tmod 2):=by
    rw [show(m.toNat:Int).tmod 2=((m.toNat % 2:Nat):Int) from rfl];exact wrap_i64 (by omega) (by omega)
   refine⟨((m.toNat % 2:Nat):Int),e2,?_⟩
   refine⟨8+((m.toNat % 2:Nat):Int),wrap_i64 (by omega) (by omega),?_⟩
   refine(cond_leaf ⟨UInt8.ofNat (w.toNat+1),o,UInt8.ofNat (n.toNat / 2),7,x,y,z⟩ rs cs h (by show 3≤(7:UInt8).toNat % 8;decide)).at fun r hr=>?_
   obtain⟨⟨ao,an,ar,av,af,as',aa⟩,rfl,hc2⟩:=hr
   refine⟨⟨rfl,congrArg (fun z:Int=>AV.p (.int .i64 z)) e2,rfl,trivial⟩,?_⟩
   refine⟨⟨congrArg (fun z:Int=>AV.p (.int .i64 z)) e2,rfl,trivial⟩,?_⟩
   refine end1 (.agg [i64 (8+((m.toNat % 2:Nat):Int)),i64 0,i64 0,i64 0, .str [],i64 0, .str [],i64 0, .nils, .lsts 10 [[i64 6,i64 q,i64 (1+((o.toNat % 4:Nat):Int)),i64 v, .str nm,i64 md, .str pl,i64 rn, .nils, .nils],(Cd.mk ao an ar av af as' aa).cells]]) rfl ⟨_,rfl,_,_,rfl,rfl,_,_,rfl,rfl,_,_,rfl,rfl,_,_,rfl,rfl,_,_,rfl,rfl,_,_,rfl,rfl,_,_,rfl,rfl,_,_,rfl,rfl,_,_,rfl, .inl rfl,_,_,rfl,⟨_,rfl,Nat.le_refl _,rfl⟩,rfl⟩ ?_
   exact⟨_, .mk (8+((m.toNat % 2:Nat):Int)) 0 0 0 rf0 [] [.mk 6 q (1+((o.toNat % 4:Nat):Int)) v ⟨nm,md,pl,rn⟩ [] [], .mk ao an ar av af as' aa],3,rfl,nil_op _ (nil_ll2 (nil_leaf2 6 q (1+((o.toNat % 4:Nat):Int)) v ⟨nm,md,pl,rn⟩) (NilD.refl _)),by decide,CdS.two (by omega) (hC1 6) (hc2 6)⟩
 ·refine⟨by decide,?_⟩
  by_cases h6:5<o.toNat % 8
  rotate_left
  ·refine And.intro (fun h=>absurd (show(5:Int)<(o.toNat:Int).tmod 8 from h) (by rw [f8];omega)) (fun _=>?_)
   have hC2:∀ d,CdS (d+1) (.mk (1+((o.toNat % 4:Nat):Int)) v 0 0 ⟨nm,md,pl,rn⟩ [] []) 1 18:=CdS.leaf (by omega) (by omega) (by omega) (leafB1 (by omega) hok (nat_of hv.1 (by omega))) hrf (by omega) (by decide) ⟨by decide,fun a ha=>by cases ha⟩
   refine⟨by decide,?_⟩
   by_cases m0:m.toNat % 8=0
   ·refine And.intro (fun _=>?_) (fun h=>absurd (show(m.toNat:Int).tmod 8=0 by rw [e8];omega) h)
    refine end1 (.agg [i64 7,i64 0,i64 0,i64 0, .str [],i64 0, .str [],i64 0, .nils, .lsts 10 [[i64 (1+((o.toNat % 4:Nat):Int)),i64 v,i64 0,i64 0, .str nm,i64 md, .str pl,i64 rn, .nils, .nils]]]) rfl ⟨_,rfl,_,_,rfl,rfl,_,_,rfl,rfl,_,_,rfl,rfl,_,_,rfl,rfl,_,_,rfl,rfl,_,_,rfl,rfl,_,_,rfl,rfl,_,_,rfl,rfl,_,_,rfl, .inl rfl,_,_,rfl,⟨_,rfl,Nat.le_refl _,rfl⟩,rfl⟩ ?_
    exact⟨_, .mk 7 0 0 0 rf0 [] [.mk (1+((o.toNat % 4:Nat):Int)) v 0 0 ⟨nm,md,pl,rn⟩ [] []],2,rfl,nil_op 7 (nil_ll1 (nil_leaf2 (1+((o.toNat % 4:Nat):Int)) v 0 0 ⟨nm,md,pl,rn⟩)),by decide,(hC2 6).neg.le (by decide)⟩
   refine And.intro (fun h=>absurd (show(m.toNat:Int).tmod 8=0 from h) (by rw [e8];omega)) (fun _=>?_)
   by_cases m12:m.toNat % 8=1∨m.toNat % 8=2
   rotate_left
   ·refine And.intro (fun h=>absurd (show(m.toNat:Int).tmod 8=1 from h) (by rw [e8];omega)) (fun _=>?_)
    refine And.intro (fun h=>absurd (show(m.toNat:Int).tmod 8=2 from h) (by rw [e8];omega)) (fun _=>?_)
    refine end1 (.agg [i64 (1+((o.toNat % 4:Nat):Int)),i64 v,i64 0,i64 0, .str nm,i64 md, .str pl,i64 rn, .nils, .nils]) rfl rfl ?_
    exact⟨_, .mk (1+((o.toNat % 4:Nat):Int)) v 0 0 ⟨nm,md,pl,rn⟩ [] [],1,rfl,nil_leaf2 (1+((o.toNat % 4:Nat):Int)) v 0 0 ⟨nm,md,pl,rn⟩,by decide,(hC2 7).le (by decide)⟩
   by_cases m1:m.toNat % 8=1
   ·refine And.intro (fun _=>?_) (fun h=>absurd (show(m.toNat:Int).tmod 8=1 by rw [e8];omega) h)
    refine vdraw_ot otD13 (by kernel_rfl) ?_
    refine⟨_,u8_next w,?_⟩
    refine⟨by decide,_,u8_half n,?_⟩
    refine⟨⟨rfl,rfl,trivial⟩,?_⟩
    refine⟨⟨rfl,trivial⟩,?_⟩
    refine vdraw_ot otD14 (by kernel_rfl) ?_
    refine⟨by decide,?_⟩
    have e2:((m.toNat % 2:Nat):Int)=IntKind.i64.wrap ((m.toNat:Int).tmod 2):=by
     rw [show(m.toNat:Int).tmod 2=((m.toNat % 2:Nat):Int) from rfl];exact wrap_i64 (by omega) (by omega)
    refine⟨((m.toNat % 2:Nat):Int),e2,?_⟩
    refine⟨8+((m.toNat % 2:Nat):Int),wrap_i64 (by omega) (by omega),?_⟩
    refine(cond_leaf ⟨UInt8.ofNat (w.toNat+1),o,UInt8.ofNat (n.toNat / 2),7,x,y,z⟩ rs cs h (by show 3≤(7:UInt8).toNat % 8;decide)).at fun r hr=>?_
    obtain⟨⟨ao,an,ar,av,af,as',aa⟩,rfl,hc2⟩:=hr
    refine⟨⟨rfl,congrArg (fun z:Int=>AV.p (.int .i64 z)) e2,rfl,trivial⟩,?_⟩
    refine⟨⟨congrArg (fun z:Int=>AV.p (.int .i64 z)) e2,rfl,trivial⟩,?_⟩
    refine end1 (.agg [i64 (8+((m.toNat % 2:Nat):Int)),i64 0,i64 0,i64 0, .str [],i64 0, .str [],i64 0, .nils, .lsts 10 [[i64 (1+((o.toNat % 4:Nat):Int)),i64 v,i64 0,i64 0, .str nm,i64 md, .str pl,i64 rn, .nils, .nils],(Cd.mk ao an ar av af as' aa).cells]]) rfl ⟨_,rfl,_,_,rfl,rfl,_,_,rfl,rfl,_,_,rfl,rfl,_,_,rfl,rfl,_,_,rfl,rfl,_,_,rfl,rfl,_,_,rfl,rfl,_,_,rfl,rfl,_,_,rfl, .inl rfl,_,_,rfl,⟨_,rfl,Nat.le_refl _,rfl⟩,rfl⟩ ?_
    exact⟨_, .mk (8+((m.toNat % 2:Nat):Int)) 0 0 0 rf0 [] [.mk (1+((o.toNat % 4:Nat):Int)) v 0 0 ⟨nm,md,pl,rn⟩ [] [], .mk ao an ar av af as' aa],3,rfl,nil_op _ (nil_ll2 (nil_leaf2 (1+((o.toNat % 4:Nat):Int)) v 0 0 ⟨nm,md,pl,rn⟩) (NilD.refl _)),by decide,CdS.two (by omega) (hC2 6) (hc2 6)⟩
   ·refine And.intro (fun h=>absurd (show(m.toNat:Int).tmod 8=1 from h) (by rw [e8];omega)) (fun _=>?_)
    refine And.intro (fun _=>?_) (fun h=>absurd (show(m.toNat:Int).tmod 8=2 by rw [e8];omega) h)
    refine vdraw_ot otD13 (by kernel_rfl) ?_
    refine⟨_,u8_next w,?_⟩
    refine⟨by decide,_,u8_half n,?_⟩
    refine⟨⟨rfl,rfl,trivial⟩,?_⟩
    refine⟨⟨rfl,trivial⟩,?_⟩
    refine vdraw_ot otD14 (by kernel_rfl) ?_
    refine⟨by decide,?_⟩
    have e2:((m.toNat % 2:Nat):Int)=IntKind.i64.wrap ((m.toNat:Int).tmod 2):=by
     rw [show(m.toNat:Int).tmod 2=((m.toNat % 2:Nat):Int) from rfl];exact wrap_i64 (by omega) (by omega)
    refine⟨((m.toNat % 2:Nat):Int),e2,?_⟩
    refine⟨8+((m.toNat % 2:Nat):Int),wrap_i64 (by omega) (by omega),?_⟩
    refine(cond_leaf ⟨UInt8.ofNat (w.toNat+1),o,UInt8.ofNat (n.toNat / 2),7,x,y,z⟩ rs cs h (by show 3≤(7:UInt8).toNat % 8;decide)).at fun r hr=>?_
    obtain⟨⟨ao,an,ar,av,af,as',aa⟩,rfl,hc2⟩:=hr
    refine⟨⟨rfl,congrArg (fun z:Int=>AV.p (.int .i64 z)) e2,rfl,trivial⟩,?_⟩
    refine⟨⟨congrArg (fun z:Int=>AV.p (.int .i64 z)) e2,rfl,trivial⟩,?_⟩
    refine end1 (.agg [i64 (8+((m.toNat % 2:Nat):Int)),i64 0,i64 0,i64 0, .str [],i64 0, .str [],i64 0, .nils, .lsts 10 [[i64 (1+((o.toNat % 4:Nat):Int)),i64 v,i64 0,i64 0, .str nm,i64 md, .str pl,i64 rn, .nils, .nils],(Cd.mk ao an ar av af as' aa).cells]]) rfl ⟨_,rfl,_,_,rfl,rfl,_,_,rfl,rfl,_,_,rfl,rfl,_,_,rfl,rfl,_,_,rfl,rfl,_,_,rfl,rfl,_,_,rfl,rfl,_,_,rfl,rfl,_,_,rfl, .inl rfl,_,_,rfl,⟨_,rfl,Nat.le_refl _,rfl⟩,rfl⟩ ?_
    exact⟨_, .mk (8+((m.toNat % 2:Nat):Int)) 0 0 0 rf0 [] [.mk (1+((o.toNat % 4:Nat):Int)) v 0 0 ⟨nm,md,pl,rn⟩ [] [], .mk ao an ar av af as' aa],3,rfl,nil_op _ (nil_ll2 (nil_leaf2 (1+((o.toNat % 4:Nat):Int)) v 0 0 ⟨nm,md,pl,rn⟩) (NilD.refl _)),by decide,CdS.two (by omega) (hC2 6) (hc2 6)⟩
  refine And.intro (fun _=>?_) (fun h=>absurd (show(5:Int)<(o.toNat:Int).tmod 8 by rw [f8];omega) h)
  refine vdraw_ot otD6 (by kernel_rfl) ?_
  refine⟨(n.toNat:Int),en,?_⟩
  refine⟨by decide,?_⟩
  have hj:(n.toNat:Int).tmod 2=((n.toNat % 2:Nat):Int):=rfl
  have hj2:n.toNat % 2<2:=Nat.mod_lt _ (by decide)
  generalize n.toNat % 2=j at hj hj2
  generalize (n.toNat:Int).tmod 2=jj at hj ⊢
  subst hj
  have s01:=set01 j hj2
  refine⟨by show(0:Int)≤((j:Nat):Int)∧((j:Nat):Int)≤2;omega,?_⟩
  refine⟨⟨congrArg (fun z:Int=>AV.p (.int .i64 z)) en,rfl,trivial⟩,?_⟩
  refine⟨⟨congrArg (fun z:Int=>AV.p (.int .i64 z)) en,rfl,trivial⟩,?_⟩
  have hC3:∀ d,CdS (d+1) (.mk 5 0 0 0 ⟨nm,md,pl,rn⟩ (([0,1]:List Int).drop j) []) 1 18:=CdS.leaf (by decide) (by decide) (by decide) (leafB5 hok s01.1) hrf (by decide) (by decide) s01.2
  refine⟨by decide,?_⟩
  by_cases m0:m.toNat % 8=0
  ·refine And.intro (fun _=>?_) (fun h=>absurd (show(m.toNat:Int).tmod 8=0 by rw [e8];omega) h)
   refine end1 (.agg [i64 7,i64 0,i64 0,i64 0, .str [],i64 0, .str [],i64 0, .nils, .lsts 10 [[i64 5,i64 0,i64 0,i64 0, .str nm,i64 md, .str pl,i64 rn, .lst ((([0,1]:List Int).map i64).drop j), .nils]]]) rfl ⟨_,rfl,_,_,rfl,rfl,_,_,rfl,rfl,_,_,rfl,rfl,_,_,rfl,rfl,_,_,rfl,rfl,_,_,rfl,rfl,_,_,rfl,rfl,_,_,rfl,rfl,_,_,rfl, .inl rfl,_,_,rfl,⟨_,rfl,Nat.le_refl _,rfl⟩,rfl⟩ ?_
   exact⟨_, .mk 7 0 0 0 rf0 [] [.mk 5 0 0 0 ⟨nm,md,pl,rn⟩ (([0,1]:List Int).drop j) []],2,rfl,nil_op 7 (nil_ll1 (nil_leafD ⟨nm,md,pl,rn⟩ [0,1] j)),by decide,(hC3 6).neg.le (by decide)⟩
  refine And.intro (fun h=>absurd (show(m.toNat:Int).tmod 8=0 from h) (by rw [e8];omega)) (fun _=>?_)
  by_cases m12:m.toNat % 8=1∨m.toNat % 8=2
  rotate_left
  ·refine And.intro (fun h=>absurd (show(m.toNat:Int).tmod 8=1 from h) (by rw [e8];omega)) (fun _=>?_)
   refine And.intro (fun h=>absurd (show(m.toNat:Int).tmod 8=2 from h) (by rw [e8];omega)) (fun _=>?_)
   refine end1 (.agg [i64 5,i64 0,i64 0,i64 0, .str nm,i64 md, .str pl,i64 rn, .lst ((([0,1]:List Int).map i64).drop j), .nils]) rfl rfl ?_
   exact⟨_, .mk 5 0 0 0 ⟨nm,md,pl,rn⟩ (([0,1]:List Int).drop j) [],1,rfl,nil_leafD ⟨nm,md,pl,rn⟩ [0,1] j,by decide,(hC3 7).le (by decide)⟩
  by_cases m1:m.toNat % 8=1
  ·refine And.intro (fun _=>?_) (fun h=>absurd (show(m.toNat:Int).tmod 8=1 by rw [e8];omega) h)
   refine vdraw_ot otD13 (by kernel_rfl) ?_
   refine⟨_,u8_next w,?_⟩
   refine⟨by decide,_,u8_half n,?_⟩
   refine⟨⟨rfl,rfl,trivial⟩,?_⟩
   refine⟨⟨rfl,trivial⟩,?_⟩
   refine vdraw_ot otD14 (by kernel_rfl) ?_
   refine⟨by decide,?_⟩
   have e2:((m.toNat % 2:Nat):Int)=IntKind.i64.wrap ((m.toNat:Int).tmod 2):=by
    rw [show(m.toNat:Int).tmod 2=((m.toNat % 2:Nat):Int) from rfl];exact wrap_i64 (by omega) (by omega)
   refine⟨((m.toNat % 2:Nat):Int),e2,?_⟩
   refine⟨8+((m.toNat % 2:Nat):Int),wrap_i64 (by omega) (by omega),?_⟩
   refine(cond_leaf ⟨UInt8.ofNat (w.toNat+1),o,UInt8.ofNat (n.toNat / 2),7,x,y,z⟩ rs cs h (by show 3≤(7:UInt8).toNat % 8;decide)).at fun r hr=>?_
   obtain⟨⟨ao,an,ar,av,af,as',aa⟩,rfl,hc2⟩:=hr
   refine⟨⟨rfl,congrArg (fun z:Int=>AV.p (.int .i64 z)) e2,rfl,trivial⟩,?_⟩
   refine⟨⟨congrArg (fun z:Int=>AV.p (.int .i64 z)) e2,rfl,trivial⟩,?_⟩
   refine end1 (.agg [i64 (8+((m.toNat % 2:Nat):Int)),i64 0,i64 0,i64 0, .str [],i64 0, .str [],i64 0, .nils, .lsts 10 [[i64 5,i64 0,i64 0,i64 0, .str nm,i64 md, .str pl,i64 rn, .lst ((([0,1]:List Int).map i64).drop j), .nils],(Cd.mk ao an ar av af as' aa).cells]]) rfl ⟨_,rfl,_,_,rfl,rfl,_,_,rfl,rfl,_,_,rfl,rfl,_,_,rfl,rfl,_,_,rfl,rfl,_,_,rfl,rfl,_,_,rfl,rfl,_,_,rfl,rfl,_,_,rfl, .inl rfl,_,_,rfl,⟨_,rfl,Nat.le_refl _,rfl⟩,rfl⟩ ?_
   exact⟨_, .mk (8+((m.toNat % 2:Nat):Int)) 0 0 0 rf0 [] [.mk 5 0 0 0 ⟨nm,md,pl,rn⟩ (([0,1]:List Int).drop j) [], .mk ao an ar av af as' aa],3,rfl,nil_op _ (nil_ll2 (nil_leafD ⟨nm,md,pl,rn⟩ [0,1] j) (NilD.refl _)),by decide,CdS.two (by omega) (hC3 6) (hc2 6)⟩
  ·refine And.intro (fun h=>absurd (show(m.toNat:Int).tmod 8=1 from h) (by rw [e8];omega)) (fun _=>?_)
   refine And.intro (fun _=>?_) (fun h=>absurd (show(m.toNat:Int).tmod 8=2 by rw [e8];omega) h)
   refine vdraw_ot otD13 (by kernel_rfl) ?_
   refine⟨_,u8_next w,?_⟩
   refine⟨by decide,_,u8_half n,?_⟩
   refine⟨⟨rfl,rfl,trivial⟩,?_⟩
   refine⟨⟨rfl,trivial⟩,?_⟩
   refine vdraw_ot otD14 (by kernel_rfl) ?_
   refine⟨by decide,?_⟩
   have e2:((m.toNat % 2:Nat):Int)=IntKind.i64.wrap ((m.toNat:Int).tmod 2):=by
    rw [show(m.toNat:Int).tmod 2=((m.toNat % 2:Nat):Int) from rfl];exact wrap_i64 (by omega) (by omega)
   refine⟨((m.toNat % 2:Nat):Int),e2,?_⟩
   refine⟨8+((m.toNat % 2:Nat):Int),wrap_i64 (by omega) (by omega),?_⟩
   refine(cond_leaf ⟨UInt8.ofNat (w.toNat+1),o,UInt8.ofNat (n.toNat / 2),7,x,y,z⟩ rs cs h (by show 3≤(7:UInt8).toNat % 8;decide)).at fun r hr=>?_
   obtain⟨⟨ao,an,ar,av,af,as',aa⟩,rfl,hc2⟩:=hr
   refine⟨⟨rfl,congrArg (fun z:Int=>AV.p (.int .i64 z)) e2,rfl,trivial⟩,?_⟩
   refine⟨⟨congrArg (fun z:Int=>AV.p (.int .i64 z)) e2,rfl,trivial⟩,?_⟩
   refine end1 (.agg [i64 (8+((m.toNat % 2:Nat):Int)),i64 0,i64 0,i64 0, .str [],i64 0, .str [],i64 0, .nils, .lsts 10 [[i64 5,i64 0,i64 0,i64 0, .str nm,i64 md, .str pl,i64 rn, .lst ((([0,1]:List Int).map i64).drop j), .nils],(Cd.mk ao an ar av af as' aa).cells]]) rfl ⟨_,rfl,_,_,rfl,rfl,_,_,rfl,rfl,_,_,rfl,rfl,_,_,rfl,rfl,_,_,rfl,rfl,_,_,rfl,rfl,_,_,rfl,rfl,_,_,rfl,rfl,_,_,rfl, .inl rfl,_,_,rfl,⟨_,rfl,Nat.le_refl _,rfl⟩,rfl⟩ ?_
   exact⟨_, .mk (8+((m.toNat % 2:Nat):Int)) 0 0 0 rf0 [] [.mk 5 0 0 0 ⟨nm,md,pl,rn⟩ (([0,1]:List Int).drop j) [], .mk ao an ar av af as' aa],3,rfl,nil_op _ (nil_ll2 (nil_leafD ⟨nm,md,pl,rn⟩ [0,1] j) (NilD.refl _)),by decide,CdS.two (by omega) (hC3 6) (hc2 6)⟩
theorem cond_c (p:Pc) (rs:List Rf) (cs:List Int) (h:RcA rs cs):Pure cx 66 [.agg p.cells,rfl_ rs,ints cs] fun r=>∃ (c:Cd) (n:Nat),r=.ret [c.pv]∧n≤3∧CdS 8 c n 43:=
 (cond_c' p rs cs h).weak fun r hr=>by
  obtain⟨y,c,n,rfl,h1,h2⟩:=hr
  exact⟨.ret [c.pv],⟨_,rfl,_,_,rfl,h1,rfl⟩,c,n,rfl,h2⟩
theorem vdraw_otEx {C : Cx} {rd : Bool} {n0 N : Nat} {all : List Oper} {σ : Sg} {ds : List AD} {H : Hp} {K : Sg → List AD → Hp → Prop} {X : List AP → Sg → List AD → Hp → Prop} {α : Type} (sl : α → List (Nat × AV)) (hp : α → Hp) (pr : α → Prop) (ot : OT)
    (h : (C.P.follows .mixedOrders && slotsOK N all (masks all []) && otOK all (masks all []) ot [] [] []) = true)
    (hv : vD C rd all σ (fun σ' ds' H' => ∃ x, pr x ∧ Ent C n0 N σ' ds' H' (sets (fun _ => .junk) (sl x)) ds (hp x)) X ot [] ds H) (hk : ∀ x, pr x → K (sets (fun _ => .junk) (sl x)) ds (hp x)) :
    ∃ ot, (C.P.follows .mixedOrders && slotsOK N all (masks all []) && otOK all (masks all []) ot [] [] []) = true ∧
    ((vD C rd all σ K X ot [] ds H) ∨
     ∃ (α : Type) (sl : α → List (Nat × AV)) (hp : α → Hp) (pr : α → Prop),
      vD C rd all σ (fun σ' ds' H' => ∃ x, pr x ∧ Ent C n0 N σ' ds' H' (sets (fun _ => .junk) (sl x)) ds (hp x)) X ot [] ds H ∧
      ∀ x, pr x → K (sets (fun _ => .junk) (sl x)) ds (hp x)) := ⟨_, h, .inr ⟨α, sl, hp, pr, hv, hk⟩⟩
abbrev otC5:OT:=(.pure 0 (.pure 1 (.pure 2 (.pure 3 (.pure 4 (.pure 5 (.pure 6 (.pure 8 (.pure 9 (.pure 10 (.pure 11 (.pure 12 (.pure 13 (.pure 14 (.pure 15 (.pure 16 (.pure 17 (.pure 18
 (.eff 7 [15,14,9] (.pure 19 (.eff 20 [15,14,9,4,1] (.eff 21 [] .fin .nil) .nil))
  (.eff 20 [15,14,9,4,1] (.eff 7 [15,14,9] (.pure 19 (.eff 21 [] .fin .nil)) .nil) .nil))))))))))))))))))))
def ksO (l:List Cs):AObj:=⟨TCase,false, .pus (l.map Cs.cells)⟩
def pc0:Pc:=⟨0,0,0,0,0,0,0⟩
theorem pccell {l:List Pc} {k:Nat} (h:k<l.length):(l.map Pc.cells)[k]?=some (l.getD k pc0).cells:=map_at pc0 h
structure GrS (k:Nat) (g:Int):Prop where
 ok:(k=0∧g=0)∨((k=2∨k=3)∧1≤g∧g≤12)
theorem one_nu {v:Int} (h:-999≤v∧v≤999):NuS [v]:=by
 have h1:wgtB v=true:=by rw [wgtB,decide_eq_true (by omega),decide_eq_true (by omega)];rfl
 refine⟨?_,?_⟩
 ·show(decide (1≤1) && decide (1≤8) && (wgtB v && true))=true
  rw [h1];rfl
 ·show lw (intT v++[])≤6
  rw [List.append_nil,intT]
  have h1:=lw_dig v
  have h2:=lw_dig (-v)
  split <;> simp only [lw_cons,lw_n,List.length_cons,List.length_nil] <;> omega
def CaQ (r:PEnd):Prop:=∃ (y:PV) (l:List Cs),r=.ret [y]∧NilD y (css l)∧RuS l
theorem nil_cases (out:List Cs) (l:List Int):NilD (.lsts 11 (out.map Cs.cells++[zc0++[.lst (l.map i64)]])) (css (out++[⟨cd0,l⟩])):=by
 simp only [css,NilD,List.map_append,List.map_cons,List.map_nil]
 refine⟨_,rfl,?_⟩
 induction out with
 | nil=>
  simp only [List.map_nil,List.nil_append,NilDLL]
  exact⟨_,_,rfl,nil_zc l,rfl⟩
 | cons c out ih=>
  simp only [List.map_cons,List.cons_append,NilDLL]
  exact⟨_,_,rfl,NilDL.refl _,ih⟩
structure OutS (out:List Cs) (i:Nat):Prop where
 cs:∀ c∈out,CsS c
 len:out.length≤i
theorem OutS.snoc {out:List Cs} {i:Nat} {c:Cs} (h:OutS out i) (hc:CsS c):OutS (out++[c]) (i+1):=by
 refine⟨fun x hx=>?_,by rw [List.length_append];have:=h.len;simp only [List.length_cons,List.length_nil];omega⟩
 rcases List.mem_append.1 hx with hx | hx
 ·exact h.cs x hx
 ·rw [List.mem_singleton.1 hx];exact hc
theorem cases_c' (p:Pt) (rs:List Rf) (cs:List Int) (h:RcS rs cs) (k:Nat) (g:Int) (hg:GrS k g) (hp:p.cases.length≤9223372036854775807):Pure cx 40 [.agg p.cells,rfl_ rs,ints cs,i64 (k:Int),i64 g] CaQ:=by
 refine pure_of_vc Tryz.func40 rfl rfl rfl ?_
 obtain⟨kind,card,frm,modes,pl,ps,x,y,z⟩:=p
 have hps:(ps.map Pc.cells).length=ps.length:=List.length_map ..
 have hrs:(rs.map Rf.cells).length=rs.length:=List.length_map ..
 have hr2:=h.len
 simp only [] at hp
 refine⟨Nat × List Cs,fun x'=>[(1, .p (rfl_ rs)),(2, .p (ints cs)),(3, .p (i64 (k:Int))),(4, .p (i64 g)),(5, .ptr 0 0 0),(11, .sl 1 11 0 x'.2.length),(12, .p (i64 x'.1))],fun x'=>⟨2,[(1,ksO x'.2),(0,ptO ⟨kind,card,frm,modes,pl,ps,x,y,z⟩)]⟩,fun x'=>x'.1≤3∧OutS x'.2 x'.1,fun x'=>3 - x'.1,?_,?_⟩
 ·exact⟨(0,[]),⟨by decide,⟨fun c hc=>(by cases hc),Nat.le_refl _⟩⟩,ent_of [] [] [(1,11)] rfl (sk) (sk) rfl⟩
 rintro⟨i,out⟩ ⟨k1,k2⟩
 simp only [] at k1 k2
 by_cases ha:i<ps.length∧i<3∧0<rs.length
 rotate_left
 ·by_cases hi:i<ps.length
  rotate_left
  ·refine And.intro (fun h=>absurd (show(i:Int)<((ps.map Pc.cells).length:Nat) from h) (by rw [hps];omega)) (fun _=>?_)
   refine⟨by show(0:Int)≤0∧(0:Int)<3;decide,?_⟩
   refine⟨.p (u8 x),ldIn1 (by kernel_rfl) rfl,?_⟩
   refine⟨(x.toNat:Int),wrap_i64 (by omega) (by have:=x.toNat_lt;omega),?_⟩
   refine⟨by decide,?_⟩
   have hz:=tmod_in (Int.natCast_nonneg x.toNat) (show(0:Int)<21 by decide)
   generalize (x.toNat:Int).tmod 21=zz at hz ⊢
   refine⟨zz - 10,wrap_i64 (by omega) (by omega),?_⟩
   by_cases hg0:0<g
   ·refine And.intro (fun _=>?_) (fun h=>absurd hg0 h)
    obtain⟨hk,hg1,hg2⟩:(k=2∨k=3)∧1≤g∧g≤12:=by
     rcases hg.ok with h | h
     ·omega
     ·exact h
    refine(weights_c x y z k g hk ⟨by omega,hg2⟩).at fun r hr=>?_
    obtain⟨l,rfl,hl⟩:=hr
    refine⟨by show 0+1≤1;omega,[zc0++[ints l]],rfl,?_⟩
    refine⟨by show 0+out.length≤(out.map Cs.cells).length;simp,out.map Cs.cells,takeAll (by simp),by show(out.length+1) * 152≤140737488355328;have:=k2.len;omega,out.map Cs.cells++[zc0++[ints l]],rfl,?_⟩
    refine end1 (.lsts 11 (out.map Cs.cells++[zc0++[ints l]])) rfl ⟨_,rfl,by show 0+(out.length+1)≤(out.map Cs.cells++[zc0++[ints l]]).length;simp,takeAll (by simp)⟩ ⟨_,out++[⟨cd0,l⟩],rfl,nil_cases out l,rule_ok (by have:=k2.len;omega) k2.cs ⟨rfl,(hl.nu hk)⟩⟩
   ·refine And.intro (fun h=>absurd h hg0) (fun _=>?_)
    refine⟨by show 0+1≤1;omega,_,rfl, .inl ⟨[2],[zc0++[ints [zz - 10]]],rfl,⟨_,_,rfl,⟨_,_,rfl,rfl,_,_,rfl,rfl,_,_,rfl,rfl,_,_,rfl,rfl,_,_,rfl,rfl,_,_,rfl,rfl,_,_,rfl,rfl,_,_,rfl,rfl,_,_,rfl, .inl rfl,_,_,rfl, .inl rfl,_,_,rfl,⟨_,rfl,Nat.le_refl _,rfl⟩,rfl⟩,rfl⟩,?_⟩⟩
    refine⟨by show 0+out.length≤(out.map Cs.cells).length;simp,out.map Cs.cells,takeAll (by simp),by show(out.length+1) * 152≤140737488355328;have:=k2.len;omega,out.map Cs.cells++[zc0++[ints [zz - 10]]],rfl,?_⟩
    refine end1 (.lsts 11 (out.map Cs.cells++[zc0++[ints [zz - 10]]])) rfl ⟨_,rfl,by show 0+(out.length+1)≤(out.map Cs.cells++[zc0++[ints [zz - 10]]]).length;simp,takeAll (by simp)⟩ ⟨_,out++[⟨cd0,[zz - 10]⟩],rfl,nil_cases out [zz - 10],rule_ok (by have:=k2.len;omega) k2.cs ⟨rfl,(one_nu (by omega))⟩⟩
  refine And.intro (fun _=>?_) (fun h=>absurd (show(i:Int)<((ps.map Pc.cells).length:Nat) by rw [hps];omega) h)
  by_cases hi3:i<3
  rotate_left
  ·refine And.intro (fun h=>absurd (show(i:Int)<3 from h) (by omega)) (fun _=>?_)
   refine⟨by show(0:Int)≤0∧(0:Int)<3;decide,?_⟩
   refine⟨.p (u8 x),ldIn1 (by kernel_rfl) rfl,?_⟩
   refine⟨(x.toNat:Int),wrap_i64 (by omega) (by have:=x.toNat_lt;omega),?_⟩
   refine⟨by decide,?_⟩
   have hz:=tmod_in (Int.natCast_nonneg x.toNat) (show(0:Int)<21 by decide)
   generalize (x.toNat:Int).tmod 21=zz at hz ⊢
   refine⟨zz - 10,wrap_i64 (by omega) (by omega),?_⟩
   by_cases hg0:0<g
   ·refine And.intro (fun _=>?_) (fun h=>absurd hg0 h)
    obtain⟨hk,hg1,hg2⟩:(k=2∨k=3)∧1≤g∧g≤12:=by
     rcases hg.ok with h | h
     ·omega
     ·exact h
    refine(weights_c x y z k g hk ⟨by omega,hg2⟩).at fun r hr=>?_
    obtain⟨l,rfl,hl⟩:=hr
    refine⟨by show 0+1≤1;omega,[zc0++[ints l]],rfl,?_⟩
    refine⟨by show 0+out.length≤(out.map Cs.cells).length;simp,out.map Cs.cells,takeAll (by simp),by show(out.length+1) * 152≤140737488355328;have:=k2.len;omega,out.map Cs.cells++[zc0++[ints l]],rfl,?_⟩
    refine end1 (.lsts 11 (out.map Cs.cells++[zc0++[ints l]])) rfl ⟨_,rfl,by show 0+(out.length+1)≤(out.map Cs.cells++[zc0++[ints l]]).length;simp,takeAll (by simp)⟩ ⟨_,out++[⟨cd0,l⟩],rfl,nil_cases out l,rule_ok (by have:=k2.len;omega) k2.cs ⟨rfl,(hl.nu hk)⟩⟩
   ·refine And.intro (fun h=>absurd h hg0) (fun _=>?_)
    refine⟨by show 0+1≤1;omega,_,rfl, .inl ⟨[2],[zc0++[ints [zz - 10]]],rfl,⟨_,_,rfl,⟨_,_,rfl,rfl,_,_,rfl,rfl,_,_,rfl,rfl,_,_,rfl,rfl,_,_,rfl,rfl,_,_,rfl,rfl,_,_,rfl,rfl,_,_,rfl,rfl,_,_,rfl, .inl rfl,_,_,rfl, .inl rfl,_,_,rfl,⟨_,rfl,Nat.le_refl _,rfl⟩,rfl⟩,rfl⟩,?_⟩⟩
    refine⟨by show 0+out.length≤(out.map Cs.cells).length;simp,out.map Cs.cells,takeAll (by simp),by show(out.length+1) * 152≤140737488355328;have:=k2.len;omega,out.map Cs.cells++[zc0++[ints [zz - 10]]],rfl,?_⟩
    refine end1 (.lsts 11 (out.map Cs.cells++[zc0++[ints [zz - 10]]])) rfl ⟨_,rfl,by show 0+(out.length+1)≤(out.map Cs.cells++[zc0++[ints [zz - 10]]]).length;simp,takeAll (by simp)⟩ ⟨_,out++[⟨cd0,[zz - 10]⟩],rfl,nil_cases out [zz - 10],rule_ok (by have:=k2.len;omega) k2.cs ⟨rfl,(one_nu (by omega))⟩⟩
  refine And.intro (fun _=>?_) (fun h=>absurd (show(i:Int)<3 by omega) h)
  refine And.intro (fun h=>absurd (show(0:Int)<((rs.map Rf.cells).length:Nat) from h) (by rw [hrs];omega)) (fun _=>?_)
  refine⟨by show(0:Int)≤0∧(0:Int)<3;decide,?_⟩
  refine⟨.p (u8 x),ldIn1 (by kernel_rfl) rfl,?_⟩
  refine⟨(x.toNat:Int),wrap_i64 (by omega) (by have:=x.toNat_lt;omega),?_⟩
  refine⟨by decide,?_⟩
  have hz:=tmod_in (Int.natCast_nonneg x.toNat) (show(0:Int)<21 by decide)
  generalize (x.toNat:Int).tmod 21=zz at hz ⊢
  refine⟨zz - 10,wrap_i64 (by omega) (by omega),?_⟩
  by_cases hg0:0<g
  ·refine And.intro (fun _=>?_) (fun h=>absurd hg0 h)
   obtain⟨hk,hg1,hg2⟩:(k=2∨k=3)∧1≤g∧g≤12:=by
    rcases hg.ok with h | h
    ·omega
    ·exact h
   refine(weights_c x y z k g hk ⟨by omega,hg2⟩).at fun r hr=>?_
   obtain⟨l,rfl,hl⟩:=hr
   refine⟨by show 0+1≤1;omega,[zc0++[ints l]],rfl,?_⟩
   refine⟨by show 0+out.length≤(out.map Cs.cells).length;simp,out.map Cs.cells,takeAll (by simp),by show(out.length+1) * 152≤140737488355328;have:=k2.len;omega,out.map Cs.cells++[zc0++[ints l]],rfl,?_⟩
   refine end1 (.lsts 11 (out.map Cs.cells++[zc0++[ints l]])) rfl ⟨_,rfl,by show 0+(out.length+1)≤(out.map Cs.cells++[zc0++[ints l]]).length;simp,takeAll (by simp)⟩ ⟨_,out++[⟨cd0,l⟩],rfl,nil_cases out l,rule_ok (by have:=k2.len;omega) k2.cs ⟨rfl,(hl.nu hk)⟩⟩
  ·refine And.intro (fun h=>absurd h hg0) (fun _=>?_)
   refine⟨by show 0+1≤1;omega,_,rfl, .inl ⟨[2],[zc0++[ints [zz - 10]]],rfl,⟨_,_,rfl,⟨_,_,rfl,rfl,_,_,rfl,rfl,_,_,rfl,rfl,_,_,rfl,rfl,_,_,rfl,rfl,_,_,rfl,rfl,_,_,rfl,rfl,_,_,rfl,rfl,_,_,rfl, .inl rfl,_,_,rfl, .inl rfl,_,_,rfl,⟨_,rfl,Nat.le_refl _,rfl⟩,rfl⟩,rfl⟩,?_⟩⟩
   refine⟨by show 0+out.length≤(out.map Cs.cells).length;simp,out.map Cs.cells,takeAll (by simp),by show(out.length+1) * 152≤140737488355328;have:=k2.len;omega,out.map Cs.cells++[zc0++[ints [zz - 10]]],rfl,?_⟩
   refine end1 (.lsts 11 (out.map Cs.cells++[zc0++[ints [zz - 10]]])) rfl ⟨_,rfl,by show 0+(out.length+1)≤(out.map Cs.cells++[zc0++[ints [zz - 10]]]).length;simp,takeAll (by simp)⟩ ⟨_,out++[⟨cd0,[zz - 10]⟩],rfl,nil_cases out [zz - 10],rule_ok (by have:=k2.len;omega) k2.cs ⟨rfl,(one_nu (by omega))⟩⟩
 obtain⟨hi,hi3,hr0⟩:=ha
 refine And.intro (fun _=>?_) (fun h=>absurd (show(i:Int)<((ps.map Pc.cells).length:Nat) by rw [hps];omega) h)
 refine And.intro (fun _=>?_) (fun h=>absurd (show(i:Int)<3 by omega) h)
 refine And.intro (fun _=>?_) (fun h=>absurd (show(0:Int)<((rs.map Rf.cells).length:Nat) by rw [hrs];omega) h)
 have hcell:=pccell hi
 generalize ps.getD i pc0=P at hcell
 have hcd:=cond_c P rs cs ⟨h,hr0⟩
 obtain⟨w,o,n,m,a,b,c⟩:=P
 have haL:=a.toNat_lt
 have hv:=tmod_in (Int.natCast_nonneg a.toNat) (show(0:Int)<201 by decide)
 refine vdraw_otEx (fun c:Cd=>[(1, .p (rfl_ rs)),(2, .p (ints cs)),(3, .p (i64 (k:Int))),(4, .p (i64 g)),(5, .ptr 0 0 0),(11, .sl 1 11 0 out.length),(12, .p (i64 (i:Int))),(13, .ptr 2 0 0)]) (fun c=>⟨3,[(2,⟨TCase,false, .bx ((c.cells++[ints [(a.toNat:Int).tmod 201 - 100]]).map .p)⟩),(1,ksO out),(0,ptO ⟨kind,card,frm,modes,pl,ps,x,y,z⟩)]⟩) (fun c=>∃ n,n≤3∧CdS 8 c n 43) otC5 (by kernel_rfl) ?_ ?_
 ·refine⟨_,⟨by omega,(Pc.mk w o n m a b c).cells,hcell,rfl⟩,?_⟩
  refine⟨_,⟨by omega,(Pc.mk w o n m a b c).cells,hcell,rfl⟩,?_⟩
  refine⟨_,⟨by show(0:Int)≤0∧(0:Int)<3;decide,[u8 a],rfl,rfl⟩,?_⟩
  refine⟨(a.toNat:Int),wrap_i64 (by omega) (by omega),?_⟩
  refine⟨by decide,?_⟩
  refine⟨(a.toNat:Int).tmod 201 - 100,wrap_i64 (by omega) (by omega),?_⟩
  have ea:(a.toNat:Int)=IntKind.i64.wrap (a.toNat:Int):=wrap_i64 (by omega) (by omega)
  refine And.intro ?_ ?_
  ·refine hcd.at fun r hr=>?_
   obtain⟨⟨ao,an,ar,av,af,as',aa⟩,nn,rfl,hnn,hcc⟩:=hr
   refine⟨⟨congrArg (fun z:Int=>AV.p (.int .i64 z)) ea,rfl,rfl,trivial⟩,?_⟩
   refine⟨⟨congrArg (fun z:Int=>AV.p (.int .i64 z)) ea,rfl,rfl,rfl,rfl,trivial⟩,?_⟩
   exact⟨.mk ao an ar av af as' aa,⟨nn,hnn,hcc⟩,ent_of [] [] [] rfl (sk) (sk) rfl⟩
  ·refine⟨⟨congrArg (fun z:Int=>AV.p (.int .i64 z)) ea,rfl,rfl,rfl,rfl,trivial⟩,?_⟩
   refine hcd.at fun r hr=>?_
   obtain⟨⟨ao,an,ar,av,af,as',aa⟩,nn,rfl,hnn,hcc⟩:=hr
   refine⟨⟨congrArg (fun z:Int=>AV.p (.int .i64 z)) ea,rfl,rfl,trivial⟩,?_⟩
   exact⟨.mk ao an ar av af as' aa,⟨nn,hnn,hcc⟩,ent_of [] [] [] rfl (sk) (sk) rfl⟩
 ·rintro⟨ao,an,ar,av,af,as',aa⟩ ⟨nn,hnn,hcc⟩
  by_cases hg0:0<g
  ·refine And.intro (fun _=>?_) (fun h=>absurd hg0 h)
   obtain⟨hk,hg1,hg2⟩:(k=2∨k=3)∧1≤g∧g≤12:=by
    rcases hg.ok with h | h
    ·omega
    ·exact h
   refine⟨_,⟨by omega,(Pc.mk w o n m a b c).cells,hcell,rfl⟩,?_⟩
   refine(weights_c a b c k g hk ⟨by omega,hg2⟩).at fun r hr=>?_
   obtain⟨l,rfl,hl⟩:=hr
   refine⟨by show 0+1≤1;omega,[(Cs.mk (Cd.mk ao an ar av af as' aa) l).cells],rfl,?_⟩
   refine⟨by show 0+out.length≤(out.map Cs.cells).length;simp,out.map Cs.cells,takeAll (by simp),by show(out.length+1) * 152≤140737488355328;have:=k2.len;omega,(out++[Cs.mk (Cd.mk ao an ar av af as' aa) l]).map Cs.cells,by simp,?_⟩
   refine⟨((i+1:Nat):Int),by rw [Int.natCast_add];exact wrap_i64 (by omega) (by omega),?_⟩
   exact⟨(i+1,out++[Cs.mk (Cd.mk ao an ar av af as' aa) l]),⟨by show i+1≤3;omega,k2.snoc ⟨⟨nn,hnn,hcc⟩,(hl.nu hk)⟩⟩,ent_of [] [(1,4)] [] rfl ⟨rfl,rfl,rfl,rfl,⟨rfl,rfl⟩,congrArg (fun k:Nat=>AV.sl 4 11 0 k) (snoc_len out _).symm,rfl,trivial⟩ (sk) rfl,by show 3 - (i+1)<3 - i;omega⟩
  ·refine And.intro (fun h=>absurd h hg0) (fun _=>?_)
   refine⟨by show 0+1≤1;omega,[(Cs.mk (Cd.mk ao an ar av af as' aa) [(a.toNat:Int).tmod 201 - 100]).cells],rfl,?_⟩
   refine⟨by show 0+out.length≤(out.map Cs.cells).length;simp,out.map Cs.cells,takeAll (by simp),by show(out.length+1) * 152≤140737488355328;have:=k2.len;omega,(out++[Cs.mk (Cd.mk ao an ar av af as' aa) [(a.toNat:Int).tmod 201 - 100]]).map Cs.cells,by simp,?_⟩
   refine⟨((i+1:Nat):Int),by rw [Int.natCast_add];exact wrap_i64 (by omega) (by omega),?_⟩
   exact⟨(i+1,out++[Cs.mk (Cd.mk ao an ar av af as' aa) [(a.toNat:Int).tmod 201 - 100]]),⟨by show i+1≤3;omega,k2.snoc ⟨⟨nn,hnn,hcc⟩,(one_nu (by omega))⟩⟩,ent_of [] [(1,4)] [] rfl ⟨rfl,rfl,rfl,rfl,⟨rfl,rfl⟩,congrArg (fun k:Nat=>AV.sl 4 11 0 k) (snoc_len out _).symm,rfl,trivial⟩ (sk) rfl,by show 3 - (i+1)<3 - i;omega⟩
theorem pcases_c (p:Pt) (rs:List Rf) (cs:List Int) (h:RcS rs cs) (k:Nat) (g:Int) (hg:GrS k g) (hp:p.cases.length≤9223372036854775807):Pure cx 40 [.agg p.cells,rfl_ rs,ints cs,i64 (k:Int),i64 g] fun r=>∃ l,r=.ret [css l]∧RuS l:=
 (cases_c' p rs cs h k g hg hp).weak fun r hr=>by
  obtain⟨y,l,rfl,h1,h2⟩:=hr
  exact⟨.ret [css l],⟨_,rfl,_,_,rfl,h1,rfl⟩,l,rfl,h2⟩
end Go.Proofs.YtohfoaplnjcihaaGreatDoor

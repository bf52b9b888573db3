/- ParseKnown: the row and the card. The chapter's examples,all forms,limits and invalid programs. Conditions: those of the card. -/
import Derived.Shelf.Strings.Builder1
import Derived.Shelf.Strings.Builder2
import Derived.Shelf.Small.Bits
import Derived.Shelf.Strings.BuilderF
import Derived.Shelf.Utf8.RuneCount
import Derived.Shelf.Strconv.Itoa0
import Derived.Shelf.Strconv.Itoa1
import Derived.Shelf.LaysM
import Derived.Shelf.Strconv.Itoa2
import Derived.Shelf.Strconv.Itoa3
import Derived.Shelf.Strings.Search1
import Derived.Shelf.Strings.Search2
import Derived.Shelf.Strings.Search3
import Derived.Shelf.Strings.Count
import Derived.Shelf.Strings.Shaped
import Derived.Shelf.Sort.Plain
import Derived.Shelf.Strings.Prefix
import Derived.Shelf.Strings.Split
import Derived.Shelf.Strings.Replace
import Derived.Shelf.Strings.SplitShaped
import Derived.Shelf.Unicode.Decode
import Derived.Shelf.Strings.RuneCount
import Derived.Shelf.Bits.Mul64
import Derived.Shelf.Strings.Repeat
import Derived.Shelf.Unicode.DecodeSlow
import Derived.Shelf.Unicode.DecodeAny
import Derived.Ground.Names2Prog
import Derived.Shelf.Slices.CompactI
import Derived.Shelf.Slices.SearchI
import Derived.Shelf.Slices.Cells
import Derived.Shelf.Slices.In.SortNone
import Derived.Test.YtohfoaplnjcihaaGreatDoorProg
import Derived.ChangeArms
import Derived.OpenShut
import Derived.WideHanded
import Derived.ChangeSame
import Derived.ProofKit
import Derived.LaidMore
import Derived.LaidLaws
import Derived.Stop.Joined
import Derived.MakeChecks
import Derived.Test.YtohfoaplnjcihaaGreatDoorRows
import Derived.Lay
import Derived.Test.YtohfoaplnjcihaaGreatDoorCards
import Derived.Test.YtohfoaplnjcihaaGreatDoorTie
import Derived.SevenTiedAt
import Derived.Test.YtohfoaplnjcihaaGreatDoorQ4
namespace Go.Proofs.YtohfoaplnjcihaaGreatDoor
open Go Y
set_option maxRecDepth 100000
set_option maxHeartbeats 4000000
theorem decl_w (u:Bool) (st:Wst) (d:De) (hv:declB d=true) (hb0:st.sz+wt (declT d)≤100000000):HoldsG cx 42 [.ptr 0 0 0, .p d.pv] (wH u st) (WQ (puts st (declT d))):=by
 obtain⟨k,n,nm,pl,rs,cs⟩:=d
 simp only [declB,Bool.and_eq_true,decide_eq_true_eq,List.all_eq_true] at hv
 obtain⟨⟨⟨v1,v2⟩,v3⟩,v4⟩:=hv
 unfold kindB at v4
 simp only [] at v4
 by_cases c1:k=1
 ·subst c1
  have e:declT ⟨1,n,nm,pl,rs,cs⟩=([]++[tGrain,digT n])++[tSemi]:=rfl
  have hb:=hb0
  rw [e] at hb
  generalize declT ⟨1,n,nm,pl,rs,cs⟩=X at e ⊢
  refine holdsN_of_vc Tryz.func42 rfl rfl rfl ?_
  refine(itoa_c n v1).eq rfl ?_
  refine And.intro (fun _=>?_) (fun h=>absurd rfl h)
  refine(put_h u (puts st ([])) ([tGrain,digT n]) (by simp) (by have hz:=puts_sz ([]) st;simp only [wt_app,wt] at hb hz ⊢;omega)).holds.useT [] [(2,3)] rfl (by first | (cases u <;> (exact sk)) | (exact sk)) (sk) fun e0 H0 hq=>?_
  rw [← puts_app] at hq
  obtain⟨rfl,rfl⟩:=hq
  refine⟨rfl,_,⟨5,((4,bO (puts st ([]++[tGrain,digT n])).s)::(0,wO 4 (puts st ([]++[tGrain,digT n])))::[(2,deO _)])⟩,rfl,rfl,?_⟩
  refine(put_h true (puts st ([]++[tGrain,digT n])) ([tSemi]) (by simp) (by have hz:=puts_sz ([]++[tGrain,digT n]) st;simp only [wt_app,wt] at hb hz ⊢;omega)).holds.useT [] [(1,4),(2,5)] rfl (sk) (sk) fun e0 H0 hq=>?_
  rw [← puts_app] at hq
  obtain⟨rfl,rfl⟩:=hq
  refine⟨rfl,_,⟨7,((6,bO (puts st ([]++[tGrain,digT n]++[tSemi])).s)::(0,wO 6 (puts st ([]++[tGrain,digT n]++[tSemi])))::[(2,deO _)])⟩,rfl,rfl,?_⟩
  exact⟨[],[(2,6)],[], .returned und,wH' (puts st (([]++[tGrain,digT n])++[tSemi])),rfl,sk,sk,rfl,by rw [e]⟩
 rw [if_neg c1] at v4
 by_cases c2:k=2
 ·subst c2
  have e:declT ⟨2,n,nm,pl,rs,cs⟩=([]++[tPlate,nm,tEq,digT n])++[tSemi]:=rfl
  have hb:=hb0
  rw [e] at hb
  generalize declT ⟨2,n,nm,pl,rs,cs⟩=X at e ⊢
  refine holdsN_of_vc Tryz.func42 rfl rfl rfl ?_
  refine(itoa_c n v1).eq rfl ?_
  refine And.intro (fun h=>absurd (show(2:Int)=1 from h) (by decide)) (fun _=>?_)
  refine And.intro (fun _=>?_) (fun h=>absurd rfl h)
  refine(put_h u (puts st ([])) ([tPlate,nm,tEq,digT n]) (by simp) (by have hz:=puts_sz ([]) st;simp only [wt_app,wt] at hb hz ⊢;omega)).holds.useT [] [(2,3)] rfl (by first | (cases u <;> (exact sk)) | (exact sk)) (sk) fun e0 H0 hq=>?_
  rw [← puts_app] at hq
  obtain⟨rfl,rfl⟩:=hq
  refine⟨rfl,_,⟨5,((4,bO (puts st ([]++[tPlate,nm,tEq,digT n])).s)::(0,wO 4 (puts st ([]++[tPlate,nm,tEq,digT n])))::[(2,deO _)])⟩,rfl,rfl,?_⟩
  refine(put_h true (puts st ([]++[tPlate,nm,tEq,digT n])) ([tSemi]) (by simp) (by have hz:=puts_sz ([]++[tPlate,nm,tEq,digT n]) st;simp only [wt_app,wt] at hb hz ⊢;omega)).holds.useT [] [(1,4),(2,5)] rfl (sk) (sk) fun e0 H0 hq=>?_
  rw [← puts_app] at hq
  obtain⟨rfl,rfl⟩:=hq
  refine⟨rfl,_,⟨7,((6,bO (puts st ([]++[tPlate,nm,tEq,digT n]++[tSemi])).s)::(0,wO 6 (puts st ([]++[tPlate,nm,tEq,digT n]++[tSemi])))::[(2,deO _)])⟩,rfl,rfl,?_⟩
  exact⟨[],[(2,6)],[], .returned und,wH' (puts st (([]++[tPlate,nm,tEq,digT n])++[tSemi])),rfl,sk,sk,rfl,by rw [e]⟩
 rw [if_neg c2] at v4
 by_cases c3:k=3
 ·subst c3
  simp only [if_true,Bool.and_eq_true] at v4
  obtain⟨_,v6⟩:=v4
  by_cases hp:pl=[]
  ·have e:declT ⟨3,n,nm,pl,rs,cs⟩=((((([]++[tNode,nm])++[tCol,digT n])++refsT tFrom rs)++[tEq])++ruleT cs)++[tSemi]:=by
    show([tNode,nm]++((if pl=[] then [] else [tLB,pl,tRB])++([tCol,digT n]++(refsT tFrom rs++(tEq::ruleT cs)))))++[tSemi]=_
    rw [if_pos hp];simp
   have hb:=hb0
   rw [e] at hb
   generalize declT ⟨3,n,nm,pl,rs,cs⟩=X at e ⊢
   refine holdsN_of_vc Tryz.func42 rfl rfl rfl ?_
   refine(itoa_c n v1).eq rfl ?_
   refine And.intro (fun h=>absurd (show(3:Int)=1 from h) (by decide)) (fun _=>?_)
   refine And.intro (fun h=>absurd (show(3:Int)=2 from h) (by decide)) (fun _=>?_)
   refine And.intro (fun _=>?_) (fun h=>absurd rfl h)
   refine(put_h u (puts st ([])) ([tNode,nm]) (by simp) (by have hz:=puts_sz ([]) st;simp only [wt_app,wt] at hb hz ⊢;omega)).holds.useT [] [(2,3)] rfl (by first | (cases u <;> (exact sk)) | (exact sk)) (sk) fun e0 H0 hq=>?_
   rw [← puts_app] at hq
   obtain⟨rfl,rfl⟩:=hq
   refine⟨rfl,_,⟨5,((4,bO (puts st ([]++[tNode,nm])).s)::(0,wO 4 (puts st ([]++[tNode,nm])))::[(2,deO _)])⟩,rfl,rfl,?_⟩
   refine And.intro (fun _=>?_) (fun h=>absurd hp h)
   refine(put_h true (puts st ([]++[tNode,nm])) ([tCol,digT n]) (by simp) (by have hz:=puts_sz ([]++[tNode,nm]) st;simp only [wt_app,wt] at hb hz ⊢;omega)).holds.useT [] [(1,4),(2,5)] rfl (sk) (sk) fun e0 H0 hq=>?_
   rw [← puts_app] at hq
   obtain⟨rfl,rfl⟩:=hq
   refine⟨rfl,_,⟨7,((6,bO (puts st ([]++[tNode,nm]++[tCol,digT n])).s)::(0,wO 6 (puts st ([]++[tNode,nm]++[tCol,digT n])))::[(2,deO _)])⟩,rfl,rfl,?_⟩
   refine(refs_w (puts st (([]++[tNode,nm])++[tCol,digT n])) tFrom rs v3 v2 (by have hz:=puts_sz (([]++[tNode,nm])++[tCol,digT n]) st;simp only [wt_app,wt] at hb hz ⊢;omega)).holds.useT [] [(1,6)] rfl (sk) (sk) fun e0 H0 hq=>?_
   unfold WQ at hq
   rw [← puts_app] at hq
   obtain⟨rfl,rfl⟩:=hq
   refine⟨rfl,_,⟨8,((7,bO (puts st ((([]++[tNode,nm])++[tCol,digT n])++refsT tFrom rs)).s)::(0,wO 7 (puts st ((([]++[tNode,nm])++[tCol,digT n])++refsT tFrom rs)))::[(2,deO _)])⟩,rfl,rfl,?_⟩
   refine(put_h true (puts st ((([]++[tNode,nm])++[tCol,digT n])++refsT tFrom rs)) ([tEq]) (by simp) (by have hz:=puts_sz ((([]++[tNode,nm])++[tCol,digT n])++refsT tFrom rs) st;simp only [wt_app,wt] at hb hz ⊢;omega)).holds.useT [] [(1,7),(2,8)] rfl (sk) (sk) fun e0 H0 hq=>?_
   rw [← puts_app] at hq
   obtain⟨rfl,rfl⟩:=hq
   refine⟨rfl,_,⟨10,((9,bO (puts st ((([]++[tNode,nm])++[tCol,digT n])++refsT tFrom rs++[tEq])).s)::(0,wO 9 (puts st ((([]++[tNode,nm])++[tCol,digT n])++refsT tFrom rs++[tEq])))::[(2,deO _)])⟩,rfl,rfl,?_⟩
   refine(rule_w (puts st (((([]++[tNode,nm])++[tCol,digT n])++refsT tFrom rs)++[tEq])) cs v6 (by have hz:=puts_sz (((([]++[tNode,nm])++[tCol,digT n])++refsT tFrom rs)++[tEq]) st;simp only [wt_app,wt] at hb hz ⊢;omega)).holds.useT [] [(1,9)] rfl (sk) (sk) fun e0 H0 hq=>?_
   unfold WQ at hq
   rw [← puts_app] at hq
   obtain⟨rfl,rfl⟩:=hq
   refine⟨rfl,_,⟨11,((10,bO (puts st ((((([]++[tNode,nm])++[tCol,digT n])++refsT tFrom rs)++[tEq])++ruleT cs)).s)::(0,wO 10 (puts st ((((([]++[tNode,nm])++[tCol,digT n])++refsT tFrom rs)++[tEq])++ruleT cs)))::[(2,deO _)])⟩,rfl,rfl,?_⟩
   refine(put_h true (puts st ((((([]++[tNode,nm])++[tCol,digT n])++refsT tFrom rs)++[tEq])++ruleT cs)) ([tSemi]) (by simp) (by have hz:=puts_sz ((((([]++[tNode,nm])++[tCol,digT n])++refsT tFrom rs)++[tEq])++ruleT cs) st;simp only [wt_app,wt] at hb hz ⊢;omega)).holds.useT [] [(1,10),(2,11)] rfl (sk) (sk) fun e0 H0 hq=>?_
   rw [← puts_app] at hq
   obtain⟨rfl,rfl⟩:=hq
   refine⟨rfl,_,⟨13,((12,bO (puts st ((((([]++[tNode,nm])++[tCol,digT n])++refsT tFrom rs)++[tEq])++ruleT cs++[tSemi])).s)::(0,wO 12 (puts st ((((([]++[tNode,nm])++[tCol,digT n])++refsT tFrom rs)++[tEq])++ruleT cs++[tSemi])))::[(2,deO _)])⟩,rfl,rfl,?_⟩
   exact⟨[],[(2,12)],[], .returned und,wH' (puts st (((((([]++[tNode,nm])++[tCol,digT n])++refsT tFrom rs)++[tEq])++ruleT cs)++[tSemi])),rfl,sk,sk,rfl,by rw [e]⟩
  ·have e:declT ⟨3,n,nm,pl,rs,cs⟩=(((((([]++[tNode,nm])++[tLB,pl,tRB])++[tCol,digT n])++refsT tFrom rs)++[tEq])++ruleT cs)++[tSemi]:=by
    show([tNode,nm]++((if pl=[] then [] else [tLB,pl,tRB])++([tCol,digT n]++(refsT tFrom rs++(tEq::ruleT cs)))))++[tSemi]=_
    rw [if_neg hp];simp
   have hb:=hb0
   rw [e] at hb
   generalize declT ⟨3,n,nm,pl,rs,cs⟩=X at e ⊢
   refine holdsN_of_vc Tryz.func42 rfl rfl rfl ?_
   refine(itoa_c n v1).eq rfl ?_
   refine And.intro (fun h=>absurd (show(3:Int)=1 from h) (by decide)) (fun _=>?_)
   refine And.intro (fun h=>absurd (show(3:Int)=2 from h) (by decide)) (fun _=>?_)
   refine And.intro (fun _=>?_) (fun h=>absurd rfl h)
   refine(put_h u (puts st ([])) ([tNode,nm]) (by simp) (by have hz:=puts_sz ([]) st;simp only [wt_app,wt] at hb hz ⊢;omega)).holds.useT [] [(2,3)] rfl (by first | (cases u <;> (exact sk)) | (exact sk)) (sk) fun e0 H0 hq=>?_
   rw [← puts_app] at hq
   obtain⟨rfl,rfl⟩:=hq
   refine⟨rfl,_,⟨5,((4,bO (puts st ([]++[tNode,nm])).s)::(0,wO 4 (puts st ([]++[tNode,nm])))::[(2,deO _)])⟩,rfl,rfl,?_⟩
   refine And.intro (fun h=>absurd h hp) (fun _=>?_)
   refine(put_h true (puts st ([]++[tNode,nm])) ([tLB,pl,tRB]) (by simp) (by have hz:=puts_sz ([]++[tNode,nm]) st;simp only [wt_app,wt] at hb hz ⊢;omega)).holds.useT [] [(1,4),(2,5)] rfl (sk) (sk) fun e0 H0 hq=>?_
   rw [← puts_app] at hq
   obtain⟨rfl,rfl⟩:=hq
   refine⟨rfl,_,⟨7,((6,bO (puts st ([]++[tNode,nm]++[tLB,pl,tRB])).s)::(0,wO 6 (puts st ([]++[tNode,nm]++[tLB,pl,tRB])))::[(2,deO _)])⟩,rfl,rfl,?_⟩
   refine(put_h true (puts st (([]++[tNode,nm])++[tLB,pl,tRB])) ([tCol,digT n]) (by simp) (by have hz:=puts_sz (([]++[tNode,nm])++[tLB,pl,tRB]) st;simp only [wt_app,wt] at hb hz ⊢;omega)).holds.useT [] [(1,6),(2,7)] rfl (sk) (sk) fun e0 H0 hq=>?_
   rw [← puts_app] at hq
   obtain⟨rfl,rfl⟩:=hq
   refine⟨rfl,_,⟨9,((8,bO (puts st (([]++[tNode,nm])++[tLB,pl,tRB]++[tCol,digT n])).s)::(0,wO 8 (puts st (([]++[tNode,nm])++[tLB,pl,tRB]++[tCol,digT n])))::[(2,deO _)])⟩,rfl,rfl,?_⟩
   refine(refs_w (puts st ((([]++[tNode,nm])++[tLB,pl,tRB])++[tCol,digT n])) tFrom rs v3 v2 (by have hz:=puts_sz ((([]++[tNode,nm])++[tLB,pl,tRB])++[tCol,digT n]) st;simp only [wt_app,wt] at hb hz ⊢;omega)).holds.useT [] [(1,8)] rfl (sk) (sk) fun e0 H0 hq=>?_
   unfold WQ at hq
   rw [← puts_app] at hq
   obtain⟨rfl,rfl⟩:=hq
   refine⟨rfl,_,⟨10,((9,bO (puts st (((([]++[tNode,nm])++[tLB,pl,tRB])++[tCol,digT n])++refsT tFrom rs)).s)::(0,wO 9 (puts st (((([]++[tNode,nm])++[tLB,pl,tRB])++[tCol,digT n])++refsT tFrom rs)))::[(2,deO _)])⟩,rfl,rfl,?_⟩
   refine(put_h true (puts st (((([]++[tNode,nm])++[tLB,pl,tRB])++[tCol,digT n])++refsT tFrom rs)) ([tEq]) (by simp) (by have hz:=puts_sz (((([]++[tNode,nm])++[tLB,pl,tRB])++[tCol,digT n])++refsT tFrom rs) st;simp only [wt_app,wt] at hb hz ⊢;omega)).holds.useT [] [(1,9),(2,10)] rfl (sk) (sk) fun e0 H0 hq=>?_
   rw [← puts_app] at hq
   obtain⟨rfl,rfl⟩:=hq
   refine⟨rfl,_,⟨12,((11,bO (puts st (((([]++[tNode,nm])++[tLB,pl,tRB])++[tCol,digT n])++refsT tFrom rs++[tEq])).s)::(0,wO 11 (puts st (((([]++[tNode,nm])++[tLB,pl,tRB])++[tCol,digT n])++refsT tFrom rs++[tEq])))::[(2,deO _)])⟩,rfl,rfl,?_⟩
   refine(rule_w (puts st ((((([]++[tNode,nm])++[tLB,pl,tRB])++[tCol,digT n])++refsT tFrom rs)++[tEq])) cs v6 (by have hz:=puts_sz ((((([]++[tNode,nm])++[tLB,pl,tRB])++[tCol,digT n])++refsT tFrom rs)++[tEq]) st;simp only [wt_app,wt] at hb hz ⊢;omega)).holds.useT [] [(1,11)] rfl (sk) (sk) fun e0 H0 hq=>?_
   unfold WQ at hq
   rw [← puts_app] at hq
   obtain⟨rfl,rfl⟩:=hq
   refine⟨rfl,_,⟨13,((12,bO (puts st (((((([]++[tNode,nm])++[tLB,pl,tRB])++[tCol,digT n])++refsT tFrom rs)++[tEq])++ruleT cs)).s)::(0,wO 12 (puts st (((((([]++[tNode,nm])++[tLB,pl,tRB])++[tCol,digT n])++refsT tFrom rs)++[tEq])++ruleT cs)))::[(2,deO _)])⟩,rfl,rfl,?_⟩
   refine(put_h true (puts st (((((([]++[tNode,nm])++[tLB,pl,tRB])++[tCol,digT n])++refsT tFrom rs)++[tEq])++ruleT cs)) ([tSemi]) (by simp) (by have hz:=puts_sz (((((([]++[tNode,nm])++[tLB,pl,tRB])++[tCol,digT n])++refsT tFrom rs)++[tEq])++ruleT cs) st;simp only [wt_app,wt] at hb hz ⊢;omega)).holds.useT [] [(1,12),(2,13)] rfl (sk) (sk) fun e0 H0 hq=>?_
   rw [← puts_app] at hq
   obtain⟨rfl,rfl⟩:=hq
   refine⟨rfl,_,⟨15,((14,bO (puts st (((((([]++[tNode,nm])++[tLB,pl,tRB])++[tCol,digT n])++refsT tFrom rs)++[tEq])++ruleT cs++[tSemi])).s)::(0,wO 14 (puts st (((((([]++[tNode,nm])++[tLB,pl,tRB])++[tCol,digT n])++refsT tFrom rs)++[tEq])++ruleT cs++[tSemi])))::[(2,deO _)])⟩,rfl,rfl,?_⟩
   exact⟨[],[(2,14)],[], .returned und,wH' (puts st ((((((([]++[tNode,nm])++[tLB,pl,tRB])++[tCol,digT n])++refsT tFrom rs)++[tEq])++ruleT cs)++[tSemi])),rfl,sk,sk,rfl,by rw [e]⟩
 rw [if_neg c3] at v4
 by_cases c4:k=4
 ·subst c4
  have e:declT ⟨4,n,nm,pl,rs,cs⟩=(([]++[tChoose,nm,tCol,digT n])++refsT tSeeing rs)++[tSemi]:=rfl
  have hb:=hb0
  rw [e] at hb
  generalize declT ⟨4,n,nm,pl,rs,cs⟩=X at e ⊢
  refine holdsN_of_vc Tryz.func42 rfl rfl rfl ?_
  refine(itoa_c n v1).eq rfl ?_
  refine And.intro (fun h=>absurd (show(4:Int)=1 from h) (by decide)) (fun _=>?_)
  refine And.intro (fun h=>absurd (show(4:Int)=2 from h) (by decide)) (fun _=>?_)
  refine And.intro (fun h=>absurd (show(4:Int)=3 from h) (by decide)) (fun _=>?_)
  refine And.intro (fun _=>?_) (fun h=>absurd rfl h)
  refine(put_h u (puts st ([])) ([tChoose,nm,tCol,digT n]) (by simp) (by have hz:=puts_sz ([]) st;simp only [wt_app,wt] at hb hz ⊢;omega)).holds.useT [] [(2,3)] rfl (by first | (cases u <;> (exact sk)) | (exact sk)) (sk) fun e0 H0 hq=>?_
  rw [← puts_app] at hq
  obtain⟨rfl,rfl⟩:=hq
  refine⟨rfl,_,⟨5,((4,bO (puts st ([]++[tChoose,nm,tCol,digT n])).s)::(0,wO 4 (puts st ([]++[tChoose,nm,tCol,digT n])))::[(2,deO _)])⟩,rfl,rfl,?_⟩
  refine(refs_w (puts st ([]++[tChoose,nm,tCol,digT n])) tSeeing rs v3 v2 (by have hz:=puts_sz ([]++[tChoose,nm,tCol,digT n]) st;simp only [wt_app,wt] at hb hz ⊢;omega)).holds.useT [] [(1,4)] rfl (sk) (sk) fun e0 H0 hq=>?_
  unfold WQ at hq
  rw [← puts_app] at hq
  obtain⟨rfl,rfl⟩:=hq
  refine⟨rfl,_,⟨6,((5,bO (puts st (([]++[tChoose,nm,tCol,digT n])++refsT tSeeing rs)).s)::(0,wO 5 (puts st (([]++[tChoose,nm,tCol,digT n])++refsT tSeeing rs)))::[(2,deO _)])⟩,rfl,rfl,?_⟩
  refine(put_h true (puts st (([]++[tChoose,nm,tCol,digT n])++refsT tSeeing rs)) ([tSemi]) (by simp) (by have hz:=puts_sz (([]++[tChoose,nm,tCol,digT n])++refsT tSeeing rs) st;simp only [wt_app,wt] at hb hz ⊢;omega)).holds.useT [] [(1,5),(2,6)] rfl (sk) (sk) fun e0 H0 hq=>?_
  rw [← puts_app] at hq
  obtain⟨rfl,rfl⟩:=hq
  refine⟨rfl,_,⟨8,((7,bO (puts st (([]++[tChoose,nm,tCol,digT n])++refsT tSeeing rs++[tSemi])).s)::(0,wO 7 (puts st (([]++[tChoose,nm,tCol,digT n])++refsT tSeeing rs++[tSemi])))::[(2,deO _)])⟩,rfl,rfl,?_⟩
  exact⟨[],[(2,7)],[], .returned und,wH' (puts st ((([]++[tChoose,nm,tCol,digT n])++refsT tSeeing rs)++[tSemi])),rfl,sk,sk,rfl,by rw [e]⟩
 rw [if_neg c4] at v4
 by_cases c5:k=5
 ·subst c5
  simp only [if_true,Bool.and_eq_true] at v4
  obtain⟨_,v6⟩:=v4
  have e:declT ⟨5,n,nm,pl,rs,cs⟩=(((([]++[tGain])++refsT tFrom rs)++[tEq])++ruleT cs)++[tSemi]:=by
   show(tGain::(refsT tFrom rs++(tEq::ruleT cs)))++[tSemi]=_
   simp
  have hb:=hb0
  rw [e] at hb
  generalize declT ⟨5,n,nm,pl,rs,cs⟩=X at e ⊢
  refine holdsN_of_vc Tryz.func42 rfl rfl rfl ?_
  refine(itoa_c n v1).eq rfl ?_
  refine And.intro (fun h=>absurd (show(5:Int)=1 from h) (by decide)) (fun _=>?_)
  refine And.intro (fun h=>absurd (show(5:Int)=2 from h) (by decide)) (fun _=>?_)
  refine And.intro (fun h=>absurd (show(5:Int)=3 from h) (by decide)) (fun _=>?_)
  refine And.intro (fun h=>absurd (show(5:Int)=4 from h) (by decide)) (fun _=>?_)
  refine And.intro (fun _=>?_) (fun h=>absurd rfl h)
  refine(put_h u (puts st ([])) ([tGain]) (by simp) (by have hz:=puts_sz ([]) st;simp only [wt_app,wt] at hb hz ⊢;omega)).holds.useT [] [(2,3)] rfl (by first | (cases u <;> (exact sk)) | (exact sk)) (sk) fun e0 H0 hq=>?_
  rw [← puts_app] at hq
  obtain⟨rfl,rfl⟩:=hq
  refine⟨rfl,_,⟨5,((4,bO (puts st ([]++[tGain])).s)::(0,wO 4 (puts st ([]++[tGain])))::[(2,deO _)])⟩,rfl,rfl,?_⟩
  refine(refs_w (puts st ([]++[tGain])) tFrom rs v3 v2 (by have hz:=puts_sz ([]++[tGain]) st;simp only [wt_app,wt] at hb hz ⊢;omega)).holds.useT [] [(1,4)] rfl (sk) (sk) fun e0 H0 hq=>?_
  unfold WQ at hq
  rw [← puts_app] at hq
  obtain⟨rfl,rfl⟩:=hq
  refine⟨rfl,_,⟨6,((5,bO (puts st (([]++[tGain])++refsT tFrom rs)).s)::(0,wO 5 (puts st (([]++[tGain])++refsT tFrom rs)))::[(2,deO _)])⟩,rfl,rfl,?_⟩
  refine(put_h true (puts st (([]++[tGain])++refsT tFrom rs)) ([tEq]) (by simp) (by have hz:=puts_sz (([]++[tGain])++refsT tFrom rs) st;simp only [wt_app,wt] at hb hz ⊢;omega)).holds.useT [] [(1,5),(2,6)] rfl (sk) (sk) fun e0 H0 hq=>?_
  rw [← puts_app] at hq
  obtain⟨rfl,rfl⟩:=hq
  refine⟨rfl,_,⟨8,((7,bO (puts st (([]++[tGain])++refsT tFrom rs++[tEq])).s)::(0,wO 7 (puts st (([]++[tGain])++refsT tFrom rs++[tEq])))::[(2,deO _)])⟩,rfl,rfl,?_⟩
  refine(rule_w (puts st ((([]++[tGain])++refsT tFrom rs)++[tEq])) cs v6 (by have hz:=puts_sz ((([]++[tGain])++refsT tFrom rs)++[tEq]) st;simp only [wt_app,wt] at hb hz ⊢;omega)).holds.useT [] [(1,7)] rfl (sk) (sk) fun e0 H0 hq=>?_
  unfold WQ at hq
  rw [← puts_app] at hq
  obtain⟨rfl,rfl⟩:=hq
  refine⟨rfl,_,⟨9,((8,bO (puts st (((([]++[tGain])++refsT tFrom rs)++[tEq])++ruleT cs)).s)::(0,wO 8 (puts st (((([]++[tGain])++refsT tFrom rs)++[tEq])++ruleT cs)))::[(2,deO _)])⟩,rfl,rfl,?_⟩
  refine(put_h true (puts st (((([]++[tGain])++refsT tFrom rs)++[tEq])++ruleT cs)) ([tSemi]) (by simp) (by have hz:=puts_sz (((([]++[tGain])++refsT tFrom rs)++[tEq])++ruleT cs) st;simp only [wt_app,wt] at hb hz ⊢;omega)).holds.useT [] [(1,8),(2,9)] rfl (sk) (sk) fun e0 H0 hq=>?_
  rw [← puts_app] at hq
  obtain⟨rfl,rfl⟩:=hq
  refine⟨rfl,_,⟨11,((10,bO (puts st (((([]++[tGain])++refsT tFrom rs)++[tEq])++ruleT cs++[tSemi])).s)::(0,wO 10 (puts st (((([]++[tGain])++refsT tFrom rs)++[tEq])++ruleT cs++[tSemi])))::[(2,deO _)])⟩,rfl,rfl,?_⟩
  exact⟨[],[(2,10)],[], .returned und,wH' (puts st ((((([]++[tGain])++refsT tFrom rs)++[tEq])++ruleT cs)++[tSemi])),rfl,sk,sk,rfl,by rw [e]⟩
 ·rw [if_neg c5] at v4
  cases v4
theorem len_h (u:Bool) (st:Wst):HoldsG cx 44 [.ptr 0 0 0] (wH u st) fun e H'=>e=.returned (.p (i64 st.s.length))∧H'=wH u st:=by
 refine holds_of_vc Tryz.func44 rfl rfl rfl ?_
 exact⟨rfl,rfl⟩
theorem strg_h (u:Bool) (st:Wst) (h0:st.s ≠ []) (hx:st.s.length≤100000000):HoldsG cx 45 [.ptr 0 0 0] (wH u st) fun e H'=>e=.returned (.p (.str st.s))∧H'=⟨2,[(0,wOu u 1 st)]⟩:=by
 obtain⟨s,n,g⟩:=st
 have h0:s ≠ []:=h0
 have hx:s.length≤100000000:=hx
 refine holdsN_of_vc Tryz.func45 rfl rfl rfl ?_
 refine VDraw.seq rfl ?_
 refine And.intro (fun h1=>?_) (fun h1=>?_)
 ·refine⟨sk,?_⟩
  refine⟨s,h0,rfl,by omega,by simp,by rw [List.take_of_length_le (by simp)],?_⟩
  exact⟨[],[],[], .returned (.p (.str s)),⟨2,[(0,wOu u 1 ⟨s,n,g⟩)]⟩,rfl,sk,by cases u <;> (exact sk),rfl,rfl⟩
 ·exact absurd (List.eq_nil_of_length_eq_zero h1) h0
theorem strgE_h (u:Bool) (st:Wst) (h0:st.s=[]):HoldsG cx 45 [.ptr 0 0 0] (wH u st) fun e H'=>e=.returned (.p (.str []))∧H'=wH u st:=by
 obtain⟨s,n,g⟩:=st
 have h0:s=[]:=h0
 subst h0
 refine holdsN_of_vc Tryz.func45 rfl rfl rfl ?_
 refine VDraw.seq rfl ?_
 refine And.intro (fun h1=>?_) (fun h1=>?_)
 ·cases h1
 ·refine⟨sk,?_⟩
  refine⟨rfl,?_⟩
  exact⟨[],[],[], .returned (.p (.str [])),wH u ⟨[],n,g⟩,rfl,sk,by cases u <;> (exact sk),rfl,rfl⟩
theorem wt_all:∀ {x:Toks},AllT x→wt x≤12 * x.length
 | [],_=>Nat.zero_le _
 | t::x,h=>by
  have h1:=tok_len (h t (List.mem_cons_self ..))
  have h2:=wt_all (x:=x) fun u hu=>h u (List.mem_cons_of_mem _ hu)
  rw [wt,List.length_cons];omega
theorem decl_wt {d:De} (h:declB d=true):wt (declT d)≤130000:=by
 have h1:=decl_toks h
 have h2:=wt_all h1.1
 have:=h1.2
 omega
theorem decl_st (S:List UInt8) (n:Nat) (d:De):endW (puts ⟨S,n,false⟩ (declT d))=⟨S++lineT d,n+(declT d).length,false⟩:=by
 obtain⟨h1,h2,h3⟩:=puts_spW (declT d) ⟨S,n,false⟩
 rw [endW,h1,h2,lineT,List.append_assoc]
theorem textT_snoc (ds:List De) (d:De):textT (ds++[d])=textT ds++lineT d:=by
 rw [textT,List.flatMap_append];simp [textT]
theorem cntT_snoc (ds:List De) (d:De):cntT (ds++[d])=cntT ds+(declT d).length:=by
 rw [cntT,List.map_append,List.sum_append];simp [cntT]
theorem cntT_len:∀ {ds:List De},(∀ d∈ds,declB d=true)→cntT ds≤10400 * ds.length
 | [],_=>Nat.zero_le _
 | d::ds,h=>by
  have h1:=(decl_toks (h d (List.mem_cons_self ..))).2
  have h2:=cntT_len (ds:=ds) fun x hx=>h x (List.mem_cons_of_mem _ hx)
  show(declT d).length+cntT ds≤_
  rw [List.length_cons];omega
theorem ptext_c (ds:List De) (hb:BigP ds):Pure cx 13 [srcV ds] (·=.ret (txtV ds)):=by
 have hR:=pcheck_c ds hb
 refine pure_of_vc Tryz.func13 rfl rfl rfl ?_
 by_cases hv:validB ds=true
 rotate_left
 ·have e:txtV ds=[.str [],i64 380]:=by rw [txtV,if_neg hv]
  rw [chkV,if_neg hv] at hR
  refine hR.eq rfl ?_
  refine And.intro (fun h=>absurd (show(380:Int)=0 from h) (by decide)) (fun _=>?_)
  exact end2 (.str []) (i64 380) rfl rfl rfl (by rw [e] <;> rfl)
 rw [chkV,if_pos hv] at hR
 refine hR.eq rfl ?_
 refine And.intro (fun _=>?_) (fun h=>absurd rfl h)
 obtain⟨v1,v2⟩:=valid_decl hv
 have hm:(ds.map De.cells).length=ds.length:=List.length_map ..
 have e1:(textT ds).length≤8000∧cntT ds≤1500→txtV ds=[.str (textT ds),i64 0]:=fun h=>by rw [txtV,if_pos hv,if_pos h]
 have e2:¬ ((textT ds).length≤8000∧cntT ds≤1500)→txtV ds=[.str [],i64 3]:=fun h=>by rw [txtV,if_pos hv,if_neg h]
 generalize txtV ds=X at e1 e2 ⊢
 refine⟨Wst × Nat × Bool,fun x=>[(5, .ptr 0 0 0),(14, .p (des ds)),(15, .p (i64 (ds.map De.cells).length)),(16, .p (i64 x.2.1))],fun x=>wH x.2.2 x.1,fun x=>x.2.1≤ds.length∧x.1=⟨textT (ds.take x.2.1),cntT (ds.take x.2.1),false⟩,fun x=>ds.length - x.2.1,?_,?_⟩
 ·exact⟨(⟨[],0,false⟩,0,false),⟨Nat.zero_le _,rfl⟩,ent_of [] [(0,1)] [(1,1)] rfl (sk) (sk) rfl⟩
 rintro⟨st,i,u⟩ ⟨k1,k2⟩
 simp only [] at k1 k2
 have hst:st.sz≤10000000:=by
  have t1:=textT_len (ds:=ds.take i) fun d hd=>v2 d (List.mem_of_mem_take hd)
  have t2:=cntT_len (ds:=ds.take i) fun d hd=>v2 d (List.mem_of_mem_take hd)
  have t3:(ds.take i).length≤30:=by rw [List.length_take];omega
  rw [k2]
  show cntT (ds.take i)+(textT (ds.take i)).length≤_
  omega
 (first | refine brLt (fun m1=>?_) (fun m1=>?_) | refine brLe (fun m1=>?_) (fun m1=>?_) | refine brEq (fun m1=>?_) (fun m1=>?_))
 ·have m1:(i:Int)<((ds.map De.cells).length:Nat):=m1
  rw [hm] at m1
  have hi:i<ds.length:=by omega
  have hd:=v2 _ (getD_memL de0 hi)
  have hcell:=decell hi
  have ht:=take_succ_getD de0 hi
  generalize ds.getD i de0=d at hd hcell ht
  have hw:=decl_wt hd
  have hn:(⟨textT (ds.take (i+1)),cntT (ds.take (i+1)),false⟩:Wst)=endW (puts st (declT d)):=by
   rw [ht,textT_snoc,cntT_snoc,k2,decl_st]
  have hD:=decl_w u st d hd (by omega)
  have hz:=puts_sz (declT d) st
  clear ht hd
  obtain⟨k,n,nm,pl,rs,cs⟩:=d
  generalize declT ⟨k,n,nm,pl,rs,cs⟩=Y at hD hw hn hz
  refine⟨_,⟨by omega,(⟨k,n,nm,pl,rs,cs⟩:De).cells,hcell,rfl⟩,?_⟩
  refine hD.holds.useT [] [] rfl (by cases u <;> (exact sk)) (sk) fun e0 H0 hq=>?_
  obtain⟨rfl,rfl⟩:=hq
  refine⟨rfl,_,⟨4,((3,bO (puts st Y).s)::(0,wO 3 (puts st Y))::[(2,deO _)])⟩,rfl,rfl,?_⟩
  refine(end_h (puts st Y) (by omega)).holds.useT [] [(1,3)] rfl (sk) (sk) fun e0 H0 hq=>?_
  obtain⟨rfl,rfl⟩:=hq
  refine⟨rfl,_,⟨5,((4,bO (endW (puts st Y)).s)::(0,wO 4 (endW (puts st Y)))::[(2,deO _)])⟩,rfl,rfl,?_⟩
  refine⟨_,wrap_i64 (by omega) (by omega),?_⟩
  exact⟨(endW (puts st Y),i+1,true),⟨hi,hn.symm⟩,ent_of [] [(1,4)] [] rfl (sk) (sk) rfl,by show ds.length - (i+1)<ds.length - i;omega⟩
 ·have m1:¬ (i:Int)<((ds.map De.cells).length:Nat):=m1
  rw [hm] at m1
  rw [take_all (by omega)] at k2
  have ks:st.s=textT ds:=by rw [k2]
  have kn:st.n=cntT ds:=by rw [k2]
  rw [← ks,← kn] at e1 e2
  clear k2 ks kn
  cases u
  ·refine(len_h false st).holds.useT [] [] rfl (sk) (sk) fun e0 H0 hq=>?_
   obtain⟨rfl,rfl⟩:=hq
   refine⟨rfl,_,wH false st,rfl,rfl,?_⟩
   have hsl:st.s.length≤10000000:=by
    have:st.n+st.s.length≤10000000:=hst
    omega
   (first | refine brLt (fun c1=>?_) (fun c1=>?_) | refine brLe (fun c1=>?_) (fun c1=>?_) | refine brEq (fun c1=>?_) (fun c1=>?_))
   ·have c1:(8000:Int)<(st.s.length:Nat):=c1
    exact end2 (.str []) (i64 3) rfl rfl rfl (by rw [e2 (by omega)] <;> rfl)
   have c1:¬ (8000:Int)<(st.s.length:Nat):=c1
   (first | refine brLt (fun c2=>?_) (fun c2=>?_) | refine brLe (fun c2=>?_) (fun c2=>?_) | refine brEq (fun c2=>?_) (fun c2=>?_))
   ·have c2:(1500:Int)<(st.n:Nat):=c2
    exact end2 (.str []) (i64 3) rfl rfl rfl (by rw [e2 (by omega)] <;> rfl)
   have c2:¬ (1500:Int)<(st.n:Nat):=c2
   have e3:=e1 (by omega)
   by_cases hs:st.s=[]
   ·refine(strgE_h false st hs).holds.useT [] [] rfl (sk) (sk) fun e0 H0 hq=>?_
    obtain⟨rfl,rfl⟩:=hq
    refine⟨rfl,_,wH false st,rfl,rfl,?_⟩
    exact end2 (.str []) (i64 0) rfl rfl rfl (by rw [e3,hs] <;> rfl)
   ·refine(strg_h false st hs (by omega)).holds.useT [] [] rfl (sk) (sk) fun e0 H0 hq=>?_
    obtain⟨rfl,rfl⟩:=hq
    refine⟨rfl,_,⟨2,[(0,wOu false 1 st)]⟩,rfl,rfl,?_⟩
    exact end2 (.str st.s) (i64 0) rfl rfl rfl (by rw [e3] <;> rfl)
  ·refine(len_h true st).holds.useT [] [] rfl (sk) (sk) fun e0 H0 hq=>?_
   obtain⟨rfl,rfl⟩:=hq
   refine⟨rfl,_,wH true st,rfl,rfl,?_⟩
   have hsl:st.s.length≤10000000:=by
    have:st.n+st.s.length≤10000000:=hst
    omega
   (first | refine brLt (fun c1=>?_) (fun c1=>?_) | refine brLe (fun c1=>?_) (fun c1=>?_) | refine brEq (fun c1=>?_) (fun c1=>?_))
   ·have c1:(8000:Int)<(st.s.length:Nat):=c1
    exact end2 (.str []) (i64 3) rfl rfl rfl (by rw [e2 (by omega)] <;> rfl)
   have c1:¬ (8000:Int)<(st.s.length:Nat):=c1
   (first | refine brLt (fun c2=>?_) (fun c2=>?_) | refine brLe (fun c2=>?_) (fun c2=>?_) | refine brEq (fun c2=>?_) (fun c2=>?_))
   ·have c2:(1500:Int)<(st.n:Nat):=c2
    exact end2 (.str []) (i64 3) rfl rfl rfl (by rw [e2 (by omega)] <;> rfl)
   have c2:¬ (1500:Int)<(st.n:Nat):=c2
   have e3:=e1 (by omega)
   by_cases hs:st.s=[]
   ·refine(strgE_h true st hs).holds.useT [] [] rfl (sk) (sk) fun e0 H0 hq=>?_
    obtain⟨rfl,rfl⟩:=hq
    refine⟨rfl,_,wH true st,rfl,rfl,?_⟩
    exact end2 (.str []) (i64 0) rfl rfl rfl (by rw [e3,hs] <;> rfl)
   ·refine(strg_h true st hs (by omega)).holds.useT [] [] rfl (sk) (sk) fun e0 H0 hq=>?_
    obtain⟨rfl,rfl⟩:=hq
    refine⟨rfl,_,⟨2,[(0,wOu true 1 st)]⟩,rfl,rfl,?_⟩
    exact end2 (.str st.s) (i64 0) rfl rfl rfl (by rw [e3] <;> rfl)
set_option maxHeartbeats 40000000
theorem vdraw_ot {C : Cx} {rd : Bool} {n0 N : Nat} {all : List Oper} {σ : Sg} {ds : List AD} {H : Hp} {K : Sg → List AD → Hp → Prop} {X : List AP → Sg → List AD → Hp → Prop} (ot : OT)
    (h : (C.P.follows .mixedOrders && slotsOK N all (masks all []) && otOK all (masks all []) ot [] [] []) = true) (hv : vD C rd all σ K X ot [] ds H) :
    ∃ ot, (C.P.follows .mixedOrders && slotsOK N all (masks all []) && otOK all (masks all []) ot [] [] []) = true ∧
    ((vD C rd all σ K X ot [] ds H) ∨
     ∃ (α : Type) (sl : α → List (Nat × AV)) (hp : α → Hp) (pr : α → Prop),
      vD C rd all σ (fun σ' ds' H' => ∃ x, pr x ∧ Ent C n0 N σ' ds' H' (sets (fun _ => .junk) (sl x)) ds (hp x)) X ot [] ds H ∧
      ∀ x, pr x → K (sets (fun _ => .junk) (sl x)) ds (hp x)) := ⟨_, h, .inl hv⟩
theorem vdraw_otTo {C : Cx} {rd : Bool} {n0 N : Nat} {all : List Oper} {σ : Sg} {ds : List AD} {H : Hp} {K : Sg → List AD → Hp → Prop} {X : List AP → Sg → List AD → Hp → Prop} (sl : List (Nat × AV)) (hp : Hp) (ot : OT)
    (h : (C.P.follows .mixedOrders && slotsOK N all (masks all []) && otOK all (masks all []) ot [] [] []) = true)
    (hv : vD C rd all σ (fun σ' ds' H' => Ent C n0 N σ' ds' H' (sets (fun _ => .junk) sl) ds hp) X ot [] ds H) (hk : K (sets (fun _ => .junk) sl) ds hp) :
    ∃ ot, (C.P.follows .mixedOrders && slotsOK N all (masks all []) && otOK all (masks all []) ot [] [] []) = true ∧
    ((vD C rd all σ K X ot [] ds H) ∨
     ∃ (α : Type) (sl : α → List (Nat × AV)) (hp : α → Hp) (pr : α → Prop),
      vD C rd all σ (fun σ' ds' H' => ∃ x, pr x ∧ Ent C n0 N σ' ds' H' (sets (fun _ => .junk) (sl x)) ds (hp x)) X ot [] ds H ∧
      ∀ x, pr x → K (sets (fun _ => .junk) (sl x)) ds (hp x)) :=
  ⟨_, h, .inr ⟨Unit, fun _ => sl, fun _ => hp, fun _ => True, by
    have e : (fun σ' ds' H' => ∃ _x : Unit, True ∧ Ent C n0 N σ' ds' H' (sets (fun _ => .junk) sl) ds hp) = fun σ' ds' H' => Ent C n0 N σ' ds' H' (sets (fun _ => .junk) sl) ds hp := by
      funext a b c
      exact propext ⟨fun ⟨_, _, h⟩ => h, fun h => ⟨(), trivial, h⟩⟩
    rw [e]; exact hv, fun _ _ => hk⟩⟩
abbrev otI:OT:=(.pure 0 (.pure 1 (.pure 2 (.pure 3 (.pure 4 (.pure 5 (.pure 6 (.pure 7 (.pure 8 (.pure 9 (.pure 10 (.pure 11 (.pure 12 (.pure 13 (.pure 14 (.pure 15 (.pure 16 (.pure 17 (.pure 18 (.pure 19 (.pure 20 (.pure 21 (.pure 22 (.pure 23 (.pure 24 (.pure 25 (.pure 26 (.pure 27 (.pure 28 (.pure 29 (.pure 30 (.eff 31 [] (.pure 32 (.pure 33 (.pure 34 .fin))) .nil))))))))))))))))))))))))))))))))
theorem Out.val {α:Type} {b:Bool} {p:Nat} {r:Rd α} {a a':α} {q:Nat} {b':Bool} (h:Out b p r a q b') (e:b'=false→a=a'):Out b p r a' q b':=by
 cases b'
 ·rw [← e rfl];exact h
 ·cases b
  ·exact h
  ·exact h
theorem Out.live {α:Type} {b:Bool} {p:Nat} {r:Rd α} {a:α} {q:Nat} (h:Out b p r a q false):b=false:=by
 cases b
 ·rfl
 ·exact absurd h.1 (by decide)
theorem ints_stop {ws:List Wd} {b0 b b2:Bool} {q0 q q2:Nat} {R:Rd (List Int)} {acc:List Int} {v:Int} (k:LK b0 q0 R (fun f=>(intR ws q).then fun n q'=>intsR ws f (acc++[n]) q') ws.length q b) (o:Out b q (intR ws q) v q2 b2) (hs:b2=false→¬ (txt ws q2=tMinus∨knd ws q2=3)):Out b0 q0 R (acc++[v]) q2 b2:=by
 obtain⟨f,hf,hk⟩:=k
 refine hk _ _ _ (o.then ?_)
 cases b2
 ·have:=hf o.live
  obtain⟨g,rfl⟩:∃ g,f=g+1:=⟨f - 1,by omega⟩
  rw [intsR,if_neg (hs rfl)]
  exact Out.same
 ·exact Out.bad
theorem rints_h (ws:List Wd) (F q0:Nat) (b0:Bool) (hF:ws.length<F) (hg:GoodW ws) (hq0:q0≤ws.length):HoldsG cx 140 [.ptr 0 0 0] (rrH ws q0 b0) (RQ ws b0 q0 (numsR ws F q0) fun l=>.p (ints l)):=by
 refine holdsN_of_vc Tryz.func140 rfl rfl rfl ?_
 have hl:=hg.len
 have hl':(ws.map Wd.cells).length=ws.length:=List.length_map ..
 refine⟨List Int × Nat × Bool,fun x=>[(0, .ptr 0 0 0),(3, .sl 1 1 0 x.1.length)],fun x=>⟨2,[(1,iO x.1),(0,rrO ws x.2.1 x.2.2)]⟩,fun x=>x.2.1≤ws.length∧(x.2.2=true→x.1=[])∧x.1.length≤x.2.1∧LK b0 q0 (numsR ws F q0) (fun f=>(intR ws x.2.1).then fun n q'=>intsR ws f (x.1++[n]) q') ws.length x.2.1 x.2.2,fun x=>ws.length - x.2.1,?_,?_⟩
 ·exact⟨([],q0,b0),⟨hq0,fun _=>rfl,by simp,F,fun _=>by simp only [];omega,fun l q' b' ho=>ho⟩,ent_of [] [] [(1,1)] rfl (sk) (sk) rfl⟩
 rintro⟨acc,q,b⟩ ⟨k1,k2,k3,k4⟩
 simp only [] at k1 k2 k3 k4
 by_cases c:Tk ws b q tMinus
 ·have q1l:q+1≤ws.length:=txt_lt (by rw [c.2];decide)
  refine(take_h ws q b tMinus hg k1 (by decide) (by decide)).holds.useT [] [] rfl (sk) (sk) fun e0 H0 hq=>?_
  obtain⟨rfl,rfl⟩:=hq.1 c
  refine⟨rfl,_,⟨2,(0,rrO ws (q+1) false)::[(1,iO acc)]⟩,rfl,rfl,?_⟩
  refine(rnum_h ws (q+1) false hg q1l).holds.useT [] [] rfl (sk) (sk) fun e0 H0 hq=>?_
  obtain⟨n,q2,b2,q2l,o2,rfl,rfl⟩:=hq
  obtain⟨v,hv⟩:∃ v,v=IntKind.i64.wrap ((-1) * n):=⟨_,rfl⟩
  have hvn:b2=false→-n=v:=fun e=>by
   subst e
   have:=num_bd hg (out_inr o2)
   rw [hv,show(-1) * n=-n by omega]
   exact wrap_i64 (by omega) (by omega)
  have o:Out b q (intR ws q) v q2 b2:=Out.yes c (o2.then (by
   cases b2
   ·exact Out.ret (hvn rfl)
   ·exact Out.bad)).mv
  clear hvn o2
  cases b2
  ·refine⟨rfl,_,⟨2,(0,rrO ws q2 false)::[(1,iO acc)]⟩,rfl,rfl,?_⟩
   refine⟨v,hv,?_⟩
   have hb:=o.live
   have k5:LK b0 q0 (numsR ws F q0) (fun f=>(intR ws q).then fun n q'=>intsR ws f (acc++[n]) q') ws.length q false:=by rw [← hb];exact k4
   have o5:Out false q (intR ws q) v q2 false:=by rw [hb] at o;exact o
   have hlt:=int_lt (out_inr o5)
   refine⟨by show 0+1≤1;omega,[i64 v],rfl,?_⟩
   refine⟨by show 0+acc.length≤(acc.map i64).length;simp,acc.map i64,takeAll (by simp),by show(acc.length+1) * 8≤140737488355328;omega,(acc++[v]).map i64,by simp,?_⟩
   by_cases hs:txt ws q2=tMinus∨knd ws q2=3
   ·have hql:q2<ws.length:=by
     rcases hs with h | h
     ·exact txt_lt (ws:=ws) (q:=q2) (by rw [h];decide)
     ·exact knd_lt (ws:=ws) (q:=q2) (by rw [h];decide)
    refine vdraw_otTo [(0, .ptr 0 0 0),(3, .sl 3 1 0 (acc.length+1)),(48,vB false)] ⟨4,[(3,iO (acc++[v])),(0,rrO ws q2 false)]⟩ otI (by kernel_rfl) ?_ ?_
    ·refine And.intro (fun h=>absurd (show((ws.map Wd.cells).length:Int)≤(q2:Nat) from h) (by rw [hl'];omega)) (fun _=>?_)
     refine⟨_,⟨by omega,(wat ws q2).cells,wdcell (by omega),rfl⟩,?_⟩
     refine And.intro (fun h2=>?_) (fun h2=>?_)
     ·exact ent_of [] [] [] rfl (sk) (sk) rfl
     have h2:¬ knd ws q2=3:=h2
     have c2:Tk ws false q2 tMinus:=⟨rfl,hs.resolve_right h2⟩
     refine(is_h ws q2 false tMinus hg q2l (by decide) (by decide)).holds.useT [] [] rfl (sk) (sk) fun e0 H0 hq=>?_
     obtain⟨rfl,rfl⟩:=hq.1 c2
     refine⟨rfl,_,⟨4,[(0,rrO ws q2 false),(3,iO (acc++[v])),(2,iO [v])]⟩,rfl,rfl,?_⟩
     exact ent_of [] [] [] rfl (sk) (sk) rfl
    exact⟨(acc++[v],q2,false),⟨q2l,fun e=>absurd (show false=true from e) (by decide),by show(acc++[v]).length≤q2;rw [snoc_len];omega,k5.step (fun f l q' b' ho=>o5.then (by rw [intsR,if_pos hs];exact ho)) (fun _=>⟨hlt,q2l⟩)⟩,ent_of [] [(1,3)] [] rfl ⟨⟨rfl,rfl⟩,congrArg (fun k:Nat=>AV.sl 3 1 0 k) (snoc_len acc v).symm,trivial⟩ (sk) rfl,by show ws.length - q2<ws.length - q;omega⟩
   ·refine vdraw_otTo [(0, .ptr 0 0 0),(3, .sl 3 1 0 (acc.length+1)),(48,vB true)] ⟨4,[(3,iO (acc++[v])),(0,rrO ws q2 false)]⟩ otI (by kernel_rfl) ?_ ?_
    ·(first | refine brLt (fun h1=>?_) (fun h1=>?_) | refine brLe (fun h1=>?_) (fun h1=>?_) | refine brEq (fun h1=>?_) (fun h1=>?_))
     ·exact ent_of [] [] [] rfl (sk) (sk) rfl
     have h1:¬ ((ws.map Wd.cells).length:Int)≤(q2:Nat):=h1
     rw [hl'] at h1
     refine⟨_,⟨by omega,(wat ws q2).cells,wdcell (by omega),rfl⟩,?_⟩
     refine And.intro (fun h2=>absurd (.inr h2) hs) (fun _=>?_)
     refine(is_h ws q2 false tMinus hg q2l (by decide) (by decide)).holds.useT [] [] rfl (sk) (sk) fun e0 H0 hq=>?_
     obtain⟨rfl,rfl⟩:=hq.2 (fun c2=>hs (.inl c2.2))
     refine⟨rfl,_,⟨4,[(0,rrO ws q2 false),(3,iO (acc++[v])),(2,iO [v])]⟩,rfl,rfl,?_⟩
     exact ent_of [] [] [] rfl (sk) (sk) rfl
    exact⟨[3],[],[], .returned (.p (ints (acc++[v]))),rrH ws q2 false,rfl,⟨_,rfl,⟨_,rfl,by show 0+(acc.length+1)≤((acc++[v]).map i64).length;simp,takeAll (by simp)⟩⟩,sk,acc++[v],q2,false,q2l,ints_stop k4 o (fun _=>hs),rfl,rfl⟩
  ·refine⟨rfl,_,⟨2,(0,rrO ws q2 true)::[(1,iO acc)]⟩,rfl,rfl,?_⟩
   refine⟨v,hv,?_⟩
   refine⟨by show 0+1≤1;omega,[i64 v],rfl,?_⟩
   refine⟨by show 0+acc.length≤(acc.map i64).length;simp,acc.map i64,takeAll (by simp),by show(acc.length+1) * 8≤140737488355328;omega,(acc++[v]).map i64,by simp,?_⟩
   refine vdraw_ot otI (by kernel_rfl) ?_
   exact⟨[3],[],[], .returned (.p (ints (acc++[v]))),rrH ws q2 true,rfl,⟨_,rfl,⟨_,rfl,by show 0+(acc.length+1)≤((acc++[v]).map i64).length;simp,takeAll (by simp)⟩⟩,sk,acc++[v],q2,true,q2l,ints_stop k4 o (fun e=>by cases e),rfl,rfl⟩
 ·refine(take_h ws q b tMinus hg k1 (by decide) (by decide)).holds.useT [] [] rfl (sk) (sk) fun e0 H0 hq=>?_
  obtain⟨rfl,rfl⟩:=hq.2 c
  refine⟨rfl,_,⟨2,(0,rrO ws q b)::[(1,iO acc)]⟩,rfl,rfl,?_⟩
  refine(rnum_h ws q b hg k1).holds.useT [] [] rfl (sk) (sk) fun e0 H0 hq=>?_
  obtain⟨n,q2,b2,q2l,o2,rfl,rfl⟩:=hq
  obtain⟨v,hv⟩:∃ v,v=IntKind.i64.wrap (1 * n):=⟨_,rfl⟩
  have hvn:b2=false→n=v:=fun e=>by
   subst e
   have hb:=o2.live
   subst hb
   have:=num_bd hg (out_inr o2)
   rw [hv,Int.one_mul]
   exact wrap_i64 (by omega) (by omega)
  have o:Out b q (intR ws q) v q2 b2:=Out.no c (o2.val hvn)
  clear hvn o2
  cases b2
  ·refine⟨rfl,_,⟨2,(0,rrO ws q2 false)::[(1,iO acc)]⟩,rfl,rfl,?_⟩
   refine⟨v,hv,?_⟩
   have hb:=o.live
   have k5:LK b0 q0 (numsR ws F q0) (fun f=>(intR ws q).then fun n q'=>intsR ws f (acc++[n]) q') ws.length q false:=by rw [← hb];exact k4
   have o5:Out false q (intR ws q) v q2 false:=by rw [hb] at o;exact o
   have hlt:=int_lt (out_inr o5)
   refine⟨by show 0+1≤1;omega,[i64 v],rfl,?_⟩
   refine⟨by show 0+acc.length≤(acc.map i64).length;simp,acc.map i64,takeAll (by simp),by show(acc.length+1) * 8≤140737488355328;omega,(acc++[v]).map i64,by simp,?_⟩
   by_cases hs:txt ws q2=tMinus∨knd ws q2=3
   ·have hql:q2<ws.length:=by
     rcases hs with h | h
     ·exact txt_lt (ws:=ws) (q:=q2) (by rw [h];decide)
     ·exact knd_lt (ws:=ws) (q:=q2) (by rw [h];decide)
    refine vdraw_otTo [(0, .ptr 0 0 0),(3, .sl 3 1 0 (acc.length+1)),(48,vB false)] ⟨4,[(3,iO (acc++[v])),(0,rrO ws q2 false)]⟩ otI (by kernel_rfl) ?_ ?_
    ·refine And.intro (fun h=>absurd (show((ws.map Wd.cells).length:Int)≤(q2:Nat) from h) (by rw [hl'];omega)) (fun _=>?_)
     refine⟨_,⟨by omega,(wat ws q2).cells,wdcell (by omega),rfl⟩,?_⟩
     refine And.intro (fun h2=>?_) (fun h2=>?_)
     ·exact ent_of [] [] [] rfl (sk) (sk) rfl
     have h2:¬ knd ws q2=3:=h2
     have c2:Tk ws false q2 tMinus:=⟨rfl,hs.resolve_right h2⟩
     refine(is_h ws q2 false tMinus hg q2l (by decide) (by decide)).holds.useT [] [] rfl (sk) (sk) fun e0 H0 hq=>?_
     obtain⟨rfl,rfl⟩:=hq.1 c2
     refine⟨rfl,_,⟨4,[(0,rrO ws q2 false),(3,iO (acc++[v])),(2,iO [v])]⟩,rfl,rfl,?_⟩
     exact ent_of [] [] [] rfl (sk) (sk) rfl
    exact⟨(acc++[v],q2,false),⟨q2l,fun e=>absurd (show false=true from e) (by decide),by show(acc++[v]).length≤q2;rw [snoc_len];omega,k5.step (fun f l q' b' ho=>o5.then (by rw [intsR,if_pos hs];exact ho)) (fun _=>⟨hlt,q2l⟩)⟩,ent_of [] [(1,3)] [] rfl ⟨⟨rfl,rfl⟩,congrArg (fun k:Nat=>AV.sl 3 1 0 k) (snoc_len acc v).symm,trivial⟩ (sk) rfl,by show ws.length - q2<ws.length - q;omega⟩
   ·refine vdraw_otTo [(0, .ptr 0 0 0),(3, .sl 3 1 0 (acc.length+1)),(48,vB true)] ⟨4,[(3,iO (acc++[v])),(0,rrO ws q2 false)]⟩ otI (by kernel_rfl) ?_ ?_
    ·(first | refine brLt (fun h1=>?_) (fun h1=>?_) | refine brLe (fun h1=>?_) (fun h1=>?_) | refine brEq (fun h1=>?_) (fun h1=>?_))
     ·exact ent_of [] [] [] rfl (sk) (sk) rfl
     have h1:¬ ((ws.map Wd.cells).length:Int)≤(q2:Nat):=h1
     rw [hl'] at h1
     refine⟨_,⟨by omega,(wat ws q2).cells,wdcell (by omega),rfl⟩,?_⟩
     refine And.intro (fun h2=>absurd (.inr h2) hs) (fun _=>?_)
     refine(is_h ws q2 false tMinus hg q2l (by decide) (by decide)).holds.useT [] [] rfl (sk) (sk) fun e0 H0 hq=>?_
     obtain⟨rfl,rfl⟩:=hq.2 (fun c2=>hs (.inl c2.2))
     refine⟨rfl,_,⟨4,[(0,rrO ws q2 false),(3,iO (acc++[v])),(2,iO [v])]⟩,rfl,rfl,?_⟩
     exact ent_of [] [] [] rfl (sk) (sk) rfl
    exact⟨[3],[],[], .returned (.p (ints (acc++[v]))),rrH ws q2 false,rfl,⟨_,rfl,⟨_,rfl,by show 0+(acc.length+1)≤((acc++[v]).map i64).length;simp,takeAll (by simp)⟩⟩,sk,acc++[v],q2,false,q2l,ints_stop k4 o (fun _=>hs),rfl,rfl⟩
  ·refine⟨rfl,_,⟨2,(0,rrO ws q2 true)::[(1,iO acc)]⟩,rfl,rfl,?_⟩
   refine⟨v,hv,?_⟩
   refine⟨by show 0+1≤1;omega,[i64 v],rfl,?_⟩
   refine⟨by show 0+acc.length≤(acc.map i64).length;simp,acc.map i64,takeAll (by simp),by show(acc.length+1) * 8≤140737488355328;omega,(acc++[v]).map i64,by simp,?_⟩
   refine vdraw_ot otI (by kernel_rfl) ?_
   exact⟨[3],[],[], .returned (.p (ints (acc++[v]))),rrH ws q2 true,rfl,⟨_,rfl,⟨_,rfl,by show 0+(acc.length+1)≤((acc++[v]).map i64).length;simp,takeAll (by simp)⟩⟩,sk,acc++[v],q2,true,q2l,ints_stop k4 o (fun e=>by cases e),rfl,rfl⟩
set_option maxHeartbeats 4000000
theorem set_snoc (l:List Int) (n:Int):setN (l++[n])=insN (setN l) n:=by rw [setN,setN,List.foldl_append];rfl
def RQN (ws:List Wd) (b:Bool) (q:Nat) (r:Rd Cd) (e:AE) (H':Hp):Prop:=∃ c q' b',q'≤ws.length∧Out b q r c q' b'∧(∃ y,e=.returned (.p y)∧NilD y c.pv)∧H'=rrH ws q' b'
abbrev RC (ws:List Wd) (b:Bool) (q:Nat) (r:Rd Cd):AE→Hp→Prop:=RQ ws b q r fun c=>.p c.pv
theorem rqN_weak {ws:List Wd} {b:Bool} {q:Nat} {g:FuncId} {args:List AV} {H:Hp} {r:Rd Cd} (h:HoldsG cx g args H (RQN ws b q r)):HoldsG cx g args H (RC ws b q r):=
 h.weak fun e H' hq=>by
  obtain⟨c,q',b',h1,h2,⟨y,rfl,h3⟩,rfl⟩:=hq
  exact⟨.returned (.p c.pv),⟨_,rfl,by simp only [NilA];exact⟨_,rfl,h3⟩⟩,c,q',b',h1,h2,rfl,rfl⟩
abbrev lfI (rf:Rf) (s:List Int):AObj:=cO [.p (i64 5), .p (i64 0), .p (i64 0), .p (i64 0), .p (.str rf.name), .p (i64 rf.mode), .p (.str rf.plate), .p (i64 rf.n), .p (ints s), .p .nils]
abbrev RCondOK (ws:List Wd) (F:Nat) (q:Nat) (b:Bool):Prop:=HoldsG cx 139 [.ptr 0 0 0] (rrH ws q b) (RC ws b q (condR ws F q))
theorem nil_ins (n:Int):NilDL [.nils,i64 n] [ints [],i64 n]:=by
 simp only [NilDL,NilD]
 exact⟨_,_,rfl, .inr (.inl rfl),_,_,rfl,rfl,rfl⟩
theorem rtest_h (ws:List Wd) (F q0:Nat) (b0:Bool) (hg:GoodW ws) (hq0:q0≤ws.length) (hF:4 * (ws.length - q0)+1≤F+1) (hC:∀ q,q≤ws.length→4 * (ws.length - q)+4≤F→RCondOK ws F q false) :
  HoldsG cx 203 [.ptr 0 0 0] (rrH ws q0 b0) (RC ws b0 q0 (testR ws (F+1) q0)):=by
 refine rqN_weak ?_
 refine holdsN_of_vc Tryz.func203 rfl rfl rfl ?_
 have hl:=hg.len
 by_cases c1:Tk ws b0 q0 tLP
 ·have q1l:q0+1≤ws.length:=txt_lt (by rw [c1.2];decide)
  refine(take_h ws q0 b0 tLP hg hq0 (by decide) (by decide)).holds.useT [] [] rfl (sk) (sk) fun e0 H0 hq=>?_
  obtain⟨rfl,rfl⟩:=hq.1 c1
  refine⟨rfl,_,⟨2,(0,rrO ws (q0+1) false)::[(1,zc)]⟩,rfl,rfl,?_⟩
  refine(hC (q0+1) q1l (by omega)).holds.useT [] [] rfl (sk) (sk) fun e0 H0 hq=>?_
  obtain⟨⟨o,n,rl,vl,rf,st,ar⟩,q2,b2,q2l,o2,rfl,rfl⟩:=hq
  refine⟨rfl,_,⟨2,(0,rrO ws q2 b2)::[(1,zc)]⟩,rfl,rfl,?_⟩
  refine(must_h ws q2 b2 tRP hg q2l (by decide) (by decide)).holds.useT [] [] rfl (sk) (sk) fun e0 H0 hq=>?_
  obtain⟨u3,q3,b3,q3l,o3,rfl,rfl⟩:=hq
  refine⟨rfl,_,⟨3,(0,rrO ws q3 b3)::[(2,cO ((Cd.mk o n rl vl rf st ar).cells.map .p)),(1,zc)]⟩,rfl,rfl,?_⟩
  exact⟨[],[],[], .returned (.p (Cd.mk o n rl vl rf st ar).pv),rrH ws q3 b3,rfl,sk,sk,_,q3,b3,q3l,by rw [testR];exact Out.yes c1 (o2.then (o3.then Out.same)).mv,⟨_,rfl,NilD.refl _⟩,rfl⟩
 refine(take_h ws q0 b0 tLP hg hq0 (by decide) (by decide)).holds.useT [] [] rfl (sk) (sk) fun e0 H0 hq=>?_
 obtain⟨rfl,rfl⟩:=hq.2 c1
 refine⟨rfl,_,⟨2,(0,rrO ws q0 b0)::[(1,zc)]⟩,rfl,rfl,?_⟩
 by_cases c2:Tk ws b0 q0 tCount
 ·have q1l:q0+1≤ws.length:=txt_lt (by rw [c2.2];decide)
  refine(take_h ws q0 b0 tCount hg hq0 (by decide) (by decide)).holds.useT [] [] rfl (sk) (sk) fun e0 H0 hq=>?_
  obtain⟨rfl,rfl⟩:=hq.1 c2
  refine⟨rfl,_,⟨3,(0,rrO ws (q0+1) false)::[(2,zc),(1,zc)]⟩,rfl,rfl,?_⟩
  refine(must_h ws (q0+1) false tLP hg q1l (by decide) (by decide)).holds.useT [] [] rfl (sk) (sk) fun e0 H0 hq=>?_
  obtain⟨u2,q2,b2,q2l,o2,rfl,rfl⟩:=hq
  refine⟨rfl,_,⟨3,(0,rrO ws q2 b2)::[(2,lf 6 0 0 0 rf0),(1,zc)]⟩,rfl,rfl,?_⟩
  refine(rname_h ws q2 b2 hg q2l).holds.useT [] [] rfl (sk) (sk) fun e0 H0 hq=>?_
  obtain⟨nm,q3,b3,q3l,o3,rfl,rfl⟩:=hq
  refine⟨rfl,_,⟨3,(0,rrO ws q3 b3)::[(2,lf 6 0 0 0 rf0),(1,zc)]⟩,rfl,rfl,?_⟩
  refine(must_h ws q3 b3 tLB hg q3l (by decide) (by decide)).holds.useT [] [] rfl (sk) (sk) fun e0 H0 hq=>?_
  obtain⟨u4,q4,b4,q4l,o4,rfl,rfl⟩:=hq
  refine⟨rfl,_,⟨3,(0,rrO ws q4 b4)::[(2,lf 6 0 0 0 ⟨nm,3,[],0⟩),(1,zc)]⟩,rfl,rfl,?_⟩
  refine(must_h ws q4 b4 tAll hg q4l (by decide) (by decide)).holds.useT [] [] rfl (sk) (sk) fun e0 H0 hq=>?_
  obtain⟨u5,q5,b5,q5l,o5,rfl,rfl⟩:=hq
  refine⟨rfl,_,⟨3,(0,rrO ws q5 b5)::[(2,lf 6 0 0 0 ⟨nm,3,[],0⟩),(1,zc)]⟩,rfl,rfl,?_⟩
  refine(must_h ws q5 b5 tRB hg q5l (by decide) (by decide)).holds.useT [] [] rfl (sk) (sk) fun e0 H0 hq=>?_
  obtain⟨u6,q6,b6,q6l,o6,rfl,rfl⟩:=hq
  refine⟨rfl,_,⟨3,(0,rrO ws q6 b6)::[(2,lf 6 0 0 0 ⟨nm,3,[],0⟩),(1,zc)]⟩,rfl,rfl,?_⟩
  refine(must_h ws q6 b6 tEq hg q6l (by decide) (by decide)).holds.useT [] [] rfl (sk) (sk) fun e0 H0 hq=>?_
  obtain⟨u7,q7,b7,q7l,o7,rfl,rfl⟩:=hq
  refine⟨rfl,_,⟨3,(0,rrO ws q7 b7)::[(2,lf 6 0 0 0 ⟨nm,3,[],0⟩),(1,zc)]⟩,rfl,rfl,?_⟩
  refine(rnum_h ws q7 b7 hg q7l).holds.useT [] [] rfl (sk) (sk) fun e0 H0 hq=>?_
  obtain⟨v,q8,b8,q8l,o8,rfl,rfl⟩:=hq
  refine⟨rfl,_,⟨3,(0,rrO ws q8 b8)::[(2,lf 6 0 0 0 ⟨nm,3,[],0⟩),(1,zc)]⟩,rfl,rfl,?_⟩
  refine(must_h ws q8 b8 tRP hg q8l (by decide) (by decide)).holds.useT [] [] rfl (sk) (sk) fun e0 H0 hq=>?_
  obtain⟨u9,q9,b9,q9l,o9,rfl,rfl⟩:=hq
  refine⟨rfl,_,⟨3,(0,rrO ws q9 b9)::[(2,lf 6 0 0 v ⟨nm,3,[],0⟩),(1,zc)]⟩,rfl,rfl,?_⟩
  refine(rrel_h ws q9 b9 hg q9l).holds.useT [] [] rfl (sk) (sk) fun e0 H0 hq=>?_
  obtain⟨r,q10,b10,q10l,o10,rfl,rfl⟩:=hq
  refine⟨rfl,_,⟨3,(0,rrO ws q10 b10)::[(2,lf 6 0 0 v ⟨nm,3,[],0⟩),(1,zc)]⟩,rfl,rfl,?_⟩
  refine(rnum_h ws q10 b10 hg q10l).holds.useT [] [] rfl (sk) (sk) fun e0 H0 hq=>?_
  obtain⟨n,q11,b11,q11l,o11,rfl,rfl⟩:=hq
  refine⟨rfl,_,⟨3,(0,rrO ws q11 b11)::[(2,lf 6 0 r v ⟨nm,3,[],0⟩),(1,zc)]⟩,rfl,rfl,?_⟩
  have om:Out b3 q3 (mustsR ws [tLB,tAll,tRB,tEq] q3) () q7 b7:=o4.then (o5.then (o6.then (o7.then Out.same)))
  exact⟨[],[],[], .returned (.p (.agg [i64 6,i64 n,i64 r,i64 v, .str nm,i64 3, .str [],i64 0, .nils, .nils])),rrH ws q11 b11,rfl,sk,sk, .mk 6 n r v ⟨nm,3,[],0⟩ [] [],q11,b11,q11l,by rw [testR];exact Out.no c1 (Out.yes c2 (o2.then (o3.then (om.then (o8.then (o9.then (o10.then (o11.then Out.same))))))).mv),⟨_,rfl,nil_leaf2 6 n r v ⟨nm,3,[],0⟩⟩,rfl⟩
 refine(take_h ws q0 b0 tCount hg hq0 (by decide) (by decide)).holds.useT [] [] rfl (sk) (sk) fun e0 H0 hq=>?_
 obtain⟨rfl,rfl⟩:=hq.2 c2
 refine⟨rfl,_,⟨3,(0,rrO ws q0 b0)::[(2,zc),(1,zc)]⟩,rfl,rfl,?_⟩
 refine(rref_h ws q0 b0 hg hq0).holds.useT [] [] rfl (sk) (sk) fun e0 H0 hq=>?_
 obtain⟨rf,q1,b1,q1l,o1,rfl,rfl⟩:=hq
 refine⟨rfl,_,⟨3,(0,rrO ws q1 b1)::[(2,zc),(1,zc)]⟩,rfl,rfl,?_⟩
 by_cases c3:Tk ws b1 q1 tIn
 rotate_left
 ·refine(take_h ws q1 b1 tIn hg q1l (by decide) (by decide)).holds.useT [] [] rfl (sk) (sk) fun e0 H0 hq=>?_
  obtain⟨rfl,rfl⟩:=hq.2 c3
  refine⟨rfl,_,⟨3,(0,rrO ws q1 b1)::[(2,lf 0 0 0 0 rf),(1,zc)]⟩,rfl,rfl,?_⟩
  refine(rrel_h ws q1 b1 hg q1l).holds.useT [] [] rfl (sk) (sk) fun e0 H0 hq=>?_
  obtain⟨o,q2,b2,q2l,o2,rfl,rfl⟩:=hq
  refine⟨rfl,_,⟨3,(0,rrO ws q2 b2)::[(2,lf 0 0 0 0 rf),(1,zc)]⟩,rfl,rfl,?_⟩
  refine(rnum_h ws q2 b2 hg q2l).holds.useT [] [] rfl (sk) (sk) fun e0 H0 hq=>?_
  obtain⟨n,q3,b3,q3l,o3,rfl,rfl⟩:=hq
  refine⟨rfl,_,⟨3,(0,rrO ws q3 b3)::[(2,lf o 0 0 0 rf),(1,zc)]⟩,rfl,rfl,?_⟩
  exact⟨[],[],[], .returned (.p (.agg [i64 o,i64 n,i64 0,i64 0, .str rf.name,i64 rf.mode, .str rf.plate,i64 rf.n, .nils, .nils])),rrH ws q3 b3,rfl,sk,sk, .mk o n 0 0 rf [] [],q3,b3,q3l,by rw [testR];exact Out.no c1 (Out.no c2 (o1.then (Out.no c3 (o2.then (o3.then Out.same))))),⟨_,rfl,nil_leaf2 o n 0 0 rf⟩,rfl⟩
 have q2l:q1+1≤ws.length:=txt_lt (by rw [c3.2];decide)
 refine(take_h ws q1 b1 tIn hg q1l (by decide) (by decide)).holds.useT [] [] rfl (sk) (sk) fun e0 H0 hq=>?_
 obtain⟨rfl,rfl⟩:=hq.1 c3
 refine⟨rfl,_,⟨3,(0,rrO ws (q1+1) false)::[(2,lf 0 0 0 0 rf),(1,zc)]⟩,rfl,rfl,?_⟩
 refine(must_h ws (q1+1) false tLC hg q2l (by decide) (by decide)).holds.useT [] [] rfl (sk) (sk) fun e0 H0 hq=>?_
 obtain⟨u3,q3,b3,q3l,o3,rfl,rfl⟩:=hq
 refine⟨rfl,_,⟨3,(0,rrO ws q3 b3)::[(2,lf 5 0 0 0 rf),(1,zc)]⟩,rfl,rfl,?_⟩
 refine(rnum_h ws q3 b3 hg q3l).holds.useT [] [] rfl (sk) (sk) fun e0 H0 hq=>?_
 obtain⟨n0,q4,b4,q4l,o4,rfl,rfl⟩:=hq
 refine⟨rfl,_,⟨3,(0,rrO ws q4 b4)::[(2,lf 5 0 0 0 rf),(1,zc)]⟩,rfl,rfl,?_⟩
 refine((insert_c [] n0 List.Pairwise.nil (by simp)).arg (nil_ins n0)).eq rfl ?_
 have hlt1:b1=false:=c3.1
 have hFq:b3=false→ws.length - q4<F∧(b4=false→q3<q4):=fun e=>by
  subst e
  have h3:=must_lt (out_inr o3)
  subst hlt1
  have hb0:=o1.live
  subst hb0
  have h1:=ref_lt (out_inr o1)
  refine⟨?_,fun e=>?_⟩
  ·cases b4
   ·have:=num_lt (out_inr o4)
    omega
   ·have:q3≤q4:=by
     have h4:numR ws q3=.inl q4:=o4
     rw [numR] at h4
     split at h4
     ·cases h4
     ·injection h4 with h4;omega
    omega
  ·subst e;exact num_lt (out_inr o4)
 have hlist:LK b3 q3 (listR ws (numR ws) F q3) (fun f=>moreR ws (numR ws) f [n0] q4) ws.length q4 b4:=⟨F,fun e=>by subst e;exact(hFq o4.live).1,fun l q' b' ho=>o4.then ho⟩
 refine⟨List Int × List Int × Nat × Bool,fun x=>[(0, .ptr 0 0 0),(2, .ptr 1 0 0),(4, .ptr 2 0 0)],fun x=>⟨3,[(0,rrO ws x.2.2.1 x.2.2.2),(2,lfI rf x.2.1),(1,zc)]⟩,fun x=>x.2.2.1≤ws.length∧(x.2.2.2=false→x.1.length≤x.2.2.1)∧x.1.length≤1501∧(x.2.1=setN x.1∧Inc x.2.1∧x.2.1.length≤x.1.length)∧LK b3 q3 (listR ws (numR ws) F q3) (fun f=>moreR ws (numR ws) f x.1 x.2.2.1) ws.length x.2.2.1 x.2.2.2,fun x=>if x.2.2.2=true then 0 else ws.length+1 - x.2.2.1,?_,?_⟩
 ·exact⟨([n0],[n0],q4,b4),⟨q4l,fun e=>by simp only [] at e;have:=(hFq (by subst e;exact o4.live)).2 e;simp only [List.length_singleton];omega,by simp,⟨rfl,by simp [Inc],by simp⟩,hlist⟩,ent_of [] [] [] rfl (sk) (sk) rfl⟩
 clear hlist hFq
 rintro⟨acc,s,q,b⟩ ⟨k1,k2,k3,⟨k5,k6,k7⟩,k4⟩
 simp only [] at k1 k2 k3 k4 k5 k6 k7
 by_cases c:Tk ws b q tComma
 ·have ql:q+1≤ws.length:=txt_lt (by rw [c.2];decide)
  refine(take_h ws q b tComma hg k1 (by decide) (by decide)).holds.useT [] [] rfl (sk) (sk) fun e0 H0 hq=>?_
  obtain⟨rfl,rfl⟩:=hq.1 c
  refine⟨rfl,_,⟨3,(0,rrO ws (q+1) false)::[(2,lfI rf s),(1,zc)]⟩,rfl,rfl,?_⟩
  refine VDraw.seq rfl ?_
  refine(rnum_h ws (q+1) false hg ql).holds.useT [] [] rfl (sk) (sk) fun e0 H0 hq=>?_
  obtain⟨n,q5,b5,q5l,o5,rfl,rfl⟩:=hq
  refine⟨rfl,_,⟨3,(0,rrO ws q5 b5)::[(2,lfI rf s),(1,zc)]⟩,rfl,rfl,?_⟩
  refine⟨sk,?_⟩
  refine(insert_c s n k6 (by omega)).eq rfl ?_
  have hal:=k2 c.1
  have hlt:b5=false→q+1<q5:=fun e=>by subst e;exact num_lt (out_inr o5)
  have hil:=ins_len s n
  have c':=c
  obtain⟨rfl,ct⟩:=c'
  exact⟨(acc++[n],insN s n,q5,b5),⟨q5l,fun e=>by have:=hlt e;show(acc++[n]).length≤q5;rw [snoc_len];omega,by show(acc++[n]).length≤1501;rw [snoc_len];omega,⟨by show insN s n=setN (acc++[n]);rw [set_snoc,k5],ins_inc s n k6,by show(insN s n).length≤(acc++[n]).length;rw [snoc_len];omega⟩,k4.step (fun f l q' b' ho=>by rw [moreR];exact Out.yes ⟨rfl,ct⟩ (o5.then ho).mv) (fun e=>⟨by have:=hlt e;show q<q5;omega,q5l⟩)⟩,ent_of [] [] [] rfl (sk) (sk) rfl,by show(if b5=true then 0 else ws.length+1 - q5)<(if false=true then 0 else ws.length+1 - q);cases b5 <;> simp <;> (try have:=hlt rfl) <;> omega⟩
 ·refine(take_h ws q b tComma hg k1 (by decide) (by decide)).holds.useT [] [] rfl (sk) (sk) fun e0 H0 hq=>?_
  obtain⟨rfl,rfl⟩:=hq.2 c
  refine⟨rfl,_,⟨3,(0,rrO ws q b)::[(2,lfI rf s),(1,zc)]⟩,rfl,rfl,?_⟩
  have ol:=k4.stop (fun e f=>by rw [moreR,if_neg (fun h=>c ⟨e,h⟩)])
  refine(must_h ws q b tRC hg k1 (by decide) (by decide)).holds.useT [] [] rfl (sk) (sk) fun e0 H0 hq=>?_
  obtain⟨u6,q6,b6,q6l,o6,rfl,rfl⟩:=hq
  refine⟨rfl,_,⟨3,(0,rrO ws q6 b6)::[(2,lfI rf s),(1,zc)]⟩,rfl,rfl,?_⟩
  exact⟨[],[],[], .returned (.p (.agg [i64 5,i64 0,i64 0,i64 0, .str rf.name,i64 rf.mode, .str rf.plate,i64 rf.n,ints s, .nils])),rrH ws q6 b6,rfl,sk,sk, .mk 5 0 0 0 rf s [],q6,b6,q6l,by rw [testR];exact Out.no c1 (Out.no c2 (o1.then (Out.yes c3 (o3.then (ol.then (o6.then (Out.ret (by rw [k5]))))).mv))),⟨_,rfl,nil_leaf 5 0 0 0 rf s⟩,rfl⟩
structure RAll (ws:List Wd) (f:Nat):Prop where
 cond:∀ q b,q≤ws.length→4 * (ws.length - q)+4≤f→RCondOK ws f q b
 conj:∀ q b,q≤ws.length→4 * (ws.length - q)+3≤f→HoldsG cx 173 [.ptr 0 0 0] (rrH ws q b) (RC ws b q (conjR ws f q))
 neg:∀ q b,q≤ws.length→4 * (ws.length - q)+2≤f→HoldsG cx 194 [.ptr 0 0 0] (rrH ws q b) (RC ws b q (negR ws f q))
 test:∀ q b,q≤ws.length→4 * (ws.length - q)+1≤f→HoldsG cx 203 [.ptr 0 0 0] (rrH ws q b) (RC ws b q (testR ws f q))
theorem rneg_h (ws:List Wd) (F q0:Nat) (b0:Bool) (hg:GoodW ws) (hq0:q0≤ws.length) (hF:4 * (ws.length - q0)+2≤F+1) (ih:RAll ws F) :
  HoldsG cx 194 [.ptr 0 0 0] (rrH ws q0 b0) (RC ws b0 q0 (negR ws (F+1) q0)):=by
 refine holdsN_of_vc Tryz.func194 rfl rfl rfl ?_
 have hl:=hg.len
 by_cases c1:Tk ws b0 q0 tNot
 ·have q1l:q0+1≤ws.length:=txt_lt (by rw [c1.2];decide)
  refine(take_h ws q0 b0 tNot hg hq0 (by decide) (by decide)).holds.useT [] [] rfl (sk) (sk) fun e0 H0 hq=>?_
  obtain⟨rfl,rfl⟩:=hq.1 c1
  refine⟨rfl,_,⟨2,(0,rrO ws (q0+1) false)::[(1,zc)]⟩,rfl,rfl,?_⟩
  refine(ih.neg (q0+1) false q1l (by omega)).holds.useT [] [] rfl (sk) (sk) fun e0 H0 hq=>?_
  obtain⟨⟨o,n,rl,vl,rf,st,ar⟩,q2,b2,q2l,o2,rfl,rfl⟩:=hq
  refine⟨rfl,_,⟨2,(0,rrO ws q2 b2)::[(1,zc)]⟩,rfl,rfl,?_⟩
  exact⟨[2],[],[], .returned (.p (Cd.mk 7 0 0 0 rf0 [] [.mk o n rl vl rf st ar]).pv),rrH ws q2 b2,rfl,⟨_,rfl,⟨_,rfl,_,_,rfl,rfl,_,_,rfl,rfl,_,_,rfl,rfl,_,_,rfl,rfl,_,_,rfl,rfl,_,_,rfl,rfl,_,_,rfl,rfl,_,_,rfl,rfl,_,_,rfl, .inr (.inl rfl),_,_,rfl,⟨_,rfl,by show 0+1≤1;omega,rfl⟩,rfl⟩⟩,sk,_,q2,b2,q2l,by rw [negR];exact Out.yes c1 (o2.then Out.same).mv,rfl,rfl⟩
 refine(take_h ws q0 b0 tNot hg hq0 (by decide) (by decide)).holds.useT [] [] rfl (sk) (sk) fun e0 H0 hq=>?_
 obtain⟨rfl,rfl⟩:=hq.2 c1
 refine⟨rfl,_,⟨2,(0,rrO ws q0 b0)::[(1,zc)]⟩,rfl,rfl,?_⟩
 refine(ih.test q0 b0 hq0 (by omega)).holds.useT [] [] rfl (sk) (sk) fun e0 H0 hq=>?_
 obtain⟨⟨o,n,rl,vl,rf,st,ar⟩,q2,b2,q2l,o2,rfl,rfl⟩:=hq
 refine⟨rfl,_,⟨2,(0,rrO ws q2 b2)::[(1,zc)]⟩,rfl,rfl,?_⟩
 exact⟨[],[],[], .returned (.p (Cd.mk o n rl vl rf st ar).pv),rrH ws q2 b2,rfl,sk,sk,_,q2,b2,q2l,by rw [negR];exact Out.no c1 o2,rfl,rfl⟩
theorem rconj_h (ws:List Wd) (F q0:Nat) (b0:Bool) (hg:GoodW ws) (hq0:q0≤ws.length) (hF:4 * (ws.length - q0)+3≤F+1) (ih:∀ f,f≤F→RAll ws f) :
  HoldsG cx 173 [.ptr 0 0 0] (rrH ws q0 b0) (RC ws b0 q0 (conjR ws (F+1) q0)):=by
 refine holdsN_of_vc Tryz.func173 rfl rfl rfl ?_
 have hl:=hg.len
 refine((ih F (Nat.le_refl _)).neg q0 b0 hq0 (by omega)).holds.useT [] [] rfl (sk) (sk) fun e0 H0 hq=>?_
 obtain⟨⟨o,n,rl,vl,rf,st,ar⟩,q1,b1,q1l,o1,rfl,rfl⟩:=hq
 refine⟨rfl,_,⟨2,(0,rrO ws q1 b1)::[(1,zc)]⟩,rfl,rfl,?_⟩
 have hlt1:b1=false→q0<q1:=fun e=>by
  subst e
  have:=o1.live
  subst this
  exact neg_lt F (out_inr o1)
 refine⟨Cd × Nat × Bool,fun x=>[(0, .ptr 0 0 0),(2, .ptr 1 0 0),(3, .ptr 2 0 0)],fun x=>⟨3,[(2,cO (x.1.cells.map .p)),(0,rrO ws x.2.1 x.2.2),(1,zc)]⟩,fun x=>x.2.1≤ws.length∧∃ f,f≤F∧(x.2.2=false→4 * (ws.length - x.2.1)+2≤f)∧∀ l q' b',Out x.2.2 x.2.1 (andR ws f x.1 x.2.1) l q' b'→Out b0 q0 (conjR ws (F+1) q0) l q' b',fun x=>if x.2.2=true then 0 else ws.length+1 - x.2.1,?_,?_⟩
 ·exact⟨(.mk o n rl vl rf st ar,q1,b1),⟨q1l,F,Nat.le_refl _,fun e=>by simp only [] at e ⊢;have:=hlt1 e;omega,fun l q' b' ho=>by rw [conjR];exact o1.then ho⟩,ent_of [] [] [] rfl (sk) (sk) rfl⟩
 clear o1 hlt1
 rintro⟨⟨o,n,rl,vl,rf,st,ar⟩,q,b⟩ ⟨k1,f,k0,k2,k3⟩
 simp only [] at k1 k0 k2 k3
 by_cases c1:Tk ws b q tAnd
 ·have ql:q+1≤ws.length:=txt_lt (by rw [c1.2];decide)
  have hf:=k2 c1.1
  obtain⟨f,rfl⟩:∃ g,f=g+1:=⟨f - 1,by omega⟩
  refine(take_h ws q b tAnd hg k1 (by decide) (by decide)).holds.useT [] [] rfl (sk) (sk) fun e0 H0 hq=>?_
  obtain⟨rfl,rfl⟩:=hq.1 c1
  refine⟨rfl,_,⟨3,(0,rrO ws (q+1) false)::[(2,cO ((Cd.mk o n rl vl rf st ar).cells.map .p)),(1,zc)]⟩,rfl,rfl,?_⟩
  refine VDraw.seq rfl ?_
  refine((ih f (by omega)).neg (q+1) false ql (by omega)).holds.useT [] [] rfl (sk) (sk) fun e0 H0 hq=>?_
  obtain⟨⟨o',n',rl',vl',rf',st',ar'⟩,q2,b2,q2l,o2,rfl,rfl⟩:=hq
  have hlt2:b2=false→q+1<q2:=fun e=>by subst e;exact neg_lt f (out_inr o2)
  refine⟨rfl,_,⟨3,(0,rrO ws q2 b2)::[(2,cO ((Cd.mk o n rl vl rf st ar).cells.map .p)),(1,zc)]⟩,rfl,rfl,?_⟩
  refine⟨sk,?_⟩
  have c':=c1
  obtain⟨rfl,ct⟩:=c'
  exact⟨(.mk 8 0 0 0 rf0 [] [.mk o n rl vl rf st ar, .mk o' n' rl' vl' rf' st' ar'],q2,b2),⟨q2l,f,by omega,fun e=>by simp only [] at e ⊢;have:=hlt2 e;omega,fun l q' b' ho=>k3 l q' b' (by rw [andR];exact Out.yes ⟨rfl,ct⟩ (o2.then ho).mv)⟩,ent_of [3] [] [] rfl ⟨⟨rfl,rfl⟩,⟨rfl,rfl⟩,⟨rfl,rfl⟩,trivial⟩
   ⟨⟨_,rfl,rfl,rfl,_,rfl,_,_,rfl,rfl,_,_,rfl,rfl,_,_,rfl,rfl,_,_,rfl,rfl,_,_,rfl,rfl,_,_,rfl,rfl,_,_,rfl,rfl,_,_,rfl,rfl,_,_,rfl, .inr (.inl rfl),_,_,rfl,⟨_,rfl,by show 0+2≤2;omega,rfl⟩,rfl⟩,sk⟩ rfl,by show(if b2=true then 0 else ws.length+1 - q2)<(if false=true then 0 else ws.length+1 - q);cases b2 <;> simp <;> (try have:=hlt2 rfl) <;> omega⟩
 ·refine(take_h ws q b tAnd hg k1 (by decide) (by decide)).holds.useT [] [] rfl (sk) (sk) fun e0 H0 hq=>?_
  obtain⟨rfl,rfl⟩:=hq.2 c1
  refine⟨rfl,_,⟨3,(0,rrO ws q b)::[(2,cO ((Cd.mk o n rl vl rf st ar).cells.map .p)),(1,zc)]⟩,rfl,rfl,?_⟩
  have hst:Out b q (andR ws f (.mk o n rl vl rf st ar) q) (.mk o n rl vl rf st ar) q b:=by
   cases b
   ·have hf:=k2 rfl
    obtain⟨f,rfl⟩:∃ g,f=g+1:=⟨f - 1,by omega⟩
    rw [andR,if_neg (fun h=>c1 ⟨rfl,h⟩)]
    exact Out.same
   ·exact Out.bad
  exact⟨[],[],[], .returned (.p (Cd.mk o n rl vl rf st ar).pv),rrH ws q b,rfl,sk,sk,_,q,b,k1,k3 _ _ _ hst,rfl,rfl⟩
theorem rcond_h (ws:List Wd) (F q0:Nat) (b0:Bool) (hg:GoodW ws) (hq0:q0≤ws.length) (hF:4 * (ws.length - q0)+4≤F+1) (ih:∀ f,f≤F→RAll ws f) :
  HoldsG cx 139 [.ptr 0 0 0] (rrH ws q0 b0) (RC ws b0 q0 (condR ws (F+1) q0)):=by
 refine holdsN_of_vc Tryz.func139 rfl rfl rfl ?_
 have hl:=hg.len
 refine((ih F (Nat.le_refl _)).conj q0 b0 hq0 (by omega)).holds.useT [] [] rfl (sk) (sk) fun e0 H0 hq=>?_
 obtain⟨⟨o,n,rl,vl,rf,st,ar⟩,q1,b1,q1l,o1,rfl,rfl⟩:=hq
 refine⟨rfl,_,⟨2,(0,rrO ws q1 b1)::[(1,zc)]⟩,rfl,rfl,?_⟩
 have hlt1:b1=false→q0<q1:=fun e=>by
  subst e
  have:=o1.live
  subst this
  exact conj_lt F (out_inr o1)
 refine⟨Cd × Nat × Bool,fun x=>[(0, .ptr 0 0 0),(2, .ptr 1 0 0),(3, .ptr 2 0 0)],fun x=>⟨3,[(2,cO (x.1.cells.map .p)),(0,rrO ws x.2.1 x.2.2),(1,zc)]⟩,fun x=>x.2.1≤ws.length∧∃ f,f≤F∧(x.2.2=false→4 * (ws.length - x.2.1)+3≤f)∧∀ l q' b',Out x.2.2 x.2.1 (orR ws f x.1 x.2.1) l q' b'→Out b0 q0 (condR ws (F+1) q0) l q' b',fun x=>if x.2.2=true then 0 else ws.length+1 - x.2.1,?_,?_⟩
 ·exact⟨(.mk o n rl vl rf st ar,q1,b1),⟨q1l,F,Nat.le_refl _,fun e=>by simp only [] at e ⊢;have:=hlt1 e;omega,fun l q' b' ho=>by rw [condR];exact o1.then ho⟩,ent_of [] [] [] rfl (sk) (sk) rfl⟩
 clear o1 hlt1
 rintro⟨⟨o,n,rl,vl,rf,st,ar⟩,q,b⟩ ⟨k1,f,k0,k2,k3⟩
 simp only [] at k1 k0 k2 k3
 by_cases c1:Tk ws b q tOr
 ·have ql:q+1≤ws.length:=txt_lt (by rw [c1.2];decide)
  have hf:=k2 c1.1
  obtain⟨f,rfl⟩:∃ g,f=g+1:=⟨f - 1,by omega⟩
  refine(take_h ws q b tOr hg k1 (by decide) (by decide)).holds.useT [] [] rfl (sk) (sk) fun e0 H0 hq=>?_
  obtain⟨rfl,rfl⟩:=hq.1 c1
  refine⟨rfl,_,⟨3,(0,rrO ws (q+1) false)::[(2,cO ((Cd.mk o n rl vl rf st ar).cells.map .p)),(1,zc)]⟩,rfl,rfl,?_⟩
  refine VDraw.seq rfl ?_
  refine((ih f (by omega)).conj (q+1) false ql (by omega)).holds.useT [] [] rfl (sk) (sk) fun e0 H0 hq=>?_
  obtain⟨⟨o',n',rl',vl',rf',st',ar'⟩,q2,b2,q2l,o2,rfl,rfl⟩:=hq
  have hlt2:b2=false→q+1<q2:=fun e=>by subst e;exact conj_lt f (out_inr o2)
  refine⟨rfl,_,⟨3,(0,rrO ws q2 b2)::[(2,cO ((Cd.mk o n rl vl rf st ar).cells.map .p)),(1,zc)]⟩,rfl,rfl,?_⟩
  refine⟨sk,?_⟩
  have c':=c1
  obtain⟨rfl,ct⟩:=c'
  exact⟨(.mk 9 0 0 0 rf0 [] [.mk o n rl vl rf st ar, .mk o' n' rl' vl' rf' st' ar'],q2,b2),⟨q2l,f,by omega,fun e=>by simp only [] at e ⊢;have:=hlt2 e;omega,fun l q' b' ho=>k3 l q' b' (by rw [orR];exact Out.yes ⟨rfl,ct⟩ (o2.then ho).mv)⟩,ent_of [3] [] [] rfl ⟨⟨rfl,rfl⟩,⟨rfl,rfl⟩,⟨rfl,rfl⟩,trivial⟩
   ⟨⟨_,rfl,rfl,rfl,_,rfl,_,_,rfl,rfl,_,_,rfl,rfl,_,_,rfl,rfl,_,_,rfl,rfl,_,_,rfl,rfl,_,_,rfl,rfl,_,_,rfl,rfl,_,_,rfl,rfl,_,_,rfl, .inr (.inl rfl),_,_,rfl,⟨_,rfl,by show 0+2≤2;omega,rfl⟩,rfl⟩,sk⟩ rfl,by show(if b2=true then 0 else ws.length+1 - q2)<(if false=true then 0 else ws.length+1 - q);cases b2 <;> simp <;> (try have:=hlt2 rfl) <;> omega⟩
 ·refine(take_h ws q b tOr hg k1 (by decide) (by decide)).holds.useT [] [] rfl (sk) (sk) fun e0 H0 hq=>?_
  obtain⟨rfl,rfl⟩:=hq.2 c1
  refine⟨rfl,_,⟨3,(0,rrO ws q b)::[(2,cO ((Cd.mk o n rl vl rf st ar).cells.map .p)),(1,zc)]⟩,rfl,rfl,?_⟩
  have hst:Out b q (orR ws f (.mk o n rl vl rf st ar) q) (.mk o n rl vl rf st ar) q b:=by
   cases b
   ·have hf:=k2 rfl
    obtain⟨f,rfl⟩:∃ g,f=g+1:=⟨f - 1,by omega⟩
    rw [orR,if_neg (fun h=>c1 ⟨rfl,h⟩)]
    exact Out.same
   ·exact Out.bad
  exact⟨[],[],[], .returned (.p (Cd.mk o n rl vl rf st ar).pv),rrH ws q b,rfl,sk,sk,_,q,b,k1,k3 _ _ _ hst,rfl,rfl⟩
theorem rc_all (ws:List Wd) (hg:GoodW ws):∀ F f,f≤F→RAll ws f
 | 0,f,hf=>by
  have:f=0:=by omega
  subst this
  exact⟨fun q _ _ h=>absurd h (by omega),fun q _ _ h=>absurd h (by omega),fun q _ _ h=>absurd h (by omega),fun q _ _ h=>absurd h (by omega)⟩
 | F+1,f,hf=>by
  have ih:=rc_all ws hg F
  by_cases h:f≤F
  ·exact ih f h
  have:f=F+1:=by omega
  subst this
  exact⟨fun q b hq hb=>rcond_h ws F q b hg hq hb ih,fun q b hq hb=>rconj_h ws F q b hg hq hb ih,fun q b hq hb=>rneg_h ws F q b hg hq hb (ih F (Nat.le_refl _)),fun q b hq hb=>rtest_h ws F q b hg hq hb fun q hq hb=>(ih F (Nat.le_refl _)).cond q false hq hb⟩
theorem rcond_all (ws:List Wd) (F q:Nat) (b:Bool) (hg:GoodW ws) (hq:q≤ws.length) (hF:4 * (ws.length - q)+4≤F):RCondOK ws F q b:=(rc_all ws hg F F (Nat.le_refl _)).cond q b hq hF
def RQG {α:Type} (ws:List Wd) (b:Bool) (q:Nat) (r:Rd α) (val:α→PV) (e:AE) (H':Hp):Prop:=∃ a q' b',q'≤ws.length∧Out b q r a q' b'∧(∃ y,e=.returned (.p y)∧NilD y (val a))∧H'=rrH ws q' b'
theorem rqG_weak {α:Type} {ws:List Wd} {b:Bool} {q:Nat} {g:FuncId} {args:List AV} {H:Hp} {r:Rd α} {val:α→PV} (h:HoldsG cx g args H (RQG ws b q r val)):HoldsG cx g args H (RQ ws b q r fun a=>.p (val a)):=
 h.weak fun e H' hq=>by
  obtain⟨c,q',b',h1,h2,⟨y,rfl,h3⟩,rfl⟩:=hq
  exact⟨.returned (.p (val c)),⟨_,rfl,by simp only [NilA];exact⟨_,rfl,h3⟩⟩,c,q',b',h1,h2,rfl,rfl⟩
def cC (c:Cd) (v:PV):AObj:=⟨TCase,false, .bx (c.cells.map .p++[.p v])⟩
theorem rrule_h (ws:List Wd) (F q0:Nat) (b0:Bool) (hF:4 * ws.length+8≤F) (hg:GoodW ws) (hq0:q0≤ws.length):HoldsG cx 101 [.ptr 0 0 0] (rrH ws q0 b0) (RQ ws b0 q0 (ruleR ws F q0) fun l=>.p (css l)):=by
 refine rqG_weak ?_
 refine holdsN_of_vc Tryz.func101 rfl rfl rfl ?_
 have hl:=hg.len
 refine(must_h ws q0 b0 tLC hg hq0 (by decide) (by decide)).holds.useT [] [] rfl (sk) (sk) fun e0 H0 hq=>?_
 obtain⟨u1,q1,b1,q1l,o1,rfl,rfl⟩:=hq
 refine⟨rfl,_,⟨1,(0,rrO ws q1 b1)::[]⟩,rfl,rfl,?_⟩
 refine⟨List Cs × Nat × Bool,fun x=>[(0, .ptr 0 0 0),(3, .sl 1 11 0 x.1.length)],fun x=>⟨2,[(1,csO x.1),(0,rrO ws x.2.1 x.2.2)]⟩,fun x=>x.2.1≤ws.length∧(x.2.2=false→x.1.length≤x.2.1)∧x.1.length≤1501∧LK b1 q1 (casesR ws F F [] q1) (fun f=>casesR ws F f x.1 x.2.1) ws.length x.2.1 x.2.2,fun x=>if x.2.2=true then 0 else ws.length+1 - x.2.1,?_,?_⟩
 ·exact⟨([],q1,b1),⟨q1l,fun _=>by simp,by simp,F,fun _=>by simp only [];omega,fun l q' b' ho=>ho⟩,ent_of [] [] [(1,11)] rfl (sk) (sk) rfl⟩
 rintro⟨acc,q,b⟩ ⟨k1,k2,k3,k4⟩
 simp only [] at k1 k2 k3 k4
 have hend:(b=true∨b=false∧txt ws q=tElse)→∀ {L:List Cs} {q9:Nat} {b9:Bool},Out b q ((mustR ws tElse q).then fun _ q=>ruleEnd ws F acc q) L q9 b9→Out b1 q1 (casesR ws F F [] q1) L q9 b9:=by
  intro hh L q9 b9 ho
  obtain⟨f,hf,hk⟩:=k4
  refine hk _ _ _ ?_
  rcases hh with rfl | ⟨rfl,ht⟩
  ·exact ho
  ·have:=hf rfl
   obtain⟨f,rfl⟩:∃ g,f=g+1:=⟨f - 1,by omega⟩
   simp only [] at ho ⊢
   rw [casesR,if_pos ht]
   rw [mustR,if_pos ht] at ho
   exact ho
 cases b
 rotate_left
 ·refine(must_h ws q true tElse hg k1 (by decide) (by decide)).holds.useT [] [] rfl (sk) (sk) fun e0 H0 hq=>?_
  obtain⟨u2,q2,b2,q2l,o2,rfl,rfl⟩:=hq
  refine⟨rfl,_,⟨2,(0,rrO ws q2 b2)::[(1,csO acc)]⟩,rfl,rfl,?_⟩
  refine(must_h ws q2 b2 tCol hg q2l (by decide) (by decide)).holds.useT [] [] rfl (sk) (sk) fun e0 H0 hq=>?_
  obtain⟨u3,q3,b3,q3l,o3,rfl,rfl⟩:=hq
  refine⟨rfl,_,⟨2,(0,rrO ws q3 b3)::[(1,csO acc)]⟩,rfl,rfl,?_⟩
  refine(rints_h ws F q3 b3 (by omega) hg q3l).holds.useT [] [] rfl (sk) (sk) fun e0 H0 hq=>?_
  obtain⟨l,q4,b4,q4l,o4,rfl,rfl⟩:=hq
  refine⟨rfl,_,⟨2,(0,rrO ws q4 b4)::[(1,csO acc)]⟩,rfl,rfl,?_⟩
  refine⟨by show 0+1≤1;omega,[endC l],rfl,?_⟩
  refine⟨by show 0+acc.length≤(acc.map Cs.cells).length;simp,acc.map Cs.cells,takeAll (by simp),by show(acc.length+1) * 152≤140737488355328;omega,acc.map Cs.cells++[endC l],rfl,?_⟩
  refine(must_h ws q4 b4 tRC hg q4l (by decide) (by decide)).holds.useT [] [] rfl (sk) (sk) fun e0 H0 hq=>?_
  obtain⟨u5,q5,b5,q5l,o5,rfl,rfl⟩:=hq
  refine⟨rfl,_,⟨4,(0,rrO ws q5 b5)::[(3,⟨TCase,false, .pus (acc.map Cs.cells++[endC l])⟩),(2,⟨TCase,false, .pus [endC l]⟩)]⟩,rfl,rfl,?_⟩
  exact⟨[3],[],[], .returned (.p (.lsts 11 (acc.map Cs.cells++[endC l]))),rrH ws q5 b5,rfl,⟨_,rfl,⟨_,rfl,by show 0+(acc.length+1)≤(acc.map Cs.cells++[endC l]).length;simp,takeAll (by simp)⟩⟩,sk,acc++[⟨cd0,l⟩],q5,b5,q5l,o1.then (hend (.inl rfl) (o2.then (o3.then (o4.then (o5.then Out.same))))),⟨_,rfl,nil_css acc l⟩,rfl⟩
 by_cases c:Tk ws false q tElse
 ·refine(is_h ws q false tElse hg k1 (by decide) (by decide)).holds.useT [] [] rfl (sk) (sk) fun e0 H0 hq=>?_
  obtain⟨rfl,rfl⟩:=hq.1 c
  refine⟨rfl,_,⟨2,(0,rrO ws q false)::[(1,csO acc)]⟩,rfl,rfl,?_⟩
  refine(must_h ws q false tElse hg k1 (by decide) (by decide)).holds.useT [] [] rfl (sk) (sk) fun e0 H0 hq=>?_
  obtain⟨u2,q2,b2,q2l,o2,rfl,rfl⟩:=hq
  refine⟨rfl,_,⟨2,(0,rrO ws q2 b2)::[(1,csO acc)]⟩,rfl,rfl,?_⟩
  refine(must_h ws q2 b2 tCol hg q2l (by decide) (by decide)).holds.useT [] [] rfl (sk) (sk) fun e0 H0 hq=>?_
  obtain⟨u3,q3,b3,q3l,o3,rfl,rfl⟩:=hq
  refine⟨rfl,_,⟨2,(0,rrO ws q3 b3)::[(1,csO acc)]⟩,rfl,rfl,?_⟩
  refine(rints_h ws F q3 b3 (by omega) hg q3l).holds.useT [] [] rfl (sk) (sk) fun e0 H0 hq=>?_
  obtain⟨l,q4,b4,q4l,o4,rfl,rfl⟩:=hq
  refine⟨rfl,_,⟨2,(0,rrO ws q4 b4)::[(1,csO acc)]⟩,rfl,rfl,?_⟩
  refine⟨by show 0+1≤1;omega,[endC l],rfl,?_⟩
  refine⟨by show 0+acc.length≤(acc.map Cs.cells).length;simp,acc.map Cs.cells,takeAll (by simp),by show(acc.length+1) * 152≤140737488355328;omega,acc.map Cs.cells++[endC l],rfl,?_⟩
  refine(must_h ws q4 b4 tRC hg q4l (by decide) (by decide)).holds.useT [] [] rfl (sk) (sk) fun e0 H0 hq=>?_
  obtain⟨u5,q5,b5,q5l,o5,rfl,rfl⟩:=hq
  refine⟨rfl,_,⟨4,(0,rrO ws q5 b5)::[(3,⟨TCase,false, .pus (acc.map Cs.cells++[endC l])⟩),(2,⟨TCase,false, .pus [endC l]⟩)]⟩,rfl,rfl,?_⟩
  exact⟨[3],[],[], .returned (.p (.lsts 11 (acc.map Cs.cells++[endC l]))),rrH ws q5 b5,rfl,⟨_,rfl,⟨_,rfl,by show 0+(acc.length+1)≤(acc.map Cs.cells++[endC l]).length;simp,takeAll (by simp)⟩⟩,sk,acc++[⟨cd0,l⟩],q5,b5,q5l,o1.then (hend (.inr c) (o2.then (o3.then (o4.then (o5.then Out.same))))),⟨_,rfl,nil_css acc l⟩,rfl⟩
 refine(is_h ws q false tElse hg k1 (by decide) (by decide)).holds.useT [] [] rfl (sk) (sk) fun e0 H0 hq=>?_
 obtain⟨rfl,rfl⟩:=hq.2 c
 refine⟨rfl,_,⟨2,(0,rrO ws q false)::[(1,csO acc)]⟩,rfl,rfl,?_⟩
 clear hend
 have hal:=k2 rfl
 refine(rcond_all ws F q false hg k1 (by omega)).holds.useT [] [] rfl (sk) (sk) fun e0 H0 hq=>?_
 obtain⟨⟨o,n,rl,vl,rf,st,ar⟩,q2,b2,q2l,o2,rfl,rfl⟩:=hq
 refine⟨rfl,_,⟨2,(0,rrO ws q2 b2)::[(1,csO acc)]⟩,rfl,rfl,?_⟩
 refine(must_h ws q2 b2 tCol hg q2l (by decide) (by decide)).holds.useT [] [] rfl (sk) (sk) fun e0 H0 hq=>?_
 obtain⟨u3,q3,b3,q3l,o3,rfl,rfl⟩:=hq
 refine⟨rfl,_,⟨3,(0,rrO ws q3 b3)::[(2,cC (.mk o n rl vl rf st ar) .nils),(1,csO acc)]⟩,rfl,rfl,?_⟩
 refine(rints_h ws F q3 b3 (by omega) hg q3l).holds.useT [] [] rfl (sk) (sk) fun e0 H0 hq=>?_
 obtain⟨l,q4,b4,q4l,o4,rfl,rfl⟩:=hq
 refine⟨rfl,_,⟨3,(0,rrO ws q4 b4)::[(2,cC (.mk o n rl vl rf st ar) .nils),(1,csO acc)]⟩,rfl,rfl,?_⟩
 refine(must_h ws q4 b4 tSemi hg q4l (by decide) (by decide)).holds.useT [] [] rfl (sk) (sk) fun e0 H0 hq=>?_
 obtain⟨u5,q5,b5,q5l,o5,rfl,rfl⟩:=hq
 refine⟨rfl,_,⟨3,(0,rrO ws q5 b5)::[(2,cC (.mk o n rl vl rf st ar) (ints l)),(1,csO acc)]⟩,rfl,rfl,?_⟩
 obtain⟨x,hx⟩:∃ x:Cs,x=⟨.mk o n rl vl rf st ar,l⟩:=⟨_,rfl⟩
 refine⟨by show 0+1≤1;omega,[x.cells],by rw [hx];rfl,?_⟩
 refine⟨by show 0+acc.length≤(acc.map Cs.cells).length;simp,acc.map Cs.cells,takeAll (by simp),by show(acc.length+1) * 152≤140737488355328;omega,(acc++[x]).map Cs.cells,by simp,?_⟩
 have hlt:b5=false→q+1≤q5:=fun e=>by
  subst e
  have h5:=o5.live
  subst h5
  have h4:=o4.live
  subst h4
  have h3:=o3.live
  subst h3
  have h2:=o2.live
  have g2:=cond_lt F (out_inr o2)
  have g3:=must_lt (out_inr o3)
  have g4:=nums_lt (out_inr o4)
  have g5:=must_lt (out_inr o5)
  omega
 exact⟨(acc++[x],q5,b5),⟨q5l,fun e=>by have:=hlt e;show(acc++[x]).length≤q5;rw [snoc_len];omega,by show(acc++[x]).length≤1501;rw [snoc_len];omega,k4.step (fun f l' q' b' ho=>by rw [casesR,if_neg (fun h=>c ⟨rfl,h⟩)];exact o2.then (o3.then (o4.then (o5.then (by rw [hx] at ho;exact ho))))) (fun e=>⟨by have:=hlt e;show q<q5;omega,q5l⟩)⟩,ent_of [] [(1,4)] [] rfl ⟨⟨rfl,rfl⟩,congrArg (fun k:Nat=>AV.sl 4 11 0 k) (snoc_len acc x).symm,trivial⟩ (sk) rfl,by show(if b5=true then 0 else ws.length+1 - q5)<(if false=true then 0 else ws.length+1 - q);cases b5 <;> simp <;> (try have:=hlt rfl) <;> omega⟩
def declS (ws:List Wd) (F q:Nat):Rd De:=(declR ws F q).then fun d q=>(mustR ws tSemi q).then fun _ q=>.inr (d,q)
def rdO (k n:Int) (nm pl:List UInt8) (rs cs:PV):AObj:=⟨TDecl,false, .bx [.p (i64 k), .p (i64 n), .p (.str nm), .p (.str pl), .p rs, .p cs]⟩
abbrev dz:AObj:=rdO 0 0 [] [] .nils .nils
theorem rnil_de {k n:Int} {nm pl:List UInt8} {l:List Rf} {cs:List Cs} {rs c2:PV} (h1:NilD rs (rfl_ l)) (h2:NilD c2 (css cs)):NilD (.agg [i64 k,i64 n, .str nm, .str pl,rs,c2]) (De.pv ⟨k,n,nm,pl,l,cs⟩):=by
 show NilD _ (.agg [i64 k,i64 n, .str nm, .str pl,rfl_ l,css cs])
 simp only [NilD,NilDL]
 exact⟨_,rfl,_,_,rfl,rfl,_,_,rfl,rfl,_,_,rfl,rfl,_,_,rfl,rfl,_,_,rfl,h1,_,_,rfl,h2,rfl⟩
theorem nil_lsts (s:Nat):NilD .nils (.lsts s []):=by simp only [NilD];exact .inr (.inr ⟨s,rfl⟩)
theorem rdecl_h (ws:List Wd) (F q0:Nat) (b0:Bool) (hF:4 * ws.length+8≤F) (hg:GoodW ws) (hq0:q0≤ws.length):HoldsG cx 56 [.ptr 0 0 0] (rrH ws q0 b0) (RQ ws b0 q0 (declS ws F q0) fun d=>.p d.pv):=by
 refine rqG_weak ?_
 refine holdsN_of_vc Tryz.func56 rfl rfl rfl ?_
 have hl:=hg.len
 by_cases c1:Tk ws b0 q0 tGrain
 ·have q1l:q0+1≤ws.length:=txt_lt (by rw [c1.2];decide)
  refine(take_h ws q0 b0 tGrain hg hq0 (by decide) (by decide)).holds.useT [] [] rfl (sk) (sk) fun e0 H0 hq=>?_
  obtain⟨rfl,rfl⟩:=hq.1 c1
  refine⟨rfl,_,⟨3,(0,rrO ws (q0+1) false)::[(2,dz),(1,dz)]⟩,rfl,rfl,?_⟩
  refine(rnum_h ws (q0+1) false hg q1l).holds.useT [] [] rfl (sk) (sk) fun e0 H0 hq=>?_
  obtain⟨n,q2,b2,q2l,o2,rfl,rfl⟩:=hq
  refine⟨rfl,_,⟨3,(0,rrO ws q2 b2)::[(2,dz),(1,dz)]⟩,rfl,rfl,?_⟩
  refine(must_h ws q2 b2 tSemi hg q2l (by decide) (by decide)).holds.useT [] [] rfl (sk) (sk) fun e0 H0 hq=>?_
  obtain⟨u9,q9,b9,q9l,o9,rfl,rfl⟩:=hq
  refine⟨rfl,_,⟨3,(0,rrO ws q9 b9)::[(2,rdO 1 n [] [] .nils .nils),(1,dz)]⟩,rfl,rfl,?_⟩
  exact⟨[],[],[], .returned (.p (.agg [i64 1,i64 n, .str [], .str [], .nils, .nils])),rrH ws q9 b9,rfl,sk,sk,⟨1,n,[],[],[],[]⟩,q9,b9,q9l,Out.then (by rw [declR];exact Out.yes c1 (o2.then Out.same).mv) (o9.then Out.same),⟨_,rfl,rnil_de (by first | exact NilD.refl _ | exact nil_lsts 4) (by first | exact NilD.refl _ | exact nil_lsts 11)⟩,rfl⟩
 refine(take_h ws q0 b0 tGrain hg hq0 (by decide) (by decide)).holds.useT [] [] rfl (sk) (sk) fun e0 H0 hq=>?_
 obtain⟨rfl,rfl⟩:=hq.2 c1
 refine⟨rfl,_,⟨3,(0,rrO ws q0 b0)::[(2,dz),(1,dz)]⟩,rfl,rfl,?_⟩
 by_cases c2:Tk ws b0 q0 tPlate
 ·have q1l:q0+1≤ws.length:=txt_lt (by rw [c2.2];decide)
  refine(take_h ws q0 b0 tPlate hg hq0 (by decide) (by decide)).holds.useT [] [] rfl (sk) (sk) fun e0 H0 hq=>?_
  obtain⟨rfl,rfl⟩:=hq.1 c2
  refine⟨rfl,_,⟨3,(0,rrO ws (q0+1) false)::[(2,dz),(1,dz)]⟩,rfl,rfl,?_⟩
  refine(rname_h ws (q0+1) false hg q1l).holds.useT [] [] rfl (sk) (sk) fun e0 H0 hq=>?_
  obtain⟨nm,q2,b2,q2l,o2,rfl,rfl⟩:=hq
  refine⟨rfl,_,⟨3,(0,rrO ws q2 b2)::[(2,dz),(1,dz)]⟩,rfl,rfl,?_⟩
  refine(must_h ws q2 b2 tEq hg q2l (by decide) (by decide)).holds.useT [] [] rfl (sk) (sk) fun e0 H0 hq=>?_
  obtain⟨u3,q3,b3,q3l,o3,rfl,rfl⟩:=hq
  refine⟨rfl,_,⟨3,(0,rrO ws q3 b3)::[(2,rdO 2 0 nm [] .nils .nils),(1,dz)]⟩,rfl,rfl,?_⟩
  refine(rnum_h ws q3 b3 hg q3l).holds.useT [] [] rfl (sk) (sk) fun e0 H0 hq=>?_
  obtain⟨n,q4,b4,q4l,o4,rfl,rfl⟩:=hq
  refine⟨rfl,_,⟨3,(0,rrO ws q4 b4)::[(2,rdO 2 0 nm [] .nils .nils),(1,dz)]⟩,rfl,rfl,?_⟩
  refine(must_h ws q4 b4 tSemi hg q4l (by decide) (by decide)).holds.useT [] [] rfl (sk) (sk) fun e0 H0 hq=>?_
  obtain⟨u9,q9,b9,q9l,o9,rfl,rfl⟩:=hq
  refine⟨rfl,_,⟨3,(0,rrO ws q9 b9)::[(2,rdO 2 n nm [] .nils .nils),(1,dz)]⟩,rfl,rfl,?_⟩
  exact⟨[],[],[], .returned (.p (.agg [i64 2,i64 n, .str nm, .str [], .nils, .nils])),rrH ws q9 b9,rfl,sk,sk,⟨2,n,nm,[],[],[]⟩,q9,b9,q9l,Out.then (by rw [declR];exact Out.no c1 (Out.yes c2 (o2.then (o3.then (o4.then Out.same))).mv)) (o9.then Out.same),⟨_,rfl,rnil_de (by first | exact NilD.refl _ | exact nil_lsts 4) (by first | exact NilD.refl _ | exact nil_lsts 11)⟩,rfl⟩
 refine(take_h ws q0 b0 tPlate hg hq0 (by decide) (by decide)).holds.useT [] [] rfl (sk) (sk) fun e0 H0 hq=>?_
 obtain⟨rfl,rfl⟩:=hq.2 c2
 refine⟨rfl,_,⟨3,(0,rrO ws q0 b0)::[(2,dz),(1,dz)]⟩,rfl,rfl,?_⟩
 by_cases c3:Tk ws b0 q0 tNode
 ·have q1l:q0+1≤ws.length:=txt_lt (by rw [c3.2];decide)
  refine(take_h ws q0 b0 tNode hg hq0 (by decide) (by decide)).holds.useT [] [] rfl (sk) (sk) fun e0 H0 hq=>?_
  obtain⟨rfl,rfl⟩:=hq.1 c3
  refine⟨rfl,_,⟨3,(0,rrO ws (q0+1) false)::[(2,dz),(1,dz)]⟩,rfl,rfl,?_⟩
  refine(rname_h ws (q0+1) false hg q1l).holds.useT [] [] rfl (sk) (sk) fun e0 H0 hq=>?_
  obtain⟨nm,q2,b2,q2l,o2,rfl,rfl⟩:=hq
  refine⟨rfl,_,⟨3,(0,rrO ws q2 b2)::[(2,dz),(1,dz)]⟩,rfl,rfl,?_⟩
  have hb:∀ {d:De} {q9:Nat} {b9:Bool},Out b2 q2 (if txt ws q2=tLB then(nameR ws (q2+1)).then fun pl q=>(mustR ws tRB q).then fun _ q=>nodeTail ws F nm pl q else nodeTail ws F nm [] q2) d q9 b9→Out b0 q0 (declR ws F q0) d q9 b9:=
   fun ho=>by rw [declR];exact Out.no c1 (Out.no c2 (Out.yes c3 (o2.then ho).mv))
  by_cases c4:Tk ws b2 q2 tLB
  ·have q3l:q2+1≤ws.length:=txt_lt (by rw [c4.2];decide)
   refine(take_h ws q2 b2 tLB hg q2l (by decide) (by decide)).holds.useT [] [] rfl (sk) (sk) fun e0 H0 hq=>?_
   obtain⟨rfl,rfl⟩:=hq.1 c4
   refine⟨rfl,_,⟨3,(0,rrO ws (q2+1) false)::[(2,rdO 3 0 nm [] .nils .nils),(1,dz)]⟩,rfl,rfl,?_⟩
   refine(rname_h ws (q2+1) false hg q3l).holds.useT [] [] rfl (sk) (sk) fun e0 H0 hq=>?_
   obtain⟨pl,q3a,b3a,q3al,o3a,rfl,rfl⟩:=hq
   refine⟨rfl,_,⟨3,(0,rrO ws q3a b3a)::[(2,rdO 3 0 nm [] .nils .nils),(1,dz)]⟩,rfl,rfl,?_⟩
   refine(must_h ws q3a b3a tRB hg q3al (by decide) (by decide)).holds.useT [] [] rfl (sk) (sk) fun e0 H0 hq=>?_
   obtain⟨u3,q3,b3,q3l,o3,rfl,rfl⟩:=hq
   refine⟨rfl,_,⟨3,(0,rrO ws q3 b3)::[(2,rdO 3 0 nm pl .nils .nils),(1,dz)]⟩,rfl,rfl,?_⟩
   have hb2:∀ {d:De} {q9:Nat} {b9:Bool},Out b3 q3 (nodeTail ws F nm pl q3) d q9 b9→Out b0 q0 (declR ws F q0) d q9 b9:=fun ho=>hb (Out.yes c4 (o3a.then (o3.then ho)).mv)
   refine(must_h ws q3 b3 tCol hg q3l (by decide) (by decide)).holds.useT [] [] rfl (sk) (sk) fun e0 H0 hq=>?_
   obtain⟨u4,q4,b4,q4l,o4,rfl,rfl⟩:=hq
   refine⟨rfl,_,⟨3,(0,rrO ws q4 b4)::[(2,rdO 3 0 nm pl .nils .nils),(1,dz)]⟩,rfl,rfl,?_⟩
   refine(rnum_h ws q4 b4 hg q4l).holds.useT [] [] rfl (sk) (sk) fun e0 H0 hq=>?_
   obtain⟨n,q5,b5,q5l,o5,rfl,rfl⟩:=hq
   refine⟨rfl,_,⟨3,(0,rrO ws q5 b5)::[(2,rdO 3 0 nm pl .nils .nils),(1,dz)]⟩,rfl,rfl,?_⟩
   refine(rrefs_h ws F q5 b5 tFrom (by decide) (by decide) (by omega) hg q5l).holds.useT [] [] rfl (sk) (sk) fun e0 H0 hq=>?_
   obtain⟨l,q6,b6,q6l,o6,rfl,rfl⟩:=hq
   refine⟨rfl,_,⟨3,(0,rrO ws q6 b6)::[(2,rdO 3 n nm pl .nils .nils),(1,dz)]⟩,rfl,rfl,?_⟩
   refine(must_h ws q6 b6 tEq hg q6l (by decide) (by decide)).holds.useT [] [] rfl (sk) (sk) fun e0 H0 hq=>?_
   obtain⟨u7,q7,b7,q7l,o7,rfl,rfl⟩:=hq
   refine⟨rfl,_,⟨3,(0,rrO ws q7 b7)::[(2,rdO 3 n nm pl (rfl_ l) .nils),(1,dz)]⟩,rfl,rfl,?_⟩
   refine(rrule_h ws F q7 b7 hF hg q7l).holds.useT [] [] rfl (sk) (sk) fun e0 H0 hq=>?_
   obtain⟨cs,q8,b8,q8l,o8,rfl,rfl⟩:=hq
   refine⟨rfl,_,⟨3,(0,rrO ws q8 b8)::[(2,rdO 3 n nm pl (rfl_ l) .nils),(1,dz)]⟩,rfl,rfl,?_⟩
   refine(must_h ws q8 b8 tSemi hg q8l (by decide) (by decide)).holds.useT [] [] rfl (sk) (sk) fun e0 H0 hq=>?_
   obtain⟨u9,q9,b9,q9l,o9,rfl,rfl⟩:=hq
   refine⟨rfl,_,⟨3,(0,rrO ws q9 b9)::[(2,rdO 3 n nm pl (rfl_ l) (css cs)),(1,dz)]⟩,rfl,rfl,?_⟩
   exact⟨[],[],[], .returned (.p (.agg [i64 3,i64 n, .str nm, .str pl,(rfl_ l),(css cs)])),rrH ws q9 b9,rfl,sk,sk,⟨3,n,nm,pl,l,cs⟩,q9,b9,q9l,Out.then (hb2 (o4.then (o5.then (o6.then (o7.then (o8.then Out.same)))))) (o9.then Out.same),⟨_,rfl,rnil_de (by first | exact NilD.refl _ | exact nil_lsts 4) (by first | exact NilD.refl _ | exact nil_lsts 11)⟩,rfl⟩
  ·refine(take_h ws q2 b2 tLB hg q2l (by decide) (by decide)).holds.useT [] [] rfl (sk) (sk) fun e0 H0 hq=>?_
   obtain⟨rfl,rfl⟩:=hq.2 c4
   refine⟨rfl,_,⟨3,(0,rrO ws q2 b2)::[(2,rdO 3 0 nm [] .nils .nils),(1,dz)]⟩,rfl,rfl,?_⟩
   have hb2:∀ {d:De} {q9:Nat} {b9:Bool},Out b2 q2 (nodeTail ws F nm [] q2) d q9 b9→Out b0 q0 (declR ws F q0) d q9 b9:=fun ho=>hb (Out.no c4 ho)
   refine(must_h ws q2 b2 tCol hg q2l (by decide) (by decide)).holds.useT [] [] rfl (sk) (sk) fun e0 H0 hq=>?_
   obtain⟨u4,q4,b4,q4l,o4,rfl,rfl⟩:=hq
   refine⟨rfl,_,⟨3,(0,rrO ws q4 b4)::[(2,rdO 3 0 nm [] .nils .nils),(1,dz)]⟩,rfl,rfl,?_⟩
   refine(rnum_h ws q4 b4 hg q4l).holds.useT [] [] rfl (sk) (sk) fun e0 H0 hq=>?_
   obtain⟨n,q5,b5,q5l,o5,rfl,rfl⟩:=hq
   refine⟨rfl,_,⟨3,(0,rrO ws q5 b5)::[(2,rdO 3 0 nm [] .nils .nils),(1,dz)]⟩,rfl,rfl,?_⟩
   refine(rrefs_h ws F q5 b5 tFrom (by decide) (by decide) (by omega) hg q5l).holds.useT [] [] rfl (sk) (sk) fun e0 H0 hq=>?_
   obtain⟨l,q6,b6,q6l,o6,rfl,rfl⟩:=hq
   refine⟨rfl,_,⟨3,(0,rrO ws q6 b6)::[(2,rdO 3 n nm [] .nils .nils),(1,dz)]⟩,rfl,rfl,?_⟩
   refine(must_h ws q6 b6 tEq hg q6l (by decide) (by decide)).holds.useT [] [] rfl (sk) (sk) fun e0 H0 hq=>?_
   obtain⟨u7,q7,b7,q7l,o7,rfl,rfl⟩:=hq
   refine⟨rfl,_,⟨3,(0,rrO ws q7 b7)::[(2,rdO 3 n nm [] (rfl_ l) .nils),(1,dz)]⟩,rfl,rfl,?_⟩
   refine(rrule_h ws F q7 b7 hF hg q7l).holds.useT [] [] rfl (sk) (sk) fun e0 H0 hq=>?_
   obtain⟨cs,q8,b8,q8l,o8,rfl,rfl⟩:=hq
   refine⟨rfl,_,⟨3,(0,rrO ws q8 b8)::[(2,rdO 3 n nm [] (rfl_ l) .nils),(1,dz)]⟩,rfl,rfl,?_⟩
   refine(must_h ws q8 b8 tSemi hg q8l (by decide) (by decide)).holds.useT [] [] rfl (sk) (sk) fun e0 H0 hq=>?_
   obtain⟨u9,q9,b9,q9l,o9,rfl,rfl⟩:=hq
   refine⟨rfl,_,⟨3,(0,rrO ws q9 b9)::[(2,rdO 3 n nm [] (rfl_ l) (css cs)),(1,dz)]⟩,rfl,rfl,?_⟩
   exact⟨[],[],[], .returned (.p (.agg [i64 3,i64 n, .str nm, .str [],(rfl_ l),(css cs)])),rrH ws q9 b9,rfl,sk,sk,⟨3,n,nm,[],l,cs⟩,q9,b9,q9l,Out.then (hb2 (o4.then (o5.then (o6.then (o7.then (o8.then Out.same)))))) (o9.then Out.same),⟨_,rfl,rnil_de (by first | exact NilD.refl _ | exact nil_lsts 4) (by first | exact NilD.refl _ | exact nil_lsts 11)⟩,rfl⟩
 refine(take_h ws q0 b0 tNode hg hq0 (by decide) (by decide)).holds.useT [] [] rfl (sk) (sk) fun e0 H0 hq=>?_
 obtain⟨rfl,rfl⟩:=hq.2 c3
 refine⟨rfl,_,⟨3,(0,rrO ws q0 b0)::[(2,dz),(1,dz)]⟩,rfl,rfl,?_⟩
 by_cases c4:Tk ws b0 q0 tChoose
 ·have q1l:q0+1≤ws.length:=txt_lt (by rw [c4.2];decide)
  refine(take_h ws q0 b0 tChoose hg hq0 (by decide) (by decide)).holds.useT [] [] rfl (sk) (sk) fun e0 H0 hq=>?_
  obtain⟨rfl,rfl⟩:=hq.1 c4
  refine⟨rfl,_,⟨3,(0,rrO ws (q0+1) false)::[(2,dz),(1,dz)]⟩,rfl,rfl,?_⟩
  refine(rname_h ws (q0+1) false hg q1l).holds.useT [] [] rfl (sk) (sk) fun e0 H0 hq=>?_
  obtain⟨nm,q2,b2,q2l,o2,rfl,rfl⟩:=hq
  refine⟨rfl,_,⟨3,(0,rrO ws q2 b2)::[(2,dz),(1,dz)]⟩,rfl,rfl,?_⟩
  refine(must_h ws q2 b2 tCol hg q2l (by decide) (by decide)).holds.useT [] [] rfl (sk) (sk) fun e0 H0 hq=>?_
  obtain⟨u3,q3,b3,q3l,o3,rfl,rfl⟩:=hq
  refine⟨rfl,_,⟨3,(0,rrO ws q3 b3)::[(2,rdO 4 0 nm [] .nils .nils),(1,dz)]⟩,rfl,rfl,?_⟩
  refine(rnum_h ws q3 b3 hg q3l).holds.useT [] [] rfl (sk) (sk) fun e0 H0 hq=>?_
  obtain⟨n,q4,b4,q4l,o4,rfl,rfl⟩:=hq
  refine⟨rfl,_,⟨3,(0,rrO ws q4 b4)::[(2,rdO 4 0 nm [] .nils .nils),(1,dz)]⟩,rfl,rfl,?_⟩
  refine(rrefs_h ws F q4 b4 tSeeing (by decide) (by decide) (by omega) hg q4l).holds.useT [] [] rfl (sk) (sk) fun e0 H0 hq=>?_
  obtain⟨l,q5,b5,q5l,o5,rfl,rfl⟩:=hq
  refine⟨rfl,_,⟨3,(0,rrO ws q5 b5)::[(2,rdO 4 n nm [] .nils .nils),(1,dz)]⟩,rfl,rfl,?_⟩
  refine(must_h ws q5 b5 tSemi hg q5l (by decide) (by decide)).holds.useT [] [] rfl (sk) (sk) fun e0 H0 hq=>?_
  obtain⟨u9,q9,b9,q9l,o9,rfl,rfl⟩:=hq
  refine⟨rfl,_,⟨3,(0,rrO ws q9 b9)::[(2,rdO 4 n nm [] (rfl_ l) .nils),(1,dz)]⟩,rfl,rfl,?_⟩
  exact⟨[],[],[], .returned (.p (.agg [i64 4,i64 n, .str nm, .str [],(rfl_ l), .nils])),rrH ws q9 b9,rfl,sk,sk,⟨4,n,nm,[],l,[]⟩,q9,b9,q9l,Out.then (by rw [declR];exact Out.no c1 (Out.no c2 (Out.no c3 (Out.yes c4 (o2.then (o3.then (o4.then (o5.then Out.same)))).mv)))) (o9.then Out.same),⟨_,rfl,rnil_de (by first | exact NilD.refl _ | exact nil_lsts 4) (by first | exact NilD.refl _ | exact nil_lsts 11)⟩,rfl⟩
 refine(take_h ws q0 b0 tChoose hg hq0 (by decide) (by decide)).holds.useT [] [] rfl (sk) (sk) fun e0 H0 hq=>?_
 obtain⟨rfl,rfl⟩:=hq.2 c4
 refine⟨rfl,_,⟨3,(0,rrO ws q0 b0)::[(2,dz),(1,dz)]⟩,rfl,rfl,?_⟩
 by_cases c5:Tk ws b0 q0 tGain
 ·have q1l:q0+1≤ws.length:=txt_lt (by rw [c5.2];decide)
  refine(take_h ws q0 b0 tGain hg hq0 (by decide) (by decide)).holds.useT [] [] rfl (sk) (sk) fun e0 H0 hq=>?_
  obtain⟨rfl,rfl⟩:=hq.1 c5
  refine⟨rfl,_,⟨3,(0,rrO ws (q0+1) false)::[(2,dz),(1,dz)]⟩,rfl,rfl,?_⟩
  refine(rrefs_h ws F (q0+1) false tFrom (by decide) (by decide) (by omega) hg q1l).holds.useT [] [] rfl (sk) (sk) fun e0 H0 hq=>?_
  obtain⟨l,q2,b2,q2l,o2,rfl,rfl⟩:=hq
  refine⟨rfl,_,⟨3,(0,rrO ws q2 b2)::[(2,rdO 5 0 [] [] .nils .nils),(1,dz)]⟩,rfl,rfl,?_⟩
  refine(must_h ws q2 b2 tEq hg q2l (by decide) (by decide)).holds.useT [] [] rfl (sk) (sk) fun e0 H0 hq=>?_
  obtain⟨u3,q3,b3,q3l,o3,rfl,rfl⟩:=hq
  refine⟨rfl,_,⟨3,(0,rrO ws q3 b3)::[(2,rdO 5 0 [] [] (rfl_ l) .nils),(1,dz)]⟩,rfl,rfl,?_⟩
  refine(rrule_h ws F q3 b3 hF hg q3l).holds.useT [] [] rfl (sk) (sk) fun e0 H0 hq=>?_
  obtain⟨cs,q4,b4,q4l,o4,rfl,rfl⟩:=hq
  refine⟨rfl,_,⟨3,(0,rrO ws q4 b4)::[(2,rdO 5 0 [] [] (rfl_ l) .nils),(1,dz)]⟩,rfl,rfl,?_⟩
  refine(must_h ws q4 b4 tSemi hg q4l (by decide) (by decide)).holds.useT [] [] rfl (sk) (sk) fun e0 H0 hq=>?_
  obtain⟨u9,q9,b9,q9l,o9,rfl,rfl⟩:=hq
  refine⟨rfl,_,⟨3,(0,rrO ws q9 b9)::[(2,rdO 5 0 [] [] (rfl_ l) (css cs)),(1,dz)]⟩,rfl,rfl,?_⟩
  exact⟨[],[],[], .returned (.p (.agg [i64 5,i64 0, .str [], .str [],(rfl_ l),(css cs)])),rrH ws q9 b9,rfl,sk,sk,⟨5,0,[],[],l,cs⟩,q9,b9,q9l,Out.then (by rw [declR];exact Out.no c1 (Out.no c2 (Out.no c3 (Out.no c4 (Out.yes c5 (o2.then (o3.then (o4.then Out.same))).mv))))) (o9.then Out.same),⟨_,rfl,rnil_de (by first | exact NilD.refl _ | exact nil_lsts 4) (by first | exact NilD.refl _ | exact nil_lsts 11)⟩,rfl⟩
 refine(take_h ws q0 b0 tGain hg hq0 (by decide) (by decide)).holds.useT [] [] rfl (sk) (sk) fun e0 H0 hq=>?_
 obtain⟨rfl,rfl⟩:=hq.2 c5
 refine⟨rfl,_,⟨3,(0,rrO ws q0 b0)::[(2,dz),(1,dz)]⟩,rfl,rfl,?_⟩
 have od:Out b0 q0 (declR ws F q0) (⟨0,0,[],[],[],[]⟩:De) q0 true:=by
  cases b0
  ·show declR ws F q0=.inl q0
   rw [declR,if_neg (fun h=>c1 ⟨rfl,h⟩),if_neg (fun h=>c2 ⟨rfl,h⟩),if_neg (fun h=>c3 ⟨rfl,h⟩),if_neg (fun h=>c4 ⟨rfl,h⟩),if_neg (fun h=>c5 ⟨rfl,h⟩)]
  ·exact Out.bad
 have q0l:=hq0
 refine(must_h ws q0 true tSemi hg q0l (by decide) (by decide)).holds.useT [] [] rfl (sk) (sk) fun e0 H0 hq=>?_
 obtain⟨u9,q9,b9,q9l,o9,rfl,rfl⟩:=hq
 refine⟨rfl,_,⟨3,(0,rrO ws q9 b9)::[(2,rdO 0 0 [] [] .nils .nils),(1,dz)]⟩,rfl,rfl,?_⟩
 exact⟨[],[],[], .returned (.p (.agg [i64 0,i64 0, .str [], .str [], .nils, .nils])),rrH ws q9 b9,rfl,sk,sk,⟨0,0,[],[],[],[]⟩,q9,b9,q9l,Out.then od (o9.then Out.same),⟨_,rfl,rnil_de (by first | exact NilD.refl _ | exact nil_lsts 4) (by first | exact NilD.refl _ | exact nil_lsts 11)⟩,rfl⟩
theorem declS_lt {ws:List Wd} {F q q':Nat} {d:De} (h:declS ws F q=.inr (d,q')):q<q':=by
 rw [declS] at h
 cases h1:declR ws F q with
 | inl e=>rw [h1] at h;cases h
 | inr x=>
  obtain⟨a,p⟩:=x
  rw [h1] at h
  have h:(mustR ws tSemi p).then _=_:=h
  have:=decl_lt h1
  cases h2:mustR ws tSemi p with
  | inl e=>rw [h2] at h;cases h
  | inr x=>
   obtain⟨u,p2⟩:=x
   rw [h2] at h
   have h:Sum.inr (a,p2)=(Sum.inr (d,q'):Rd De):=h
   have:=must_lt h2
   injection h with h
   injection h with _ h
   omega
abbrev rpH (ws:List Wd) (acc:List De) (q:Nat) (b:Bool):Hp:=⟨4,[(3,desO acc),(2,srO (.sl 3 6 0 acc.length)),(1,rrO ws q b),(0,srO (.p .nils))]⟩
theorem rParse_c (s:List UInt8):Pure cx 23 [.str s] (·=.ret (parV (parR s))):=by
 have hRd:=rRead_c s
 refine pure_of_vc Tryz.func23 rfl rfl rfl ?_
 by_cases h0:8000<s.length
 ·rw [readV,if_pos h0] at hRd
  refine hRd.eq rfl ?_
  have e:parR s=.inl ((0,0),3):=by rw [parR,if_pos h0]
  refine And.intro (fun h=>absurd (show(3:Int)=0 from h) (by decide)) (fun _=>?_)
  exact end4 (srcV []) (i64 0) (i64 0) (i64 3) rfl ⟨_,rfl,_,_,rfl, .inr (.inr ⟨6,rfl⟩),rfl⟩ rfl rfl rfl (by rw [e] <;> rfl)
 cases hr:readR s with
 | err p c=>
  rw [readV,if_neg h0,hr] at hRd
  refine hRd.eq rfl ?_
  have e:parR s=.inl ((p.1,p.2),c):=by rw [parR,if_neg h0,hr]
  have hc:¬ c=0:=by
   have:=readN_errP s _ _ _ _ _ hr
   omega
  refine And.intro (fun h=>absurd (show c=0 from h) hc) (fun _=>?_)
  exact end4 (srcV []) (i64 p.1) (i64 p.2) (i64 c) rfl ⟨_,rfl,_,_,rfl, .inr (.inr ⟨6,rfl⟩),rfl⟩ rfl rfl rfl (by rw [e] <;> rfl)
 | ok ws=>
  have hg:=read_good hr
  have hl:=hg.len
  have hl':(ws.map Wd.cells).length=ws.length:=List.length_map ..
  rw [readV,if_neg h0,hr] at hRd
  refine hRd.eq rfl ?_
  refine And.intro (fun _=>?_) (fun h=>absurd rfl h)
  obtain⟨F,hF⟩:∃ F,F=fuelW ws:=⟨_,rfl⟩
  have hF8:4 * ws.length+8≤F:=by rw [hF];exact Nat.le_refl _
  have hFb:F≤100000:=by rw [hF,fuelW];omega
  have e:parR s=match progR ws F F [] 0 with
    | .inl q=>.inl (((wat ws q).line,(wat ws q).col),381)
    | .inr (ds,_)=>if validB ds=true then .inr ds else .inl ((0,0),3):=by rw [parR,if_neg h0,hr,hF] <;> rfl
  clear hF
  refine⟨List De × Nat × Bool,fun x=>[(2, .ptr 0 0 0),(6, .p (.lsts 4 (ws.map Wd.cells))),(10, .ptr 1 0 0),(11, .ptr 2 0 0)],fun x=>rpH ws x.1 x.2.1 x.2.2,fun x=>x.2.1≤ws.length∧(x.2.2=false→x.1.length≤x.2.1)∧x.1.length≤1501∧LK false 0 (progR ws F F [] 0) (fun f=>progR ws F f x.1 x.2.1) ws.length x.2.1 x.2.2,fun x=>if x.2.2=true then 0 else ws.length+1 - x.2.1,?_,?_⟩
  ·exact⟨([],0,false),⟨Nat.zero_le _,fun _=>by simp,by simp,F,fun _=>by simp only [];omega,fun l q' b' ho=>ho⟩,ent_of [] [] [(3,6)] rfl (sk) (sk) rfl⟩
  rintro⟨acc,q,b⟩ ⟨k1,k2,k3,k4⟩
  simp only [] at k1 k2 k3 k4
  cases b
  rotate_left
  ·have o:progR ws F F [] 0=.inl q:=k4.stop (l:=[]) (fun e=>by cases e)
   rw [o] at e
   by_cases hq:q<ws.length
   ·refine And.intro (fun _=>?_) (fun h=>absurd (show(q:Int)<((ws.map Wd.cells).length:Nat) by rw [hl'];omega) h)
    refine VDraw.seq rfl ?_
    refine⟨_,⟨by omega,(wat ws q).cells,wdcell hq,rfl⟩,?_⟩
    refine⟨_,⟨by omega,(wat ws q).cells,wdcell hq,rfl⟩,?_⟩
    refine⟨sk,?_⟩
    exact end4 (srcV []) (i64 (wat ws q).line) (i64 (wat ws q).col) (i64 381) rfl ⟨_,rfl,_,_,rfl, .inr (.inr ⟨6,rfl⟩),rfl⟩ rfl rfl rfl (by rw [e] <;> rfl)
   ·refine And.intro (fun h=>absurd (show(q:Int)<((ws.map Wd.cells).length:Nat) from h) (by rw [hl'];omega)) (fun _=>?_)
    have hw:wat ws q=wd0:=wat_end (by omega)
    have e:parR s=.inl (((wat ws q).line,(wat ws q).col),381):=e
    rw [hw] at e
    exact end4 (srcV []) (i64 0) (i64 0) (i64 381) rfl ⟨_,rfl,_,_,rfl, .inr (.inr ⟨6,rfl⟩),rfl⟩ rfl rfl rfl (by rw [e] <;> rfl)
  by_cases hq:q<ws.length
  rotate_left
  ·have o:progR ws F F [] 0=.inr (acc,q):=k4.stop (fun _ f=>by rw [progR,if_neg hq])
   refine And.intro (fun h=>absurd (show(q:Int)<((ws.map Wd.cells).length:Nat) from h) (by rw [hl'];omega)) (fun _=>?_)
   have hC:=rOk_c acc (prog_bigP hg hFb o)
   rw [o] at e
   have hR:ResL (Res (marks (rpH ws acc q false).l [3]) 5) [.agg [.sl 3 6 0 acc.length]] [srcV acc]:=⟨_,_,rfl,⟨_,rfl,_,_,rfl,⟨_,rfl,by show 0+acc.length≤(acc.map De.cells).length;simp,takeAll (by simp)⟩,rfl⟩,rfl⟩
   by_cases hv:validB acc=true
   ·rw [hv] at hC
    refine hC.lends [3] rfl hR ?_
    have e:parR s=.inr acc:=e.trans (if_pos hv)
    exact end4 (srcV acc) (i64 0) (i64 0) (i64 0) rfl ⟨_,rfl,_,_,rfl,⟨_,rfl,by show 0+acc.length≤(acc.map De.cells).length;simp,takeAll (by simp)⟩,rfl⟩ rfl rfl rfl (by rw [e] <;> rfl)
   ·have e:parR s=.inl ((0,0),3):=e.trans (if_neg hv)
    rw [Bool.not_eq_true] at hv
    rw [hv] at hC
    refine hC.lends [3] rfl hR ?_
    exact end4 (srcV []) (i64 0) (i64 0) (i64 3) rfl ⟨_,rfl,_,_,rfl, .inr (.inr ⟨6,rfl⟩),rfl⟩ rfl rfl rfl (by rw [e] <;> rfl)
  refine And.intro (fun _=>?_) (fun h=>absurd (show(q:Int)<((ws.map Wd.cells).length:Nat) by rw [hl'];omega) h)
  refine VDraw.seq rfl ?_
  have hal:=k2 rfl
  refine(rdecl_h ws F q false hF8 hg k1).holds.useT [] [(0,1)] rfl (sk) (sk) fun e0 H0 hq0=>?_
  obtain⟨d,q2,b2,q2l,o2,rfl,rfl⟩:=hq0
  refine⟨rfl,_,⟨4,(1,rrO ws q2 b2)::[(3,desO acc),(2,srO (.sl 3 6 0 acc.length)),(0,srO (.p .nils))]⟩,rfl,rfl,?_⟩
  refine⟨sk,?_⟩
  refine⟨sk,?_⟩
  refine⟨by show 0+1≤1;omega,[d.cells],rfl,?_⟩
  refine⟨by show 0+acc.length≤(acc.map De.cells).length;simp,acc.map De.cells,takeAll (by simp),by show(acc.length+1) * 96≤140737488355328;omega,(acc++[d]).map De.cells,by simp,?_⟩
  have hlt:b2=false→q<q2:=fun e=>by subst e;exact declS_lt (out_inr o2)
  exact⟨(acc++[d],q2,b2),⟨q2l,fun e=>by have:=hlt e;show(acc++[d]).length≤q2;rw [snoc_len];omega,by show(acc++[d]).length≤1501;rw [snoc_len];omega,k4.step (fun f l q' b' ho=>by
   have e1:progR ws F (f+1) acc q=(declS ws F q).then fun d q=>progR ws F f (acc++[d]) q:=by
    rw [progR,if_pos hq,declS,then_assoc]
    congr 1
    funext d q
    rw [then_assoc];rfl
   rw [e1]
   exact o2.then ho) (fun e=>⟨hlt e,q2l⟩)⟩,ent_of [] [(3,5)] [] rfl (sk) ⟨⟨_,rfl,rfl,rfl,rfl⟩,⟨_,rfl,rfl,rfl,_,rfl,_,_,rfl,congrArg (fun k:Nat=>AV.sl 5 6 0 k) (snoc_len acc d).symm,rfl⟩,sk⟩ rfl,by show(if b2=true then 0 else ws.length+1 - q2)<(if false=true then 0 else ws.length+1 - q);cases b2 <;> simp <;> (try have:=hlt rfl) <;> omega⟩
set_option maxHeartbeats 40000000
abbrev otS:OT:=(.pure 0 (.pure 1 (.pure 2 (.pure 3 (.pure 4 (.pure 5 (.pure 6 (.pure 7 (.pure 8 (.pure 9 (.pure 10 (.pure 11 (.eff 12 [] (.pure 13 (.pure 14 (.pure 15 (.pure 16 (.pure 17 (.pure 18 (.pure 19 (.pure 20 (.pure 21 (.pure 22 (.pure 23 (.pure 24 (.pure 25 (.pure 26 (.eff 27 [] (.pure 28 (.pure 29 .fin)) .nil))))))))))))))) .nil)))))))))))))
theorem de_eq {k n k' n':Int} {nm pl nm' pl':List UInt8} {rs rs':List Rf} {cs cs':List Cs}:((⟨k,n,nm,pl,rs,cs⟩:De)=⟨k',n',nm',pl',rs',cs'⟩) ↔ (k=k'∧n=n'∧nm=nm'∧pl=pl'∧rs=rs'∧cs=cs'):=by
 constructor
 ·intro h;injection h with h1 h2 h3 h4 h5 h6;exact⟨h1,h2,h3,h4,h5,h6⟩
 ·rintro⟨rfl,rfl,rfl,rfl,rfl,rfl⟩;rfl
theorem cs_eq {c c':Cd} {l l':List Int}:((⟨c,l⟩:Cs)=⟨c',l'⟩) ↔ (c=c'∧l=l'):=by
 constructor
 ·intro h;injection h with h1 h2;exact⟨h1,h2⟩
 ·rintro⟨rfl,rfl⟩;rfl
abbrev smH (a b:List De) (x y:De):Hp:=⟨4,[(3,deO y),(2,deO x),(1,srO (.p (des b))),(0,srO (.p (des a)))]⟩
theorem sameP_c (a b:List De) (ha:BigP a) (hb:BigP b):Pure cx 24 [srcV a,srcV b] (·=.ret [.bool (cb (a=b))]):=by
 have hla:(a.map De.cells).length=a.length:=List.length_map ..
 have hlb:(b.map De.cells).length=b.length:=List.length_map ..
 have a1:=ha.len
 refine pure_of_vc Tryz.func24 rfl rfl rfl ?_
 refine And.intro (fun h1=>?_) (fun h1=>?_)
 rotate_left
 ·have h1:¬ ((a.map De.cells).length:Int)=((b.map De.cells).length:Nat):=h1
  rw [hla,hlb] at h1
  exact end1 _ rfl rfl (by rw [cb_f (fun e=>h1 (by rw [e]))])
 have h1:((a.map De.cells).length:Int)=((b.map De.cells).length:Nat):=h1
 rw [hla,hlb] at h1
 have hl:a.length=b.length:=by omega
 refine⟨Nat,fun k=>[(2, .ptr 0 0 0),(3, .ptr 1 0 0),(5, .p (i64 k))],fun _=>⟨2,[(1,srO (.p (des b))),(0,srO (.p (des a)))]⟩,fun k=>k≤a.length∧a.take k=b.take k,fun k=>a.length - k,?_,?_⟩
 ·exact⟨0,⟨Nat.zero_le _,rfl⟩,ent_of [] [] [] rfl (sk) (sk) rfl⟩
 rintro k ⟨k1,k2⟩
 refine And.intro (fun m1=>?_) (fun m1=>?_)
 rotate_left
 ·have m1:¬ (k:Int)<((a.map De.cells).length:Nat):=m1
  rw [hla] at m1
  exact end1 _ rfl rfl (by rw [cb_t (take_end hl (by omega) k2)])
 have m1:(k:Int)<((a.map De.cells).length:Nat):=m1
 rw [hla] at m1
 have hk:k<a.length:=by omega
 have hk':k<b.length:=by omega
 have c1:=decell hk
 have c2:=decell hk'
 have bx:=ha.decl _ (getD_memL de0 hk)
 have bY:=hb.decl _ (getD_memL de0 hk')
 have hn:=take_next de0 hk hk' k2
 have hd:¬ a.getD k de0=b.getD k de0→¬ a=b:=fun h e=>h (by rw [e])
 generalize a.getD k de0=x at c1 bx hn hd
 generalize b.getD k de0=y at c2 bY hn hd
 obtain⟨x1,x2,x3,x4,x5,x6⟩:=x
 obtain⟨y1,y2,y3,y4,y5,y6⟩:=y
 have l5:(x5.map Rf.cells).length=x5.length:=List.length_map ..
 have l5':(y5.map Rf.cells).length=y5.length:=List.length_map ..
 have l6:(x6.map Cs.cells).length=x6.length:=List.length_map ..
 have l6':(y6.map Cs.cells).length=y6.length:=List.length_map ..
 have bx5:=bx.len
 have bx6:=bx.cases
 have by6:=bY.cases
 simp only [] at bx5 bx6 by6
 refine VDraw.altTo [(2, .ptr 0 0 0),(3, .ptr 1 0 0),(5, .p (i64 k)),(6, .ptr 2 0 0),(7, .ptr 3 0 0)] (smH a b ⟨x1,x2,x3,x4,x5,x6⟩ ⟨y1,y2,y3,y4,y5,y6⟩) (by kernel_rfl) ?_ ?_
 ·refine⟨_,⟨by omega,(⟨x1,x2,x3,x4,x5,x6⟩:De).cells,c1,rfl⟩,?_⟩
  refine⟨_,⟨by omega,(⟨y1,y2,y3,y4,y5,y6⟩:De).cells,c2,rfl⟩,?_⟩
  refine And.intro ?_ ?_
  ·refine⟨(by repeat' first | exact trivial | exact rfl | exact⟨rfl,rfl⟩ | exact⟨by omega,_,c1,rfl⟩ | exact⟨by omega,_,c2,rfl⟩ | refine And.intro ?_ ?_),?_⟩
   refine⟨(by repeat' first | exact trivial | exact rfl | exact⟨rfl,rfl⟩ | exact⟨by omega,_,c1,rfl⟩ | exact⟨by omega,_,c2,rfl⟩ | refine And.intro ?_ ?_),?_⟩
   refine⟨(by repeat' first | exact trivial | exact rfl | exact⟨rfl,rfl⟩ | exact⟨by omega,_,c1,rfl⟩ | exact⟨by omega,_,c2,rfl⟩ | refine And.intro ?_ ?_),?_⟩
   exact ent_of [] [] [] rfl (sk) (sk) rfl
  ·refine⟨(by repeat' first | exact trivial | exact rfl | exact⟨rfl,rfl⟩ | exact⟨by omega,_,c1,rfl⟩ | exact⟨by omega,_,c2,rfl⟩ | refine And.intro ?_ ?_),?_⟩
   refine⟨(by repeat' first | exact trivial | exact rfl | exact⟨rfl,rfl⟩ | exact⟨by omega,_,c1,rfl⟩ | exact⟨by omega,_,c2,rfl⟩ | refine And.intro ?_ ?_),?_⟩
   refine⟨(by repeat' first | exact trivial | exact rfl | exact⟨rfl,rfl⟩ | exact⟨by omega,_,c1,rfl⟩ | exact⟨by omega,_,c2,rfl⟩ | refine And.intro ?_ ?_),?_⟩
   exact ent_of [] [(2,3),(3,2)] [] rfl (sk) (sk) rfl
 refine And.intro (fun h1=>?_) (fun h1=>end1 _ rfl rfl (by rw [cb_f (hd (fun e=>h1 (de_eq.1 e).1))]))
 have h1:x1=y1:=h1
 refine And.intro (fun h2=>?_) (fun h2=>end1 _ rfl rfl (by rw [cb_f (hd (fun e=>h2 (de_eq.1 e).2.1))]))
 have h2:x2=y2:=h2
 refine And.intro (fun h3=>?_) (fun h3=>end1 _ rfl rfl (by rw [cb_f (hd (fun e=>h3 (de_eq.1 e).2.2.1))]))
 have h3:x3=y3:=h3
 refine And.intro (fun h4=>?_) (fun h4=>end1 _ rfl rfl (by rw [cb_f (hd (fun e=>h4 (de_eq.1 e).2.2.2.1))]))
 have h4:x4=y4:=h4
 refine And.intro (fun h5=>?_) (fun h5=>?_)
 rotate_left
 ·have h5:¬ ((x5.map Rf.cells).length:Int)=((y5.map Rf.cells).length:Nat):=h5
  rw [l5,l5'] at h5
  exact end1 _ rfl rfl (by rw [cb_f (hd (fun e=>h5 (by rw [(de_eq.1 e).2.2.2.2.1])))])
 have h5:((x5.map Rf.cells).length:Int)=((y5.map Rf.cells).length:Nat):=h5
 rw [l5,l5'] at h5
 have hl5:x5.length=y5.length:=by omega
 refine And.intro (fun h6=>?_) (fun h6=>?_)
 rotate_left
 ·have h6:¬ ((x6.map Cs.cells).length:Int)=((y6.map Cs.cells).length:Nat):=h6
  rw [l6,l6'] at h6
  exact end1 _ rfl rfl (by rw [cb_f (hd (fun e=>h6 (by rw [(de_eq.1 e).2.2.2.2.2])))])
 have h6:((x6.map Cs.cells).length:Int)=((y6.map Cs.cells).length:Nat):=h6
 rw [l6,l6'] at h6
 have hl6:x6.length=y6.length:=by omega
 refine⟨Nat,fun j=>[(2, .ptr 0 0 0),(3, .ptr 1 0 0),(5, .p (i64 k)),(6, .ptr 2 0 0),(7, .ptr 3 0 0),(8, .p (i64 j))],fun _=>smH a b ⟨x1,x2,x3,x4,x5,x6⟩ ⟨y1,y2,y3,y4,y5,y6⟩,fun j=>j≤x5.length∧x5.take j=y5.take j,fun j=>x5.length - j,?_,?_⟩
 ·exact⟨0,⟨Nat.zero_le _,rfl⟩,ent_of [] [] [] rfl (sk) (sk) rfl⟩
 rintro j ⟨j1,j2⟩
 refine And.intro (fun m2=>?_) (fun m2=>?_)
 ·have m2:(j:Int)<((x5.map Rf.cells).length:Nat):=m2
  rw [l5] at m2
  have hj:j<x5.length:=by omega
  have hj':j<y5.length:=by omega
  have r1:=rcell hj
  have r2:=rcell hj'
  have hn2:=take_next rf0 hj hj' j2
  have hd2:¬ x5.getD j rf0=y5.getD j rf0→¬ x5=y5:=fun h e=>h (by rw [e])
  generalize x5.getD j rf0=u at r1 hn2 hd2
  generalize y5.getD j rf0=w at r2 hn2 hd2
  refine VDraw.seq rfl ?_
  refine⟨_,⟨by omega,u.cells,r1,rfl⟩,?_⟩
  refine⟨_,⟨by omega,w.cells,r2,rfl⟩,?_⟩
  refine⟨⟨by kernel_rfl,by kernel_rfl⟩,fun h7=>?_,fun h7=>?_⟩
  rotate_left
  ·exact end1 _ rfl rfl (by rw [cb_f (hd (fun e=>hd2 (fun e=>h7 (by rw [e])) (de_eq.1 e).2.2.2.2.1))])
  have h7:u=w:=rf_ext (by first | exact h7 | (injection h7))
  refine⟨_,wrap_i64 (by omega) (by omega),?_⟩
  exact⟨j+1,⟨hj,hn2 h7⟩,ent_of [] [] [] rfl (sk) (sk) rfl,by show x5.length - (j+1)<x5.length - j;omega⟩
 have m2:¬ (j:Int)<((x5.map Rf.cells).length:Nat):=m2
 rw [l5] at m2
 have h7:x5=y5:=take_end hl5 (by omega) j2
 refine⟨Nat,fun j=>[(2, .ptr 0 0 0),(3, .ptr 1 0 0),(5, .p (i64 k)),(6, .ptr 2 0 0),(7, .ptr 3 0 0),(9, .p (i64 j))],fun _=>smH a b ⟨x1,x2,x3,x4,x5,x6⟩ ⟨y1,y2,y3,y4,y5,y6⟩,fun j=>j≤x6.length∧x6.take j=y6.take j,fun j=>x6.length - j,?_,?_⟩
 ·exact⟨0,⟨Nat.zero_le _,rfl⟩,ent_of [] [] [] rfl (sk) (sk) rfl⟩
 rintro j ⟨j1,j2⟩
 refine And.intro (fun m2=>?_) (fun m2=>?_)
 rotate_left
 ·have m2:¬ (j:Int)<((x6.map Cs.cells).length:Nat):=m2
  rw [l6] at m2
  have h8:x6=y6:=take_end hl6 (by omega) j2
  refine⟨_,wrap_i64 (by omega) (by omega),?_⟩
  exact⟨k+1,⟨hk,hn (de_eq.2 ⟨h1,h2,h3,h4,h7,h8⟩)⟩,ent_of [] [] [] rfl (sk) (sk) rfl,by show a.length - (k+1)<a.length - k;omega⟩
 have m2:(j:Int)<((x6.map Cs.cells).length:Nat):=m2
 rw [l6] at m2
 have hj:j<x6.length:=by omega
 have hj':j<y6.length:=by omega
 have hlx:=bx6.len
 have s1:=scell hj
 have s2:=scell hj'
 have hm:=getD_memL cs0 hj
 have hm':=getD_memL cs0 hj'
 have hn2:=take_next cs0 hj hj' j2
 have hd2:¬ x6.getD j cs0=y6.getD j cs0→¬ x6=y6:=fun h e=>h (by rw [e])
 have hC:=sameC_c _ _ (bx6.cond _ hm) (by6.cond _ hm')
 have hI:=sints_c _ _ (bx6.nums _ hm) (by6.nums _ hm')
 generalize x6.getD j cs0=u at s1 hn2 hd2 hC hI
 generalize y6.getD j cs0=w at s2 hn2 hd2 hC hI
 obtain⟨⟨u1,u2,u3,u4,u5,u6,u7⟩,u8⟩:=u
 obtain⟨⟨w1,w2,w3,w4,w5,w6,w7⟩,w8⟩:=w
 simp only [] at hC hI
 refine vdraw_ot otS (by kernel_rfl) ?_
 refine⟨_,⟨by omega,(⟨.mk u1 u2 u3 u4 u5 u6 u7,u8⟩:Cs).cells,s1,rfl⟩,?_⟩
 refine⟨_,⟨by omega,(⟨.mk w1 w2 w3 w4 w5 w6 w7,w8⟩:Cs).cells,s2,rfl⟩,?_⟩
 refine(Classical.em (Cd.mk u1 u2 u3 u4 u5 u6 u7=.mk w1 w2 w3 w4 w5 w6 w7)).elim (fun e1=>?_) (fun e1=>?_)
 rotate_left
 ·rw [cb_f e1] at hC
  refine hC.eq rfl ?_
  exact end1 _ rfl rfl (by rw [cb_f (hd (fun e=>hd2 (fun e=>e1 (cs_eq.1 e).1) (de_eq.1 e).2.2.2.2.2))])
 rw [cb_t e1] at hC
 refine hC.eq rfl ?_
 refine⟨_,⟨by omega,(⟨.mk u1 u2 u3 u4 u5 u6 u7,u8⟩:Cs).cells,s1,rfl⟩,?_⟩
 refine⟨_,⟨by omega,(⟨.mk w1 w2 w3 w4 w5 w6 w7,w8⟩:Cs).cells,s2,rfl⟩,?_⟩
 refine(Classical.em (u8=w8)).elim (fun e2=>?_) (fun e2=>?_)
 rotate_left
 ·rw [cb_f e2] at hI
  refine hI.eq rfl ?_
  exact end1 _ rfl rfl (by rw [cb_f (hd (fun e=>hd2 (fun e=>e2 (cs_eq.1 e).2) (de_eq.1 e).2.2.2.2.2))])
 rw [cb_t e2] at hI
 refine hI.eq rfl ?_
 refine⟨_,wrap_i64 (by omega) (by omega),?_⟩
 exact⟨j+1,⟨hj,hn2 (cs_eq.2 ⟨e1,e2⟩)⟩,ent_of [] [] [] rfl (sk) (sk) rfl,by show x6.length - (j+1)<x6.length - j;omega⟩
set_option maxHeartbeats 4000000
def exS0:List UInt8:=[103,114,97,105,110,32,49,50,32,59,32,110,111,100,101,32,120,32,58,32,50,32,61,32,123,32,101,108,115,101,32,58,32,51,32,57,32,125,32,59]
def exD0:List De:=[⟨1,12,[],[],[],[]⟩,⟨3,2,[120],[],[],[⟨cd0,[3,9]⟩]⟩]
theorem ex_p0:parR exS0=.inr exD0:=by kernel_rfl
def exS1:List UInt8:=[110,111,100,101,32,121,32,91,32,112,32,93,32,58,32,50,32,102,114,111,109,32,120,32,44,32,121,32,91,32,112,32,43,32,49,32,93,32,61,32,123,32,120,32,61,32,49,32,97,110,100,32,110,111,116,32,121,32,91,32,112,32,43,32,49,32,93,32,105,110,32,123,32,49,32,44,32,48,32,44,32,49,32,125,32,58,32,49,32,59,32,101,108,115,101,32,58,32,45,32,50,32,125,32,59]
def exD1:List De:=[⟨3,2,[121],[112],[⟨[120],0,[],0⟩,⟨[121],1,[112],1⟩],[⟨.mk 8 0 0 0 rf0 [] [.mk 1 1 0 0 ⟨[120],0,[],0⟩ [] [], .mk 7 0 0 0 rf0 [] [.mk 5 0 0 0 ⟨[121],1,[112],1⟩ [0,1] []]],[1]⟩,⟨cd0,[(-2)]⟩]⟩]
theorem ex_p1:parR exS1=.inr exD1:=by kernel_rfl
def exS2:List UInt8:=[103,97,105,110,32,61,32,123,32,99,111,117,110,116,32,40,32,120,32,91,32,97,108,108,32,93,32,61,32,49,32,41,32,60,61,32,50,32,58,32,53,32,59,32,101,108,115,101,32,58,32,48,32,125,32,59]
def exD2:List De:=[⟨5,0,[],[],[],[⟨.mk 6 2 4 1 ⟨[120],3,[],0⟩ [] [],[5]⟩,⟨cd0,[0]⟩]⟩]
theorem ex_p2:parR exS2=.inr exD2:=by kernel_rfl
theorem ex_n0:parR [110,111,100,101,32,120,32,58,32,50,32,59]=.inl ((1,12),381):=by kernel_rfl
theorem ex_n1:parR [103,97,105,110,32,61,32,123,32,120,32,61,32,49,32,58,32,50,32,125,32,59]=.inl ((1,20),381):=by kernel_rfl
theorem ex_n2:parR [112,108,97,116,101,32,112,32,61,32,59]=.inl ((1,11),381):=by kernel_rfl
theorem ex_n3:parR [99,104,111,111,115,101,32,100,32,58,32,50,32,115,101,101,105,110,103,32,120]=.inl ((0,0),381):=by kernel_rfl
theorem ex_n4:parR [99,111,117,110,116]=.inl ((1,1),381):=by kernel_rfl
def exC0:Cd:=.mk 8 0 0 0 rf0 [] [.mk 9 0 0 0 rf0 [] [.mk 1 1 0 0 ⟨[97],0,[],0⟩ [] [], .mk 1 1 0 0 ⟨[98],0,[],0⟩ [] []], .mk 1 1 0 0 ⟨[99],0,[],0⟩ [] []]
theorem ex_w0:txtV [⟨5,0,[],[],[],[⟨exC0,[5]⟩,⟨cd0,[0]⟩]⟩]=[.str [103,97,105,110,32,61,32,123,32,40,32,97,32,61,32,49,32,111,114,32,98,32,61,32,49,32,41,32,97,110,100,32,99,32,61,32,49,32,58,32,53,32,59,32,101,108,115,101,32,58,32,48,32,125,32,59,10],i64 0]:=by kernel_rfl
def exC1:Cd:=.mk 7 0 0 0 rf0 [] [.mk 8 0 0 0 rf0 [] [.mk 1 1 0 0 ⟨[97],0,[],0⟩ [] [], .mk 3 2 0 0 ⟨[98],0,[],0⟩ [] []]]
theorem ex_w1:txtV [⟨5,0,[],[],[],[⟨exC1,[5]⟩,⟨cd0,[0]⟩]⟩]=[.str [103,97,105,110,32,61,32,123,32,110,111,116,32,40,32,97,32,61,32,49,32,97,110,100,32,98,32,60,32,50,32,41,32,58,32,53,32,59,32,101,108,115,101,32,58,32,48,32,125,32,59,10],i64 0]:=by kernel_rfl
set_option maxHeartbeats 40000000
abbrev otW:OT:=(.pure 0 (.pure 1 (.pure 2 (.pure 4 (.pure 5 (.pure 6 (.pure 7 (.pure 11 (.pure 13 (.pure 14 (.eff 3 [4,1] (.eff 8 [1] (.pure 9 (.eff 10 [1] (.pure 12 (.pure 15 (.pure 16 (.pure 17 (.eff 18 [] (.pure 19 .fin) .nil))))) .nil)) .nil) .nil)))))))))))
theorem cb_iff {p q:Prop} (h:p ↔ q):cb p=cb q:=by rw [propext h]
theorem parR_big {s:List UInt8} {ds:List De} (h:parR s=.inr ds):BigP ds:=by
 unfold parR at h
 split at h
 ·cases h
 ·cases hr:readR s with
  | err p c=>rw [hr] at h;cases h
  | ok ws=>
   rw [hr] at h
   have hg:=read_good hr
   have hl:=hg.len
   cases hp:progR ws (fuelW ws) (fuelW ws) [] 0 with
   | inl q=>simp only [hp] at h;cases h
   | inr x=>
    obtain⟨l,q⟩:=x
    simp only [hp] at h
    split at h
    ·injection h with h
     subst h
     exact prog_bigP hg (by rw [fuelW];omega) hp
    ·cases h
theorem parR_err {s:List UInt8} {p:Int × Int} {e:Int} (h:parR s=.inl (p,e)):e=3∨e=370∨e=381:=by
 unfold parR at h
 split at h
 ·injection h with h;injection h with _ h;exact .inl h.symm
 ·cases hr:readR s with
  | err p c=>
   rw [hr] at h
   injection h with h;injection h with _ h
   have:=readN_errP s _ _ _ _ _ hr
   omega
  | ok ws=>
   rw [hr] at h
   cases hp:progR ws (fuelW ws) (fuelW ws) [] 0 with
   | inl q=>simp only [hp] at h;injection h with h;injection h with _ h;omega
   | inr x=>
    obtain⟨l,q⟩:=x
    simp only [hp] at h
    split at h
    ·cases h
    ·injection h with h;injection h with _ h;omega
theorem refused_yes (s:List UInt8) (l c e:Int) (h:parR s=.inl ((l,c),e)):Pure cx 28 [.str s,i64 l,i64 c,i64 e] (·=.ret [.bool true]):=by
 have hP:=parse_c s
 rw [h] at hP
 refine pure_of_vc Tryz.func28 rfl rfl rfl ?_
 refine hP.eq rfl ?_
 refine And.intro (fun _=>?_) (fun h=>absurd rfl h)
 refine And.intro (fun _=>?_) (fun h=>absurd rfl h)
 refine And.intro (fun _=>?_) (fun h=>absurd rfl h)
 refine And.intro (fun _=>?_) (fun h=>absurd rfl h)
 exact end1 _ rfl rfl rfl
theorem reads_c (s:List UInt8) (want:List De) (hw:BigP want):Pure cx 37 [.str s,des want] (·=.ret [.bool (cb (parR s=.inr want))]):=by
 have hP:=parse_c s
 cases hp:parR s with
 | inl x=>
  obtain⟨⟨l,c⟩,e⟩:=x
  rw [hp] at hP
  have he:=parR_err hp
  refine pure_of_vc Tryz.func37 rfl rfl rfl ?_
  refine hP.eq rfl ?_
  refine And.intro (fun h=>absurd (show e=0 from h) (by omega)) (fun _=>?_)
  exact end1 _ rfl rfl (by rw [cb_f (fun e=>by cases e)])
 | inr ds=>
  rw [hp] at hP
  have hS:=sameP_c ds want (parR_big hp) hw
  rw [cb_iff (q:=(Sum.inr ds:Sum ((Int × Int) × Int) (List De))=.inr want) ⟨fun e=>by rw [e],fun e=>by injection e⟩] at hS
  refine pure_of_vc Tryz.func37 rfl rfl rfl ?_
  refine hP.eq rfl ?_
  refine And.intro (fun _=>?_) (fun h=>absurd rfl h)
  refine And.intro (fun _=>?_) (fun h=>absurd rfl h)
  refine And.intro (fun _=>?_) (fun h=>absurd rfl h)
  refine hS.eq rfl ?_
  exact end1 _ rfl rfl rfl
theorem reads_yes {s:List UInt8} {want:List De} (h:parR s=.inr want):Pure cx 37 [.str s,des want] (·=.ret [.bool true]):=by
 have:=reads_c s want (parR_big h)
 rw [cb_t h] at this
 exact this
theorem is_c (nm:List UInt8) (op n:Int):Pure cx 31 [.str nm,i64 op,i64 n] (·=.ret [(Cd.mk op n 0 0 ⟨nm,0,[],0⟩ [] []).pv]):=by
 refine Pure.nil (r:=.ret [.agg [i64 op,i64 n,i64 0,i64 0, .str nm,i64 0, .str [],i64 0, .nils, .nils]]) ?_ ⟨_,rfl,_,_,rfl,nil_leaf2 op n 0 0 ⟨nm,0,[],0⟩,rfl⟩
 refine pure_of_vc Tryz.func31 rfl rfl rfl ?_
 exact end1 _ rfl rfl rfl
theorem both_c (op:Int) (l:List Cd):Pure cx 32 [i64 op, .lsts 10 (cellsL l)] (·=.ret [(Cd.mk op 0 0 0 rf0 [] l).pv]):=by
 refine Pure.nil (r:=.ret [.agg [i64 op,i64 0,i64 0,i64 0, .str [],i64 0, .str [],i64 0, .nils, .lsts 10 (cellsL l)]]) ?_ ⟨_,rfl,_,_,rfl,?_,rfl⟩
 ·refine pure_of_vc Tryz.func32 rfl rfl rfl ?_
  exact end1 _ rfl rfl rfl
 ·show NilD _ (.agg [i64 op,i64 0,i64 0,i64 0, .str [],i64 0, .str [],i64 0, .lst [], .lsts 10 (cellsL l)])
  simp only [NilD,NilDL]
  exact⟨_,rfl,_,_,rfl,rfl,_,_,rfl,rfl,_,_,rfl,rfl,_,_,rfl,rfl,_,_,rfl,rfl,_,_,rfl,rfl,_,_,rfl,rfl,_,_,rfl,rfl,_,_,rfl, .inr (.inl rfl),_,_,rfl,⟨_,rfl,NilDLL.refl _⟩,rfl⟩
def gainD (c:Cd):De:=⟨5,0,[],[],[],[⟨c,[5]⟩,⟨cd0,[0]⟩]⟩
abbrev zc0:List PV:=[i64 0,i64 0,i64 0,i64 0, .str [],i64 0, .str [],i64 0, .nils, .nils]
theorem nil_zc (l:List Int):NilDL (zc0++[.lst (l.map i64)]) (⟨cd0,l⟩:Cs).cells:=by
 show NilDL [i64 0,i64 0,i64 0,i64 0, .str [],i64 0, .str [],i64 0, .nils, .nils, .lst (l.map i64)] [i64 0,i64 0,i64 0,i64 0, .str [],i64 0, .str [],i64 0, .lst [], .lsts 10 [], .lst (l.map i64)]
 simp only [NilD,NilDL]
 exact⟨_,_,rfl,rfl,_,_,rfl,rfl,_,_,rfl,rfl,_,_,rfl,rfl,_,_,rfl,rfl,_,_,rfl,rfl,_,_,rfl,rfl,_,_,rfl,rfl,_,_,rfl, .inr (.inl rfl),_,_,rfl, .inr (.inr ⟨10,rfl⟩),_,_,rfl,⟨_,rfl,NilDL.refl _⟩,rfl⟩
theorem gain_c (c:Cd):Pure cx 30 [c.pv] (·=.ret [(gainD c).pv]):=by
 refine Pure.nil (r:=.ret [.agg [i64 5,i64 0, .str [], .str [], .nils, .lsts 11 [c.cells++[.lst [i64 5]],zc0++[.lst [i64 0]]]]]) ?_ ⟨_,rfl,_,_,rfl,?_,rfl⟩
 ·obtain⟨o,n,r,v,rf,st,ar⟩:=c
  refine pure_of_vc Tryz.func30 rfl rfl rfl ?_
  refine end1 _ rfl ⟨_,rfl,_,_,rfl,rfl,_,_,rfl,rfl,_,_,rfl,rfl,_,_,rfl,rfl,_,_,rfl, .inl rfl,_,_,rfl,⟨_,rfl,Nat.le_refl _,⟨_,_,rfl,?_,_,_,rfl,?_,rfl⟩⟩,rfl⟩ rfl
  ·exact⟨_,_,rfl,rfl,_,_,rfl,rfl,_,_,rfl,rfl,_,_,rfl,rfl,_,_,rfl,rfl,_,_,rfl,rfl,_,_,rfl,rfl,_,_,rfl,rfl,_,_,rfl,rfl,_,_,rfl,rfl,_,_,rfl,⟨_,rfl,Nat.le_refl _,rfl⟩,rfl⟩
  ·exact⟨_,_,rfl,rfl,_,_,rfl,rfl,_,_,rfl,rfl,_,_,rfl,rfl,_,_,rfl,rfl,_,_,rfl,rfl,_,_,rfl,rfl,_,_,rfl,rfl,_,_,rfl, .inl rfl,_,_,rfl, .inl rfl,_,_,rfl,⟨_,rfl,Nat.le_refl _,rfl⟩,rfl⟩
 ·show NilD _ (.agg [i64 5,i64 0, .str [], .str [], .lsts 4 [], .lsts 11 [(⟨c,[5]⟩:Cs).cells,(⟨cd0,[0]⟩:Cs).cells]])
  simp only [NilD,NilDL]
  refine⟨_,rfl,_,_,rfl,rfl,_,_,rfl,rfl,_,_,rfl,rfl,_,_,rfl,rfl,_,_,rfl, .inr (.inr ⟨4,rfl⟩),_,_,rfl,⟨_,rfl,?_⟩,rfl⟩
  simp only [NilDLL]
  exact⟨_,_,rfl,NilDL.refl _,_,_,rfl,nil_zc [0],rfl⟩
theorem gain_big {c:Cd} (h:BigC c):BigP [gainD c]:=by
 refine⟨by show 1≤9223372036854775807;decide,fun d hd=>?_⟩
 rw [List.mem_singleton] at hd
 subst hd
 have hl:BigL [⟨c,[5]⟩,⟨cd0,[0]⟩]:=by
  refine⟨by show 2≤9223372036854775807;decide,fun x hx=>?_,fun x hx=>?_⟩
  ·rcases List.mem_cons.1 hx with rfl | hx
   ·exact h
   ·rw [List.mem_singleton.1 hx]
    exact big_leaf ⟨nil_big,nil_big⟩ (by decide)
  ·rcases List.mem_cons.1 hx with rfl | hx
   ·show 1≤9223372036854775807;decide
   ·rw [List.mem_singleton.1 hx];show 1≤9223372036854775807;decide
 exact⟨nil_big,nil_big,by show 0≤9223372036854775807;decide,(fun r hr=>by cases hr),hl⟩
abbrev gnA:List UInt8:=[103,97,105,110,32,61,32,123,32]
abbrev gnB:List UInt8:=[32,58,32,53,32,59,32,101,108,115,101,32,58,32,48,32,125,32,59,10]
theorem writes_yes (c:Cd) (want:List UInt8) (hb:BigC c) (hl:want.length≤8000) (h:txtV [gainD c]=[.str ((gnA++want)++gnB),i64 0]):Pure cx 49 [c.pv, .str want] (·=.ret [.bool true]):=by
 have hT:=ptext_c [gainD c] (gain_big hb)
 rw [h] at hT
 have hG:=gain_c c
 clear h hb
 obtain⟨o,n,r,v,rf,st,ar⟩:=c
 refine pure_of_vc Tryz.func49 rfl rfl rfl ?_
 refine hG.eq rfl ?_
 refine hT.lends [1] rfl ⟨_,_,rfl,⟨_,rfl,_,_,rfl,⟨_,rfl,Nat.le_refl _,rfl⟩,rfl⟩,rfl⟩ ?_
 refine And.intro (fun _=>?_) (fun h=>absurd rfl h)
 refine⟨by show List.length _+List.length _≤9223372036854775807;(try simp) <;> omega,?_⟩
 refine⟨by show List.length _+List.length _≤9223372036854775807;(try simp) <;> omega,?_⟩
 refine And.intro (fun _=>?_) (fun h=>absurd rfl h)
 exact end1 _ rfl rfl rfl
theorem leaf_big {nm:List UInt8} {op n:Int} (h:BigS nm):BigC (.mk op n 0 0 ⟨nm,0,[],0⟩ [] []):=big_leaf ⟨h,nil_big⟩ (by decide)
theorem c0_big:BigC exC0:=big_two (big_two (leaf_big (by decide)) (leaf_big (by decide))) (leaf_big (by decide))
theorem c1_big:BigC exC1:=big_one (big_two (leaf_big (by decide)) (leaf_big (by decide)))
theorem works_c:Pure cx 17 [] (·=.ret [.bool true]):=by
 have w0:=writes_yes exC0 [40,32,97,32,61,32,49,32,111,114,32,98,32,61,32,49,32,41,32,97,110,100,32,99,32,61,32,49] c0_big (by decide) ex_w0
 have w1:=writes_yes exC1 [110,111,116,32,40,32,97,32,61,32,49,32,97,110,100,32,98,32,60,32,50,32,41] c1_big (by decide) ex_w1
 refine pure_of_vc Tryz.func17 rfl rfl rfl ?_
 refine((reads_yes ex_p0).arg (args':=[.str exS0, .lsts 6 [[i64 1,i64 12, .str [], .str [], .nils, .nils],[i64 3,i64 2, .str [120], .str [], .nils, .lsts 11 [zc0++[.lst [i64 3,i64 9]]]]]]) ?_).lends [0,1,2] rfl ?_ ?_
 ·show NilDL [.str exS0, .lsts 6 [[i64 1,i64 12, .str [], .str [], .nils, .nils],[i64 3,i64 2, .str [120], .str [], .nils, .lsts 11 [zc0++[.lst [i64 3,i64 9]]]]]] [.str exS0, .lsts 6 [[i64 1,i64 12, .str [], .str [], .lsts 4 [], .lsts 11 []],[i64 3,i64 2, .str [120], .str [], .lsts 4 [], .lsts 11 [(⟨cd0,[3,9]⟩:Cs).cells]]]]
  simp only [NilDL,NilD,NilDLL]
  exact⟨_,_,rfl,rfl,_,_,rfl,⟨_,rfl,⟨_,_,rfl,⟨_,_,rfl,rfl,_,_,rfl,rfl,_,_,rfl,rfl,_,_,rfl,rfl,_,_,rfl, .inr (.inr ⟨4,rfl⟩),_,_,rfl, .inr (.inr ⟨11,rfl⟩),rfl⟩,_,_,rfl,⟨_,_,rfl,rfl,_,_,rfl,rfl,_,_,rfl,rfl,_,_,rfl,rfl,_,_,rfl, .inr (.inr ⟨4,rfl⟩),_,_,rfl,⟨_,rfl,⟨_,_,rfl,nil_zc [3,9],rfl⟩⟩,rfl⟩,rfl⟩⟩,rfl⟩
 ·refine⟨_,_,rfl,rfl,_,_,rfl,⟨_,rfl,Nat.le_refl _,⟨_,_,rfl,?_,_,_,rfl,?_,rfl⟩⟩,rfl⟩
  ·exact⟨_,_,rfl,rfl,_,_,rfl,rfl,_,_,rfl,rfl,_,_,rfl,rfl,_,_,rfl, .inl rfl,_,_,rfl, .inl rfl,rfl⟩
  ·refine⟨_,_,rfl,rfl,_,_,rfl,rfl,_,_,rfl,rfl,_,_,rfl,rfl,_,_,rfl, .inl rfl,_,_,rfl,⟨_,rfl,Nat.le_refl _,⟨_,_,rfl,?_,rfl⟩⟩,rfl⟩
   exact⟨_,_,rfl,rfl,_,_,rfl,rfl,_,_,rfl,rfl,_,_,rfl,rfl,_,_,rfl,rfl,_,_,rfl,rfl,_,_,rfl,rfl,_,_,rfl,rfl,_,_,rfl, .inl rfl,_,_,rfl, .inl rfl,_,_,rfl,⟨_,rfl,Nat.le_refl _,rfl⟩,rfl⟩
 refine vdraw_ot otW (by kernel_rfl) ?_
 refine(is_c [120] 1 1).eq rfl ?_
 refine⟨sk,?_⟩
 refine((both_c 7 [.mk 5 0 0 0 ⟨[121],1,[112],1⟩ [0,1] []]).arg (args':=[i64 7, .lsts 10 [[i64 5,i64 0,i64 0,i64 0, .str [121],i64 1, .str [112],i64 1, .lst [i64 0,i64 1], .nils]]]) ?_).eq rfl ?_
 ·simp only [NilD,NilDL,NilDLL]
  repeat' first | exact rfl | exact NilDL.refl _ | exact NilD.refl _ | exact .inr (.inl rfl) | exact .inr (.inr ⟨_,rfl⟩) | refine⟨_,_,rfl,?_,?_⟩ | refine⟨_,rfl,?_⟩ | refine And.intro ?_ ?_
 refine⟨sk,?_⟩
 refine(both_c 8 [.mk 1 1 0 0 ⟨[120],0,[],0⟩ [] [], .mk 7 0 0 0 rf0 [] [.mk 5 0 0 0 ⟨[121],1,[112],1⟩ [0,1] []]]).eq rfl ?_
 refine⟨sk,?_⟩
 refine((reads_yes ex_p1).arg (args':=[.str exS1, .lsts 6 [[i64 3,i64 2, .str [121], .str [112], .lsts 4 [[.str [120],i64 0, .str [],i64 0],[.str [121],i64 1, .str [112],i64 1]], .lsts 11 [(Cd.cells (.mk 8 0 0 0 rf0 [] [.mk 1 1 0 0 ⟨[120],0,[],0⟩ [] [], .mk 7 0 0 0 rf0 [] [.mk 5 0 0 0 ⟨[121],1,[112],1⟩ [0,1] []]]))++[.lst [i64 1]],zc0++[.lst [i64 (-2)]]]]]]) ?_).eq rfl ?_
 ·show NilDL [.str exS1, .lsts 6 [[i64 3,i64 2, .str [121], .str [112], .lsts 4 [[.str [120],i64 0, .str [],i64 0],[.str [121],i64 1, .str [112],i64 1]], .lsts 11 [(Cd.cells (.mk 8 0 0 0 rf0 [] [.mk 1 1 0 0 ⟨[120],0,[],0⟩ [] [], .mk 7 0 0 0 rf0 [] [.mk 5 0 0 0 ⟨[121],1,[112],1⟩ [0,1] []]]))++[.lst [i64 1]],zc0++[.lst [i64 (-2)]]]]]] [.str exS1, .lsts 6 [[i64 3,i64 2, .str [121], .str [112], .lsts 4 [[.str [120],i64 0, .str [],i64 0],[.str [121],i64 1, .str [112],i64 1]], .lsts 11 [(⟨.mk 8 0 0 0 rf0 [] [.mk 1 1 0 0 ⟨[120],0,[],0⟩ [] [], .mk 7 0 0 0 rf0 [] [.mk 5 0 0 0 ⟨[121],1,[112],1⟩ [0,1] []]],[1]⟩:Cs).cells,(⟨cd0,[-2]⟩:Cs).cells]]]]
  simp only [NilD,NilDL,NilDLL]
  repeat' first | exact rfl | exact NilDL.refl _ | exact NilD.refl _ | exact .inr (.inl rfl) | exact .inr (.inr ⟨_,rfl⟩) | refine⟨_,_,rfl,?_,?_⟩ | refine⟨_,rfl,?_⟩ | refine And.intro ?_ ?_
 refine(is_c [97] 1 1).eq rfl ?_
 refine(is_c [98] 1 1).eq rfl ?_
 refine(both_c 9 [.mk 1 1 0 0 ⟨[97],0,[],0⟩ [] [], .mk 1 1 0 0 ⟨[98],0,[],0⟩ [] []]).uses [4] rfl ⟨_,_,rfl,rfl,_,_,rfl,⟨_,rfl,Nat.le_refl _,rfl⟩,rfl⟩ ?_
 refine(is_c [99] 1 1).eq rfl ?_
 refine(both_c 8 [.mk 9 0 0 0 rf0 [] [.mk 1 1 0 0 ⟨[97],0,[],0⟩ [] [], .mk 1 1 0 0 ⟨[98],0,[],0⟩ [] []], .mk 1 1 0 0 ⟨[99],0,[],0⟩ [] []]).uses [5] rfl ⟨_,_,rfl,rfl,_,_,rfl,⟨_,rfl,Nat.le_refl _,rfl⟩,rfl⟩ ?_
 refine w0.eq rfl ?_
 refine(is_c [97] 1 1).eq rfl ?_
 refine(is_c [98] 3 2).eq rfl ?_
 refine(both_c 8 [.mk 1 1 0 0 ⟨[97],0,[],0⟩ [] [], .mk 3 2 0 0 ⟨[98],0,[],0⟩ [] []]).uses [6] rfl ⟨_,_,rfl,rfl,_,_,rfl,⟨_,rfl,Nat.le_refl _,rfl⟩,rfl⟩ ?_
 refine(both_c 7 [.mk 8 0 0 0 rf0 [] [.mk 1 1 0 0 ⟨[97],0,[],0⟩ [] [], .mk 3 2 0 0 ⟨[98],0,[],0⟩ [] []]]).uses [7] rfl ⟨_,_,rfl,rfl,_,_,rfl,⟨_,rfl,Nat.le_refl _,rfl⟩,rfl⟩ ?_
 refine w1.eq rfl ?_
 refine(refused_yes _ _ _ _ ex_n0).eq rfl ?_
 refine(refused_yes _ _ _ _ ex_n1).eq rfl ?_
 refine(refused_yes _ _ _ _ ex_n2).eq rfl ?_
 refine(refused_yes _ _ _ _ ex_n3).eq rfl ?_
 refine(refused_yes _ _ _ _ ex_n4).eq rfl ?_
 refine((gain_c (.mk 6 2 4 1 ⟨[120],3,[],0⟩ [] [])).arg (args':=[.agg [i64 6,i64 2,i64 4,i64 1, .str [120],i64 3, .str [],i64 0, .nils, .nils]]) ⟨_,_,rfl,nil_leaf2 6 2 4 1 ⟨[120],3,[],0⟩,rfl⟩).eq rfl ?_
 refine(reads_yes ex_p2).lends [8] rfl ⟨_,_,rfl,rfl,_,_,rfl,⟨_,rfl,Nat.le_refl _,rfl⟩,rfl⟩ ?_
 exact end1 _ rfl rfl rfl
inductive ParS (s:List UInt8):Prop
 | no (l c e:Int) (h:parR s=.inl ((l,c),e)) (h1:Pure cx 22 [.str s] (·=.ret [srcV [],i64 l,i64 c,i64 e])) (h2:Pure cx 23 [.str s] (·=.ret [srcV [],i64 l,i64 c,i64 e])) (h3:Pure cx 24 [srcV [],srcV []] (·=.ret [.bool true])):ParS s
 | yes (ds:List De) (h:parR s=.inr ds) (h1:Pure cx 22 [.str s] (·=.ret [srcV ds,i64 0,i64 0,i64 0])) (h2:Pure cx 23 [.str s] (·=.ret [srcV ds,i64 0,i64 0,i64 0])) (h3:Pure cx 24 [srcV ds,srcV ds] (·=.ret [.bool true])):ParS s
theorem nil_bigP:BigP []:=⟨by simp,fun d hd=>by cases hd⟩
theorem parS (s:List UInt8):ParS s:=by
 have h1:=parse_c s
 have h2:=rParse_c s
 cases hp:parR s with
 | inl x=>
  obtain⟨⟨l,c⟩,e⟩:=x
  rw [hp] at h1 h2
  have h3:=sameP_c [] [] nil_bigP nil_bigP
  rw [cb_t rfl] at h3
  exact .no l c e hp h1 h2 h3
 | inr ds=>
  rw [hp] at h1 h2
  have h3:=sameP_c ds ds (parR_big hp) (parR_big hp)
  rw [cb_t rfl] at h3
  exact .yes ds hp h1 h2 h3
theorem goodC_c (c:Cd) (hb:BigC c):Pure cx 29 [c.pv] (·=.ret [.bool (validB [gainD c])]):=by
 have hC:=pcheck_c [gainD c] (gain_big hb)
 have hG:=gain_c c
 rw [chkV] at hC
 generalize validB [gainD c]=b at hC ⊢
 clear hb
 obtain⟨o,n,r,v,rf,st,ar⟩:=c
 refine pure_of_vc Tryz.func29 rfl rfl rfl ?_
 refine hG.eq rfl ?_
 cases b
 ·have hC:Pure cx 15 _ (·=.ret [i64 380]):=hC
  refine hC.lends [1] rfl ⟨_,_,rfl,⟨_,rfl,_,_,rfl,⟨_,rfl,Nat.le_refl _,rfl⟩,rfl⟩,rfl⟩ ?_
  refine And.intro (fun h=>absurd (show(380:Int)=0 from h) (by decide)) (fun _=>?_)
  exact end1 _ rfl rfl rfl
 ·have hC:Pure cx 15 _ (·=.ret [i64 0]):=hC
  refine hC.lends [1] rfl ⟨_,_,rfl,⟨_,rfl,_,_,rfl,⟨_,rfl,Nat.le_refl _,rfl⟩,rfl⟩,rfl⟩ ?_
  refine And.intro (fun _=>?_) (fun h=>absurd rfl h)
  exact end1 _ rfl rfl rfl
theorem goodD_c (d:De) (hb:BigP [d]):Pure cx 35 [d.pv] (·=.ret [.bool (validB [d])]):=by
 have hC:=pcheck_c [d] hb
 rw [chkV] at hC
 generalize validB [d]=b at hC ⊢
 clear hb
 obtain⟨k,n,nm,pl,rs,cs⟩:=d
 refine pure_of_vc Tryz.func35 rfl rfl rfl ?_
 cases b
 ·have hC:Pure cx 15 _ (·=.ret [i64 380]):=hC
  refine hC.lends [1] rfl ⟨_,_,rfl,⟨_,rfl,_,_,rfl,⟨_,rfl,Nat.le_refl _,rfl⟩,rfl⟩,rfl⟩ ?_
  refine And.intro (fun h=>absurd (show(380:Int)=0 from h) (by decide)) (fun _=>?_)
  exact end1 _ rfl rfl rfl
 ·have hC:Pure cx 15 _ (·=.ret [i64 0]):=hC
  refine hC.lends [1] rfl ⟨_,_,rfl,⟨_,rfl,_,_,rfl,⟨_,rfl,Nat.le_refl _,rfl⟩,rfl⟩,rfl⟩ ?_
  refine And.intro (fun _=>?_) (fun h=>absurd rfl h)
  exact end1 _ rfl rfl rfl
abbrev knF:AV:=.fn (.func 29) [] []
abbrev knO:AObj:=⟨82,false, .bx [knF]⟩
abbrev knH:Hp:=⟨1,[(0,knO)]⟩
def knQ (b:Bool) (e:AE) (H':Hp):Prop:=e=.returned (.p (.bool b))∧H'=knH
theorem goodR_h (r:Rf) (hb:BigR r):HoldsG cx 33 [.p r.pv, .ptr 0 0 0] knH (knQ (validB [gainD (.mk 1 0 0 0 r [] [])])):=by
 have hG:=goodC_c (.mk 1 0 0 0 r [] []) (big_leaf hb (by decide))
 generalize validB [gainD (.mk 1 0 0 0 r [] [])]=b at hG ⊢
 obtain⟨nm,m,pl,n⟩:=r
 refine holdsN_of_vc Tryz.func33 rfl rfl rfl ?_
 refine(hG.arg (args':=[.agg [i64 1,i64 0,i64 0,i64 0, .str nm,i64 m, .str pl,i64 n, .nils, .nils]]) ⟨_,_,rfl,nil_leaf2 1 0 0 0 ⟨nm,m,pl,n⟩,rfl⟩).eq rfl ?_
 exact⟨[],[],[], .returned (.p (.bool b)),knH,rfl,sk,sk,rfl,rfl⟩
theorem a_bigR:BigR ⟨[97],0,[],0⟩:=⟨by decide,nil_big⟩
theorem goodS_h (l:List Int) (hl:l.length≤9223372036854775807):HoldsG cx 34 [.p (.lst (l.map i64)), .ptr 0 0 0] knH (knQ (validB [gainD (.mk 5 0 0 0 ⟨[97],0,[],0⟩ l [])])):=by
 have hG:=goodC_c (.mk 5 0 0 0 ⟨[97],0,[],0⟩ l []) (big_leaf a_bigR hl)
 generalize validB [gainD (.mk 5 0 0 0 ⟨[97],0,[],0⟩ l [])]=b at hG ⊢
 refine holdsN_of_vc Tryz.func34 rfl rfl rfl ?_
 refine(hG.arg (args':=[.agg [i64 5,i64 0,i64 0,i64 0, .str [97],i64 0, .str [],i64 0, .lst (l.map i64), .nils]]) ⟨_,_,rfl,nil_leaf 5 0 0 0 ⟨[97],0,[],0⟩ l,rfl⟩).eq rfl ?_
 exact⟨[],[],[], .returned (.p (.bool b)),knH,rfl,sk,sk,rfl,rfl⟩
theorem goodN_h:HoldsG cx 34 [.p .nils, .ptr 0 0 0] knH (knQ (validB [gainD (.mk 5 0 0 0 ⟨[97],0,[],0⟩ [] [])])):=by
 have hG:=goodC_c (.mk 5 0 0 0 ⟨[97],0,[],0⟩ [] []) (big_leaf a_bigR (by decide))
 generalize validB [gainD (.mk 5 0 0 0 ⟨[97],0,[],0⟩ [] [])]=b at hG ⊢
 refine holdsN_of_vc Tryz.func34 rfl rfl rfl ?_
 refine(hG.arg (args':=[.agg [i64 5,i64 0,i64 0,i64 0, .str [97],i64 0, .str [],i64 0, .nils, .nils]]) ⟨_,_,rfl,nil_leaf2 5 0 0 0 ⟨[97],0,[],0⟩,rfl⟩).eq rfl ?_
 exact⟨[],[],[], .returned (.p (.bool b)),knH,rfl,sk,sk,rfl,rfl⟩
def kN:Nat→Cd
 | 0=>(.mk 1 0 0 0 ⟨[97],0,[],0⟩ [] [])
 | n+1=>.mk 7 0 0 0 rf0 [] [kN n]
def kT:Nat→Cd
 | 0=>(.mk 1 0 0 0 ⟨[97],0,[],0⟩ [] [])
 | n+1=>.mk 8 0 0 0 rf0 [] [kT n,kT n]
theorem kc0:validB [gainD (kN 7)]=true:=by kernel_rfl
theorem kc1:validB [gainD (kN 8)]=false:=by kernel_rfl
theorem kc2:validB [gainD (.mk 9 0 0 0 rf0 [] [kT 3, .mk 9 0 0 0 rf0 [] [kT 2,(.mk 4 9999 0 0 ⟨[98],0,[],0⟩ [] [])]])]=true:=by kernel_rfl
theorem kc3:validB [gainD (.mk 9 0 0 0 rf0 [] [kT 3, .mk 7 0 0 0 rf0 [] [kT 3]])]=false:=by kernel_rfl
theorem kc4:validB [gainD cd0]=false:=by kernel_rfl
theorem kc5:validB [gainD (.mk 10 0 0 0 ⟨[65,49],0,[],0⟩ [] [])]=false:=by kernel_rfl
theorem kc6:validB [gainD (.mk 1 0 0 0 ⟨[110,111,100,101],0,[],0⟩ [] [])]=false:=by kernel_rfl
theorem kc7:validB [gainD (.mk 1 10000 0 0 ⟨[97],0,[],0⟩ [] [])]=false:=by kernel_rfl
theorem kc8:validB [gainD (.mk 1 (-1) 0 0 ⟨[97],0,[],0⟩ [] [])]=false:=by kernel_rfl
theorem kc9:validB [gainD (.mk 7 0 0 0 rf0 [] [])]=false:=by kernel_rfl
theorem kc10:validB [gainD (.mk 8 0 0 0 rf0 [] [kN 7])]=false:=by kernel_rfl
theorem kc11:validB [gainD (.mk 1 0 0 0 rf0 [] [kN 7])]=false:=by kernel_rfl
theorem kc12:validB [gainD (.mk 7 1 0 0 rf0 [] [(.mk 1 0 0 0 ⟨[97],0,[],0⟩ [] [])])]=false:=by kernel_rfl
theorem kr0:validB [gainD (.mk 1 0 0 0 ⟨[97],2,[],9999⟩ [] [])]=true:=by kernel_rfl
theorem kr1:validB [gainD (.mk 1 0 0 0 ⟨[97],2,[],10000⟩ [] [])]=false:=by kernel_rfl
theorem kr2:validB [gainD (.mk 1 0 0 0 ⟨[97],0,[],1⟩ [] [])]=false:=by kernel_rfl
theorem kr3:validB [gainD (.mk 1 0 0 0 ⟨[97],0,[112],0⟩ [] [])]=false:=by kernel_rfl
theorem kr4:validB [gainD (.mk 1 0 0 0 ⟨[97],1,[],0⟩ [] [])]=false:=by kernel_rfl
theorem kr5:validB [gainD (.mk 1 0 0 0 ⟨[97],4,[],0⟩ [] [])]=false:=by kernel_rfl
theorem kr6:validB [gainD (.mk 1 0 0 0 ⟨[97],3,[],1⟩ [] [])]=false:=by kernel_rfl
theorem kr7:validB [gainD (.mk 1 0 0 0 ⟨[97],3,[],0⟩ [] [])]=true:=by kernel_rfl
theorem ks0:validB [gainD (.mk 5 0 0 0 ⟨[97],0,[],0⟩ [0] [])]=true:=by kernel_rfl
theorem ks1:validB [gainD (.mk 5 0 0 0 ⟨[97],0,[],0⟩ [] [])]=false:=by kernel_rfl
theorem ks2:validB [gainD (.mk 5 0 0 0 ⟨[97],0,[],0⟩ [1,1] [])]=false:=by kernel_rfl
theorem ks3:validB [gainD (.mk 5 0 0 0 ⟨[97],0,[],0⟩ [2,1] [])]=false:=by kernel_rfl
theorem ks4:validB [gainD (.mk 5 0 0 0 ⟨[97],0,[],0⟩ [0,1,2,3,4,5,6,9999] [])]=true:=by kernel_rfl
theorem ks5:validB [gainD (.mk 5 0 0 0 ⟨[97],0,[],0⟩ [0,1,2,3,4,5,6,7,8] [])]=false:=by kernel_rfl
theorem ks6:validB [gainD (.mk 5 0 0 0 ⟨[97],0,[],0⟩ [10000] [])]=false:=by kernel_rfl
theorem kd0:validB [⟨1,0,[],[],[],[]⟩]=true:=by kernel_rfl
theorem kd1:validB [⟨0,0,[],[],[],[]⟩]=false:=by kernel_rfl
theorem kd2:validB [⟨6,0,[],[],[],[]⟩]=false:=by kernel_rfl
theorem kd3:validB [⟨1,0,[97],[],[],[]⟩]=false:=by kernel_rfl
theorem kd4:validB [⟨2,0,[],[],[],[]⟩]=false:=by kernel_rfl
theorem kd5:validB [⟨3,0,[97],[],[],[]⟩]=false:=by kernel_rfl
theorem kd6:validB [⟨3,0,[97],[],[],[⟨cd0,[1]⟩]⟩]=true:=by kernel_rfl
theorem kd7:validB [⟨4,0,[97],[],[],[⟨cd0,[1]⟩]⟩]=false:=by kernel_rfl
theorem kd8:validB [⟨5,1,[],[],[],[⟨cd0,[1]⟩]⟩]=false:=by kernel_rfl
theorem kd9:validB [⟨4,0,[97],[112],[],[]⟩]=false:=by kernel_rfl
theorem kd10:validB [⟨5,0,[],[],[],[⟨cd0,[1]⟩,⟨cd0,[1]⟩]⟩]=false:=by kernel_rfl
theorem kd11:validB [⟨5,0,[],[],[],[⟨cd0,[]⟩]⟩]=false:=by kernel_rfl
theorem kd12:validB [⟨5,0,[],[],[],[⟨cd0,[10000]⟩]⟩]=false:=by kernel_rfl
theorem kd13:validB [⟨5,0,[],[],[rf0],[⟨cd0,[1]⟩]⟩]=false:=by kernel_rfl
abbrev kS:List UInt8:=[103,114,97,105,110,32,54,48,32,59,10,112,108,97,116,101,32,112,32,61,32,51,32,59,10,110,111,100,101,32,97,32,91,32,112,32,93,32,58,32,50,32,61,32,123,32,101,108,115,101,32,58,32,51,48,32,51,48,32,125,32,59,10,110,111,100,101,32,98,32,58,32,51,32,102,114,111,109,32,97,32,91,32,97,108,108,32,93,32,44,32,97,32,91,32,48,32,93,32,61,32,123,32,99,111,117,110,116,32,40,32,97,32,91,32,97,108,108,32,93,32,61,32,49,32,41,32,47,61,32,50,32,111,114,32,97,32,91,32,48,32,93,32,60,61,32,49,32,58,32,49,32,50,32,53,55,32,59,32,110,111,116,32,110,111,116,32,97,32,91,32,48,32,93,32,60,32,49,32,97,110,100,32,97,32,91,32,48,32,93,32,105,110,32,123,32,48,32,44,32,49,32,125,32,58,32,48,32,48,32,54,48,32,59,32,101,108,115,101,32,58,32,50,48,32,50,48,32,50,48,32,125,32,59,10,99,104,111,111,115,101,32,100,32,58,32,50,32,115,101,101,105,110,103,32,97,32,91,32,50,32,93,32,44,32,98,32,59,10,103,97,105,110,32,102,114,111,109,32,98,32,44,32,100,32,44,32,97,32,91,32,112,32,43,32,50,32,93,32,61,32,123,32,98,32,61,32,48,32,111,114,32,40,32,98,32,61,32,49,32,111,114,32,100,32,61,32,48,32,41,32,58,32,45,32,55,32,59,32,101,108,115,101,32,58,32,48,32,125,32,59,10,103,97,105,110,32,61,32,123,32,101,108,115,101,32,58,32,57,57,57,57,32,125,32,59,10,99,104,111,111,115,101,32,101,32,58,32,49,32,59,10]
def kD:List De:=match parR kS with | .inl _=>[] | .inr ds=>ds
theorem k_p:parR kS=.inr kD:=by kernel_rfl
theorem k_t:txtV kD=[.str kS,i64 0]:=by kernel_rfl
theorem k_n:kD.length=8:=by kernel_rfl
theorem kf0:parR [103,97,105,110,32,61,32,123,32,101,108,115,101,32,58,32,49,32,125,32,59,32,63]=.inl ((1,23),370):=by kernel_rfl
theorem kf1:parR [103,114,97,105,110,32,45,32,49,32,59]=.inl ((1,7),381):=by kernel_rfl
theorem kf2:parR [103,97,105,110,32,61,32,123,32,97,32,91,32,97,108,108,32,93,32,61,32,49,32,97,110,100,32,58,32,49,32,59,32,101,108,115,101,32,58,32,49,32,125,32,59]=.inl ((1,28),381):=by kernel_rfl
theorem kf3:parR [103,97,105,110,32,61,32,123,32,99,111,117,110,116,32,40,32,97,32,61,32,49,32,41,32,61,32,49,32,58,32,49,32,59,32,101,108,115,101,32,58,32,49,32,125,32,59]=.inl ((1,20),381):=by kernel_rfl
theorem kf4:parR [110,111,100,101,32,97,32,91,32,49,32,93,32,58,32,50,32,61,32,123,32,101,108,115,101,32,58,32,49,32,125,32,59]=.inl ((1,10),381):=by kernel_rfl
theorem kf5:parR [103,97,105,110,32,61,32,123,32,97,32,105,110,32,123,32,125,32,58,32,49,32,59,32,101,108,115,101,32,58,32,49,32,125,32,59]=.inl ((1,17),381):=by kernel_rfl
theorem kf6:parR [103,97,105,110,32,61,32,123,32,101,108,115,101,32,58,32,49,32,59,32,125,32,59]=.inl ((1,19),381):=by kernel_rfl
theorem kf7:parR [103,97,105,110,32,61,32,123,32,101,108,115,101,32,49,32,125,32,59]=.inl ((1,15),381):=by kernel_rfl
theorem kf8:parR [99,104,111,111,115,101,32,100,32,58,32,50,32,102,114,111,109,32,120,32,59]=.inl ((1,14),381):=by kernel_rfl
theorem kf9:parR [103,114,97,105,110,32,49]=.inl ((0,0),381):=by kernel_rfl
def kR:Nat→List UInt8
 | 0=>[]
 | n+1=>kR n++[112,108,97,116,101,32,112,32,61,32,49,32,59,10]
theorem kg0:¬ parR (kR 30)=.inr []:=by
 have h:(match parR (kR 30) with | .inl _=>0 | .inr ds=>ds.length)=30:=by kernel_rfl
 intro e;rw [e] at h;cases h
theorem kg1:parR (kR 30++[103,114,97,105,110,32,49,32,59])=.inl ((0,0),3):=by kernel_rfl
theorem kg2:parR []=.inr []:=by kernel_rfl
theorem kg3:chkV (List.replicate 31 ⟨0,0,[],[],[],[]⟩)=380:=by kernel_rfl
end Go.Proofs.YtohfoaplnjcihaaGreatDoor
namespace Go.Proofs.YtohfoaplnjcihaaGreatDoor
open Go Y
def forceP (x:PV) (K:PV→Prop):Prop:=
 match x with
 | .int k n=>K (.int k n)
 | .bool b=>K (.bool b)
 | .str s=>K (.str s)
 | .agg cs=>K (.agg cs)
 | .nils=>K .nils
 | .lst xs=>K (.lst xs)
 | .lsts s xs=>K (.lsts s xs)
 | .fp cs=>K (.fp cs)
 | x=>K x
theorem forceP_eq (x:PV) (K:PV→Prop):forceP x K=K x:=by unfold forceP;split <;> rfl
def forceA (v:AV) (K:AV→Prop):Prop:=
 match v with
 | .p x=>forceP x fun x=>K (.p x)
 | .ptr n i f=>K (.ptr n i f)
 | .sl n s off len=>K (.sl n s off len)
 | .agg cs=>K (.agg cs)
 | .tup cs=>K (.tup cs)
 | v=>K v
theorem forceA_eq (v:AV) (K:AV→Prop):forceA v K=K v:=by
 unfold forceA
 split
 ·rw [forceP_eq]
 all_goals rfl
theorem then_mono {r:PRes} {P K:AV→Prop} (h:r.Then P) (hk:∀ v,P v→K v):r.Then K:=by
 cases r with
 | val v=>exact hk _ h
 | cond c v=>exact⟨h.1,hk _ h.2⟩
 | split c a b=>exact⟨fun x=>hk _ (h.1 x),fun x=>hk _ (h.2 x)⟩
 | splitc g c a b=>exact⟨h.1,fun x=>hk _ (h.2.1 x),fun x=>hk _ (h.2.2 x)⟩
 | wrap k n=>obtain⟨m,e,hm⟩:=h;exact⟨m,e,hk _ hm⟩
 | wrapc c k n=>obtain⟨hc,m,e,hm⟩:=h;exact⟨hc,m,e,hk _ hm⟩
 | ex p=>obtain⟨v,hp,hv⟩:=h;exact⟨v,hp,hk _ hv⟩
 | bad=>exact h.elim
section
variable {C:Cx} {rd:Bool} {all:List Oper} {σ0:Sg} {K:Sg→List AD→Hp→Prop} {X:List AP→Sg→List AD→Hp→Prop} {i:Nat} {t:OT} {L:List En} {ds:List AD} {H:Hp} {o:Oper} {v:AV} {hs:List Nat}
theorem pstep (h1:onth all i=some o) (h2:gd all o (rst (looks all o) (ap σ0 L))=some true)
  (h3:(popX C o.op (evl C (rst (looks all o) (ap σ0 L))) (lkO o.op H)).Then fun u=>forceA u fun u=>u=v) (hk:vD C rd all σ0 K X t (⟨i,o,v,false⟩::L) ds H):vD C rd all σ0 K X (.pure i t) L ds H:=by
 rw [vD_pure,h1]
 simp only []
 rw [h2]
 refine then_mono h3 fun u hu=>?_
 rw [forceA_eq] at hu
 rw [hu]
 exact hk
theorem estep0 (h1:onth all i=some o) (h2:gd all o (rst (looks all o) (ap σ0 L))=some true)
  (hv:vOp C rd o (rst (looks all o) (ap σ0 L)) ds H (fun v ds' H'=>vD C rd all σ0 K X t (⟨i,o,v,true⟩::L) ds' H') (fun ch H'=>X ch (unw all σ0) ds H')):vD C rd all σ0 K X (.eff i [] t .nil) L ds H:=by
 rw [vD_eff,h1]
 simp only []
 rw [h2]
 exact hv
theorem estep {x:Nat} (h1:onth all i=some o) (h2:gd all o (rst (looks all o) (ap σ0 L))=some true)
  (hv:vOp C rd o (rst (looks all o) (ap σ0 L)) ds H (fun v ds' H'=>Held C all σ0 (x::hs) H' L∧vD C rd all σ0 K X t (⟨i,o,v,true⟩::L) ds' H') (fun ch H'=>X ch (unw all σ0) ds H')):vD C rd all σ0 K X (.eff i (x::hs) t .nil) L ds H:=by
 rw [vD_eff,h1]
 simp only []
 rw [h2]
 exact hv
theorem ecall0 {g:FuncId} {pargs:List PV} {x:PV} (h1:onth all i=some o) (h2:gd all o (rst (looks all o) (ap σ0 L))=some true) (hP:Pure C g pargs (·=.ret [x]))
  (hv:∀ K' X',vOp C rd o (rst (looks all o) (ap σ0 L)) ds H K' X'=Holds C g (pargs.map .p) H (onE (fun v H'=>K' v ds H') X')) (hk:vD C rd all σ0 K X t (⟨i,o, .p x,true⟩::L) ds H):vD C rd all σ0 K X (.eff i [] t .nil) L ds H:=by
 refine estep0 h1 h2 ?_
 rw [hv]
 exact hP.eq rfl hk
theorem ecall {g:FuncId} {pargs:List PV} {x:PV} {y:Nat} (h1:onth all i=some o) (h2:gd all o (rst (looks all o) (ap σ0 L))=some true) (hP:Pure C g pargs (·=.ret [x]))
  (hv:∀ K' X',vOp C rd o (rst (looks all o) (ap σ0 L)) ds H K' X'=Holds C g (pargs.map .p) H (onE (fun v H'=>K' v ds H') X')) (hh:Held C all σ0 (y::hs) H L) (hk:vD C rd all σ0 K X t (⟨i,o, .p x,true⟩::L) ds H):vD C rd all σ0 K X (.eff i (y::hs) t .nil) L ds H:=by
 refine estep h1 h2 ?_
 rw [hv]
 exact hP.eq rfl ⟨hh,hk⟩
end
end Go.Proofs.YtohfoaplnjcihaaGreatDoor
namespace Go.Proofs
open Go.Shelf
def Tryz.lays105_ren:Go.Shelf.Ren:=⟨fun | 105=>36 | 212=>61 | 99=>62 | 165=>63 | 166=>64 | 170=>44 | 169=>45 | 263=>105 | 264=>106 | 206=>107 | 240=>108 | 241=>109 | 276=>151 | 277=>152 | n=>n,fun | 9=>9 | 3=>3 | 4=>4 | 20=>20 | 0=>0 | 46=>144 | 109=>145 | 5=>5 | 72=>106 | 76=>151 | 51=>187 | 146=>188 | 53=>190 | 148=>191 | 70=>104 | 37=>40 | 75=>150 | 127=>165 | 164=>214 | 80=>111 | n=>n,fun | n=>n⟩
theorem Tryz.lays105:Go.Proofs.Lays.n105 Tryz.prog Tryz.lays105_ren:={
 mixed:=by kernel_rfl
 f99:=Tryz.func62.trans (congrArg some (by kernel_rfl))
 f105:=Tryz.func36.trans (congrArg some (by kernel_rfl))
 f165:=Tryz.func63.trans (congrArg some (by kernel_rfl))
 f166:=Tryz.func64.trans (congrArg some (by kernel_rfl))
 f169:=Tryz.func45.trans (congrArg some (by kernel_rfl))
 f170:=Tryz.func44.trans (congrArg some (by kernel_rfl))
 f206:=Tryz.func107.trans (congrArg some (by kernel_rfl))
 f212:=Tryz.func61.trans (congrArg some (by kernel_rfl))
 f240:=Tryz.func108.trans (congrArg some (by kernel_rfl))
 f241:=Tryz.func109.trans (congrArg some (by kernel_rfl))
 f263:=Tryz.func105.trans (congrArg some (by kernel_rfl))
 f264:=Tryz.func106.trans (congrArg some (by kernel_rfl))
 f276:=Tryz.func151.trans (congrArg some (by kernel_rfl))
 f277:=Tryz.func152.trans (congrArg some (by kernel_rfl))
 t0:=Tryz.underlying0
 a0:=Tryz.isAgg0
 z0:=Tryz.sizeOf0
 v0:=Tryz.zeroValue0
 t3:=Tryz.underlying3
 a3:=Tryz.isAgg3
 z3:=Tryz.sizeOf3
 v3:=Tryz.zeroValue3
 t4:=Tryz.underlying4
 a4:=Tryz.isAgg4
 z4:=Tryz.sizeOf4
 v4:=Tryz.zeroValue4
 t5:=Tryz.underlying5
 a5:=Tryz.isAgg5
 z5:=Tryz.sizeOf5
 v5:=Tryz.zeroValue5
 t9:=Tryz.underlying9
 a9:=Tryz.isAgg9
 z9:=Tryz.sizeOf9
 v9:=Tryz.zeroValue9
 t20:=Tryz.underlying20
 a20:=Tryz.isAgg20
 z20:=Tryz.sizeOf20
 v20:=Tryz.zeroValue20
 t37:=Tryz.underlying40
 a37:=Tryz.isAgg40
 z37:=Tryz.sizeOf40
 v37:=Tryz.zeroValue40
 t46:=Tryz.underlying144
 a46:=Tryz.isAgg144
 z46:=Tryz.sizeOf144
 v46:=Tryz.zeroValue144
 t51:=Tryz.underlying187
 a51:=Tryz.isAgg187
 z51:=Tryz.sizeOf187
 v51:=Tryz.zeroValue187
 t53:=Tryz.underlying190
 a53:=Tryz.isAgg190
 z53:=Tryz.sizeOf190
 v53:=Tryz.zeroValue190
 t70:=Tryz.underlying104
 a70:=Tryz.isAgg104
 z70:=Tryz.sizeOf104
 v70:=Tryz.zeroValue104
 t72:=Tryz.underlying106
 a72:=Tryz.isAgg106
 z72:=Tryz.sizeOf106
 v72:=Tryz.zeroValue106
 t75:=Tryz.underlying150
 a75:=Tryz.isAgg150
 z75:=Tryz.sizeOf150
 v75:=Tryz.zeroValue150
 t76:=Tryz.underlying151
 a76:=Tryz.isAgg151
 z76:=Tryz.sizeOf151
 v76:=Tryz.zeroValue151
 t109:=Tryz.underlying145
 a109:=Tryz.isAgg145
 z109:=Tryz.sizeOf145
 v109:=Tryz.zeroValue145
 t127:=Tryz.underlying165
 a127:=Tryz.isAgg165
 z127:=Tryz.sizeOf165
 v127:=Tryz.zeroValue165
 t146:=Tryz.underlying188
 a146:=Tryz.isAgg188
 z146:=Tryz.sizeOf188
 v146:=Tryz.zeroValue188
 t148:=Tryz.underlying191
 a148:=Tryz.isAgg191
 z148:=Tryz.sizeOf191
 v148:=Tryz.zeroValue191
 t164:=Tryz.underlying214
 a164:=Tryz.isAgg214
 z164:=Tryz.sizeOf214
 v164:=Tryz.zeroValue214 }
theorem Tryz.Builder_Extra_105:Builder.Extra Tryz.prog Tryz.lays105_ren:={
 sizeBuilder:=by kernel_rfl
 liesBuilder:=by kernel_rfl
 t5:=Tryz.underlying5
 a5:=Tryz.isAgg5
 z5:=Tryz.sizeOf5
 v5:=Tryz.zeroValue5
 infoByte:=by kernel_rfl
 cellsByte:=by kernel_rfl
 sizeByte:=by kernel_rfl
 neB5:=by decide }
open Go.RowKit Go.Lib in
theorem Tryz.strings_Repeat (s:ByteArray) (c:Nat) (w:World) (hc:c≤9223372036854775807) (hlen:s.size * c≤140737488355328) :
  Calls Tryz.prog 36 #[.string s, .int .i64 c] w fun e w'=>e=.returned (.string ⟨(Lib.repeatL s.data.toList c).toArray⟩)∧Below w.heap.size w w':=Any.strings_Repeat Tryz.lays105 Tryz.Builder_Extra_105 s c w hc hlen
end Go.Proofs
namespace Go.Proofs.YtohfoaplnjcihaaGreatDoor
open Go Y RowKit
set_option maxRecDepth 100000
set_option maxHeartbeats 4000000
theorem repeat_c (s:List UInt8) (n:Nat) (hn:n≤100000) (hs:s.length≤100000):Pure cx 36 [.str s,i64 n] (·=.ret [.str (Lib.repeatL s n)]):=by
 refine pure_below Tryz.func36 rfl rfl rfl fun Γ w args' hR hA=>?_
 simp only [List.map,VRL,VR,VP] at hA
 obtain⟨a,as',rfl,rfl,b,bs',rfl,rfl,rfl⟩:=hA
 have hm:s.length * n≤100000 * 100000:=Nat.mul_le_mul hs hn
 exact⟨_,rfl,Tryz.strings_Repeat ⟨⟨s⟩⟩ n w (by omega) (by show s.length * n≤_;omega)⟩
end Go.Proofs.YtohfoaplnjcihaaGreatDoor
namespace Go.Proofs.YtohfoaplnjcihaaGreatDoor
open Go Y
set_option maxRecDepth 100000
set_option maxHeartbeats 40000000
abbrev otK:OT:=(.pure 0 (.pure 1 (.eff 2 [] (.pure 3 (.pure 4 (.pure 5 (.pure 6 (.eff 7 [4] (.eff 8 [] (.pure 9 (.pure 10 (.pure 11 (.pure 12 (.pure 13 (.pure 14 (.pure 15 (.pure 16 (.pure 17 (.eff 18 [17,15,13,12] (.pure 19 (.eff 20 [13,12] (.pure 21 (.eff 22 [12] (.eff 23 [] (.pure 24 (.pure 25 (.pure 26 (.pure 27 (.pure 28 (.pure 29 (.eff 30 [27,26] (.pure 31 (.eff 32 [26] (.eff 33 [] (.pure 34 (.pure 35 (.pure 36 (.pure 37 (.pure 38 (.eff 39 [] (.pure 40 (.pure 41 (.pure 42 (.pure 43 (.eff 44 [43] (.eff 45 [] (.pure 46 (.pure 47 (.pure 48 (.pure 49 (.eff 50 [49] (.eff 51 [] (.pure 52 (.pure 53 (.pure 54 (.pure 55 (.eff 56 [55] (.eff 57 [] (.pure 58 (.pure 59 (.pure 60 (.pure 61 (.eff 62 [61] (.eff 63 [] (.pure 64 (.pure 65 (.pure 66 (.pure 67 (.eff 68 [67] (.eff 69 [] (.pure 70 (.pure 71 (.pure 72 (.pure 73 (.pure 74 (.pure 75 (.eff 76 [73] (.eff 77 [] (.pure 78 (.pure 79 (.pure 80 (.pure 81 (.pure 82 (.pure 83 (.eff 84 [81] (.eff 85 [] (.pure 86 (.pure 87 (.pure 88 (.pure 89 (.eff 90 [89] (.pure 91 (.pure 92 (.eff 93 [] (.pure 94 (.pure 95 (.pure 96 .fin))) .nil))) .nil))))) .nil) .nil))))))) .nil) .nil))))))) .nil) .nil))))) .nil) .nil))))) .nil) .nil))))) .nil) .nil))))) .nil) .nil))))) .nil)))))) .nil) .nil)) .nil))))))) .nil) .nil)) .nil)) .nil)))))))))) .nil) .nil))))) .nil)))
abbrev cdO (c:Cd):AObj:=⟨37,false, .bx (c.cells.map .p)⟩
abbrev kn4 (D:List De) (a b:Cd):Hp:=⟨4,[(3,cdO b),(2,cdO a),(1,knO),(0,srO (.p (des D)))]⟩
theorem kD_big:BigP kD:=parR_big k_p
theorem kN_big:∀ n,BigC (kN n)
 | 0=>leaf_big (by decide)
 | n+1=>big_one (kN_big n)
theorem kT_big:∀ n,BigC (kT n)
 | 0=>leaf_big (by decide)
 | n+1=>big_two (kT_big n) (kT_big n)
theorem good {c:Cd} {b:Bool} (h:validB [gainD c]=b) (hb:BigC c):Pure cx 29 [c.pv] (·=.ret [.bool b]):=by
 have:=goodC_c c hb
 rw [h] at this
 exact this
theorem bigLz {c:List Cs} (h:∀ x∈c,x.cond=cd0∧x.nums.length≤9) (hl:c.length≤9):BigL c:=
 ⟨by omega,fun x hx=>by rw [(h x hx).1];exact big_leaf ⟨by decide,by decide⟩ (by decide),fun x hx=>by have:=(h x hx).2;omega⟩
theorem bigE {k n:Int} {nm pl:List UInt8} {l:List Rf} {c:List Cs} (h1:nm.length≤9) (h2:pl.length≤9) (h3:l.length≤9) (h4:∀ r∈l,BigR r) (h5:BigL c):BigP [⟨k,n,nm,pl,l,c⟩]:=by
 refine⟨by show 1≤9223372036854775807;decide,fun d hd=>?_⟩
 rw [List.mem_singleton.1 hd]
 exact⟨by show nm.length≤9223372036854775807;omega,by show pl.length≤9223372036854775807;omega,by show l.length≤9223372036854775807;omega,h4,h5⟩
theorem goodE {k n:Int} {nm pl:List UInt8} {fr cs:PV} {l:List Rf} {c:List Cs} {b:Bool} (h:validB [⟨k,n,nm,pl,l,c⟩]=b) (h1:nm.length≤9) (h2:pl.length≤9) (h3:l.length≤9) (h4:∀ r∈l,BigR r) (h5:BigL c) (hf:NilD fr (rfl_ l)) (hc:NilD cs (css c)):Pure cx 35 [.agg [i64 k,i64 n, .str nm, .str pl,fr,cs]] (·=.ret [.bool b]):=by
 have:=goodD_c ⟨k,n,nm,pl,l,c⟩ (bigE h1 h2 h3 h4 h5)
 rw [h] at this
 exact this.arg ⟨_,_,rfl,nil_de hf hc,rfl⟩
theorem bigL0:BigL []:=bigLz (fun x hx=>by cases hx) (by decide)
theorem no_r:∀ r∈([]:List Rf),BigR r:=fun r hr=>by cases hr
theorem nil_k (ls:List (List Int)):NilD (.lsts 11 (ls.map fun l=>zc0++[.lst (l.map i64)])) (css (ls.map fun l=>⟨cd0,l⟩)):=by
 simp only [css,NilD]
 refine⟨_,rfl,?_⟩
 induction ls with
 | nil=>simp only [List.map_nil,NilDLL]
 | cons a r ih=>
  simp only [List.map_cons,NilDLL]
  exact⟨_,_,rfl,nil_zc a,ih⟩
theorem nil_k0:NilD (.lsts 11 [zc0++[.nils]]) (css [⟨cd0,[]⟩]):=by
 show NilD (.lsts 11 [[i64 0,i64 0,i64 0,i64 0, .str [],i64 0, .str [],i64 0, .nils, .nils, .nils]]) (.lsts 11 [[i64 0,i64 0,i64 0,i64 0, .str [],i64 0, .str [],i64 0, .lst [], .lsts 10 [], .lst []]])
 simp only [NilD,NilDL,NilDLL]
 exact⟨_,rfl,_,_,rfl,⟨_,_,rfl,rfl,_,_,rfl,rfl,_,_,rfl,rfl,_,_,rfl,rfl,_,_,rfl,rfl,_,_,rfl,rfl,_,_,rfl,rfl,_,_,rfl,rfl,_,_,rfl, .inr (.inl rfl),_,_,rfl, .inr (.inr ⟨10,rfl⟩),_,_,rfl, .inr (.inl rfl),rfl⟩,rfl⟩
theorem nilLL_rep {a b:List PV} (h:NilDL a b):∀ n,NilDLL (List.replicate n a) (List.replicate n b)
 | 0=>by simp only [List.replicate_zero,NilDLL]
 | n+1=>by
  simp only [List.replicate_succ,NilDLL]
  exact⟨_,_,rfl,h,nilLL_rep h n⟩
theorem chk31:Pure cx 15 [.agg [.lsts 6 (List.replicate 31 [i64 0,i64 0, .str [], .str [], .nils, .nils])]] (·=.ret [i64 380]):=by
 have hb:BigP (List.replicate 31 ⟨0,0,[],[],[],[]⟩):=by
  refine⟨by rw [List.length_replicate];decide,fun d hd=>?_⟩
  rw [(List.mem_replicate.1 hd).2]
  exact⟨by show 0≤9223372036854775807;decide,by show 0≤9223372036854775807;decide,by show 0≤9223372036854775807;decide,no_r,bigL0⟩
 have h:=pcheck_c _ hb
 rw [kg3] at h
 refine h.arg ⟨_,_,rfl,?_,rfl⟩
 show NilD (.agg [.lsts 6 (List.replicate 31 [i64 0,i64 0, .str [], .str [], .nils, .nils])]) (.agg [.lsts 6 ((List.replicate 31 (⟨0,0,[],[],[],[]⟩:De)).map De.cells)])
 rw [List.map_replicate]
 have h0:NilDL [i64 0,i64 0, .str [], .str [], .nils, .nils] (De.cells ⟨0,0,[],[],[],[]⟩):=by
  have:=nil_de (k:=0) (n:=0) (nm:=[]) (pl:=[]) nil_4 nil_11
  simp only [NilD] at this
  obtain⟨z,e,h⟩:=this
  injection e with e
  subst e
  exact h
 have h1:=nilLL_rep h0 31
 simp only [NilD,NilDL]
 exact⟨_,rfl,_,_,rfl,⟨_,rfl,h1⟩,rfl⟩
abbrev plT:List UInt8:=[112,108,97,116,101,32,112,32,61,32,49,32,59,10]
theorem rep30:Pure cx 36 [.str plT,i64 30] (·=.ret [.str (kR 30)]):=by
 have h:=repeat_c plT 30 (by decide) (by decide)
 rw [show Lib.repeatL plT 30=kR 30 from by kernel_rfl] at h
 exact h
theorem kR_len:(kR 30).length=420:=by kernel_rfl
theorem kR_all:∃ S:List UInt8,Pure cx 36 [.str plT,i64 30] (·=.ret [.str S])∧S.length=420∧Pure cx 37 [.str S,des []] (·=.ret [.bool false])∧Pure cx 28 [.str (S++[103,114,97,105,110,32,49,32,59]),i64 0,i64 0,i64 3] (·=.ret [.bool true]):=by
 have g0:=reads_c (kR 30) [] nil_bigP
 rw [cb_f kg0] at g0
 exact⟨kR 30,rep30,kR_len,g0,refused_yes _ 0 0 3 kg1⟩
def zO (l:List Int):AObj:=⟨TInt,true, .pu (l.map i64)⟩
theorem goodZ:Pure cx 29 [.agg zc0] (·=.ret [.bool false]):=
 (good kc4 (big_leaf ⟨by decide,by decide⟩ (by decide))).arg (args':=[.agg zc0]) ⟨_,_,rfl,nil_leaf2 0 0 0 0 rf0,rfl⟩
theorem nil_w (l:List Cd):NilD (.agg [i64 7,i64 1,i64 0,i64 0, .str [],i64 0, .str [],i64 0, .nils, .lsts 10 (cellsL l)]) (Cd.mk 7 1 0 0 rf0 [] l).pv:=by
 show NilD _ (.agg [i64 7,i64 1,i64 0,i64 0, .str [],i64 0, .str [],i64 0, .lst [], .lsts 10 (cellsL l)])
 simp only [NilD,NilDL]
 exact⟨_,rfl,_,_,rfl,rfl,_,_,rfl,rfl,_,_,rfl,rfl,_,_,rfl,rfl,_,_,rfl,rfl,_,_,rfl,rfl,_,_,rfl,rfl,_,_,rfl,rfl,_,_,rfl, .inr (.inl rfl),_,_,rfl,⟨_,rfl,NilDLL.refl _⟩,rfl⟩
theorem goodW0:Pure cx 29 [(Cd.mk 7 1 0 0 rf0 [] [.mk 1 0 0 0 ⟨[97],0,[],0⟩ [] []]).pv] (·=.ret [.bool false]):=by
 have hl:BigC (.mk 1 0 0 0 ⟨[97],0,[],0⟩ [] []):=leaf_big (by decide)
 refine good kc12 ?_
 simp only [BigC,BigCs]
 simp only [BigC,BigCs] at hl
 exact⟨⟨by decide,by decide⟩,by decide,by decide,hl,trivial⟩
theorem goodW:Pure cx 29 [.agg [i64 7,i64 1,i64 0,i64 0, .str [],i64 0, .str [],i64 0, .nils, .lsts 10 (cellsL [.mk 1 0 0 0 ⟨[97],0,[],0⟩ [] []])]] (·=.ret [.bool false]):=
 goodW0.arg ⟨_,_,rfl,nil_w _,rfl⟩
theorem parseKnown_c:Pure cx 8 [] (·=.ret [.bool true]):=by
 have hP:=parse_c kS
 rw [k_p] at hP
 have hP:Pure cx 22 [.str kS] (·=.ret [srcV kD,i64 0,i64 0,i64 0]):=hP
 have hT:=ptext_c kD kD_big
 rw [k_t] at hT
 have hl:(kD.map De.cells).length=8:=by rw [List.length_map,k_n]
 obtain⟨S,hRep,hSl,g0,g1⟩:=kR_all
 refine pure_of_vc Tryz.func8 rfl rfl rfl ?_
 refine works_c.eq rfl ?_
 generalize kD=D at hP hT hl
 refine hP.eq rfl ?_
 refine hT.eq rfl ?_
 refine And.intro (fun _=>?_) (fun h=>absurd rfl h)
 refine And.intro (fun _=>?_) (fun h=>absurd rfl h)
 refine And.intro (fun _=>?_) (fun h=>absurd rfl h)
 refine And.intro (fun _=>?_) (fun h=>absurd rfl h)
 refine And.intro (fun _=>?_) (fun h=>absurd rfl h)
 refine And.intro (fun _=>?_) (fun h=>absurd (show((D.map De.cells).length:Int)=8 by rw [hl];rfl) h)
 clear hP hT hl
 refine(is_c [97] 1 0).eq rfl ?_
 refine(is_c [97] 1 0).eq rfl ?_
 clear hP
 refine⟨Cd × Nat,fun x=>[(8, .ptr 1 0 0),(9, .ptr 2 0 0),(10, .ptr 3 0 0),(62, .p (i64 x.2))],fun x=>kn4 D x.1 (kT 0),fun x=>x.2≤7∧x.1=kN x.2,fun x=>7 - x.2,?_,?_⟩
 ·exact⟨(kN 0,0),⟨Nat.zero_le _,rfl⟩,ent_of [] [] [] rfl (sk) (sk) rfl⟩
 rintro⟨⟨o,n,r,v,rf,st,ar⟩,j⟩ ⟨j1,j2⟩
 simp only [] at j1 j2
 (first | refine brLt (fun m1=>?_) (fun m1=>?_) | refine brLe (fun m1=>?_) (fun m1=>?_) | refine brEq (fun m1=>?_) (fun m1=>?_))
 ·have m1:(j:Int)<7:=m1
  refine(both_c 7 [.mk o n r v rf st ar]).uses [4] rfl ⟨_,_,rfl,rfl,_,_,rfl,⟨_,rfl,Nat.le_refl _,rfl⟩,rfl⟩ ?_
  refine⟨_,wrap_i64 (by omega) (by omega),?_⟩
  exact⟨(.mk 7 0 0 0 rf0 [] [.mk o n r v rf st ar],j+1),⟨by show j+1≤7;omega,by rw [j2];rfl⟩,ent_of [] [] [] rfl (sk) (sk) rfl,by show 7 - (j+1)<7 - j;omega⟩
 have m1:¬ (j:Int)<7:=m1
 obtain rfl:j=7:=by omega
 have f0:validB [gainD (.mk o n r v rf st ar)]=true:=by rw [j2];exact kc0
 have f1:validB [gainD (.mk 7 0 0 0 rf0 [] [.mk o n r v rf st ar])]=false:=by rw [j2];exact kc1
 have f10:validB [gainD (.mk 8 0 0 0 rf0 [] [.mk o n r v rf st ar])]=false:=by rw [j2];exact kc10
 have f11:validB [gainD (.mk 1 0 0 0 rf0 [] [.mk o n r v rf st ar])]=false:=by rw [j2];exact kc11
 have b9:BigC (.mk o n r v rf st ar):=by rw [j2];exact kN_big 7
 clear j1 j2 m1
 refine⟨Cd × Nat,fun x=>[(8, .ptr 1 0 0),(9, .ptr 2 0 0),(10, .ptr 3 0 0),(68, .p (i64 x.2))],fun x=>kn4 D (.mk o n r v rf st ar) x.1,fun x=>x.2≤3∧x.1=kT x.2,fun x=>3 - x.2,?_,?_⟩
 ·exact⟨(kT 0,0),⟨Nat.zero_le _,rfl⟩,ent_of [] [] [] rfl (sk) (sk) rfl⟩
 rintro⟨⟨o',n',r',v',rf',st',ar'⟩,j⟩ ⟨j1,j2⟩
 simp only [] at j1 j2
 (first | refine brLt (fun m1=>?_) (fun m1=>?_) | refine brLe (fun m1=>?_) (fun m1=>?_) | refine brEq (fun m1=>?_) (fun m1=>?_))
 ·have m1:(j:Int)<3:=m1
  refine(both_c 8 [.mk o' n' r' v' rf' st' ar', .mk o' n' r' v' rf' st' ar']).uses [4] rfl ⟨_,_,rfl,rfl,_,_,rfl,⟨_,rfl,Nat.le_refl _,rfl⟩,rfl⟩ ?_
  refine⟨_,wrap_i64 (by omega) (by omega),?_⟩
  exact⟨(.mk 8 0 0 0 rf0 [] [.mk o' n' r' v' rf' st' ar', .mk o' n' r' v' rf' st' ar'],j+1),⟨by show j+1≤3;omega,by rw [j2];rfl⟩,ent_of [] [] [] rfl (sk) (sk) rfl,by show 3 - (j+1)<3 - j;omega⟩
 have m1:¬ (j:Int)<3:=m1
 obtain rfl:j=3:=by omega
 have j2:Cd.mk o' n' r' v' rf' st' ar'=.mk 8 0 0 0 rf0 [] [kT 2,kT 2]:=j2
 injection j2 with h1 h2 h3 h4 h5 h6 h7
 subst h1 h2 h3 h4 h5 h6 h7
 have f2:validB [gainD (.mk 9 0 0 0 rf0 [] [.mk 8 0 0 0 rf0 [] [kT 2,kT 2], .mk 9 0 0 0 rf0 [] [kT 2, .mk 4 9999 0 0 ⟨[98],0,[],0⟩ [] []]])]=true:=kc2
 have f3:validB [gainD (.mk 9 0 0 0 rf0 [] [.mk 8 0 0 0 rf0 [] [kT 2,kT 2], .mk 7 0 0 0 rf0 [] [.mk 8 0 0 0 rf0 [] [kT 2,kT 2]]])]=false:=kc3
 have bY:=kT_big 2
 clear j1 m1
 generalize kT 2=y at f2 f3 bY ⊢
 obtain⟨yo,yn,yr,yv,yf,ys,ya⟩:=y
 refine vdraw_otTo [(8, .ptr 1 0 0),(11,vB true)] ⟨2,[(1,knO)]⟩ otK (by kernel_rfl) ?_ ?_
 ·refine pstep rfl rfl rfl ?_
  refine pstep rfl rfl rfl ?_
  refine ecall0 rfl rfl (good f0 b9) (fun _ _=>rfl) ?_
  refine pstep rfl rfl rfl ?_
  refine pstep rfl rfl rfl ?_
  refine pstep rfl rfl rfl ?_
  refine pstep rfl rfl rfl ?_
  refine ecall rfl rfl (both_c 7 [.mk o n r v rf st ar]) (fun _ _=>rfl) (sk) ?_
  refine ecall0 rfl rfl (good f1 (big_one b9)) (fun _ _=>rfl) ?_
  refine pstep rfl rfl rfl ?_
  refine pstep rfl rfl rfl ?_
  refine pstep rfl rfl rfl ?_
  refine pstep rfl rfl rfl ?_
  refine pstep rfl rfl rfl ?_
  refine pstep rfl rfl rfl ?_
  refine pstep rfl rfl rfl ?_
  refine pstep rfl rfl ⟨_,⟨by decide,(Cd.mk yo yn yr yv yf ys ya).cells,rfl,rfl⟩,rfl⟩ ?_
  refine pstep rfl rfl rfl ?_
  refine ecall rfl rfl (is_c [98] 4 9999) (fun _ _=>rfl) (sk) ?_
  refine pstep rfl rfl rfl ?_
  refine ecall rfl rfl (both_c 9 [.mk yo yn yr yv yf ys ya, .mk 4 9999 0 0 ⟨[98],0,[],0⟩ [] []]) (fun _ _=>rfl) (sk) ?_
  refine pstep rfl rfl rfl ?_
  refine ecall rfl rfl (both_c 9 [.mk 8 0 0 0 rf0 [] [.mk yo yn yr yv yf ys ya, .mk yo yn yr yv yf ys ya], .mk 9 0 0 0 rf0 [] [.mk yo yn yr yv yf ys ya, .mk 4 9999 0 0 ⟨[98],0,[],0⟩ [] []]]) (fun _ _=>rfl) (sk) ?_
  refine ecall0 rfl rfl (good f2 (big_two (big_two bY bY) (big_two bY (leaf_big (by decide))))) (fun _ _=>rfl) ?_
  refine pstep rfl rfl rfl ?_
  refine pstep rfl rfl rfl ?_
  refine pstep rfl rfl rfl ?_
  refine pstep rfl rfl rfl ?_
  refine pstep rfl rfl rfl ?_
  refine pstep rfl rfl rfl ?_
  refine ecall rfl rfl (both_c 7 [.mk 8 0 0 0 rf0 [] [.mk yo yn yr yv yf ys ya, .mk yo yn yr yv yf ys ya]]) (fun _ _=>rfl) (sk) ?_
  refine pstep rfl rfl rfl ?_
  refine ecall rfl rfl (both_c 9 [.mk 8 0 0 0 rf0 [] [.mk yo yn yr yv yf ys ya, .mk yo yn yr yv yf ys ya], .mk 7 0 0 0 rf0 [] [.mk 8 0 0 0 rf0 [] [.mk yo yn yr yv yf ys ya, .mk yo yn yr yv yf ys ya]]]) (fun _ _=>rfl) (sk) ?_
  refine ecall0 rfl rfl (good f3 (big_two (big_two bY bY) (big_one (big_two bY bY)))) (fun _ _=>rfl) ?_
  refine pstep rfl rfl rfl ?_
  refine pstep rfl rfl rfl ?_
  refine pstep rfl rfl rfl ?_
  refine pstep rfl rfl rfl ?_
  refine pstep rfl rfl rfl ?_
  refine ecall0 rfl rfl goodZ (fun _ _=>rfl) ?_
  refine pstep rfl rfl rfl ?_
  refine pstep rfl rfl rfl ?_
  refine pstep rfl rfl rfl ?_
  refine pstep rfl rfl rfl ?_
  refine ecall rfl rfl (is_c [65,49] 10 0) (fun _ _=>rfl) (sk) ?_
  refine ecall0 rfl rfl (good kc5 (leaf_big (by decide))) (fun _ _=>rfl) ?_
  refine pstep rfl rfl rfl ?_
  refine pstep rfl rfl rfl ?_
  refine pstep rfl rfl rfl ?_
  refine pstep rfl rfl rfl ?_
  refine ecall rfl rfl (is_c [110,111,100,101] 1 0) (fun _ _=>rfl) (sk) ?_
  refine ecall0 rfl rfl (good kc6 (leaf_big (by decide))) (fun _ _=>rfl) ?_
  refine pstep rfl rfl rfl ?_
  refine pstep rfl rfl rfl ?_
  refine pstep rfl rfl rfl ?_
  refine pstep rfl rfl rfl ?_
  refine ecall rfl rfl (is_c [97] 1 10000) (fun _ _=>rfl) (sk) ?_
  refine ecall0 rfl rfl (good kc7 (leaf_big (by decide))) (fun _ _=>rfl) ?_
  refine pstep rfl rfl rfl ?_
  refine pstep rfl rfl rfl ?_
  refine pstep rfl rfl rfl ?_
  refine pstep rfl rfl rfl ?_
  refine ecall rfl rfl (is_c [97] 1 (-1)) (fun _ _=>rfl) (sk) ?_
  refine ecall0 rfl rfl (good kc8 (leaf_big (by decide))) (fun _ _=>rfl) ?_
  refine pstep rfl rfl rfl ?_
  refine pstep rfl rfl rfl ?_
  refine pstep rfl rfl rfl ?_
  refine pstep rfl rfl rfl ?_
  refine ecall rfl rfl ((both_c 7 []).arg (args':=[i64 7, .nils]) ⟨_,_,rfl,NilD.refl _,_,_,rfl, .inr (.inr ⟨10,rfl⟩),rfl⟩) (fun _ _=>rfl) (sk) ?_
  refine ecall0 rfl rfl (good kc9 (big_leaf ⟨by decide,by decide⟩ (by decide))) (fun _ _=>rfl) ?_
  refine pstep rfl rfl rfl ?_
  refine pstep rfl rfl rfl ?_
  refine pstep rfl rfl rfl ?_
  refine pstep rfl rfl rfl ?_
  refine pstep rfl rfl rfl ?_
  refine pstep rfl rfl rfl ?_
  refine ecall rfl rfl (both_c 8 [.mk o n r v rf st ar]) (fun _ _=>rfl) (sk) ?_
  refine ecall0 rfl rfl (good f10 (big_one b9)) (fun _ _=>rfl) ?_
  refine pstep rfl rfl rfl ?_
  refine pstep rfl rfl rfl ?_
  refine pstep rfl rfl rfl ?_
  refine pstep rfl rfl rfl ?_
  refine pstep rfl rfl rfl ?_
  refine pstep rfl rfl rfl ?_
  refine ecall rfl rfl (both_c 1 [.mk o n r v rf st ar]) (fun _ _=>rfl) (sk) ?_
  refine ecall0 rfl rfl (good f11 (big_one b9)) (fun _ _=>rfl) ?_
  refine pstep rfl rfl rfl ?_
  refine pstep rfl rfl rfl ?_
  refine pstep rfl rfl rfl ?_
  refine pstep rfl rfl rfl ?_
  refine ecall rfl rfl (is_c [97] 1 0) (fun _ _=>rfl) (sk) ?_
  refine pstep rfl rfl rfl ?_
  refine pstep rfl rfl rfl ?_
  refine ecall0 rfl rfl goodW (fun _ _=>rfl) ?_
  refine pstep rfl rfl rfl ?_
  refine pstep rfl rfl rfl ?_
  refine pstep rfl rfl rfl ?_
  exact ent_of [] [] [] rfl (sk) (sk) rfl
 clear f0 f1 f2 f3 f10 f11 b9 bY
 have b2:∀ x∈([⟨cd0,[1]⟩,⟨cd0,[1]⟩]:List Cs),x.cond=cd0∧x.nums.length≤9:=by
  intro x hx
  have:x=⟨cd0,[1]⟩:=by simpa using hx
  subst this
  exact⟨rfl,by decide⟩
 have hgR:∀ {r:Rf} {b:Bool},validB [gainD (.mk 1 0 0 0 r [] [])]=b→BigR r→HoldsG cx 33 [.p r.pv, .ptr 0 0 0] knH (knQ b):=fun h hb=>by have:=goodR_h _ hb;rw [h] at this;exact this
 refine(hgR kr0 ⟨by decide,by decide⟩).holds.useT [] [(0,1)] rfl (sk) (sk) fun e0 H0 hq=>?_
 obtain⟨rfl,rfl⟩:=hq
 refine⟨rfl,_,⟨2,[(1,knO)]⟩,rfl,rfl,?_⟩
 refine(hgR kr1 ⟨by decide,by decide⟩).holds.useT [] [(0,1)] rfl (sk) (sk) fun e0 H0 hq=>?_
 obtain⟨rfl,rfl⟩:=hq
 refine⟨rfl,_,⟨2,[(1,knO)]⟩,rfl,rfl,?_⟩
 refine(hgR kr2 ⟨by decide,by decide⟩).holds.useT [] [(0,1)] rfl (sk) (sk) fun e0 H0 hq=>?_
 obtain⟨rfl,rfl⟩:=hq
 refine⟨rfl,_,⟨2,[(1,knO)]⟩,rfl,rfl,?_⟩
 refine(hgR kr3 ⟨by decide,by decide⟩).holds.useT [] [(0,1)] rfl (sk) (sk) fun e0 H0 hq=>?_
 obtain⟨rfl,rfl⟩:=hq
 refine⟨rfl,_,⟨2,[(1,knO)]⟩,rfl,rfl,?_⟩
 refine(hgR kr4 ⟨by decide,by decide⟩).holds.useT [] [(0,1)] rfl (sk) (sk) fun e0 H0 hq=>?_
 obtain⟨rfl,rfl⟩:=hq
 refine⟨rfl,_,⟨2,[(1,knO)]⟩,rfl,rfl,?_⟩
 refine(hgR kr5 ⟨by decide,by decide⟩).holds.useT [] [(0,1)] rfl (sk) (sk) fun e0 H0 hq=>?_
 obtain⟨rfl,rfl⟩:=hq
 refine⟨rfl,_,⟨2,[(1,knO)]⟩,rfl,rfl,?_⟩
 refine(hgR kr6 ⟨by decide,by decide⟩).holds.useT [] [(0,1)] rfl (sk) (sk) fun e0 H0 hq=>?_
 obtain⟨rfl,rfl⟩:=hq
 refine⟨rfl,_,⟨2,[(1,knO)]⟩,rfl,rfl,?_⟩
 refine(hgR kr7 ⟨by decide,by decide⟩).holds.useT [] [(0,1)] rfl (sk) (sk) fun e0 H0 hq=>?_
 obtain⟨rfl,rfl⟩:=hq
 refine⟨rfl,_,⟨2,[(1,knO)]⟩,rfl,rfl,?_⟩
 clear hgR
 have hgS:∀ {l:List Int} {b:Bool},validB [gainD (.mk 5 0 0 0 ⟨[97],0,[],0⟩ l [])]=b→l.length≤9223372036854775807→HoldsG cx 34 [.p (.lst (l.map i64)), .ptr 0 0 0] knH (knQ b):=fun h hb=>by have:=goodS_h _ hb;rw [h] at this;exact this
 have hgN:HoldsG cx 34 [.p .nils, .ptr 0 0 0] knH (knQ false):=by have:=goodN_h;rw [ks1] at this;exact this
 refine(hgS (l:=[0]) ks0 (by decide)).holds.useT [2] [(0,1)] rfl (sk) ⟨_,_,rfl,⟨_,rfl,Nat.le_refl _,rfl⟩,_,_,rfl,⟨rfl,rfl⟩,rfl⟩ fun e0 H0 hq=>?_
 obtain⟨rfl,rfl⟩:=hq
 refine⟨rfl,_,⟨3,[(1,knO),(2,zO [0])]⟩,rfl,rfl,?_⟩
 refine hgN.holds.useT [] [(0,1)] rfl (sk) (sk) fun e0 H0 hq=>?_
 obtain⟨rfl,rfl⟩:=hq
 refine⟨rfl,_,⟨3,[(1,knO),(2,zO [0])]⟩,rfl,rfl,?_⟩
 refine(hgS (l:=[1,1]) ks2 (by decide)).holds.useT [3] [(0,1)] rfl (sk) ⟨_,_,rfl,⟨_,rfl,Nat.le_refl _,rfl⟩,_,_,rfl,⟨rfl,rfl⟩,rfl⟩ fun e0 H0 hq=>?_
 obtain⟨rfl,rfl⟩:=hq
 refine⟨rfl,_,⟨4,[(1,knO),(3,zO [1,1]),(2,zO [0])]⟩,rfl,rfl,?_⟩
 refine(hgS (l:=[2,1]) ks3 (by decide)).holds.useT [4] [(0,1)] rfl (sk) ⟨_,_,rfl,⟨_,rfl,Nat.le_refl _,rfl⟩,_,_,rfl,⟨rfl,rfl⟩,rfl⟩ fun e0 H0 hq=>?_
 obtain⟨rfl,rfl⟩:=hq
 refine⟨rfl,_,⟨5,[(1,knO),(4,zO [2,1]),(3,zO [1,1]),(2,zO [0])]⟩,rfl,rfl,?_⟩
 refine(hgS (l:=[0,1,2,3,4,5,6,9999]) ks4 (by decide)).holds.useT [5] [(0,1)] rfl (sk) ⟨_,_,rfl,⟨_,rfl,Nat.le_refl _,rfl⟩,_,_,rfl,⟨rfl,rfl⟩,rfl⟩ fun e0 H0 hq=>?_
 obtain⟨rfl,rfl⟩:=hq
 refine⟨rfl,_,⟨6,[(1,knO),(5,zO [0,1,2,3,4,5,6,9999]),(4,zO [2,1]),(3,zO [1,1]),(2,zO [0])]⟩,rfl,rfl,?_⟩
 refine(hgS (l:=[0,1,2,3,4,5,6,7,8]) ks5 (by decide)).holds.useT [6] [(0,1)] rfl (sk) ⟨_,_,rfl,⟨_,rfl,Nat.le_refl _,rfl⟩,_,_,rfl,⟨rfl,rfl⟩,rfl⟩ fun e0 H0 hq=>?_
 obtain⟨rfl,rfl⟩:=hq
 refine⟨rfl,_,⟨7,[(1,knO),(6,zO [0,1,2,3,4,5,6,7,8]),(5,zO [0,1,2,3,4,5,6,9999]),(4,zO [2,1]),(3,zO [1,1]),(2,zO [0])]⟩,rfl,rfl,?_⟩
 refine(hgS (l:=[10000]) ks6 (by decide)).holds.useT [7] [(0,1)] rfl (sk) ⟨_,_,rfl,⟨_,rfl,Nat.le_refl _,rfl⟩,_,_,rfl,⟨rfl,rfl⟩,rfl⟩ fun e0 H0 hq=>?_
 obtain⟨rfl,rfl⟩:=hq
 refine⟨rfl,_,⟨8,[(1,knO),(7,zO [10000]),(6,zO [0,1,2,3,4,5,6,7,8]),(5,zO [0,1,2,3,4,5,6,9999]),(4,zO [2,1]),(3,zO [1,1]),(2,zO [0])]⟩,rfl,rfl,?_⟩
 refine(goodE kd0 (by decide) (by decide) (by decide) no_r bigL0 nil_4 nil_11).eq rfl ?_
 refine(goodE kd1 (by decide) (by decide) (by decide) no_r bigL0 nil_4 nil_11).eq rfl ?_
 refine(goodE kd2 (by decide) (by decide) (by decide) no_r bigL0 nil_4 nil_11).eq rfl ?_
 refine(goodE kd3 (by decide) (by decide) (by decide) no_r bigL0 nil_4 nil_11).eq rfl ?_
 refine(goodE kd4 (by decide) (by decide) (by decide) no_r bigL0 nil_4 nil_11).eq rfl ?_
 refine(goodE kd5 (by decide) (by decide) (by decide) no_r bigL0 nil_4 nil_11).eq rfl ?_
 refine(goodE kd6 (by decide) (by decide) (by decide) no_r (bigLz (fun x hx=>by have:=List.mem_singleton.1 hx;subst this;exact⟨rfl,by decide⟩) (by decide)) nil_4 (nil_k [[1]])).uses [8,9] rfl ⟨_,_,rfl,⟨_,rfl,_,_,rfl,rfl,_,_,rfl,rfl,_,_,rfl,rfl,_,_,rfl,rfl,_,_,rfl, .inl rfl,_,_,rfl,⟨_,rfl,Nat.le_refl _,_,_,rfl,⟨_,_,rfl,rfl,_,_,rfl,rfl,_,_,rfl,rfl,_,_,rfl,rfl,_,_,rfl,rfl,_,_,rfl,rfl,_,_,rfl,rfl,_,_,rfl,rfl,_,_,rfl, .inl rfl,_,_,rfl, .inl rfl,_,_,rfl,⟨_,rfl,Nat.le_refl _,rfl⟩,rfl⟩,rfl⟩,rfl⟩,rfl⟩ ?_
 refine(goodE kd7 (by decide) (by decide) (by decide) no_r (bigLz (fun x hx=>by have:=List.mem_singleton.1 hx;subst this;exact⟨rfl,by decide⟩) (by decide)) nil_4 (nil_k [[1]])).uses [8,9] rfl ⟨_,_,rfl,⟨_,rfl,_,_,rfl,rfl,_,_,rfl,rfl,_,_,rfl,rfl,_,_,rfl,rfl,_,_,rfl, .inl rfl,_,_,rfl,⟨_,rfl,Nat.le_refl _,_,_,rfl,⟨_,_,rfl,rfl,_,_,rfl,rfl,_,_,rfl,rfl,_,_,rfl,rfl,_,_,rfl,rfl,_,_,rfl,rfl,_,_,rfl,rfl,_,_,rfl,rfl,_,_,rfl, .inl rfl,_,_,rfl, .inl rfl,_,_,rfl,⟨_,rfl,Nat.le_refl _,rfl⟩,rfl⟩,rfl⟩,rfl⟩,rfl⟩ ?_
 refine(goodE kd8 (by decide) (by decide) (by decide) no_r (bigLz (fun x hx=>by have:=List.mem_singleton.1 hx;subst this;exact⟨rfl,by decide⟩) (by decide)) nil_4 (nil_k [[1]])).uses [8,9] rfl ⟨_,_,rfl,⟨_,rfl,_,_,rfl,rfl,_,_,rfl,rfl,_,_,rfl,rfl,_,_,rfl,rfl,_,_,rfl, .inl rfl,_,_,rfl,⟨_,rfl,Nat.le_refl _,_,_,rfl,⟨_,_,rfl,rfl,_,_,rfl,rfl,_,_,rfl,rfl,_,_,rfl,rfl,_,_,rfl,rfl,_,_,rfl,rfl,_,_,rfl,rfl,_,_,rfl,rfl,_,_,rfl, .inl rfl,_,_,rfl, .inl rfl,_,_,rfl,⟨_,rfl,Nat.le_refl _,rfl⟩,rfl⟩,rfl⟩,rfl⟩,rfl⟩ ?_
 refine(goodE kd9 (by decide) (by decide) (by decide) no_r bigL0 nil_4 nil_11).eq rfl ?_
 refine⟨by show 0+1≤1;omega,_,rfl, .inl ⟨[],[zc0++[.lst [i64 1]]],rfl,⟨_,_,rfl,⟨_,_,rfl,rfl,_,_,rfl,rfl,_,_,rfl,rfl,_,_,rfl,rfl,_,_,rfl,rfl,_,_,rfl,rfl,_,_,rfl,rfl,_,_,rfl,rfl,_,_,rfl, .inl rfl,_,_,rfl, .inl rfl,_,_,rfl,⟨_,rfl,Nat.le_refl _,rfl⟩,rfl⟩,rfl⟩,?_⟩⟩
 refine⟨by show 0+0≤0;omega,[],rfl,by show(0+1) * 152≤140737488355328;omega,[zc0++[.lst [i64 1]]],rfl,?_⟩
 refine⟨by show 0+1≤1;omega,_,rfl, .inl ⟨[],[zc0++[.lst [i64 1]]],rfl,⟨_,_,rfl,⟨_,_,rfl,rfl,_,_,rfl,rfl,_,_,rfl,rfl,_,_,rfl,rfl,_,_,rfl,rfl,_,_,rfl,rfl,_,_,rfl,rfl,_,_,rfl,rfl,_,_,rfl, .inl rfl,_,_,rfl, .inl rfl,_,_,rfl,⟨_,rfl,Nat.le_refl _,rfl⟩,rfl⟩,rfl⟩,?_⟩⟩
 refine⟨by show 0+1≤1;omega,[zc0++[.lst [i64 1]]],rfl,by show(1+1) * 152≤140737488355328;omega,[zc0++[.lst [i64 1]],zc0++[.lst [i64 1]]],rfl,?_⟩
 refine(goodE kd10 (by decide) (by decide) (by decide) no_r (bigLz b2 (by decide)) nil_4 (nil_k [[1],[1]])).uses [12] rfl ⟨_,_,rfl,⟨_,rfl,_,_,rfl,rfl,_,_,rfl,rfl,_,_,rfl,rfl,_,_,rfl,rfl,_,_,rfl, .inl rfl,_,_,rfl,⟨_,rfl,Nat.le_refl _,rfl⟩,rfl⟩,rfl⟩ ?_
 refine(goodE kd11 (by decide) (by decide) (by decide) no_r (bigLz (fun x hx=>by have:=List.mem_singleton.1 hx;subst this;exact⟨rfl,by decide⟩) (by decide)) nil_4 nil_k0).uses [13] rfl ⟨_,_,rfl,⟨_,rfl,_,_,rfl,rfl,_,_,rfl,rfl,_,_,rfl,rfl,_,_,rfl,rfl,_,_,rfl, .inl rfl,_,_,rfl,⟨_,rfl,Nat.le_refl _,rfl⟩,rfl⟩,rfl⟩ ?_
 refine(goodE kd12 (by decide) (by decide) (by decide) no_r (bigLz (fun x hx=>by have:=List.mem_singleton.1 hx;subst this;exact⟨rfl,by decide⟩) (by decide)) nil_4 (nil_k [[10000]])).uses [14,15] rfl ⟨_,_,rfl,⟨_,rfl,_,_,rfl,rfl,_,_,rfl,rfl,_,_,rfl,rfl,_,_,rfl,rfl,_,_,rfl, .inl rfl,_,_,rfl,⟨_,rfl,Nat.le_refl _,_,_,rfl,⟨_,_,rfl,rfl,_,_,rfl,rfl,_,_,rfl,rfl,_,_,rfl,rfl,_,_,rfl,rfl,_,_,rfl,rfl,_,_,rfl,rfl,_,_,rfl,rfl,_,_,rfl, .inl rfl,_,_,rfl, .inl rfl,_,_,rfl,⟨_,rfl,Nat.le_refl _,rfl⟩,rfl⟩,rfl⟩,rfl⟩,rfl⟩ ?_
 refine⟨⟨by show(0:Int)≤1;decide,by show(1:Int)≤1;decide,by show(1:Int) * 48≤281474976710656;decide,by show(1:Int)≤281474976710656;decide⟩,?_⟩
 refine(goodE kd13 (by decide) (by decide) (by decide) (fun r hr=>by rw [List.mem_singleton.1 hr];exact⟨by decide,by decide⟩) (bigLz (fun x hx=>by have:=List.mem_singleton.1 hx;subst this;exact⟨rfl,by decide⟩) (by decide)) (NilD.refl (rfl_ [rf0])) (nil_k [[1]])).uses [8,9,16] rfl ⟨_,_,rfl,⟨_,rfl,_,_,rfl,rfl,_,_,rfl,rfl,_,_,rfl,rfl,_,_,rfl,rfl,_,_,rfl,⟨_,rfl,Nat.le_refl _,rfl⟩,_,_,rfl,⟨_,rfl,Nat.le_refl _,_,_,rfl,⟨_,_,rfl,rfl,_,_,rfl,rfl,_,_,rfl,rfl,_,_,rfl,rfl,_,_,rfl,rfl,_,_,rfl,rfl,_,_,rfl,rfl,_,_,rfl,rfl,_,_,rfl, .inl rfl,_,_,rfl, .inl rfl,_,_,rfl,⟨_,rfl,Nat.le_refl _,rfl⟩,rfl⟩,rfl⟩,rfl⟩,rfl⟩ ?_
 refine hRep.eq rfl ?_
 refine⟨⟨by show(0:Int)≤0;decide,by show(0:Int)≤0;decide,by show(0:Int) * 96≤281474976710656;decide,by show(0:Int)≤281474976710656;decide⟩,?_⟩
 refine g0.uses [17] rfl ⟨_,_,rfl,rfl,_,_,rfl,⟨_,rfl,Nat.le_refl _,rfl⟩,rfl⟩ ?_
 refine And.intro (fun _=>?_) (fun h=>absurd rfl h)
 refine⟨by show S.length+9≤9223372036854775807;omega,?_⟩
 refine g1.eq rfl ?_
 refine(refused_yes _ 1 23 370 kf0).eq rfl ?_
 refine(refused_yes _ 1 7 381 kf1).eq rfl ?_
 refine(refused_yes _ 1 28 381 kf2).eq rfl ?_
 refine(refused_yes _ 1 20 381 kf3).eq rfl ?_
 refine(refused_yes _ 1 10 381 kf4).eq rfl ?_
 refine(refused_yes _ 1 17 381 kf5).eq rfl ?_
 refine(refused_yes _ 1 19 381 kf6).eq rfl ?_
 refine(refused_yes _ 1 15 381 kf7).eq rfl ?_
 refine(refused_yes _ 1 14 381 kf8).eq rfl ?_
 refine(refused_yes _ 0 0 381 kf9).eq rfl ?_
 refine(reads_yes kg2).uses [] rfl ⟨_,_,rfl,rfl,_,_,rfl, .inr (.inr ⟨6,rfl⟩),rfl⟩ ?_
 refine⟨⟨by show(0:Int)≤31;decide,by show(31:Int)≤31;decide,by show(31:Int) * 96≤281474976710656;decide,by show(31:Int)≤281474976710656;decide⟩,?_⟩
 refine chk31.uses [18] rfl ⟨_,_,rfl,⟨_,rfl,_,_,rfl,⟨_,rfl,Nat.le_refl _,rfl⟩,rfl⟩,rfl⟩ ?_
 refine And.intro (fun _=>?_) (fun h=>absurd rfl h)
 exact end1 _ rfl rfl rfl
end Go.Proofs.YtohfoaplnjcihaaGreatDoor
namespace Go.Proofs.YtohfoaplnjcihaaGreatDoor.Y
open Go
def partsOf (P:Program) (t:TypeId):Option (List (TypeId × Nat)):=
 match P.underlying t with
 | some (.struct fs)=>some (fs.toList.map fun f=>(f.type,f.offset))
 | some (.array k e)=>some ((List.range k).map fun i=>(e,i * P.cellsOf e))
 | _=>none
def tiles (P:Program):List (TypeId × Nat)→Nat→Option Nat
 | [],o=>some o
 | f::r,o=>if f.2=o then tiles P r (o+P.cellsOf f.1) else none
theorem tiles_le {P:Program}:∀ {l:List (TypeId × Nat)} {o n:Nat},tiles P l o=some n→o≤n
 | [],o,n,h=>by simp only [tiles,Option.some.injEq] at h;omega
 | f::r,o,n,h=>by
  simp only [tiles] at h
  split at h
  ·have:=tiles_le h;omega
  ·cases h
def basic:TypeDesc→Bool
 | .bool=>true
 | .int _=>true
 | .string=>true
 | _=>false
def supp (P:Program):Nat→TypeId→Bool
 | 0,_=>false
 | n+1,t=>match partsOf P t with
  | some l=>decide (tiles P l 0=some (P.cellsOf t)) && l.all fun f=>supp P n f.1
  | none=>match P.underlying t with
   | some (.slice e)=>decide (0<P.cellsOf e) && supp P n e
   | some d=>basic d
   | none=>false
def Flds (P:Program) (p:TypeId→List PV→Prop):List (TypeId × Nat)→List PV→Prop
 | [],xs=>xs=[]
 | f::r,xs=>∃ ys zs,xs=ys++zs∧ys.length=P.cellsOf f.1∧p f.1 ys∧Flds P p r zs
def TyT (P:Program):Nat→TypeId→List PV→Prop
 | 0,_,_=>False
 | m+1,t,xs=>match partsOf P t with
  | some l=>Flds P (TyT P m) l xs
  | none=>match P.underlying t with
   | some .bool=>∃ b,xs=[.bool b]
   | some (.int k)=>∃ n,xs=[.int k n]∧(Lit.int k n).wf=true
   | some .string=>∃ s,xs=[.str s]∧s.length≤maxLen
   | some (.slice e)=>match Nat.beq (P.cellsOf e) 1 with
    | true=>∃ ys,xs=[.lst ys]∧ys.length≤maxLen∧∀ y∈ys,TyT P m e [y]
    | false=>∃ yss,xs=[.lsts (P.cellsOf e) yss]∧yss.length≤maxLen∧∀ ys∈yss,TyT P m e ys
   | _=>False
section
variable {H:Type} {enc:TypeId × Value→H} {P:Program} {W:World} {sp:Nat→Bool} {held:Bool}
theorem cells_take {a:Addr} {n:Nat} {cs:List Value} (hn:0<n) (h:W.cells? 0 a n=some cs) :
  ∃ c t z,W.heap[a.block]?=some (.cells c t z)∧a.spot=none∧cs.length=n∧a.off+n≤c.toList.length∧cs=(c.toList.drop a.off).take n:=by
 unfold World.cells? at h
 rw [if_pos (Nat.zero_le _)] at h
 have hl:=mapM_some_length h
 rw [List.length_range] at hl
 have hg:∀ i,i<n→W.cell? (a.add i)=cs[i]?:=fun i hi=>mapM_some_get h i i (by simp [hi])
 have h0:=hg 0 hn
 have ha:a.add 0=a:=by simp [Addr.add]
 rw [ha,List.getElem?_eq_getElem (by omega)] at h0
 unfold World.cell? at h0
 split at h0
 ·rename_i c t z hb
  have hs:a.spot=none:=by
   cases hs:a.spot with
   | none=>rfl
   | some _=>simp [hs] at h0
  have hcell:∀ i,i<n→c[a.off+i]?=cs[i]?:=by
   intro i hi
   have:=hg i hi
   unfold World.cell? at this
   have hblk:(a.add i).block=a.block:=by unfold Addr.add;split <;> rfl
   have hsp:(a.add i).spot=none:=by unfold Addr.add;split <;> first | exact hs | rfl
   have hoff:(a.add i).off=a.off+i:=by unfold Addr.add;split <;> simp_all
   rw [hblk,hb] at this
   simp only [hsp,hoff] at this
   simpa using this
  have hlen:a.off+n≤c.toList.length:=by
   have:=hcell (n - 1) (by omega)
   rw [List.getElem?_eq_getElem (by omega)] at this
   have:=(Array.getElem?_eq_some_iff.1 this).1
   simp
   omega
  refine⟨c,t,z,hb,hs,hl,hlen,?_⟩
  refine List.ext_getElem? fun i=>?_
  by_cases hi:i<n
  ·rw [← hcell i hi,List.getElem?_take_of_lt hi,List.getElem?_drop]
   simp
  ·rw [List.getElem?_eq_none (by omega),List.getElem?_eq_none (by simp;omega)]
 ·cases h0
def AllCells (fz:Fzn) (W:World):Prop:=∀ b c t z,W.heap[b]?=some (.cells c t z)→fz b=some c.toList
def Rd (P:Program) (fz:Fzn) (m:Nat) (t:TypeId) (cs:List Value):Prop:=∃ xs,VPL fz xs cs∧(∀ u∈cs,plainV u=true)∧TyT P m t xs
theorem flds_of {fz:Fzn} {m:Nat} {cs:List Value}:∀ (l:List (TypeId × Nat)) (o:Nat),tiles P l o=some cs.length→(∀ f∈l,Rd P fz m f.1 ((cs.drop f.2).take (P.cellsOf f.1))) →
  ∃ xs,VPL fz xs (cs.drop o)∧(∀ u∈cs.drop o,plainV u=true)∧Flds P (TyT P m) l xs
 | [],o,ht,_=>by
  simp only [tiles,Option.some.injEq] at ht
  subst ht
  exact⟨[],by simp [VPL],by simp,rfl⟩
 | f::r,o,ht,hr=>by
  simp only [tiles] at ht
  split at ht
  ·rename_i ho
   have hle:=tiles_le ht
   obtain⟨ys,h1,h2,h3⟩:=hr f (by simp)
   obtain⟨zs,k1,k2,k3⟩:=flds_of r (o+P.cellsOf f.1) ht fun g hg=>hr g (by simp [hg])
   rw [ho] at h1 h2
   have e:cs.drop o=(cs.drop o).take (P.cellsOf f.1)++cs.drop (o+P.cellsOf f.1):=by
    rw [← List.drop_drop,List.take_append_drop]
   refine⟨ys++zs,?_,?_,ys,zs,rfl,?_,h3,k3⟩
   ·rw [e];exact VPL_append h1 k1
   ·rw [e];intro u hu;rcases List.mem_append.1 hu with hu | hu
    ·exact h2 u hu
    ·exact k2 u hu
   ·rw [← VPL_length h1,List.length_take,List.length_drop];omega
  ·cases ht
theorem parts_trod {t:TypeId} {l:List (TypeId × Nat)} (hp:partsOf P t=some l) {n:Nat} {cs:List Value} {x:DataW H × List MemPlace} (h:DataW.trod enc P W 0 sp held n t cs=some x) :
  ∃ (xs:List (DataW H × List MemPlace)) (k:Nat),n=k+1∧x=(.agg (xs.map (·.1)),xs.flatMap (·.2))∧cs.length=P.cellsOf t∧xs.length=l.length ∧
   ∀ (i:Nat) (f:TypeId × Nat),l[i]?=some f→DataW.trod enc P W 0 sp held k f.1 ((cs.drop f.2).take (P.cellsOf f.1))=xs[i]?:=by
 unfold partsOf at hp
 split at hp
 ·rename_i fs hu
  injection hp with hp
  subst hp
  obtain⟨xs,k,h1,h2,h3,h4,h5⟩:=DataW.trod_struct hu h
  refine⟨xs,k,h1,h2,h3,by simpa using h4,fun i f hf=>?_⟩
  rw [List.getElem?_map,Option.map_eq_some_iff] at hf
  obtain⟨g,hg,rfl⟩:=hf
  exact h5 i g (by simpa using hg)
 ·rename_i k' e hu
  injection hp with hp
  subst hp
  obtain⟨xs,k,h1,h2,h3,h4,h5⟩:=DataW.trod_array hu h
  refine⟨xs,k,h1,h2,h3,by simpa using h4,fun i f hf=>?_⟩
  rw [List.getElem?_map,Option.map_eq_some_iff] at hf
  obtain⟨j,hj,rfl⟩:=hf
  have hi:=(List.getElem?_eq_some_iff.1 hj)
  obtain⟨hi,hj⟩:=hi
  simp at hi hj
  subst hj
  exact h5 i hi
 ·cases hp
theorem flat_singles {l:List (List PV)} (h:∀ cs∈l,cs.length=1):l.flatten.length=l.length∧∀ y∈l.flatten,[y]∈l:=by
 induction l with
 | nil=>simp
 | cons x r ih=>
  have hx:=h x (by simp)
  obtain⟨y,rfl⟩:∃ y,x=[y]:=by
   match x,hx with
   | [y],_=>exact⟨y,rfl⟩
  obtain⟨h1,h2⟩:=ih fun c hc=>h c (by simp [hc])
  refine⟨by simp [h1],fun z hz=>?_⟩
  simp at hz
  rcases hz with rfl | hz
  ·simp
  ·have:=h2 z (by simpa using hz)
   simp [this]
theorem typed_of_trod {fz:Fzn} (hfz:AllCells fz W):∀ (m:Nat) (t:TypeId) (n:Nat) (cs:List Value) (x:DataW H × List MemPlace),supp P m t=true→DataW.trod enc P W 0 sp held n t cs=some x→Rd P fz m t cs
 | 0,_,_,_,_,hs,_=>by simp [supp] at hs
 | m+1,t,n,cs,x,hs,h=>by
  have ih:=typed_of_trod hfz m
  simp only [supp] at hs
  cases hp:partsOf P t with
  | some l=>
   simp only [hp,Bool.and_eq_true,decide_eq_true_eq,List.all_eq_true] at hs
   obtain⟨xs,k,h1,h2,h3,h4,h5⟩:=parts_trod hp h
   obtain⟨ys,g1,g2,g3⟩:=flds_of (fz:=fz) (m:=m) (cs:=cs) l 0 (by rw [h3];exact hs.1) fun f hf=>by
    obtain⟨i,hi,rfl⟩:=List.getElem_of_mem hf
    have:=h5 i _ (List.getElem?_eq_getElem hi)
    rw [List.getElem?_eq_getElem (by omega)] at this
    exact ih _ _ _ _ (hs.2 _ hf) this
   exact⟨ys,by simpa using g1,by simpa using g2,by simp only [TyT,hp];exact g3⟩
  | none=>
   simp only [hp] at hs
   cases hu:P.underlying t with
   | none=>simp [hu] at hs
   | some d=>
    simp only [hu] at hs
    cases d with
    | bool=>
     obtain⟨b,rfl,_⟩:=DataW.trod_bool hu h
     exact⟨[.bool b],by simp [VPL,VP],by simp [plainV],by simp [TyT,hp,hu]⟩
    | int k=>
     obtain⟨b,rfl,_,hw⟩:=DataW.trod_int hu h
     exact⟨[.int k b],by simp [VPL,VP],by simp [plainV],by simp [TyT,hp,hu,hw]⟩
    | string=>
     obtain⟨⟨⟨s⟩⟩,rfl,_,hw⟩:=DataW.trod_string hu h
     exact⟨[.str s],by simp [VPL,VP],by simp [plainV],by simp only [TyT,hp,hu];exact⟨s,rfl,hw⟩⟩
    | slice e=>
     simp only [Bool.and_eq_true,decide_eq_true_eq] at hs
     obtain⟨hs0,hse⟩:=hs
     have fin:∀ (v:Value) (len:Nat) (yss:List (List PV)),len≤maxLen→yss.length=len→(∀ ys∈yss,ys.length=P.cellsOf e∧TyT P m e ys)→plainV v=true →
       (yss=[]→∃ a c,v=.slice a 0 c)→(yss ≠ []→∃ b o c arr us,v=.slice (some ⟨b,o,none⟩) len c∧len≤c∧fz b=some arr∧VPLL fz (P.cellsOf e) yss us∧Seg arr o us)→Rd P fz (m+1) t [v]:=by
      intro v len yss hml hlen hty hpl hnil hcons
      by_cases h1:P.cellsOf e=1
      ·have hfl:=flat_singles (l:=yss) fun c hc=>by rw [(hty c hc).1,h1]
       refine⟨[.lst yss.flatten],?_,by simpa using hpl,?_⟩
       ·simp only [VPL]
        refine⟨v,[],rfl,?_,rfl⟩
        simp only [VP]
        by_cases hy:yss=[]
        ·exact .inl ⟨by simp [hy],hnil hy⟩
        ·obtain⟨b,o,c,arr,us,k1,k2,k3,k4,k5⟩:=hcons hy
         exact .inr ⟨b,o,c,arr,us,by rw [hfl.1,hlen];exact k1,by rw [hfl.1,hlen];exact k2,k3,(VPLL_flat.1 k4).1,k5⟩
       ·simp only [TyT,hp,hu,h1]
        exact⟨_,rfl,by rw [hfl.1,hlen];exact hml,fun y hy=>(hty _ (hfl.2 y hy)).2⟩
      ·refine⟨[.lsts (P.cellsOf e) yss],?_,by simpa using hpl,?_⟩
       ·simp only [VPL]
        refine⟨v,[],rfl,?_,rfl⟩
        simp only [VP]
        by_cases hy:yss=[]
        ·exact .inl ⟨hy,hnil hy⟩
        ·obtain⟨b,o,c,arr,us,k1,k2,k3,k4,k5⟩:=hcons hy
         exact .inr ⟨b,o,c,arr,us,by rw [hlen];exact k1,by rw [hlen];exact k2,k3,k4,k5⟩
       ·have hb:Nat.beq (P.cellsOf e) 1=false:=beq_ne h1
        simp only [TyT,hp,hu,hb]
        exact⟨_,rfl,by rw [hlen];exact hml,fun y hy=>(hty _ hy).2⟩
     rcases DataW.trod_slice hu h with ⟨rfl,_⟩ | ⟨a,len,cap,elems,rest,n',rfl,rfl,_,_,hlc,hcm,hel,hE,_,_⟩
     ·exact fin _ 0 [] (by simp [maxLen]) rfl (by simp) rfl (fun _=>⟨none,0,rfl⟩) (by simp)
     ·have hcs:∀ i,i<len→∃ cs',W.cells? 0 (a.add (i * P.cellsOf e)) (P.cellsOf e)=some cs'∧Rd P fz m e cs':=by
       intro i hi
       have:=hE i hi
       rw [List.getElem?_eq_getElem (by omega),Option.bind_eq_some_iff] at this
       obtain⟨cs',h1,h2⟩:=this
       exact⟨cs',h1,ih _ _ _ _ hse h2⟩
      by_cases hl0:len=0
      ·subst hl0
       exact fin _ 0 [] (by simp [maxLen]) rfl (by simp) rfl (fun _=>⟨_,_,rfl⟩) (by simp)
      ·obtain⟨cs0,c1,_⟩:=hcs 0 (by omega)
       have ha:a.add (0 * P.cellsOf e)=a:=by simp [Addr.add]
       rw [ha] at c1
       obtain⟨c,tt,z,hb,hsp,_,_,_⟩:=cells_take hs0 c1
       have key:∀ k,k≤len→∃ yss us,yss.length=k∧VPLL fz (P.cellsOf e) yss us∧(∀ u∈us,plainV u=true)∧(∀ ys∈yss,ys.length=P.cellsOf e∧TyT P m e ys)∧(k ≠ 0→a.off+k * P.cellsOf e≤c.toList.length)∧us=(c.toList.drop a.off).take (k * P.cellsOf e):=by
        intro k
        induction k with
        | zero=>intro _;exact⟨[],[],rfl,by simp [VPLL],by simp,by simp,by simp,by simp⟩
        | succ k ihk=>
         intro hk
         obtain⟨yss,us,k1,k2,k3,k4,k5,k6⟩:=ihk (by omega)
         obtain⟨cs',d1,ys,d2,d3,d4⟩:=hcs k (by omega)
         obtain⟨c',tt',z',e1,e2,e3,e4,e5⟩:=cells_take hs0 d1
         have hblk:(a.add (k * P.cellsOf e)).block=a.block:=by unfold Addr.add;split <;> rfl
         have hoff:(a.add (k * P.cellsOf e)).off=a.off+k * P.cellsOf e:=by unfold Addr.add;split <;> simp_all
         rw [hblk,hb] at e1
         simp only [Option.some.injEq,Obj.cells.injEq] at e1
         obtain⟨rfl,_,_⟩:=e1
         rw [hoff] at e4 e5
         have hys:ys.length=P.cellsOf e:=by rw [← VPL_length d2,e3]
         have hf:=VPLL_flat.1 k2
         refine⟨yss++[ys],us++cs',by simp [k1],VPLL_flat.2 ⟨?_,?_⟩,?_,?_,fun _=>by rw [Nat.succ_mul];omega,?_⟩
         ·simpa using VPL_append hf.1 d2
         ·intro q hq;rcases List.mem_append.1 hq with hq | hq
          ·exact hf.2 q hq
          ·simp at hq;subst hq;exact hys
         ·intro u hu;rcases List.mem_append.1 hu with hu | hu
          ·exact k3 u hu
          ·exact d3 u hu
         ·intro q hq;rcases List.mem_append.1 hq with hq | hq
          ·exact k4 q hq
          ·simp at hq;subst hq;exact⟨hys,d4⟩
         ·rw [k6,e5,Nat.succ_mul,List.take_add,List.drop_drop]
       obtain⟨yss,us,k1,k2,k3,k4,k5,k6⟩:=key len (Nat.le_refl _)
       have k5:=k5 hl0
       have hne:yss ≠ []:=by intro e;subst e;simp at k1;omega
       refine fin _ len yss (by omega) k1 k4 rfl (fun e=>absurd e hne) fun _=>⟨a.block,a.off,cap,c.toList,us,?_,hlc,hfz _ _ _ _ hb,k2,?_⟩
       ·obtain⟨ab,ao,asp⟩:=a;simp only [] at hsp;subst hsp;rfl
       ·refine⟨c.toList.take a.off,c.toList.drop (a.off+len * P.cellsOf e),?_,?_,k3⟩
        ·rw [k6,List.append_assoc,← List.drop_drop,List.take_append_drop,List.take_append_drop]
        ·rw [List.length_take];omega
    | _=>simp [basic] at hs
mutual
def flatD:DataW H→Option (List PV)
 | .lit (.bool b)=>some [.bool b]
 | .lit (.int k n)=>some [.int k n]
 | .lit (.string s)=>some [.str s]
 | .agg ps=>flatDL ps
 | _=>none
def flatDL:List (DataW H)→Option (List PV)
 | []=>some []
 | d::r=>match flatD d,flatDL r with
  | some xs,some ys=>some (xs++ys)
  | _,_=>none
end
theorem fldsD_of {fz:Fzn} {cs:List Value} {Q:DataW H→List Value→Prop} (hQ:∀ d us xs,Q d us→flatD d=some xs→VPL fz xs us∧∀ u∈us,plainV u=true):∀ (l:List (TypeId × Nat)) (ds:List (DataW H)) (o:Nat) (xs:List PV),tiles P l o=some cs.length→ds.length=l.length →
  (∀ (i:Nat) f d,l[i]?=some f→ds[i]?=some d→Q d ((cs.drop f.2).take (P.cellsOf f.1)))→flatDL ds=some xs→VPL fz xs (cs.drop o)∧∀ u∈cs.drop o,plainV u=true
 | [],ds,o,xs,ht,hl,_,hd=>by
  simp only [tiles,Option.some.injEq] at ht
  subst ht
  obtain rfl:=List.eq_nil_of_length_eq_zero hl
  simp only [flatDL,Option.some.injEq] at hd
  subst hd
  simp [VPL]
 | f::r,[],o,xs,ht,hl,_,hd=>by simp at hl
 | f::r,d::ds,o,xs,ht,hl,hr,hd=>by
  simp only [tiles] at ht
  split at ht
  ·rename_i ho
   simp only [flatDL] at hd
   split at hd
   ·rename_i ys zs e1 e2
    injection hd with hd
    subst hd
    have h1:=hQ d _ ys (hr 0 f d rfl rfl) e1
    have h2:=fldsD_of hQ r ds (o+P.cellsOf f.1) zs ht (by simpa using hl) (fun i g e hg he=>hr (i+1) g e hg he) e2
    rw [ho] at h1
    have e:cs.drop o=(cs.drop o).take (P.cellsOf f.1)++cs.drop (o+P.cellsOf f.1):=by
     rw [← List.drop_drop,List.take_append_drop]
    rw [e]
    refine⟨VPL_append h1.1 h2.1,fun u hu=>?_⟩
    rcases List.mem_append.1 hu with hu | hu
    ·exact h1.2 u hu
    ·exact h2.2 u hu
   ·cases hd
  ·cases ht
theorem laid_of_trod {fz:Fzn}:∀ (m:Nat) (t:TypeId) (n:Nat) (cs:List Value) (x:DataW H × List MemPlace) (xs:List PV),supp P m t=true→DataW.trod enc P W 0 sp held n t cs=some x→flatD x.1=some xs→VPL fz xs cs∧∀ u∈cs,plainV u=true
 | 0,_,_,_,_,_,hs,_,_=>by simp [supp] at hs
 | m+1,t,n,cs,x,xs,hs,h,hd=>by
  have ih:=laid_of_trod (fz:=fz) m
  simp only [supp] at hs
  cases hp:partsOf P t with
  | some l=>
   simp only [hp,Bool.and_eq_true,decide_eq_true_eq,List.all_eq_true] at hs
   obtain⟨ys,k,h1,h2,h3,h4,h5⟩:=parts_trod hp h
   rw [h2] at hd
   simp only [flatD] at hd
   have:=fldsD_of (fz:=fz) (P:=P) (cs:=cs) (Q:=fun d us=>∀ xs,flatD d=some xs→VPL fz xs us∧∀ u∈us,plainV u=true) (fun d us xs hq hx=>hq xs hx) l (ys.map (·.1)) 0 xs (by rw [h3];exact hs.1) (by simpa using h4) (fun i f d hf hd'=>by
    rw [List.getElem?_map,Option.map_eq_some_iff] at hd'
    obtain⟨y,hy,rfl⟩:=hd'
    have e:=h5 i f hf
    rw [hy] at e
    intro xs hx
    exact ih _ _ _ _ xs (hs.2 _ (List.mem_of_getElem? hf)) e hx) hd
   simpa using this
  | none=>
   simp only [hp] at hs
   cases hu:P.underlying t with
   | none=>simp [hu] at hs
   | some d=>
    simp only [hu] at hs
    cases d with
    | bool=>
     obtain⟨b,rfl,rfl⟩:=DataW.trod_bool hu h
     simp only [flatD,Option.some.injEq] at hd
     subst hd
     exact⟨by simp [VPL,VP],by simp [plainV]⟩
    | int k=>
     obtain⟨b,rfl,rfl,hw⟩:=DataW.trod_int hu h
     simp only [flatD,Option.some.injEq] at hd
     subst hd
     exact⟨by simp [VPL,VP],by simp [plainV]⟩
    | string=>
     obtain⟨⟨⟨s⟩⟩,rfl,rfl,hw⟩:=DataW.trod_string hu h
     simp only [flatD,Option.some.injEq] at hd
     subst hd
     exact⟨by simp [VPL,VP],by simp [plainV]⟩
    | slice e=>
     rcases DataW.trod_slice hu h with ⟨rfl,rfl⟩ | ⟨a,len,cap,elems,rest,n',rfl,rfl,rfl,_⟩
     ·simp [flatD] at hd
     ·simp [flatD] at hd
    | _=>simp [basic] at hs
end
end Go.Proofs.YtohfoaplnjcihaaGreatDoor.Y
namespace Go.Proofs.YtohfoaplnjcihaaGreatDoor.Y
open Go
theorem mapM_mono {α β:Type} {f g:α→Option β}:∀ {l:List α} {r:List β},(∀ x∈l,∀ y,f x=some y→g x=some y)→l.mapM f=some r→l.mapM g=some r
 | [],r,_,h=>by simpa using h
 | x::l,r,hfg,h=>by
  simp only [List.mapM_cons,Option.bind_eq_bind,Option.bind_eq_some_iff,Option.pure_def,Option.some.injEq] at h ⊢
  obtain⟨y,h1,ys,h2,h3⟩:=h
  exact⟨y,hfg x (by simp) y h1,ys,mapM_mono (fun z hz=>hfg z (by simp [hz])) h2,h3⟩
def Kept (W W':World):Prop:=∀ (b:Nat) (o:Obj),W.heap[b]?=some o→W'.heap[b]?=some o
section
variable {H:Type} {enc:TypeId × Value→H} {P:Program} {W W':World} {sp':Nat→Bool} {held:Bool}
theorem Kept.cell (hk:Kept W W') {a:Addr} {v:Value} (h:W.cell? a=some v):W'.cell? a=some v:=by
 unfold World.cell? at h ⊢
 split at h
 ·rename_i c t z hb
  rw [hk _ _ hb]
  exact h
 ·cases h
theorem Kept.cells (hk:Kept W W') {a:Addr} {n:Nat} {cs:List Value} (h:W.cells? 0 a n=some cs):W'.cells? 0 a n=some cs:=by
 unfold World.cells? at h ⊢
 rw [if_pos (Nat.zero_le _)] at h ⊢
 exact mapM_mono (fun _ _ _ hx=>hk.cell hx) h
theorem trod_kept (hk:Kept W W') (hsp:∀ b,b<W.heap.size→sp' b=true):∀ (m:Nat) (t:TypeId) (n:Nat) (cs:List Value) (x:DataW H × List MemPlace),supp P m t=true→DataW.trod enc P W 0 (fun _=>true) held n t cs=some x→DataW.trod enc P W' 0 sp' held n t cs=some x
 | 0,_,_,_,_,hs,_=>by simp [supp] at hs
 | m+1,t,0,cs,x,hs,h=>by simp [DataW.trod] at h
 | m+1,t,n+1,cs,x,hs,h=>by
  have ih:=trod_kept hk hsp m
  simp only [supp] at hs
  cases hu:P.underlying t with
  | none=>
   have hp:partsOf P t=none:=by simp [partsOf,hu]
   simp [hp,hu] at hs
  | some d=>
   cases d with
   | struct fs=>
    have hp:partsOf P t=some (fs.toList.map fun f=>(f.type,f.offset)):=by simp [partsOf,hu]
    simp only [hp,Bool.and_eq_true,List.all_eq_true] at hs
    unfold DataW.trod at h ⊢
    rw [hu] at h ⊢
    simp only [] at h ⊢
    split at h
    ·rename_i hl
     rw [if_pos hl]
     rw [Option.map_eq_some_iff] at h ⊢
     obtain⟨xs,h1,h2⟩:=h
     exact⟨xs,mapM_mono (fun f hf y hy=>ih _ _ _ _ (hs.2 (f.type,f.offset) (List.mem_map_of_mem hf)) hy) h1,h2⟩
    ·cases h
   | array k e=>
    have hp:partsOf P t=some ((List.range k).map fun i=>(e,i * P.cellsOf e)):=by simp [partsOf,hu]
    simp only [hp,Bool.and_eq_true,List.all_eq_true] at hs
    unfold DataW.trod at h ⊢
    rw [hu] at h ⊢
    simp only [] at h ⊢
    split at h
    ·rename_i hl
     rw [if_pos hl]
     rw [Option.map_eq_some_iff] at h ⊢
     obtain⟨xs,h1,h2⟩:=h
     exact⟨xs,mapM_mono (fun i hi y hy=>ih _ _ _ _ (hs.2 (e,i * P.cellsOf e) (List.mem_map_of_mem hi)) hy) h1,h2⟩
    ·cases h
   | bool=>
    obtain⟨b,rfl,rfl⟩:=DataW.trod_bool hu h
    unfold DataW.trod;rw [hu]
   | int k=>
    obtain⟨b,rfl,rfl,hw⟩:=DataW.trod_int hu h
    unfold DataW.trod;rw [hu];simp [hw]
   | string=>
    obtain⟨s,rfl,rfl,hw⟩:=DataW.trod_string hu h
    unfold DataW.trod;rw [hu];simp [hw]
   | slice e=>
    have hp:partsOf P t=none:=by simp [partsOf,hu]
    simp only [hp,hu,Bool.and_eq_true,decide_eq_true_eq] at hs
    rcases DataW.trod_slice hu h with ⟨rfl,rfl⟩ | ⟨a,len,cap,_,_,_,_,rfl,_⟩
    ·unfold DataW.trod;rw [hu];rfl
    unfold DataW.trod at h ⊢
    rw [hu] at h ⊢
    simp only [if_true] at h ⊢
    split at h
    rotate_left
    ·cases h
    rename_i hc
    rw [if_pos hc]
    rw [Option.bind_eq_some_iff] at h ⊢
    obtain⟨elems,h1,h2⟩:=h
    rw [Option.map_eq_some_iff] at h2
    obtain⟨rest,h2,h3⟩:=h2
    have el:∀ i y,(W.cells? 0 (a.add (i * P.cellsOf e)) (P.cellsOf e)).bind (DataW.trod enc P W 0 (fun _=>true) held n e)=some y→(W'.cells? 0 (a.add (i * P.cellsOf e)) (P.cellsOf e)).bind (DataW.trod enc P W' 0 sp' held n e)=some y:=by
     intro i y hy
     rw [Option.bind_eq_some_iff] at hy ⊢
     obtain⟨cs',g1,g2⟩:=hy
     exact⟨cs',hk.cells g1,ih _ _ _ _ hs.2 g2⟩
    refine⟨elems,mapM_mono (fun i _ y hy=>el i y hy) h1,?_⟩
    rw [Option.map_eq_some_iff]
    refine⟨rest,?_,h3⟩
    by_cases hd:cap - len=0
    ·rw [hd] at h2 ⊢
     simp at h2
     subst h2
     cases sp' a.block <;> simp
    ·have hb:a.block<W.heap.size:=by
      have hl:=mapM_some_length h2
      rw [List.length_range] at hl
      have:=mapM_some_get h2 0 0 (by rw [List.getElem?_eq_getElem (by simp;omega)];simp)
      rw [List.getElem?_eq_getElem (by omega),Option.bind_eq_some_iff] at this
      obtain⟨cs',g1,_⟩:=this
      obtain⟨c,t',z,g3,_⟩:=cells_take hs.1 g1
      have hblk:(a.add ((len+0) * P.cellsOf e)).block=a.block:=by unfold Addr.add;split <;> rfl
      rw [hblk] at g3
      exact(Array.getElem?_eq_some_iff.1 g3).1
     rw [if_pos (hsp _ hb)]
     exact mapM_mono (fun i _ y hy=>el (len+i) y hy) h2
   | _=>
    have hp:partsOf P t=none:=by simp [partsOf,hu]
    simp [hp,hu,basic] at hs
theorem trodAll_kept (hk:Kept W W') (hsp:∀ b,b<W.heap.size→sp' b=true) (m:Nat):∀ {ts:List TypeId} {vs:List Value} {ds:List (DataW H)} {ps:List MemPlace},ts.all (supp P m)=true→DataW.TrodAll enc P W 0 (fun _=>true) held ts vs ds ps→DataW.TrodAll enc P W' 0 sp' held ts vs ds ps
 | [],[],[],ps,_,h=>h
 | t::ts,v::vs,d::ds,ps,hs,h=>by
  simp only [List.all_cons,Bool.and_eq_true] at hs
  obtain⟨p,q,⟨fuel,h1⟩,h2,h3⟩:=h
  exact⟨p,q,⟨fuel,trod_kept hk hsp m _ _ _ _ hs.1 h1⟩,trodAll_kept hk hsp m hs.2 h2,h3⟩
 | [],[],_::_,ps,_,h=>by simp [DataW.TrodAll] at h
 | [],_::_,_,ps,_,h=>by simp [DataW.TrodAll] at h
 | _::_,[],_,ps,_,h=>by simp [DataW.TrodAll] at h
 | _::_,_::_,[],ps,_,h=>by simp [DataW.TrodAll] at h
def ArgT (P:Program) (m:Nat) (t:TypeId) (x:PV):Prop:=match partsOf P t with
 | some _=>∃ xs,x=.agg xs∧TyT P m t xs
 | none=>TyT P m t [x]
def ArgsT (P:Program) (m:Nat):List TypeId→List PV→Prop
 | [],xs=>xs=[]
 | t::ts,xs=>∃ x r,xs=x::r∧ArgT P m t x∧ArgsT P m ts r
def fzOf (W:World):Fzn:=fun b=>match W.heap[b]? with
 | some (.cells c _ _)=>some c.toList
 | _=>none
theorem fzOf_all (W:World):AllCells (fzOf W) W:=fun b c t z h=>by simp [fzOf,h]
theorem fzOf_some {b:Nat} {arr:List Value} (h:fzOf W b=some arr):∃ c t z,W.heap[b]?=some (.cells c t z)∧arr=c.toList:=by
 unfold fzOf at h
 split at h
 ·rename_i c t z hb
  injection h with h
  exact⟨c,t,z,hb,h.symm⟩
 ·cases h
theorem arg_of {m:Nat} {base:Nat} {t:TypeId} {v:Value} {d:DataW H} {ps:List MemPlace} (hs:supp P m t=true) (hval:Value.okWide P W .any base t v) (h:DataW.Trod enc P W 0 (fun _=>true) true t v d ps):∃ x,VP (fzOf W) x v∧ArgT P m t x:=by
 obtain⟨fuel,h⟩:=h
 obtain⟨xs,h1,h2,h3⟩:=typed_of_trod (fzOf_all W) m t fuel _ _ hs h
 unfold Value.okWide at hval
 cases hp:partsOf P t with
 | some l=>
  have:∃ cs,v=.agg cs:=by
   unfold partsOf at hp
   split at hp
   ·rename_i fs hu;simp only [hu] at hval;obtain⟨cs,h,_⟩:=hval;exact⟨cs,h⟩
   ·rename_i k e hu;simp only [hu] at hval;obtain⟨cs,h,_⟩:=hval;exact⟨cs,h⟩
   ·cases hp
  obtain⟨cs,rfl⟩:=this
  exact⟨.agg xs,by simp only [VP];exact⟨cs,rfl,h1⟩,by simp only [ArgT,hp];exact⟨xs,rfl,h3⟩⟩
 | none=>
  have hv:v.cells=#[v]:=by
   cases m with
   | zero=>simp [supp] at hs
   | succ m=>
    simp only [supp,hp] at hs
    cases hu:P.underlying t with
    | none=>simp [hu] at hs
    | some d=>
     simp only [hu] at hs hval
     cases d with
     | struct fs=>simp [partsOf,hu] at hp
     | array k e=>simp [partsOf,hu] at hp
     | bool=>cases v <;> simp_all [Cell.okWide,Cell.ok,Value.cells]
     | int k=>cases v <;> simp_all [Cell.okWide,Cell.ok,Value.cells]
     | string=>cases v <;> simp_all [Cell.okWide,Cell.ok,Value.cells]
     | slice e=>cases v <;> simp_all [Cell.okWide,Cell.ok,Value.cells]
     | _=>simp [basic] at hs
  rw [hv] at h1
  obtain⟨x,rfl,h4⟩:∃ x,xs=[x]∧VP (fzOf W) x v:=by
   match xs,h1 with
   | [],h1=>simp [VPL] at h1
   | x::r,h1=>
    simp only [VPL] at h1
    obtain⟨u,us,e,g1,g2⟩:=h1
    simp only [List.cons.injEq] at e
    obtain⟨rfl,rfl⟩:=e
    match r,g2 with
    | [],_=>exact⟨x,rfl,g1⟩
    | y::r,g2=>simp [VPL] at g2
  exact⟨x,h4,by simp only [ArgT,hp];exact h3⟩
theorem args_of {m base:Nat}:∀ {ts:List TypeId} {vs:List Value} {ds:List (DataW H)} {ps:List MemPlace},ts.all (supp P m)=true→(∀ (j:Nat) t v,ts[j]?=some t→vs[j]?=some v→Value.okWide P W .any base t v)→DataW.TrodAll enc P W 0 (fun _=>true) true ts vs ds ps →
  ∃ xs,VPL (fzOf W) xs vs∧ArgsT P m ts xs∧ds.length=ts.length
 | [],[],[],ps,_,_,_=>⟨[],by simp [VPL],rfl,rfl⟩
 | t::ts,v::vs,d::ds,ps,hs,hv,h=>by
  simp only [List.all_cons,Bool.and_eq_true] at hs
  obtain⟨p,q,h1,h2,h3⟩:=h
  obtain⟨x,g1,g2⟩:=arg_of hs.1 (hv 0 t v rfl rfl) h1
  obtain⟨xs,k1,k2,k3⟩:=args_of hs.2 (fun j t v ht hv'=>hv (j+1) t v ht hv') h2
  exact⟨x::xs,by simp only [VPL];exact⟨v,vs,rfl,g1,k1⟩,⟨x,xs,rfl,g2,k2⟩,by simp [k3]⟩
 | [],[],_::_,ps,_,_,h=>by simp [DataW.TrodAll] at h
 | [],_::_,_,ps,_,_,h=>by simp [DataW.TrodAll] at h
 | _::_,[],_,ps,_,_,h=>by simp [DataW.TrodAll] at h
 | _::_,_::_,[],ps,_,_,h=>by simp [DataW.TrodAll] at h
end
def gtOK (P:Program) (m:Nat):List (Nat × List PV)→List (String × DataW Unit)→Prop
 | [],_=>True
 | (g,cs)::r,(n,d)::r'=>P.globalNamed n=some g∧(∃ t,(P.globals[g]?).map (·.type)=some t∧supp P m t=true)∧flatD d=some cs∧gtOK P m r r'
 | _::_,[]=>False
theorem glob_of_laid {P:Program} {m:Nat} {W:World}:∀ {gt:List (Nat × List PV)} {laid:List (String × DataW Unit)} {ps:List MemPlace},gtOK P m gt laid→DataW.LaidVars P W laid ps→∀ g cs,gget gt g=some cs→GlobV (fzOf W) g cs
 | [],_,_,_,_,g,cs,h=>by simp [gget] at h
 | (g',cs')::r,[],_,hg,_,g,cs,h=>by simp [gtOK] at hg
 | (g',cs')::r,(n,d)::r',ps,hg,hl,g,cs,h=>by
  obtain⟨h1,⟨t,h2,h3⟩,h4,h5⟩:=hg
  obtain⟨g0,t0,cs0,fuel,p,q,k1,k2,k3,k4,k5,k6⟩:=hl
  rw [h1] at k1
  injection k1 with k1
  subst k1
  rw [h2] at k2
  injection k2 with k2
  subst k2
  simp only [gget] at h
  split at h
  ·rename_i he
   have he:=Nat.eq_of_beq_eq_true he
   subst he
   injection h with h
   subst h
   obtain⟨g1,g2⟩:=laid_of_trod (fz:=fzOf W) m t fuel _ _ _ h3 k4 h4
   have hb:∃ ty z,W.heap[g']?=some (.cells cs0 ty z):=by
    unfold World.var? at k3
    rw [h1] at k3
    simp only [Option.bind_some] at k3
    split at k3
    ·rename_i c ty z hb
     injection k3 with k3
     subst k3
     exact⟨ty,z,hb⟩
    ·cases k3
   obtain⟨ty,z,hb⟩:=hb
   exact⟨by simp only [VP];exact⟨g',0,cs0.toList,cs0.toList,rfl,fzOf_all W _ _ _ _ hb,g1,[],[],by simp,rfl,g2⟩,cs0.toList,fzOf_all W _ _ _ _ hb,VPL_length g1⟩
  ·exact glob_of_laid h5 k5 g cs h
section
variable {cx:Cx}
theorem calls_of_pure {H:Type} {enc:TypeId × Value→H} {W:World} {f:FuncId} {fn:Func} {c:Code} {m base:Nat} {args:Array Value} {ds:List (DataW H)} {ps:List MemPlace}
  (hf : cx.P.funcs[f]? = some fn) (hname : (fn.name == "runtime.NumGoroutine") = false) (hb : fn.body = some c) (hs : fn.params.toList.all (supp cx.P m) = true)
  (hpure:∀ xs,ArgsT cx.P m fn.params.toList xs→Pure cx f xs (·=.ret [.bool true]))
  (hval:∀ (j:Nat) t v,fn.params[j]?=some t→args[j]?=some v→Value.okWide cx.P W .any base t v)
  (hA:DataW.TrodAll enc cx.P W 0 (fun _=>true) true fn.params.toList args.toList ds ps)
  (hglob:∀ g cs,gget cx.gt g=some cs→GlobV (fzOf W) g cs) :
  Calls cx.P f args W fun e W'=>e=.returned (.bool true)∧W'.os=W.os∧W'.output=W.output∧∀ k,k<W.heap.size→W'.heap[k]?=W.heap[k]?:=by
 obtain⟨xs,h1,h2,_⟩:=args_of hs (fun j t v ht hv=>hval j t v (by simpa using ht) (by simpa using hv)) hA
 have hR:R cx ⟨fun _=>none,fzOf W⟩ ⟨0,[]⟩ W:=by
  refine⟨hglob,fun _ _=>rfl,fun b arr hb=>?_,fun n o hn=>by simp [lget] at hn,fun n o q hn=>by simp [lget] at hn,fun n o m p q q' hn=>by simp [lget] at hn⟩
  obtain⟨c,t,z,g1,rfl⟩:=fzOf_some hb
  exact⟨t,z,g1⟩
 have key:∀ e w',Post cx ⟨fun _=>none,fzOf W⟩ ⟨0,[]⟩ W (EndP (·=.ret [.bool true])) e w'→e=.returned (.bool true)∧w'.os=W.os∧w'.output=W.output∧∀ k,k<W.heap.size→w'.heap[k]?=W.heap[k]?:=by
  intro e w' hP
  obtain⟨r,Γ',hq,_,hE,_,hT,_⟩:=pure_post hR hP
  subst hq
  obtain⟨v',rfl,hv⟩:=hE
  simp only [VR,VP] at hv
  subst hv
  exact⟨rfl,hT.os,hT.output,fun k hk=>hT.kept k hk own_nil⟩
 have hrun:=run_enter hf hname hb args W
 rcases hpure xs h2 ⟨fun _=>none,fzOf W⟩ W args.toList hR (VRL_p.2 h1) with ⟨_,h4⟩ | ⟨v',w',h4,_⟩
 ·exact h4.mono key
 ·rw [hrun] at h4
  injection h4 with h4
  cases h4
theorem post_of_kept {H:Type} {enc:TypeId × Value→H} {W W':World} {fn:Func} {s:ChangeSpec} {m:Nat} {bt:TypeId} {apart fresh handsOn:Bool} {args:Array Value} {ds gs:List (DataW H)} {before:List MemPlace}
  (hs:fn.params.toList.all (supp cx.P m)=true) (hvars:s.vars=[]) (hres:fn.resultTypes=#[bt]) (hbt:cx.P.underlying bt=some .bool)
  (hfn:∀ ds:List (DataW H),ds.length=fn.params.toList.length→s.fn H ds={ results:=[.lit (.bool true)],args:=ds })
  (hW:DataW.Whole enc cx.P fn.params.toList s.vars apart W args.toList ds gs before) (hlen:ds.length=fn.params.toList.length)
  (hos:W'.os=W.os) (hout:W'.output=W.output) (hkept:∀ k,k<W.heap.size→W'.heap[k]?=W.heap[k]?) :
  s.post enc cx.P fn apart fresh handsOn false W args (.bool true) W':=by
 have hk:Kept W W':=fun b o hb=>by rw [hkept b (Array.getElem?_eq_some_iff.1 hb).1];exact hb
 have hW':=hW
 obtain⟨p,q,h1,h2,_,_,_⟩:=hW'
 rw [hvars] at h2
 obtain⟨rfl,rfl⟩:=Go.ChangeShapes.trodVars_none h2
 have e:s.fn H (ds++[])={ results:=[.lit (.bool true)],args:=ds }:=by rw [List.append_nil];exact hfn ds hlen
 refine⟨ds,[],before,[],p,[],hW,?_,?_,?_,?_,fun h=>by cases h⟩
 ·rw [e,hres]
  exact Go.ChangeShapes.trodAll_mk1 (Go.RowKit.shut_bool hbt true)
 ·rw [e]
  exact trodAll_kept hk (fun b hb=>by simpa using hb) m hs h1
 ·rw [e,hvars]
  rfl
 ·refine⟨hos,hout,fun i hi=>?_⟩
  rw [hkept i hi]
  have:=Array.getElem?_eq_getElem hi
  rw [this]
  cases W.heap[i] <;> simp
end
end Go.Proofs.YtohfoaplnjcihaaGreatDoor.Y
namespace Go.Proofs.YtohfoaplnjcihaaGreatDoor
open Go Y
set_option maxRecDepth 100000
set_option maxHeartbeats 4000000
theorem own:ownKnob Tryz.prog.godebug=none:=by kernel_rfl
abbrev laidP : List (String × DataW Unit) := [("math/bits.deBruijn32tab", Rows.laid_math_bits_deBruijn32tab), ("math/bits.deBruijn64tab", Rows.laid_math_bits_deBruijn64tab), ("internal/strconv.uint64pow10", Rows.laid_internal_strconv_uint64pow10), ("haruspex/lex.keys", Rows.laid_haruspex_lex_keys), ("haruspex/lex.marks", Rows.laid_haruspex_lex_marks)]
theorem door_metP (os:Os) (args:Array Value):laidMetH Tryz.prog laidP ((World.laidAll Tryz.prog os laidP).forCall (fun _ _=>0) ⟨#[],args,[]⟩).memory:=by
 rw [MakeChecks.laidMetH_plain _ _ _ (by kernel_rfl)]
 exact laidMet_laidAll _ (by kernel_rfl) (by kernel_rfl)
abbrev gt3:List (Nat × List PV):=[(5,pow10L.map (.int .u64)),(0,keysL.map .str),(1,marksL.map .str)]
theorem gt_okP : gtOK Tryz.prog 4 gt3 [("internal/strconv.uint64pow10", Rows.laid_internal_strconv_uint64pow10), ("haruspex/lex.keys", Rows.laid_haruspex_lex_keys), ("haruspex/lex.marks", Rows.laid_haruspex_lex_marks)] :=
 ⟨by kernel_rfl,⟨245,by kernel_rfl,by kernel_rfl⟩,rfl,by kernel_rfl,⟨226,by kernel_rfl,by kernel_rfl⟩,rfl,by kernel_rfl,⟨227,by kernel_rfl,by kernel_rfl⟩,rfl,trivial⟩
theorem gget_cases {k n:Nat} {o cs:List PV} {r:List (Nat × List PV)} (h:gget ((k,o)::r) n=some cs):(k=n∧o=cs)∨(¬ k=n∧gget r n=some cs):=by
 simp only [gget] at h
 split at h
 ·rename_i e
  injection h with h
  exact .inl ⟨Nat.eq_of_beq_eq_true e,h⟩
 ·rename_i e
  exact .inr ⟨fun c=>by rw [c] at e;simp at e,h⟩
theorem gt_reord {g:Nat} {cs:List PV} (h:gget cx.gt g=some cs):gget gt3 g=some cs:=by
 rcases gget_cases h with ⟨rfl,rfl⟩ | ⟨_,h⟩
 ·rfl
 ·rcases gget_cases h with ⟨rfl,rfl⟩ | ⟨_,h⟩
  ·rfl
  ·rcases gget_cases h with ⟨rfl,rfl⟩ | ⟨_,h⟩
   ·rfl
   ·cases h
theorem glob_okP {W:World} (h:laidMetH Tryz.prog laidP W):∀ g cs,gget cx.gt g=some cs→GlobV (fzOf W) g cs:=by
 rw [MakeChecks.laidMetH_plain _ _ _ (by kernel_rfl)] at h
 obtain⟨ps,h,_⟩:=h
 obtain⟨_,_,_,_,_,_,_,_,_,_,h,_⟩:=h
 obtain⟨_,_,_,_,_,_,_,_,_,_,h,_⟩:=h
 intro g cs hg
 exact glob_of_laid gt_okP h g cs (gt_reord hg)
theorem parseKnown_pure:∀ xs,ArgsT Tryz.prog 8 Tryz.f8.params.toList xs→Pure cx 8 xs (·=.ret [.bool true]):=by
 intro xs h
 rw [Tryz.params8] at h
 obtain rfl:=h
 exact parseKnown_c 
theorem parseKnown_lifted (os:Os) (started:os.Started) (H:Type) (enc:TypeId × Value→H) :
  ReturnsInHanded {} Tryz.checked os 8 .any (fun w args=>(Rows.parseKnownSpec.pre enc Tryz.prog Tryz.f8 [] false w args∧laidMetH Tryz.prog laidP w)∧sizedMet enc Tryz.prog Tryz.f8 (OpenSpec.ofChange Rows.parseKnownSpec) false w args)
   (Rows.parseKnownSpec.post enc Tryz.prog Tryz.f8 false true false false):=by
 refine returnsInHanded_of_change_and (C:=Tryz.checked) (X:=fun w _=>laidMetH Tryz.prog laidP w) (fun _ _ _ hh h=>h.of_heap hh) own started (by kernel_rfl) Tryz.func8
  (ChangeSpec.witness_shaped (enc:=enc) (C:=Tryz.checked) (os:=os) (X:=fun w _=>laidMetH Tryz.prog laidP w) false (World.laidAll Tryz.prog os laidP) #[] 8 (World.laidAll_os _ _ _) (World.shaped_of_ZipB (by kernel_rfl) (by kernel_rfl)) (by kernel_rfl) (by kernel_rfl) (by kernel_rfl) (door_metP os _)) ?_
 intro W base args ds gs before hval hW _ _ hL _
 obtain⟨p,q,hA,hV,_⟩:=id hW
 have hs:Tryz.f8.params.toList.all (supp Tryz.prog 8)=true:=by kernel_rfl
 obtain⟨_,_,_,hlen⟩:=args_of (base:=base) hs (fun j t v ht _=>by simp at ht) hA
 refine(calls_of_pure (cx:=cx) Tryz.func8 (by kernel_rfl) rfl hs parseKnown_pure hval hA (glob_okP hL)).mono fun e W' ⟨he,h1,h2,h3⟩=>?_
 subst he
 exact⟨_,rfl,post_of_kept (cx:=cx) (m:=8) hs rfl (by kernel_rfl) Tryz.underlying4 (fun ds h=>by
  rw [Tryz.params8] at h
  match ds,h with
  | [],_=>rfl) hW hlen h1 h2 h3⟩
theorem parseKnown_holds:Rows.ParseKnownSaid:=
 OpenClaim.holds_of_wide 8 Tryz.f8 rfl rfl rfl rfl rfl rfl rfl ⟨rfl,rfl,rfl,rfl,rfl⟩ rfl rfl rfl rfl rfl (by kernel_rfl) Tryz.func8 (by kernel_rfl)
  (of_decide_eq_true (by kernel_rfl)) (by unfold Func.isWrapper;first | (rw [if_pos (by decide +kernel)];kernel_rfl) | (rw [if_neg (by decide +kernel)];exact⟨rfl,rfl⟩))
  (fun os started H enc _=>parseKnown_lifted os started H enc)
theorem parseKnown_card:Rows.ParseKnownCardSaid:=
 Claim7.holds_tied_plain_at .later [] [.data, .data, .data, .data, .data] true (true, "b46c99eb2204dd8b467615443c82243f622f25a7b7341c27729da0866b8561af") true
  parseKnown_holds (fun _ h=>by cases h) (by kernel_rfl) (fun _ h=>by cases h) parseKnown_row_tie rfl ⟨rfl,rfl⟩ (by kernel_rfl) rfl
  (fun f fn hf hfn=>by
   obtain rfl : f = 8 := Option.some.inj ((show Tryz.prog.funcNamed "haruspex/haruspexlaw38.ParseKnown" = some 8 by kernel_rfl).symm.trans hf) |>.symm
   obtain rfl:fn=Tryz.f8:=(Option.some.inj (Tryz.func8.symm.trans hfn)).symm
   exact⟨by kernel_rfl,fun j t ht=>by
    have hall:(Tryz.f8.params.toList.all fun u=>!Tryz.prog.wantsStandIn u)=true:=by kernel_rfl
    exact(show Tryz.prog.wantsStandIn t=false by simpa using List.all_eq_true.1 hall t (by simpa using Array.mem_of_getElem? ht))⟩)
  (by kernel_rfl)
#print axioms parseKnown_card
end Go.Proofs.YtohfoaplnjcihaaGreatDoor

/- Part 3 of the proof: Lg Lh Li Lj Lk Ll Lm Ka Kb Kc Kd Ke Kf Kg Kh Sq Ki Kj Kk Kl Km Kn Ba Ln Ko Kp Kq Kr Ks Ta Tb Kt Ku -/
import Derived.Shelf.Strings.Builder1
import Derived.Shelf.Strings.Builder2
import Derived.Shelf.Small.Bits
import Derived.Shelf.Strings.BuilderF
import Derived.Shelf.Strconv.Itoa0
import Derived.Shelf.Sort.Plain
import Derived.Shelf.Strings.Prefix
import Derived.Shelf.Bits.Mul64
import Derived.Shelf.Strings.Repeat
import Derived.Ground.Names2Prog
import Derived.Shelf.Slices.CompactI
import Derived.Shelf.Slices.SearchI
import Derived.Shelf.Slices.Cells
import Derived.Shelf.Slices.In.SortNone
import Derived.Test.YtmepdfingcmkmaaGreatDoorProg
import Derived.Lib.MakeNoZero
import Derived.Laws.Externs
import Derived.Test.YtmepdfingcmkmaaGreatDoorQ2
namespace Go.Proofs.YtmepdfingcmkmaaGreatDoor
open Go Y
set_option maxRecDepth 100000
set_option maxHeartbeats 4000000
inductive RdR where
 | ok (ws:List Wd)
 | err (p:Nat × Nat) (c:Int)
def qKB (rec:Nat->List Wd->RdR) (s:List UInt8) (k:Nat) (acc:List Wd):RdR:=
 if s.length<=k then .ok acc
 else match qAw (qCo (s.drop k)).1 (qCo (s.drop k)).2 with
  | false=>.err (at_ s k) 370
  | true=>if acc.length=1500 then .err (at_ s k) 3
   else rec (k+(qCo (s.drop k)).2.length) (acc++[⟨(qCo (s.drop k)).1,(qCo (s.drop k)).2,(at_ s k).1,(at_ s k).2⟩])
def qFf:Nat->List UInt8->Nat->List Wd->RdR
 | 0,_,_,acc=>.ok acc
 | f+1,s,k,acc=>match qCI s.length (s.drop k) with
  | .inr n=>.err (at_ s (k+n)) 370
  | .inl n=>qKB (qFf f s) s (k+n) acc
def qG2 (s:List UInt8):RdR:=qFf (s.length+1) s 0 []
theorem one_pos {r:List UInt8} (h:r ≠ []):1<=(qCo r).2.length:=by
 have h1:1<=r.length:=by cases r <;> simp at h ⊢
 have h2:=qE4 qAh r
 unfold qCo
 split
 ·split
  ·simp;omega
  ·split <;> simp <;> omega
 ·split <;> simp <;> omega
theorem qSr (o:AObj) (_ho:isCells o.c=true) :
  HoldsG cx 68 [.ptr 0 0 0] ⟨1,[(0,o)]⟩ fun e H'=>e=.returned (.fn (.func 98) [] [.ptr 1 0 0])/\H'=⟨2,[(1,⟨155,false, .bx [.ptr 0 0 0]⟩),(0,o)]⟩:=by
 refine qA6 Tryz.func68 rfl rfl rfl ?_
 exact⟨rfl,rfl⟩
def qHn (s:List UInt8):List PV:=
 if 8000<s.length then [.lsts 4 [],i64 0,i64 0,i64 3]
 else match qG2 s with
  | .ok ws=>[.lsts 4 (ws.map Wd.cells),i64 0,i64 0,i64 0]
  | .err p c=>[.lsts 4 [],i64 p.1,i64 p.2,i64 c]
def rdL (s:List UInt8) (st:LoopState) (N:Nat) (σ:Sg) (ps:List Tmp) (ac bd:Code) (k:Nat) (out:AV):List (Nat × AObj):=
 [(7,⟨0,false, .lp st none 6 N σ ps ac bd 6⟩),(6,⟨0,false, .df⟩),(5,⟨155,false, .bx [.ptr 4 0 0]⟩),(4,⟨157,false, .bx (rdr (at_ s k) s k)⟩),(3,⟨43,false, .bx [.p (i64 0)]⟩),(2,⟨3,false, .bx [.p (i64 0)]⟩),(1,⟨3,false, .bx [.p (i64 0)]⟩),(0,⟨118,false, .bx [out]⟩)]
def rdA (acc:List Wd):AObj:=⟨122,false, .pus (acc.map Wd.cells)⟩
def rdM (s:List UInt8) (st:LoopState) (N:Nat) (σ:Sg) (ps:List Tmp) (ac bd:Code) (k:Nat) (acc:List Wd) (out:AV):List (Nat × AObj):=
 [(4,⟨157,false, .bx (rdr (at_ s k) s k)⟩),(8,rdA acc),(7,⟨0,false, .lp st none 6 N σ ps ac bd 6⟩),(6,⟨0,false, .df⟩),(5,⟨155,false, .bx [.ptr 4 0 0]⟩),(3,⟨43,false, .bx [.p (i64 0)]⟩),(2,⟨3,false, .bx [.p (i64 0)]⟩),(1,⟨3,false, .bx [.p (i64 0)]⟩),(0,⟨118,false, .bx [out]⟩)]
def rdN (s:List UInt8) (N:Nat) (σ:Sg) (ps:List Tmp) (ac bd:Code) (k:Nat) (acc:List Wd) (w:Wd):List (Nat × AObj):=
 [(11,rdA (acc++[w])),(10,rdA [w]),(9,⟨122,false, .bx (w.cells.map .p)⟩),(4,⟨157,false, .bx (rdr (at_ s k) s k)⟩),(7,⟨0,false, .lp .ready none 6 N σ ps ac bd 6⟩),(6,⟨0,false, .df⟩),(5,⟨155,false, .bx [.ptr 4 0 0]⟩),(3,⟨43,false, .bx [.p (i64 0)]⟩),(2,⟨3,false, .bx [.p (i64 0)]⟩),(1,⟨3,false, .bx [.p (i64 0)]⟩),(0,⟨118,false, .bx [.sl 11 4 0 (acc.length+1)]⟩)]
theorem qWf (x:Nat ⊕ Nat):(∃ n,x=.inl n)∨∃ n,x=.inr n:=by
 cases x with
 | inl n=>exact .inl ⟨n,rfl⟩
 | inr n=>exact .inr ⟨n,rfl⟩
theorem qVE (s:List UInt8) (hs:s.length<=8000) (N:Nat) (σ σ1:Sg) (ds:List AD) (ps:List Tmp) (ac bd:Code) (Q:KQ)
  (hok:∀ k acc,qG2 s=.ok acc->Q .normal σ1 ds ⟨9,(8,rdA acc)::rdL s .exhausted N σ ps ac bd k (.sl 8 4 0 acc.length)⟩)
  (hp1:∀ p c k acc st,qG2 s=.err p c->Q (.panic [⟨.p (err p c),false⟩]) σ1 ds ⟨9,(8,rdA acc)::rdL s st N σ ps ac bd k (.sl 8 4 0 acc.length)⟩)
  (hrd:∀ k acc (w:Wd) (K:AE->Hp->Prop),acc.length<=1500 ->
    (acc.length=1500->K (.panicked [⟨.p (.iface 153 (.agg [i64 w.line,i64 w.col,i64 3])),false⟩]) ⟨10,(9,⟨122,false, .bx (w.cells.map .p)⟩)::rdM s .busy N σ ps ac bd k acc (.sl 8 4 0 acc.length)⟩) ->
    (acc.length<1500->K (.returned (vB true)) ⟨12,rdN s N σ ps ac bd k acc w⟩) ->
    qNd cx 7 [.p (.agg w.cells)] ⟨9,rdM s .ready N σ ps ac bd k acc (.sl 8 4 0 acc.length)⟩ K) :
  HoldsG cx 98 [.fn (.yield 7) [] [], .ptr 5 0 0] ⟨8,rdL s .ready N σ ps ac bd 0 (.p .nils)⟩ (qQu 7 σ1 ds Q):=by
 refine qAC Tryz.func98 rfl rfl rfl ?_
 have hB:=qQe s hs 0 s.length (by omega) (by omega)
 have hR:qG2 s=match qCI s.length (s.drop 0) with
  | .inr n=>.err (at_ s (0+n)) 370
  | .inl n=>qKB (qFf s.length s) s (0+n) []:=rfl
 refine Or.elim (qWf (qCI s.length (s.drop 0))) (fun hn=>Exists.elim hn fun n hsk=>?_) (fun hn=>Exists.elim hn fun n hsk=>?_)
 ·simp only [hsk] at hB hR
  refine hB.holds.useN [] [(0,4)] rfl ⟨⟨_,rfl,rfl,rfl,_,rfl,_,_,rfl,rfl,_,_,rfl,rfl,_,_,rfl,rfl,_,_,rfl,rfl,rfl⟩,trivial⟩ ⟨_,_,rfl,⟨rfl,rfl⟩,rfl⟩ fun e0 H0' hq=>?_
  obtain⟨k1,rfl,rfl⟩:=hq
  refine⟨rfl,?_⟩
  refine⟨Nat × Nat × List Wd,fun x=>[(0, .fn (.yield 7) [] []),(1, .ptr 5 0 0)],fun x=>⟨9,(8,rdA x.2.2)::rdL s .ready N σ ps ac bd x.1 (.sl 8 4 0 x.2.2.length)⟩,
   fun x=>x.1<=s.length/\s.length - x.1<=x.2.1/\x.2.2.length<=1500/\qG2 s=qKB (qFf x.2.1 s) s x.1 x.2.2,fun x=>s.length - x.1,?_,?_⟩
  ·refine⟨(0+n,s.length,[]),⟨k1,by simp,by simp,hR⟩,?_⟩
   exact qAA [] [] [(8,4)] rfl (sk) (sk) rfl
  ·rintro⟨k,f,acc⟩ ⟨g1,g2,g3,g4⟩
   simp only [] at g1 g2 g3 g4
   refine VDraw.seq rfl ?_
   refine And.intro (fun h1=>?_) (fun h1=>?_)
   ·have h1:(k:Int)<(s.length:Int):=h1
    have hlt:k<s.length:=by omega
    have hW:=qUP s hs k hlt
    have hne:s.drop k ≠ []:=by intro e;have:=congrArg List.length e;rw [List.length_drop] at this;simp only [List.length_nil] at this;omega
    have hpos:=one_pos hne
    have hb:qKB (qFf f s) s k acc=match qAw (qCo (s.drop k)).1 (qCo (s.drop k)).2 with
      | false=>.err (at_ s k) 370
      | true=>if acc.length=1500 then .err (at_ s k) 3
       else qFf f s (k+(qCo (s.drop k)).2.length) (acc++[⟨(qCo (s.drop k)).1,(qCo (s.drop k)).2,(at_ s k).1,(at_ s k).2⟩]):=by
     rw [qKB,if_neg (by omega)]
    by_cases hr:qAw (qCo (s.drop k)).1 (qCo (s.drop k)).2=true
    rotate_left
    ·rw [Bool.not_eq_true] at hr
     simp only [hr] at hW hb
     refine hW.holds.useN [] [(0,4)] rfl ⟨⟨_,rfl,rfl,rfl,_,rfl,_,_,rfl,rfl,_,_,rfl,rfl,_,_,rfl,rfl,_,_,rfl,rfl,rfl⟩,trivial⟩ ⟨_,_,rfl,⟨rfl,rfl⟩,rfl⟩ fun e0 H0' hq=>?_
     obtain⟨rfl,rfl⟩:=hq
     refine⟨rfl,?_⟩
     exact⟨[],[(8,8)],[], .panicked [⟨.p (err (at_ s k) 370),false⟩],⟨9,(8,rdA acc)::rdL s .ready N σ ps ac bd k (.sl 8 4 0 acc.length)⟩,rfl,sk,sk,hp1 _ _ k acc .ready (g4.trans hb)⟩
    ·simp only [hr] at hW hb
     refine hW.holds.useN [] [(0,4)] rfl ⟨⟨_,rfl,rfl,rfl,_,rfl,_,_,rfl,rfl,_,_,rfl,rfl,_,_,rfl,rfl,_,_,rfl,rfl,rfl⟩,trivial⟩ ⟨_,_,rfl,⟨rfl,rfl⟩,rfl⟩ fun e0 H0' hq=>?_
     obtain⟨k1,rfl,rfl⟩:=hq
     refine⟨rfl,?_⟩
     refine hrd _ acc ⟨(qCo (s.drop k)).1,(qCo (s.drop k)).2,(at_ s k).1,(at_ s k).2⟩ _ g3 (fun h2=>?_) (fun h2=>?_)
     ·rw [if_pos h2] at hb
      exact⟨[],[(8,8)],[], .panicked [⟨.p (err (at_ s k) 3),false⟩],⟨9,(8,rdA acc)::rdL s .busy N σ ps ac bd (k+(qCo (s.drop k)).2.length) (.sl 8 4 0 acc.length)⟩,rfl,sk,sk,hp1 _ _ _ acc .busy (g4.trans hb)⟩
     ·rw [if_neg (by omega)] at hb
      have hw0:∀ w:Wd,AV.sl 11 4 0 (acc.length+1)=AV.sl 11 4 0 (acc++[w]).length:=fun w=>by rw [List.length_append];rfl
      obtain⟨f',rfl⟩:∃ n,f=n+1:=⟨f - 1,by omega⟩
      have hB:=qQe s hs (k+(qCo (s.drop k)).2.length) s.length k1 (by omega)
      rw [qFf] at hb
      refine Or.elim (qWf (qCI s.length (s.drop (k+(qCo (s.drop k)).2.length)))) (fun hn=>Exists.elim hn fun n hsk=>?_) (fun hn=>Exists.elim hn fun n hsk=>?_)
      ·simp only [hsk] at hB hb
       refine hB.holds.useN [] [(0,4)] rfl ⟨⟨_,rfl,rfl,rfl,_,rfl,_,_,rfl,rfl,_,_,rfl,rfl,_,_,rfl,rfl,_,_,rfl,rfl,rfl⟩,trivial⟩ ⟨_,_,rfl,⟨rfl,rfl⟩,rfl⟩ fun e0 H0' hq=>?_
       obtain⟨k2,rfl,rfl⟩:=hq
       refine⟨rfl,?_⟩
       refine⟨(k+(qCo (s.drop k)).2.length+n,f',acc++[⟨(qCo (s.drop k)).1,(qCo (s.drop k)).2,(at_ s k).1,(at_ s k).2⟩]),⟨k2,by simp only [];omega,by simp;omega,g4.trans hb⟩,?_,by simp only [];omega⟩
       exact qAA [] [(8,11)] [] rfl ⟨⟨rfl,_,_,rfl,rfl,rfl⟩,⟨rfl,rfl⟩,trivial⟩ ⟨⟨_,rfl,rfl,rfl,rfl⟩,⟨_,rfl,rfl,rfl,rfl,rfl,rfl⟩,⟨_,rfl,rfl,rfl,rfl⟩,⟨_,rfl,rfl,rfl,_,rfl,_,_,rfl,⟨rfl,rfl⟩,rfl⟩,⟨_,rfl,rfl,rfl,_,rfl,_,_,rfl,rfl,_,_,rfl,rfl,_,_,rfl,rfl,_,_,rfl,rfl,rfl⟩,⟨_,rfl,rfl,rfl,_,rfl,_,_,rfl,rfl,rfl⟩,⟨_,rfl,rfl,rfl,_,rfl,_,_,rfl,rfl,rfl⟩,⟨_,rfl,rfl,rfl,_,rfl,_,_,rfl,rfl,rfl⟩,⟨_,rfl,rfl,rfl,_,rfl,_,_,rfl,hw0 _,rfl⟩,trivial⟩ rfl
      ·simp only [hsk] at hB hb
       refine hB.holds.useN [] [(0,4)] rfl ⟨⟨_,rfl,rfl,rfl,_,rfl,_,_,rfl,rfl,_,_,rfl,rfl,_,_,rfl,rfl,_,_,rfl,rfl,rfl⟩,trivial⟩ ⟨_,_,rfl,⟨rfl,rfl⟩,rfl⟩ fun e0 H0' hq=>?_
       obtain⟨k2,rfl,k',k3,rfl⟩:=hq
       refine⟨rfl,?_⟩
       exact⟨[],[(8,11)],[], .panicked [⟨.p (err (at_ s (k+(qCo (s.drop k)).2.length+n)) 370),false⟩],⟨9,(8,rdA (acc++[(⟨(qCo (s.drop k)).1,(qCo (s.drop k)).2,(at_ s k).1,(at_ s k).2⟩:Wd)]))::rdL s .ready N σ ps ac bd k' (.sl 8 4 0 (acc++[(⟨(qCo (s.drop k)).1,(qCo (s.drop k)).2,(at_ s k).1,(at_ s k).2⟩:Wd)]).length)⟩,rfl,⟨_,rfl,_,_,rfl,rfl,rfl⟩,⟨⟨_,rfl,rfl,rfl,rfl⟩,⟨_,rfl,rfl,rfl,rfl,rfl,rfl⟩,⟨_,rfl,rfl,rfl,rfl⟩,⟨_,rfl,rfl,rfl,_,rfl,_,_,rfl,⟨rfl,rfl⟩,rfl⟩,⟨_,rfl,rfl,rfl,_,rfl,_,_,rfl,rfl,_,_,rfl,rfl,_,_,rfl,rfl,_,_,rfl,rfl,rfl⟩,⟨_,rfl,rfl,rfl,_,rfl,_,_,rfl,rfl,rfl⟩,⟨_,rfl,rfl,rfl,_,rfl,_,_,rfl,rfl,rfl⟩,⟨_,rfl,rfl,rfl,_,rfl,_,_,rfl,rfl,rfl⟩,⟨_,rfl,rfl,rfl,_,rfl,_,_,rfl,hw0 _,rfl⟩,trivial⟩,hp1 _ _ k' _ .ready (g4.trans hb)⟩
   ·have h1:¬ (k:Int)<(s.length:Int):=h1
    have e:qG2 s=.ok acc:=by rw [g4,qKB,if_pos (by omega)]
    exact⟨[],[(8,8)],[], .returned und,⟨9,(8,rdA acc)::rdL s .ready N σ ps ac bd k (.sl 8 4 0 acc.length)⟩,rfl,sk,sk,hok k acc e⟩
 ·simp only [hsk] at hB hR
  refine hB.holds.useN [] [(0,4)] rfl ⟨⟨_,rfl,rfl,rfl,_,rfl,_,_,rfl,rfl,_,_,rfl,rfl,_,_,rfl,rfl,_,_,rfl,rfl,rfl⟩,trivial⟩ ⟨_,_,rfl,⟨rfl,rfl⟩,rfl⟩ fun e0 H0' hq=>?_
  obtain⟨k1,rfl,k',k2,rfl⟩:=hq
  refine⟨rfl,?_⟩
  exact⟨[],[],[(8,4)], .panicked [⟨.p (err (at_ s (0+n)) 370),false⟩],⟨9,(8,rdA [])::rdL s .ready N σ ps ac bd k' (.sl 8 4 0 0)⟩,rfl,sk,sk,hp1 _ _ k' [] .ready hR⟩
theorem qUn (s:List UInt8):Pure cx 44 [.str s] (·=.ret (qHn s)):=by
 refine qAB Tryz.func44 rfl rfl rfl ?_
 refine And.intro (fun h1=>?_) (fun h1=>?_)
 ·have h1:(8000:Int)<s.length:=h1
  have e:qHn s=[.lsts 4 [],i64 0,i64 0,i64 3]:=by rw [qHn,if_pos (by omega)]
  rw [e]
  exact qSe (.lsts 4 []) (i64 0) (i64 0) (i64 3) rfl (.inr (.inr ⟨4,rfl⟩)) rfl rfl rfl rfl
 ·have hs:s.length<=8000:=by have h1:¬ (8000:Int)<s.length:=h1;omega
  have hw:=qSr ⟨157,false, .bx (rdr (at_ s 0) s 0)⟩ rfl
  refine hw.useE [] [(0,4)] rfl ⟨⟨_,rfl,rfl,rfl,_,rfl,_,_,rfl,rfl,_,_,rfl,rfl,_,_,rfl,rfl,_,_,rfl,rfl,rfl⟩,trivial⟩ ⟨_,_,rfl,⟨rfl,rfl⟩,rfl⟩ ?_
  refine qRS ?_
  intro σ' ps ac bd e1 e2 e3 e4
  have hrd:∀ k acc (w:Wd) (K:AE->Hp->Prop),acc.length<=1500 ->
    (acc.length=1500->K (.panicked [⟨.p (.iface 153 (.agg [i64 w.line,i64 w.col,i64 3])),false⟩]) ⟨10,(9,⟨122,false, .bx (w.cells.map .p)⟩)::rdM s .busy Tryz.f44.ntmps σ' ps ac bd k acc (.sl 8 4 0 acc.length)⟩) ->
    (acc.length<1500->K (.returned (vB true)) ⟨12,rdN s Tryz.f44.ntmps σ' ps ac bd k acc w⟩) ->
    qNd cx 7 [.p (.agg w.cells)] ⟨9,rdM s .ready Tryz.f44.ntmps σ' ps ac bd k acc (.sl 8 4 0 acc.length)⟩ K:=by
   intro k acc w K hacc hK1 hK2
   subst e1 e2 e3 e4
   refine qLS rfl rfl rfl ?_
   refine And.intro (fun h2=>?_) (fun h2=>?_)
   ·have h2:(acc.length:Int)=1500:=h2
    exact hK1 (by omega)
   ·have h2:¬ (acc.length:Int)=1500:=h2
    refine⟨by show 0+1<=1;omega,[w.cells],rfl,?_⟩
    refine⟨by show 0+acc.length<=(acc.map Wd.cells).length;simp,acc.map Wd.cells,?_,?_⟩
    ·show acc.map Wd.cells=((acc.map Wd.cells).drop 0).take acc.length
     rw [List.drop_zero,List.take_of_length_le (by simp)]
    refine⟨by show(acc.length+1) * 40<=140737488355328;omega,(acc++[w]).map Wd.cells,by simp,?_⟩
    exact hK2 (by omega)
  refine qVE s hs _ σ' _ _ ps ac bd _ ?_ ?_ hrd
  ·intro k acc hr
   have e:qHn s=[.lsts 4 (acc.map Wd.cells),i64 0,i64 0,i64 0]:=by rw [qHn,if_neg (by omega),hr]
   rw [e]
   refine qDH Tryz.func67 rfl rfl rfl ?_
   refine⟨[],[(0,0),(1,1),(2,2),(3,3),(8,8)],[], .returned und,⟨9,[(8,rdA acc),(3,⟨43,false, .bx [.p (i64 0)]⟩),(2,⟨3,false, .bx [.p (i64 0)]⟩),(1,⟨3,false, .bx [.p (i64 0)]⟩),(0,⟨118,false, .bx [.sl 8 4 0 acc.length]⟩)]⟩,rfl,sk,sk,?_⟩
   refine qSe (.lsts 4 (acc.map Wd.cells)) (i64 0) (i64 0) (i64 0) rfl ?_ rfl rfl rfl rfl
   exact⟨_,rfl,by simp,by rw [List.drop_zero,List.take_of_length_le (by simp)]⟩
  ·intro p c k acc st hr
   have e:qHn s=[.lsts 4 [],i64 p.1,i64 p.2,i64 c]:=by rw [qHn,if_neg (by omega),hr]
   rw [e]
   refine qDH Tryz.func67 rfl rfl rfl ?_
   refine VDraw.seq rfl ?_
   refine⟨sk,?_⟩
   refine⟨sk,?_⟩
   refine⟨sk,?_⟩
   refine⟨[],[(0,0),(1,1),(2,2),(3,3)],[], .returned und,⟨9,[(3,⟨43,false, .bx [.p (i64 c)]⟩),(2,⟨3,false, .bx [.p (i64 p.2)]⟩),(1,⟨3,false, .bx [.p (i64 p.1)]⟩),(0,⟨118,false, .bx [.p .nils]⟩)]⟩,rfl,sk,sk,?_⟩
   exact qSe (.lsts 4 []) (i64 p.1) (i64 p.2) (i64 c) rfl (.inr (.inr ⟨4,rfl⟩)) rfl rfl rfl rfl
theorem qRT (b:UInt8):Pure cx 143 [u8 b] (·=.ret [.bool (qCj b)]):=by
 refine qAB Tryz.func143 rfl rfl rfl ?_
 refine And.intro (fun h1=>?_) (fun h1=>?_)
 ·refine And.intro (fun h2=>?_) (fun h2=>?_)
  ·exact qAF _ rfl rfl (qAO (by simp [qCj];omega))
  ·exact qAF _ rfl rfl (qAO (by simp [qCj];omega))
 ·exact qAF _ rfl rfl (qAO (by simp [qCj];omega))
theorem qKD (b:UInt8):Pure cx 115 [u8 b] (·=.ret [.bool (isLet b)]):=by
 refine qAB Tryz.func115 rfl rfl rfl ?_
 refine And.intro (fun h1=>?_) (fun h1=>?_)
 ·refine And.intro (fun h2=>?_) (fun h2=>?_)
  ·exact qAF _ rfl rfl (qAO (by simp [isLet];omega))
  ·refine And.intro (fun h3=>?_) (fun h3=>?_)
   ·refine And.intro (fun h4=>?_) (fun h4=>?_)
    ·exact qAF _ rfl rfl (qAO (by simp [isLet];omega))
    ·exact qAF _ rfl rfl (qAO (by simp [isLet];omega))
   ·exact qAF _ rfl rfl (qAO (by simp [isLet];omega))
 ·refine And.intro (fun h3=>?_) (fun h3=>?_)
  ·refine And.intro (fun h4=>?_) (fun h4=>?_)
   ·exact qAF _ rfl rfl (qAO (by simp [isLet];omega))
   ·exact qAF _ rfl rfl (qAO (by simp [isLet];omega))
  ·exact qAF _ rfl rfl (qAO (by simp [isLet];omega))
theorem qV5 (l:List (List UInt8)) (hl:l.length<=9223372036854775807) (s:List UInt8):Pure cx 116 [.lst (l.map .str), .str s] (·=.ret [.bool (inL l s)]):=by
 refine qAB Tryz.func116 rfl rfl rfl ?_
 refine⟨Nat,fun k=>[(5, .p (i64 k)),(0, .p (.lst (l.map .str))),(1,vS s)],fun _=>⟨0,[]⟩,fun k=>k<=l.length/\inL l s=inL (l.drop k) s,fun k=>l.length - k,?_,?_⟩
 ·exact⟨0,⟨by omega,rfl⟩,qDu rfl ⟨rfl,rfl,rfl,trivial⟩ trivial rfl⟩
 ·rintro k ⟨hk,he⟩
  refine And.intro (fun h1=>?_) (fun h1=>?_)
  ·have h1:(k:Int)<((l.map PV.str).length:Nat):=h1
   rw [List.length_map] at h1
   have hk':k<l.length:=by omega
   have hc:l.drop k=l[k]::l.drop (k+1):=List.drop_eq_getElem_cons hk'
   refine⟨_,⟨by omega, .str l[k],by show(l.map PV.str)[k]?=_;rw [List.getElem?_map,List.getElem?_eq_getElem hk'];rfl,rfl⟩,?_⟩
   refine And.intro (fun h2=>?_) (fun h2=>?_)
   ·have h2:l[k]=s:=h2
    exact qAF _ rfl rfl (qAO (by rw [he,hc,inL,h2];simp))
   ·have h2:¬ l[k]=s:=h2
    refine⟨(k:Int)+1,w6z,k+1,⟨by omega,?_⟩,qDu rfl ⟨rfl,rfl,rfl,trivial⟩ trivial rfl,?_⟩
    ·rw [he,hc,inL,decide_eq_false (fun e=>h2 e.symm)]
     rfl
    ·show l.length - (k+1)<l.length - k
     omega
  ·have h1:¬ (k:Int)<((l.map PV.str).length:Nat):=h1
   rw [List.length_map] at h1
   have:k=l.length:=by omega
   subst this
   exact qAF _ rfl rfl (qAO (by rw [he,List.drop_length];rfl))
theorem rKeys_c:Pure cx 117 [] (·=.ret [.lst (keysL.map .str)]):=by
 refine qAB Tryz.func117 rfl rfl rfl ?_
 exact qAF (.lst (keysL.map .str)) rfl ⟨_,rfl,by decide,rfl⟩ rfl
def runN (s:List UInt8):Bool:=decide (s ≠ []) && decide (qAa qAh s=s.length)
theorem qUp (s:List UInt8) (hs:s.length<=9223372036854775807):Pure cx 114 [.str s] (·=.ret [.bool (runN s)]):=by
 refine qAB Tryz.func114 rfl rfl rfl ?_
 refine⟨Nat,fun k=>[(3, .p (i64 k)),(0,vS s)],fun _=>⟨0,[]⟩,fun k=>k<=s.length/\qAa qAh s=k+qAa qAh (s.drop k),fun k=>s.length - k,?_,?_⟩
 ·exact⟨0,⟨by omega,by simp⟩,qDu rfl ⟨rfl,rfl,trivial⟩ trivial rfl⟩
 ·rintro k ⟨hk,he⟩
  refine And.intro (fun h1=>?_) (fun h1=>?_)
  ·have hk':k<s.length:=by have h1:(k:Int)<(s.length:Nat):=h1;omega
   have hc:s.drop k=s[k]::s.drop (k+1):=List.drop_eq_getElem_cons hk'
   refine⟨_,⟨by omega,s[k],List.getElem?_eq_getElem hk',rfl⟩,?_⟩
   have hL:=qKD s[k]
   have next:qAh s[k]=true->qAa qAh s=k+1+qAa qAh (s.drop (k+1)):=by
    intro h
    rw [he,hc,qAa,if_pos h]
    omega
   by_cases hl:isLet s[k]=true
   ·rw [hl] at hL
    refine hL.eq rfl ?_
    refine⟨(k:Int)+1,w6z,k+1,⟨by omega,next (by simp [qAh,hl])⟩,qDu rfl ⟨rfl,rfl,trivial⟩ trivial rfl,?_⟩
    show s.length - (k+1)<s.length - k
    omega
   ·rw [Bool.not_eq_true] at hl
    rw [hl] at hL
    refine hL.eq rfl ?_
    refine⟨_,⟨by omega,s[k],List.getElem?_eq_getElem hk',rfl⟩,?_⟩
    have hD:=qRT s[k]
    by_cases hd:qCj s[k]=true
    ·rw [hd] at hD
     refine hD.eq rfl ?_
     refine⟨(k:Int)+1,w6z,k+1,⟨by omega,next (by simp [qAh,hd])⟩,qDu rfl ⟨rfl,rfl,trivial⟩ trivial rfl,?_⟩
     show s.length - (k+1)<s.length - k
     omega
    ·rw [Bool.not_eq_true] at hd
     rw [hd] at hD
     refine hD.eq rfl ?_
     refine qAF _ rfl rfl (qAO ?_)
     have:qAa qAh s=k:=by rw [he,hc,qAa,if_neg (by simp [qAh,hl,hd])];omega
     simp only [runN,decide_eq_false (show ¬ qAa qAh s=s.length by omega),Bool.and_false]
  ·have:k=s.length:=by have h1:¬ (k:Int)<(s.length:Nat):=h1;omega
   have hsp:qAa qAh s=s.length:=by rw [he,this];simp [qAa]
   refine And.intro (fun h2=>?_) (fun h2=>?_)
   ·have h2:s=[]:=h2
    exact qAF _ rfl rfl (qAO (by simp [runN,h2]))
   ·have h2:¬ s=[]:=h2
    exact qAF _ rfl rfl (qAO (by simp [runN,h2,hsp]))
theorem qI9 (t:List UInt8) (ht:t.length<=9223372036854775807):Pure cx 91 [.str t] (·=.ret [.bool (qAk t)]):=by
 refine qAB Tryz.func91 rfl rfl rfl ?_
 have hR:=qUp t ht
 by_cases hr:runN t=true
 ·rw [hr] at hR
  refine hR.eq rfl ?_
  have hr2:=hr
  simp only [runN,Bool.and_eq_true,decide_eq_true_eq] at hr2
  obtain⟨c,r,rfl⟩:∃ c r,t=c::r:=by cases t with | nil=>exact(hr2.1 rfl).elim | cons c r=>exact⟨c,r,rfl⟩
  refine⟨_,⟨by omega,c,rfl,rfl⟩,?_⟩
  have hL:=qKD c
  by_cases hl:isLet c=true
  ·rw [hl] at hL
   refine hL.eq rfl ?_
   refine And.intro (fun h1=>?_) (fun h1=>?_)
   ·have h1:((c::r).length:Int)<=10:=h1
    refine rKeys_c.eq rfl ?_
    refine(qV5 keysL (by decide) (c::r)).eq rfl ?_
    exact qAF _ rfl rfl (qAO (by simp only [qAk,List.headD_cons,hl,decide_eq_true hr2.1,decide_eq_true hr2.2,decide_eq_true (show(c::r).length<=10 by omega),Bool.true_and]))
   ·have h1:¬ ((c::r).length:Int)<=10:=h1
    exact qAF _ rfl rfl (qAO (by simp only [qAk,decide_eq_false (show ¬ (c::r).length<=10 by omega),Bool.and_false,Bool.false_and]))
  ·rw [Bool.not_eq_true] at hl
   rw [hl] at hL
   refine hL.eq rfl ?_
   exact qAF _ rfl rfl (qAO (by simp only [qAk,List.headD_cons,hl,Bool.and_false,Bool.false_and]))
 ·rw [Bool.not_eq_true] at hr
  rw [hr] at hR
  refine hR.eq rfl ?_
  refine qAF _ rfl rfl (qAO ?_)
  simp only [runN,Bool.and_eq_false_iff,decide_eq_false_iff_not] at hr
  rcases hr with hr | hr
  ·simp only [qAk,decide_eq_false hr,Bool.false_and]
  ·simp only [qAk,decide_eq_false hr,Bool.and_false,Bool.false_and]
end Go.Proofs.YtmepdfingcmkmaaGreatDoor
namespace Go.Proofs.YtmepdfingcmkmaaGreatDoor
open Go Y
set_option maxRecDepth 100000
set_option maxHeartbeats 4000000
abbrev qH1:List UInt8:=[103,114,97,105,110]
abbrev qH0:List UInt8:=[112,108,97,116,101]
abbrev qNq:List UInt8:=[110,111,100,101]
abbrev qFY:List UInt8:=[99,104,111,111,115,101]
abbrev qNr:List UInt8:=[103,97,105,110]
abbrev qEQ:List UInt8:=[102,114,111,109]
abbrev qEa:List UInt8:=[115,101,101,105,110,103]
abbrev qNs:List UInt8:=[101,108,115,101]
abbrev qOY:List UInt8:=[97,110,100]
abbrev tOr:List UInt8:=[111,114]
abbrev qQy:List UInt8:=[110,111,116]
abbrev tIn:List UInt8:=[105,110]
abbrev qMY:List UInt8:=[97,108,108]
abbrev qH2:List UInt8:=[99,111,117,110,116]
abbrev qDP:List UInt8:=[58]
abbrev qBh:List UInt8:=[59]
abbrev qEU:List UInt8:=[44]
abbrev tLP:List UInt8:=[40]
abbrev tRP:List UInt8:=[41]
abbrev tLB:List UInt8:=[91]
abbrev tRB:List UInt8:=[93]
abbrev tLC:List UInt8:=[123]
abbrev tRC:List UInt8:=[125]
abbrev tEq:List UInt8:=[61]
abbrev tLt:List UInt8:=[60]
abbrev qNp:List UInt8:=[43]
abbrev qDw:List UInt8:=[45]
abbrev tNe:List UInt8:=[47,61]
abbrev tLe:List UInt8:=[60,61]
abbrev qWT:TypeId:=122
abbrev qK6:TypeId:=31
abbrev qHe:TypeId:=33
abbrev qHt:TypeId:=37
abbrev qQt:TypeId:=23
abbrev qSl:TypeId:=3
abbrev qWU:TypeId:=9
structure Rf where
 name:List UInt8
 mode:Int
 plate:List UInt8
 n:Int
deriving DecidableEq
inductive Cd where
 | mk (op n rel val:Int) (ref:Rf) (set:List Int) (args:List Cd)
structure Cs where
 cond:Cd
 nums:List Int
structure De where
 kind:Int
 n:Int
 name:List UInt8
 plate:List UInt8
 refs:List Rf
 cases:List Cs
abbrev ints (l:List Int):PV:=.lst (l.map i64)
abbrev strs (l:List (List UInt8)):PV:=.lst (l.map .str)
abbrev Rf.cells (r:Rf):List PV:=[.str r.name,i64 r.mode, .str r.plate,i64 r.n]
abbrev Rf.pv (r:Rf):PV:=.agg r.cells
abbrev qBy (l:List Rf):PV:=.lsts 4 (l.map Rf.cells)
mutual
def Cd.cells:Cd->List PV
 | .mk op n rel val r set args=>[i64 op,i64 n,i64 rel,i64 val, .str r.name,i64 r.mode, .str r.plate,i64 r.n,ints set, .lsts 10 (qBG args)]
def qBG:List Cd->List (List PV)
 | []=>[]
 | c::r=>c.cells::qBG r
end
theorem qBN:∀ l:List Cd,qBG l=l.map Cd.cells
 | []=>rfl
 | c::r=>by rw [qBG,qBN r];rfl
abbrev Cd.pv (c:Cd):PV:=.agg c.cells
abbrev cds (l:List Cd):PV:=.lsts 10 (l.map Cd.cells)
def Cs.cells (c:Cs):List PV:=c.cond.cells++[ints c.nums]
abbrev Cs.pv (c:Cs):PV:=.agg c.cells
abbrev css (l:List Cs):PV:=.lsts 11 (l.map Cs.cells)
def De.cells (d:De):List PV:=[i64 d.kind,i64 d.n, .str d.name, .str d.plate,qBy d.refs,css d.cases]
abbrev De.pv (d:De):PV:=.agg d.cells
abbrev des (l:List De):PV:=.lsts 6 (l.map De.cells)
abbrev qCs (l:List De):PV:=.agg [des l]
def rf0:Rf:=⟨[],0,[],0⟩
def cd0:Cd:=.mk 0 0 0 0 rf0 [] []
def wd0:Wd:=⟨0,[],0,0⟩
def wat (ws:List Wd) (q:Nat):Wd:=ws.getD q wd0
abbrev txt (ws:List Wd) (q:Nat):List UInt8:=(wat ws q).text
abbrev knd (ws:List Wd) (q:Nat):Int:=(wat ws q).kind
theorem qGh {ws:List Wd} {q:Nat} (h:ws.length<=q):wat ws q=wd0:=by
 rw [wat,List.getD_eq_getElem?_getD,List.getElem?_eq_none h];rfl
structure GoodW (ws:List Wd):Prop where
 right:∀ w∈ws,qAw w.kind w.text=true
 len:ws.length<=1500
theorem GoodW.at {ws:List Wd} (h:GoodW ws) {q:Nat} (hq:q<ws.length):qAw (knd ws q) (txt ws q)=true:=
 h.right _ (by rw [wat,List.getD_eq_getElem?_getD,List.getElem?_eq_getElem hq];exact List.getElem_mem hq)
theorem qBS {ws:List Wd} {q:Nat} (h:txt ws q ≠ []):q<ws.length:=by
 rcases Nat.lt_or_ge q ws.length with h1 | h1
 ·exact h1
 ·exact absurd (by rw [txt,qGh h1];rfl) h
theorem qKX {ws:List Wd} {q:Nat} (h:knd ws q ≠ 0):q<ws.length:=by
 rcases Nat.lt_or_ge q ws.length with h1 | h1
 ·exact h1
 ·exact absurd (by rw [knd,qGh h1];rfl) h
def qNm (t:List UInt8):Int:=t.foldl (fun n b=>10 * n+((b.toNat:Int) - 48)) 0
abbrev Rd (α:Type):=Sum Nat (α × Nat)
def Rd.then {α β:Type} (r:Rd α) (k:α->Nat->Rd β):Rd β:=match r with
 | .inl e=>.inl e
 | .inr (a,p)=>k a p
section
variable (ws:List Wd)
def qCN (s:List UInt8) (q:Nat):Rd Unit:=if txt ws q=s then .inr ((),q+1) else .inl q
def qAn:List (List UInt8)->Nat->Rd Unit
 | [],q=>.inr ((),q)
 | s::r,q=>(qCN ws s q).then fun _ q=>qAn r q
def qCp (q:Nat):Rd (List UInt8):=if knd ws q=1 then .inr (txt ws q,q+1) else .inl q
def qDV (q:Nat):Rd Int:=if knd ws q=3 then .inr (qNm (txt ws q),q+1) else .inl q
def qC5 (nm:List UInt8) (mode:Int) (pl:List UInt8) (n:Int) (q:Nat):Rd Rf:=(qCN ws tRB q).then fun _ q=>.inr (⟨nm,mode,pl,n⟩,q)
def qJ8 (q : Nat) : Rd Rf := (qCp ws q).then fun nm q =>
  if txt ws q = tLB then
    (if txt ws (q + 1) = qMY then qC5 ws nm 3 [] 0 (q + 2)
     else if knd ws (q + 1) = 3 then (qDV ws (q + 1)).then fun n q => qC5 ws nm 2 [] n q
     else (qCp ws (q + 1)).then fun pl q => if txt ws q = qNp then (qDV ws (q + 1)).then fun n q => qC5 ws nm 1 pl n q else qC5 ws nm 1 pl 0 q)
  else .inr (⟨nm, 0, [], 0⟩, q)
def qFD {α:Type} (rd:Nat->Rd α):Nat->List α->Nat->Rd (List α)
 | 0,_,q=>.inl q
 | f+1,acc,q=>if txt ws q=qEU then(rd (q+1)).then fun a q=>qFD rd f (acc++[a]) q else .inr (acc,q)
def qFp {α:Type} (rd:Nat->Rd α) (F:Nat) (q:Nat):Rd (List α):=(rd q).then fun a q=>qFD ws rd F [a] q
def qE9 (F:Nat) (key:List UInt8) (q:Nat):Rd (List Rf):=if txt ws q=key then qFp ws (qJ8 ws) F (q+1) else .inr ([],q)
def qRN (q:Nat):Rd Int:=
 if txt ws q=tEq then .inr (1,q+1) else if txt ws q=tNe then .inr (2,q+1) else if txt ws q=tLt then .inr (3,q+1) else if txt ws q=tLe then .inr (4,q+1) else .inl q
def qLt:List Int->Int->List Int
 | [],n=>[n]
 | x::l,n=>if n<x then n::x::l else if x=n then x::l else x::qLt l n
def qUF (l:List Int):List Int:=l.foldl qLt []
def qP8 (q:Nat):Rd Int:=if txt ws q=qDw then(qDV ws (q+1)).then fun n q=>.inr (-n,q) else qDV ws q
def qGM:Nat->List Int->Nat->Rd (List Int)
 | 0,_,q=>.inl q
 | f+1,acc,q=>if txt ws q=qDw∨knd ws q=3 then(qP8 ws q).then fun n q=>qGM f (acc++[n]) q else .inr (acc,q)
def qEk (F:Nat) (q:Nat):Rd (List Int):=(qP8 ws q).then fun n q=>qGM ws F [n] q
mutual
def qDc:Nat->Nat->Rd Cd
 | 0,q=>.inl q
 | F+1,q=>(qDL F q).then fun c q=>orR F c q
def orR:Nat->Cd->Nat->Rd Cd
 | 0,_,q=>.inl q
 | F+1,c,q=>if txt ws q=tOr then(qDL F (q+1)).then fun d q=>orR F (.mk 9 0 0 0 rf0 [] [c,d]) q else .inr (c,q)
def qDL:Nat->Nat->Rd Cd
 | 0,q=>.inl q
 | F+1,q=>(qIQ F q).then fun c q=>qOc F c q
def qOc:Nat->Cd->Nat->Rd Cd
 | 0,_,q=>.inl q
 | F+1,c,q=>if txt ws q=qOY then(qIQ F (q+1)).then fun d q=>qOc F (.mk 8 0 0 0 rf0 [] [c,d]) q else .inr (c,q)
def qIQ:Nat->Nat->Rd Cd
 | 0,q=>.inl q
 | F+1,q=>if txt ws q=qQy then(qIQ F (q+1)).then fun c q=>.inr (.mk 7 0 0 0 rf0 [] [c],q) else qGJ F q
def qGJ:Nat->Nat->Rd Cd
 | 0,q=>.inl q
 | F+1,q=>
  if txt ws q=tLP then(qDc F (q+1)).then fun c q=>(qCN ws tRP q).then fun _ q=>.inr (c,q)
  else if txt ws q=qH2 then(qCN ws tLP (q+1)).then fun _ q=>(qCp ws q).then fun nm q=>(qAn ws [tLB,qMY,tRB,tEq] q).then fun _ q=>(qDV ws q).then fun v q=>
   (qCN ws tRP q).then fun _ q=>(qRN ws q).then fun r q=>(qDV ws q).then fun n q=>.inr (.mk 6 n r v ⟨nm,3,[],0⟩ [] [],q)
  else(qJ8 ws q).then fun r q=>if txt ws q=tIn then(qCN ws tLC (q+1)).then fun _ q=>(qFp ws (qDV ws) F q).then fun l q=>(qCN ws tRC q).then fun _ q=>.inr (.mk 5 0 0 0 r (qUF l) [],q)
   else(qRN ws q).then fun o q=>(qDV ws q).then fun n q=>.inr (.mk o n 0 0 r [] [],q)
end
def qGv (F:Nat) (acc:List Cs) (q:Nat):Rd (List Cs):=(qCN ws qDP q).then fun _ q=>(qEk ws F q).then fun l q=>(qCN ws tRC q).then fun _ q=>.inr (acc++[⟨cd0,l⟩],q)
def qFL (F:Nat):Nat->List Cs->Nat->Rd (List Cs)
 | 0,_,q=>.inl q
 | f+1,acc,q=>if txt ws q=qNs then qGv ws F acc (q+1)
  else(qDc ws F q).then fun c q=>(qCN ws qDP q).then fun _ q=>(qEk ws F q).then fun l q=>(qCN ws qBh q).then fun _ q=>qFL F f (acc++[⟨c,l⟩]) q
def qGL (F:Nat) (q:Nat):Rd (List Cs):=(qCN ws tLC q).then fun _ q=>qFL ws F F [] q
def qFG (q:Nat):Rd De:=(qDV ws q).then fun n q=>.inr (⟨1,n,[],[],[],[]⟩,q)
def qFB (q:Nat):Rd De:=(qCp ws q).then fun nm q=>(qCN ws tEq q).then fun _ q=>(qDV ws q).then fun n q=>.inr (⟨2,n,nm,[],[],[]⟩,q)
def qCu (F:Nat) (nm pl:List UInt8) (q:Nat):Rd De:=(qCN ws qDP q).then fun _ q=>(qDV ws q).then fun n q=>(qE9 ws F qEQ q).then fun l q=>(qCN ws tEq q).then fun _ q=>(qGL ws F q).then fun cs q=>.inr (⟨3,n,nm,pl,l,cs⟩,q)
def qJJ (F:Nat) (q:Nat):Rd De:=(qCp ws q).then fun nm q=>
 if txt ws q=tLB then(qCp ws (q+1)).then fun pl q=>(qCN ws tRB q).then fun _ q=>qCu ws F nm pl q else qCu ws F nm [] q
def qDe (F:Nat) (q:Nat):Rd De:=(qCp ws q).then fun nm q=>(qCN ws qDP q).then fun _ q=>(qDV ws q).then fun n q=>(qE9 ws F qEa q).then fun l q=>.inr (⟨4,n,nm,[],l,[]⟩,q)
def qJS (F:Nat) (q:Nat):Rd De:=(qE9 ws F qEQ q).then fun l q=>(qCN ws tEq q).then fun _ q=>(qGL ws F q).then fun cs q=>.inr (⟨5,0,[],[],l,cs⟩,q)
def qD7 (F:Nat) (q:Nat):Rd De:=
 if txt ws q=qH1 then qFG ws (q+1) else if txt ws q=qH0 then qFB ws (q+1) else if txt ws q=qNq then qJJ ws F (q+1)
 else if txt ws q=qFY then qDe ws F (q+1) else if txt ws q=qNr then qJS ws F (q+1) else .inl q
def qFg (F:Nat):Nat->List De->Nat->Rd (List De)
 | 0,_,q=>.inl q
 | f+1,acc,q=>if q<ws.length then(qD7 ws F q).then fun d q=>(qCN ws qBh q).then fun _ q=>qFg F f (acc++[d]) q else .inr (acc,q)
end
end Go.Proofs.YtmepdfingcmkmaaGreatDoor
namespace Go.Proofs.YtmepdfingcmkmaaGreatDoor
open Go Y
set_option maxRecDepth 100000
set_option maxHeartbeats 4000000
theorem qCw {α β:Type} {f:α->β} {l:List α} {k:Nat} (d:α) (h:k<l.length):(l.map f)[k]?=some (f (l.getD k d)):=by
 rw [List.getElem?_map,List.getD_eq_getElem?_getD,List.getElem?_eq_getElem h];rfl
theorem qCQ {l:List Int} {k:Nat} (h:k<l.length):(l.map i64)[k]?=some (i64 (l.getD k 0)):=qCw 0 h
theorem qVx {l:List (List UInt8)} {k:Nat} (h:k<l.length):(l.map PV.str)[k]?=some (.str (l.getD k [])):=qCw [] h
theorem qMQ {ws:List Wd} {k:Nat} (h:k<ws.length):(ws.map Wd.cells)[k]?=some (wat ws k).cells:=qCw wd0 h
theorem qAE {α:Type} {l:List α} {k:Nat} (d:α) (h:k<l.length):l.take (k+1)=l.take k++[l.getD k d]:=by
 rw [List.take_add_one,List.getD_eq_getElem?_getD,List.getElem?_eq_getElem h];rfl
theorem qAI {α:Type} {l:List α} {k:Nat} (d:α) (h:k<l.length):l.getD k d∈l:=by
 rw [List.getD_eq_getElem?_getD,List.getElem?_eq_getElem h];exact List.getElem_mem h
theorem qAc {α:Type} {l:List α} {k:Nat} (h:l.length<=k):l.take k=l:=List.take_of_length_le h
theorem qAN {α:Type} (l:List α) (x:α):(l++[x]).length=l.length+1:=by simp
theorem qBt {α:Type} {l:List α} {k:Nat} (d:α) (h:k<l.length):l.drop k=l.getD k d::l.drop (k+1):=by
 rw [List.drop_eq_getElem_cons h,List.getD_eq_getElem?_getD,List.getElem?_eq_getElem h];rfl
def psO (ws:List Wd) (q:Nat):AObj:=⟨129,false, .bx [.p (.lsts 4 (ws.map Wd.cells)), .p (i64 q)]⟩
abbrev psH (ws:List Wd) (q:Nat):Hp:=⟨1,[(0,psO ws q)]⟩
def qVM (ws:List Wd) (q:Nat):AV:=.p (.iface qWT (.agg (wat ws q).cells))
abbrev qAV (ws:List Wd) (q:Nat):AE:=.panicked [⟨qVM ws q,false⟩]
theorem qMX (ws:List Wd) (q:Nat) (hl:ws.length<=1500) (hq:q<=ws.length):HoldsG cx 74 [.ptr 0 0 0] (psH ws q) fun e H'=>e=.returned (.p (.str (txt ws q)))/\H'=psH ws q:=by
 refine qA6 Tryz.func74 rfl rfl rfl ?_
 have hl':(ws.map Wd.cells).length=ws.length:=List.length_map ..
 refine VDraw.seq rfl ?_
 refine QAD (fun h1=>?_) (fun h1=>?_)
 ·have h1:(q:Int)<((ws.map Wd.cells).length:Nat):=h1
  rw [hl'] at h1
  refine VDraw.seq rfl ?_
  refine⟨_,⟨by omega,(wat ws q).cells,qMQ (by omega),rfl⟩,?_⟩
  exact⟨rfl,rfl⟩
 ·have h1:¬ (q:Int)<((ws.map Wd.cells).length:Nat):=h1
  rw [hl'] at h1
  exact⟨by rw [txt,qGh (by omega)];rfl,rfl⟩
theorem qM9 (ws:List Wd) (q:Nat) (hl:ws.length<=1500) (hq:q<=ws.length):HoldsG cx 132 [.ptr 0 0 0] (psH ws q) fun e H'=>e=.returned (.p (i64 (knd ws q)))/\H'=psH ws q:=by
 refine qA6 Tryz.func132 rfl rfl rfl ?_
 have hl':(ws.map Wd.cells).length=ws.length:=List.length_map ..
 refine VDraw.seq rfl ?_
 refine QAD (fun h1=>?_) (fun h1=>?_)
 ·have h1:(q:Int)<((ws.map Wd.cells).length:Nat):=h1
  rw [hl'] at h1
  refine VDraw.seq rfl ?_
  refine⟨_,⟨by omega,(wat ws q).cells,qMQ (by omega),rfl⟩,?_⟩
  exact⟨rfl,rfl⟩
 ·have h1:¬ (q:Int)<((ws.map Wd.cells).length:Nat):=h1
  rw [hl'] at h1
  exact⟨by rw [knd,qGh (by omega)];rfl,rfl⟩
theorem qKj (ws:List Wd) (q:Nat) (hl:ws.length<=1500) (hq:q<=ws.length):HoldsG cx 75 [.ptr 0 0 0] (psH ws q) fun e H'=>e=qAV ws q/\H'=psH ws q:=by
 refine qA6 Tryz.func75 rfl rfl rfl ?_
 have hl':(ws.map Wd.cells).length=ws.length:=List.length_map ..
 refine VDraw.seq rfl ?_
 refine QAD (fun h1=>?_) (fun h1=>?_)
 ·have h1:(q:Int)<((ws.map Wd.cells).length:Nat):=h1
  rw [hl'] at h1
  refine VDraw.seq rfl ?_
  refine⟨_,⟨by omega,(wat ws q).cells,qMQ (by omega),rfl⟩,?_⟩
  exact⟨rfl,rfl⟩
 ·have h1:¬ (q:Int)<((ws.map Wd.cells).length:Nat):=h1
  rw [hl'] at h1
  exact⟨by rw [qAV,qVM,qGh (by omega)];rfl,rfl⟩
def skQ (ws:List Wd) (q:Nat) (s:List UInt8) (e:AE) (H':Hp):Prop:=(txt ws q=s->e=.returned (vB true)/\H'=psH ws (q+1))/\(¬ txt ws q=s->e=.returned (vB false)/\H'=psH ws q)
theorem qAv (ws:List Wd) (q:Nat) (s:List UInt8) (hl:ws.length<=1500) (hq:q<=ws.length):HoldsG cx 103 [.ptr 0 0 0, .p (.str s)] (psH ws q) (skQ ws q s):=by
 refine qA6 Tryz.func103 rfl rfl rfl ?_
 refine(qMX ws q hl hq).holds.mono fun e H' h=>?_
 obtain⟨rfl,rfl⟩:=h
 refine QAD (fun h1=>?_) (fun h1=>?_)
 ·have h1:txt ws q=s:=h1
  refine⟨_,w6z,?_⟩
  exact⟨fun _=>⟨rfl,rfl⟩,fun h=>absurd h1 h⟩
 ·have h1:¬ txt ws q=s:=h1
  exact⟨fun h=>absurd h h1,fun _=>⟨rfl,rfl⟩⟩
theorem qJf (ws:List Wd) (q:Nat) (hl:ws.length<=1500) (hq:q<=ws.length):HoldsG cx 134 [.ptr 0 0 0] (psH ws q) (skQ ws q qEU):=by
 refine qA6 Tryz.func134 rfl rfl rfl ?_
 refine(qAv ws q qEU hl hq).holds.mono fun e H' h=>?_
 by_cases h1:txt ws q=qEU
 ·obtain⟨rfl,rfl⟩:=h.1 h1
  exact⟨fun _=>⟨rfl,rfl⟩,fun h=>absurd h1 h⟩
 ·obtain⟨rfl,rfl⟩:=h.2 h1
  exact⟨fun h=>absurd h h1,fun _=>⟨rfl,rfl⟩⟩
def rdQ {α:Type} (ws:List Wd) (r:Rd α) (val:α->AV) (e:AE) (H':Hp):Prop:=match r with
 | .inl p=>e=qAV ws p/\H'=⟨1,[]⟩
 | .inr (a,q)=>q<=ws.length/\e=.returned (val a)/\H'=psH ws q
theorem qHA (ws:List Wd) (q:Nat) (hl:ws.length<=1500) (hq:q<=ws.length):HoldsG cx 102 [.ptr 0 0 0] (psH ws q) (rdQ ws (qCp ws q) fun t=>.p (.str t)):=by
 refine qAC Tryz.func102 rfl rfl rfl ?_
 have hl':(ws.map Wd.cells).length=ws.length:=List.length_map ..
 refine(qM9 ws q hl hq).holds.mono fun e H' h=>?_
 obtain⟨rfl,rfl⟩:=h
 refine QAD (fun h1=>?_) (fun h1=>?_)
 ·have h1:knd ws q=1:=h1
  have hlt:q<ws.length:=qKX (by rw [h1];decide)
  refine⟨_,w6z,?_⟩
  refine VDraw.seq rfl ?_
  refine⟨(q:Int),by rw [show(q:Int)+1 - 1=(q:Int) by omega];exact w6z,?_⟩
  refine⟨_,⟨by omega,(wat ws q).cells,qMQ hlt,rfl⟩,?_⟩
  exact⟨[],[],[], .returned (.p (.str (txt ws q))),psH ws (q+1),rfl,sk,sk,by rw [qCp,if_pos h1];exact⟨hlt,rfl,rfl⟩⟩
 ·have h1:¬ knd ws q=1:=h1
  refine(qKj ws q hl hq).holds.mono fun e H' h=>?_
  obtain⟨rfl,rfl⟩:=h
  exact⟨[],[],[],qAV ws q,⟨1,[]⟩,rfl,⟨_,rfl,_,_,rfl,rfl,rfl⟩,trivial,by rw [(show qCp ws q=.inl q by rw [qCp,if_neg h1])];exact⟨rfl,rfl⟩⟩
theorem decode_at {s:List UInt8} {i:Nat} (h:i<s.length) (hb:(s.getD i 0).toNat<128):Utf8.decode ⟨⟨s⟩⟩ i=((s.getD i 0).toNat,1):=by
 have e:(ByteArray.get! ⟨⟨s⟩⟩ (i+0))=s.getD i 0:=by
  rw [Nat.add_zero,List.getD_eq_getElem?_getD]
  show(⟨s⟩:Array UInt8)[i]! = _
  rw [getElem!_def,List.getElem?_toArray,List.getElem?_eq_getElem h];rfl
 unfold Utf8.decode
 simp only [e]
 rw [if_pos hb]
theorem qGk (t:List UInt8) (b:UInt8):qNm (t++[b])=10 * qNm t+((b.toNat:Int) - 48):=by rw [qNm,qNm,List.foldl_append];rfl
theorem qGj {t:List UInt8} (h:∀ b∈t,48<=b.toNat/\b.toNat<=57):∀ k,k<=t.length->0<=qNm (t.take k)/\qNm (t.take k)<10 ^ k
 | 0,_=>by rw [List.take_zero];exact⟨Int.le_refl 0,by decide⟩
 | k+1,hk=>by
  have ih:=qGj h k (by omega)
  have hb:=h _ (qAI 0 (show k<t.length by omega))
  rw [qAE 0 (by omega),qGk,Int.pow_succ]
  omega
theorem qLf {t:List UInt8} (h:qMu t=true):t.length<=4/\∀ b∈t,48<=b.toNat/\b.toNat<=57:=by
 unfold qMu at h
 simp only [Bool.and_eq_true,decide_eq_true_eq] at h
 obtain⟨⟨⟨h1,h2⟩,h3⟩,h4⟩:=h
 refine⟨h2,?_⟩
 have key:∀ l:List UInt8,qAa qCj l=l.length->∀ b∈l,48<=b.toNat/\b.toNat<=57:=by
  intro l
  induction l with
  | nil=>intro _ b hb;simp at hb
  | cons c r ih=>
   intro he b hb
   simp only [qAa] at he
   split at he
   ·rename_i hc
    simp only [qCj,Bool.and_eq_true,decide_eq_true_eq] at hc
    rcases List.mem_cons.1 hb with rfl | hb
    ·exact hc
    ·exact ih (by simpa using he) b hb
   ·simp at he
 exact key t h3
theorem qSP {ws:List Wd} (hg:GoodW ws) {q:Nat} (h:knd ws q=3):qMu (txt ws q)=true:=by
 have:=hg.at (qKX (by rw [h];decide))
 rw [h] at this
 exact this
theorem wrap_i32 {n:Int} (h0:-2147483648<=n) (h1:n<=2147483647):n=IntKind.i32.wrap n:=by
 simp [IntKind.wrap,IntKind.bits,IntKind.signed]
 omega
theorem qBa (ws:List Wd) (q:Nat) (hg:GoodW ws) (hq:q<=ws.length):HoldsG cx 101 [.ptr 0 0 0] (psH ws q) (rdQ ws (qDV ws q) fun n=>.p (i64 n)):=by
 refine qAC Tryz.func101 rfl rfl rfl ?_
 have hl:=hg.len
 refine(qM9 ws q hl hq).holds.mono fun e H' h=>?_
 obtain⟨rfl,rfl⟩:=h
 refine QAD (fun h1=>?_) (fun h1=>?_)
 rotate_left
 ·have h1:¬ knd ws q=3:=h1
  refine(qKj ws q hl hq).holds.mono fun e H' h=>?_
  obtain⟨rfl,rfl⟩:=h
  exact⟨[],[],[],qAV ws q,⟨1,[]⟩,rfl,⟨_,rfl,_,_,rfl,rfl,rfl⟩,trivial,by rw [(show qDV ws q=.inl q by rw [qDV,if_neg h1])];exact⟨rfl,rfl⟩⟩
 have h1:knd ws q=3:=h1
 have hlt:q<ws.length:=qKX (by rw [h1];decide)
 obtain⟨ht4,hdg⟩:=qLf (qSP hg h1)
 obtain⟨t,ht⟩:∃ t,t=txt ws q:=⟨_,rfl⟩
 rw [<- ht] at ht4 hdg
 refine(qMX ws q hl hq).holds.mono fun e H' h=>?_
 obtain⟨rfl,rfl⟩:=h
 refine⟨Nat,fun k=>[(0, .ptr 0 0 0),(3, .p (i64 (qNm (t.take k)))),(19, .ptr 1 0 0)],fun k=>⟨2,[(1,⟨qWU,false, .it t k⟩),(0,psO ws q)]⟩,fun k=>k<=t.length,fun k=>t.length - k,?_,?_⟩
 ·exact⟨0,Nat.zero_le _,qAA [] [] [] rfl ⟨⟨rfl,rfl⟩,rfl,⟨rfl,rfl⟩,trivial⟩ ⟨⟨_,rfl,rfl,rfl,congrArg (fun t=>Cn.it t 0) ht.symm⟩,⟨_,rfl,rfl,rfl,_,rfl,_,_,rfl,rfl,_,_,rfl,rfl,rfl⟩,trivial⟩ rfl⟩
 intro k hk
 refine And.intro (fun h2=>?_) (fun h2=>?_)
 ·have hke:k=t.length:=by omega
  subst hke
  refine⟨_,w6z,?_⟩
  exact⟨[],[],[], .returned (.p (i64 (qNm t))),psH ws (q+1),rfl,⟨_,rfl,by rw [qAc (Nat.le_refl _)];rfl⟩,sk,by rw [qDV,if_pos h1,<- ht];exact⟨hlt,rfl,rfl⟩⟩
 ·obtain⟨b,hb⟩:∃ b,b=t.getD k 0:=⟨_,rfl⟩
  have hbd:=hdg b (by rw [hb];exact qAI 0 h2)
  have hv:=qGj hdg k hk
  have hp:(10:Int) ^ k<=10 ^ 4:=by
   rcases (show k=0∨k=1∨k=2∨k=3∨k=4 by omega) with rfl | rfl | rfl | rfl | rfl <;> decide
  have hp4:(10:Int) ^ 4=10000:=by decide
  refine⟨b.toNat,1,by rw [decode_at h2 (by rw [<- hb];omega),<- hb],?_⟩
  refine⟨10 * qNm (t.take k),w6z,?_⟩
  refine⟨(b.toNat:Int) - 48,wrap_i32 (by omega) (by omega),?_⟩
  refine⟨(b.toNat:Int) - 48,w6z,?_⟩
  refine⟨qNm (t.take (k+1)),by rw [qAE 0 h2,<- hb,qGk];exact w6z,?_⟩
  exact⟨k+1,h2,qAA [] [] [] rfl ⟨⟨rfl,rfl⟩,rfl,⟨rfl,rfl⟩,trivial⟩ ⟨⟨_,rfl,rfl,rfl,rfl⟩,⟨_,rfl,rfl,rfl,_,rfl,_,_,rfl,rfl,_,_,rfl,rfl,rfl⟩,trivial⟩ rfl,by show t.length - (k+1)<t.length - k;omega⟩
theorem qAf (ws:List Wd) (q0:Nat) (l:List (List UInt8)) (hl:ws.length<=1500) (hq:q0<=ws.length) (hn:∀ s∈l,s ≠ []) (hw:l.length<=1000) :
  HoldsG cx 76 [.ptr 0 0 0, .p (strs l)] (psH ws q0) (rdQ ws (qAn ws l q0) fun _=>und):=by
 refine qAC Tryz.func76 rfl rfl rfl ?_
 refine⟨Nat × Nat,fun x=>[(0, .ptr 0 0 0),(6, .p (strs l)),(7, .p (i64 l.length)),(8, .p (i64 x.1))],fun x=>psH ws x.2,fun x=>x.1<=l.length/\x.2<=ws.length/\qAn ws (l.drop x.1) x.2=qAn ws l q0,fun x=>l.length - x.1,?_,?_⟩
 ·exact⟨(0,q0),⟨by simp,hq,rfl⟩,qAA [] [] [] rfl ⟨⟨rfl,rfl⟩,rfl,congrArg (fun n:Nat=>i64 n) (List.length_map ..).symm,rfl,trivial⟩ (sk) rfl⟩
 rintro⟨k,q⟩ ⟨k1,k2,k3⟩
 simp only [] at k1 k2 k3
 refine QAD (fun h1=>?_) (fun h1=>?_)
 ·have h1:(k:Int)<(l.length:Nat):=h1
  have hk:k<l.length:=by omega
  obtain⟨s,hs⟩:∃ s,s=l.getD k []:=⟨_,rfl⟩
  rw [qBt [] hk,<- hs,qAn,qCN] at k3
  refine⟨_,⟨by omega, .str s,by rw [hs];exact qVx hk,rfl⟩,?_⟩
  by_cases h2:txt ws q=s
  ·rw [if_pos h2] at k3
   have hlt:q<ws.length:=qBS (by rw [h2,hs];exact hn _ (qAI [] hk))
   refine(qAv ws q s hl k2).holds.mono fun e H' hq=>?_
   obtain⟨rfl,rfl⟩:=hq.1 h2
   refine⟨_,w6z,?_⟩
   exact⟨(k+1,q+1),⟨by simp only [];omega,hlt,k3⟩,qAA [] [] [] rfl (sk) (sk) rfl,by show l.length - (k+1)<l.length - k;omega⟩
  ·rw [if_neg h2] at k3
   refine(qAv ws q s hl k2).holds.mono fun e H' hq=>?_
   obtain⟨rfl,rfl⟩:=hq.2 h2
   refine(qKj ws q hl k2).holds.mono fun e H' hq=>?_
   obtain⟨rfl,rfl⟩:=hq
   exact⟨[],[],[],qAV ws q,⟨1,[]⟩,rfl,⟨_,rfl,_,_,rfl,rfl,rfl⟩,trivial,by rw [k3.symm];exact⟨rfl,rfl⟩⟩
 ·have h1:¬ (k:Int)<(l.length:Nat):=h1
  rw [show l.drop k=[] from List.drop_eq_nil_of_le (by omega),qAn] at k3
  exact⟨[],[],[], .returned und,psH ws q,rfl,sk,sk,by rw [<- k3];exact⟨k2,rfl,rfl⟩⟩
theorem qAL {α β:Type} (a:α) (q:Nat) (k:α->Nat->Rd β):Rd.then (.inr (a,q)) k=k a q:=rfl
theorem qA0 (ws:List Wd) (s:List UInt8) (q:Nat):qAn ws [s] q=qCN ws s q:=by
 rw [qAn]
 cases h:qCN ws s q with
 | inl e=>rfl
 | inr x=>rfl
def rO (r:Rf):AObj:=⟨qQt,false, .bx (r.cells.map .p)⟩
def sO (l:List (List UInt8)):AObj:=⟨qWU,true, .pu (l.map .str)⟩
theorem qUl (ws:List Wd) (q0:Nat) (hg:GoodW ws) (hq0:q0<=ws.length):HoldsG cx 136 [.ptr 0 0 0] (psH ws q0) (rdQ ws (qJ8 ws q0) fun r=>.p r.pv):=by
 generalize hR:qJ8 ws q0=R
 rw [qJ8] at hR
 refine qAC Tryz.func136 rfl rfl rfl ?_
 have hl:=hg.len
 refine(qHA ws q0 hl hq0).holds.useT [] [] rfl (sk) (sk) fun e0 H0 hq=>?_
 rcases h1:qCp ws q0 with p | ⟨nm,q1⟩
 ·rw [h1] at hq hR
  obtain⟨rfl,rfl⟩:=hq
  refine⟨rfl,_,_,rfl,rfl,?_⟩
  exact⟨[],[],[],qAV ws p,⟨1,[]⟩,rfl,⟨_,rfl,_,_,rfl,rfl,rfl⟩,trivial,by rw [<- hR];exact⟨rfl,rfl⟩⟩
 rw [h1] at hq hR
 obtain⟨q1l,rfl,rfl⟩:=hq
 refine⟨rfl,_,⟨2,(0,psO ws q1)::[(1,rO rf0)]⟩,rfl,rfl,?_⟩
 simp only [qAL] at hR
 by_cases c1:txt ws q1=tLB
 rotate_left
 ·refine(qAv ws q1 tLB hl q1l).holds.useT [] [] rfl (sk) (sk) fun e0 H0 hq=>?_
  obtain⟨rfl,rfl⟩:=hq.2 c1
  refine⟨rfl,_,⟨3,(0,psO ws q1)::[(2,rO ⟨nm,0,[],0⟩),(1,rO rf0)]⟩,rfl,rfl,?_⟩
  rw [if_neg c1] at hR
  exact⟨[],[],[], .returned (.p (⟨nm,0,[],0⟩:Rf).pv),psH ws q1,rfl,sk,sk,by rw [<- hR];exact⟨q1l,rfl,rfl⟩⟩
 have q2l:q1+1<=ws.length:=qBS (by rw [c1];decide)
 refine(qAv ws q1 tLB hl q1l).holds.useT [] [] rfl (sk) (sk) fun e0 H0 hq=>?_
 obtain⟨rfl,rfl⟩:=hq.1 c1
 refine⟨rfl,_,⟨3,(0,psO ws (q1+1))::[(2,rO ⟨nm,0,[],0⟩),(1,rO rf0)]⟩,rfl,rfl,?_⟩
 rw [if_pos c1] at hR
 by_cases c2:txt ws (q1+1)=qMY
 ·rw [if_pos c2] at hR
  have q2l':q1+2<=ws.length:=qBS (by rw [c2];decide)
  refine(qAv ws (q1+1) qMY hl q2l).holds.useT [] [] rfl (sk) (sk) fun e0 H0 hq=>?_
  obtain⟨rfl,rfl⟩:=hq.1 c2
  refine⟨rfl,_,⟨3,(0,psO ws (q1+2))::[(2,rO ⟨nm,0,[],0⟩),(1,rO rf0)]⟩,rfl,rfl,?_⟩
  rw [qC5,<- qA0] at hR
  refine(qAf ws (q1+2) [tRB] hl q2l' (by simp) (by simp)).holds.useT [3] [] rfl (sk) ⟨_,_,rfl,⟨rfl,rfl⟩,_,_,rfl,⟨_,rfl,by decide,rfl⟩,rfl⟩ fun e0 H0 hq=>?_
  rcases hm:qAn ws [tRB] (q1+2) with p | ⟨u,q9⟩
  ·rw [hm] at hq hR
   obtain⟨rfl,rfl⟩:=hq
   refine⟨rfl,_,_,rfl,rfl,?_⟩
   exact⟨[],[],[],qAV ws p,⟨1,[]⟩,rfl,⟨_,rfl,_,_,rfl,rfl,rfl⟩,trivial,by rw [<- hR];exact⟨rfl,rfl⟩⟩
  rw [hm] at hq hR
  obtain⟨q9l,rfl,rfl⟩:=hq
  refine⟨rfl,_,⟨4,(0,psO ws q9)::[(3,sO [tRB]),(2,rO ⟨nm,3,[],0⟩),(1,rO rf0)]⟩,rfl,rfl,?_⟩
  simp only [qAL] at hR
  exact⟨[],[],[], .returned (.p (⟨nm,3,[],0⟩:Rf).pv),psH ws q9,rfl,sk,sk,by rw [<- hR];exact⟨q9l,rfl,rfl⟩⟩
 rw [if_neg c2] at hR
 refine(qAv ws (q1+1) qMY hl q2l).holds.useT [] [] rfl (sk) (sk) fun e0 H0 hq=>?_
 obtain⟨rfl,rfl⟩:=hq.2 c2
 refine⟨rfl,_,⟨3,(0,psO ws (q1+1))::[(2,rO ⟨nm,0,[],0⟩),(1,rO rf0)]⟩,rfl,rfl,?_⟩
 refine(qM9 ws (q1+1) hl q2l).holds.useT [] [] rfl (sk) (sk) fun e0 H0 hq=>?_
 obtain⟨rfl,rfl⟩:=hq
 refine⟨rfl,_,⟨3,(0,psO ws (q1+1))::[(2,rO ⟨nm,0,[],0⟩),(1,rO rf0)]⟩,rfl,rfl,?_⟩
 refine QAD (fun c3=>?_) (fun c3=>?_)
 ·have c3:knd ws (q1+1)=3:=c3
  rw [if_pos c3] at hR
  refine(qBa ws (q1+1) hg q2l).holds.useT [] [] rfl (sk) (sk) fun e0 H0 hq=>?_
  rcases h4:qDV ws (q1+1) with p | ⟨n,q4⟩
  ·rw [h4] at hq hR
   obtain⟨rfl,rfl⟩:=hq
   refine⟨rfl,_,_,rfl,rfl,?_⟩
   exact⟨[],[],[],qAV ws p,⟨1,[]⟩,rfl,⟨_,rfl,_,_,rfl,rfl,rfl⟩,trivial,by rw [<- hR];exact⟨rfl,rfl⟩⟩
  rw [h4] at hq hR
  obtain⟨q4l,rfl,rfl⟩:=hq
  refine⟨rfl,_,⟨3,(0,psO ws q4)::[(2,rO ⟨nm,2,[],0⟩),(1,rO rf0)]⟩,rfl,rfl,?_⟩
  simp only [qAL] at hR
  rw [qC5,<- qA0] at hR
  refine(qAf ws q4 [tRB] hl q4l (by simp) (by simp)).holds.useT [3] [] rfl (sk) ⟨_,_,rfl,⟨rfl,rfl⟩,_,_,rfl,⟨_,rfl,by decide,rfl⟩,rfl⟩ fun e0 H0 hq=>?_
  rcases hm:qAn ws [tRB] q4 with p | ⟨u,q9⟩
  ·rw [hm] at hq hR
   obtain⟨rfl,rfl⟩:=hq
   refine⟨rfl,_,_,rfl,rfl,?_⟩
   exact⟨[],[],[],qAV ws p,⟨1,[]⟩,rfl,⟨_,rfl,_,_,rfl,rfl,rfl⟩,trivial,by rw [<- hR];exact⟨rfl,rfl⟩⟩
  rw [hm] at hq hR
  obtain⟨q9l,rfl,rfl⟩:=hq
  refine⟨rfl,_,⟨4,(0,psO ws q9)::[(3,sO [tRB]),(2,rO ⟨nm,2,[],n⟩),(1,rO rf0)]⟩,rfl,rfl,?_⟩
  simp only [qAL] at hR
  exact⟨[],[],[], .returned (.p (⟨nm,2,[],n⟩:Rf).pv),psH ws q9,rfl,sk,sk,by rw [<- hR];exact⟨q9l,rfl,rfl⟩⟩
 have c3:¬ knd ws (q1+1)=3:=c3
 rw [if_neg c3] at hR
 refine(qHA ws (q1+1) hl q2l).holds.useT [] [] rfl (sk) (sk) fun e0 H0 hq=>?_
 rcases h5:qCp ws (q1+1) with p | ⟨pl,q5⟩
 ·rw [h5] at hq hR
  obtain⟨rfl,rfl⟩:=hq
  refine⟨rfl,_,_,rfl,rfl,?_⟩
  exact⟨[],[],[],qAV ws p,⟨1,[]⟩,rfl,⟨_,rfl,_,_,rfl,rfl,rfl⟩,trivial,by rw [<- hR];exact⟨rfl,rfl⟩⟩
 rw [h5] at hq hR
 obtain⟨q5l,rfl,rfl⟩:=hq
 refine⟨rfl,_,⟨3,(0,psO ws q5)::[(2,rO ⟨nm,1,[],0⟩),(1,rO rf0)]⟩,rfl,rfl,?_⟩
 simp only [qAL] at hR
 by_cases c6:txt ws q5=qNp
 ·rw [if_pos c6] at hR
  have q6l:q5+1<=ws.length:=qBS (by rw [c6];decide)
  refine(qAv ws q5 qNp hl q5l).holds.useT [] [] rfl (sk) (sk) fun e0 H0 hq=>?_
  obtain⟨rfl,rfl⟩:=hq.1 c6
  refine⟨rfl,_,⟨3,(0,psO ws (q5+1))::[(2,rO ⟨nm,1,pl,0⟩),(1,rO rf0)]⟩,rfl,rfl,?_⟩
  refine(qBa ws (q5+1) hg q6l).holds.useT [] [] rfl (sk) (sk) fun e0 H0 hq=>?_
  rcases h7:qDV ws (q5+1) with p | ⟨n,q7⟩
  ·rw [h7] at hq hR
   obtain⟨rfl,rfl⟩:=hq
   refine⟨rfl,_,_,rfl,rfl,?_⟩
   exact⟨[],[],[],qAV ws p,⟨1,[]⟩,rfl,⟨_,rfl,_,_,rfl,rfl,rfl⟩,trivial,by rw [<- hR];exact⟨rfl,rfl⟩⟩
  rw [h7] at hq hR
  obtain⟨q7l,rfl,rfl⟩:=hq
  refine⟨rfl,_,⟨3,(0,psO ws q7)::[(2,rO ⟨nm,1,pl,0⟩),(1,rO rf0)]⟩,rfl,rfl,?_⟩
  simp only [qAL] at hR
  rw [qC5,<- qA0] at hR
  refine(qAf ws q7 [tRB] hl q7l (by simp) (by simp)).holds.useT [3] [] rfl (sk) ⟨_,_,rfl,⟨rfl,rfl⟩,_,_,rfl,⟨_,rfl,by decide,rfl⟩,rfl⟩ fun e0 H0 hq=>?_
  rcases hm:qAn ws [tRB] q7 with p | ⟨u,q9⟩
  ·rw [hm] at hq hR
   obtain⟨rfl,rfl⟩:=hq
   refine⟨rfl,_,_,rfl,rfl,?_⟩
   exact⟨[],[],[],qAV ws p,⟨1,[]⟩,rfl,⟨_,rfl,_,_,rfl,rfl,rfl⟩,trivial,by rw [<- hR];exact⟨rfl,rfl⟩⟩
  rw [hm] at hq hR
  obtain⟨q9l,rfl,rfl⟩:=hq
  refine⟨rfl,_,⟨4,(0,psO ws q9)::[(3,sO [tRB]),(2,rO ⟨nm,1,pl,n⟩),(1,rO rf0)]⟩,rfl,rfl,?_⟩
  simp only [qAL] at hR
  exact⟨[],[],[], .returned (.p (⟨nm,1,pl,n⟩:Rf).pv),psH ws q9,rfl,sk,sk,by rw [<- hR];exact⟨q9l,rfl,rfl⟩⟩
 ·rw [if_neg c6] at hR
  refine(qAv ws q5 qNp hl q5l).holds.useT [] [] rfl (sk) (sk) fun e0 H0 hq=>?_
  obtain⟨rfl,rfl⟩:=hq.2 c6
  refine⟨rfl,_,⟨3,(0,psO ws q5)::[(2,rO ⟨nm,1,pl,0⟩),(1,rO rf0)]⟩,rfl,rfl,?_⟩
  rw [qC5,<- qA0] at hR
  refine(qAf ws q5 [tRB] hl q5l (by simp) (by simp)).holds.useT [3] [] rfl (sk) ⟨_,_,rfl,⟨rfl,rfl⟩,_,_,rfl,⟨_,rfl,by decide,rfl⟩,rfl⟩ fun e0 H0 hq=>?_
  rcases hm:qAn ws [tRB] q5 with p | ⟨u,q9⟩
  ·rw [hm] at hq hR
   obtain⟨rfl,rfl⟩:=hq
   refine⟨rfl,_,_,rfl,rfl,?_⟩
   exact⟨[],[],[],qAV ws p,⟨1,[]⟩,rfl,⟨_,rfl,_,_,rfl,rfl,rfl⟩,trivial,by rw [<- hR];exact⟨rfl,rfl⟩⟩
  rw [hm] at hq hR
  obtain⟨q9l,rfl,rfl⟩:=hq
  refine⟨rfl,_,⟨4,(0,psO ws q9)::[(3,sO [tRB]),(2,rO ⟨nm,1,pl,0⟩),(1,rO rf0)]⟩,rfl,rfl,?_⟩
  simp only [qAL] at hR
  exact⟨[],[],[], .returned (.p (⟨nm,1,pl,0⟩:Rf).pv),psH ws q9,rfl,sk,sk,by rw [<- hR];exact⟨q9l,rfl,rfl⟩⟩
def LI {α:Type} (R:Rd α) (go:Nat->Rd α) (m:Nat):Prop:=∃ f,m<f/\R=go f
theorem LI.is {α:Type} {R x:Rd α} {go:Nat->Rd α} {m:Nat} (h:LI R go m) (hgo:∀ f,go (f+1)=x):R=x:=by
 obtain⟨f,hf,rfl⟩:=h
 obtain⟨f,rfl⟩:∃ g,f=g+1:=⟨f - 1,by omega⟩
 exact hgo f
theorem LI.nxt {α:Type} {R:Rd α} {go go':Nat->Rd α} {m m':Nat} (h:LI R go m) (hgo:∀ f,go (f+1)=go' f) (hm:m'<m):LI R go' m':=by
 obtain⟨f,hf,rfl⟩:=h
 obtain⟨f,rfl⟩:∃ g,f=g+1:=⟨f - 1,by omega⟩
 exact⟨f,by omega,hgo f⟩
theorem qEn {ws:List Wd} {q q':Nat} {t:List UInt8} (h:qCp ws q=.inr (t,q')):q<q':=by
 rw [qCp] at h
 split at h
 ·injection h with h;injection h with h1 h2;omega
 ·cases h
theorem qCe {ws:List Wd} {q q':Nat} {n:Int} (h:qDV ws q=.inr (n,q')):q<q':=by
 rw [qDV] at h
 split at h
 ·injection h with h;injection h with h1 h2;omega
 ·cases h
theorem qAr {ws:List Wd} {s:List UInt8} {q q':Nat} {u:Unit} (h:qCN ws s q=.inr (u,q')):q<q':=by
 rw [qCN] at h
 split at h
 ·injection h with h;injection h with h1 h2;omega
 ·cases h
theorem then_ok {α β:Type} {r:Rd α} {k:α->Nat->Rd β} {b:β} {q:Nat} (h:r.then k=.inr (b,q)):∃ a p,r=.inr (a,p)/\k a p=.inr (b,q):=by
 cases r with
 | inl e=>cases h
 | inr x=>exact⟨x.1,x.2,rfl,h⟩
theorem qIt {ws:List Wd} {nm pl:List UInt8} {m n:Int} {q q':Nat} {r:Rf} (h:qC5 ws nm m pl n q=.inr (r,q')):q<q':=by
 obtain⟨u,p,h1,h2⟩:=then_ok h
 have:=qAr h1
 injection h2 with h2;injection h2 with h3 h4;omega
theorem qJ7 {ws:List Wd} {q q':Nat} {r:Rf} (h:qJ8 ws q=.inr (r,q')):q<q':=by
 rw [qJ8] at h
 obtain⟨nm,q1,h1,h⟩:=then_ok h
 have:=qEn h1
 try simp only [] at h
 split at h
 ·split at h
  ·have:=qIt h;omega
  ·split at h
   ·obtain⟨n,q2,h2,h⟩:=then_ok h
    have:=qCe h2
    have:=qIt h;omega
   ·obtain⟨pl,q2,h2,h⟩:=then_ok h
    have:=qEn h2
    try simp only [] at h
    split at h
    ·obtain⟨n,q3,h3,h⟩:=then_ok h
     have:=qCe h3
     have:=qIt h;omega
    ·have:=qIt h;omega
 ·injection h with h;injection h with h3 h4;omega
def bxO:AObj:=⟨125,false, .bx [.ptr 0 0 0]⟩
abbrev pbH (ws:List Wd) (q:Nat):Hp:=⟨2,[(0,psO ws q),(1,bxO)]⟩
def qSJ {α:Type} (ws:List Wd) (r:Rd α) (val:α->AV) (e:AE) (H':Hp):Prop:=match r with
 | .inl p=>e=qAV ws p/\H'=⟨2,[]⟩
 | .inr (a,q)=>q<=ws.length/\e=.returned (val a)/\H'=pbH ws q
theorem qPP (ws:List Wd) (q0:Nat) (hg:GoodW ws) (hq0:q0<=ws.length):HoldsG cx 135 [.ptr 1 0 0] (pbH ws q0) (qSJ ws (qJ8 ws q0) fun r=>.p r.pv):=by
 generalize hR:qJ8 ws q0=R
 refine qAC Tryz.func135 rfl rfl rfl ?_
 have hl:=hg.len
 have hc:=qUl ws q0 hg hq0
 rw [hR] at hc
 refine hc.holds.useT [] [] rfl (sk) (sk) fun e0 H0 hq=>?_
 rcases R with p | ⟨r,q1⟩
 ·obtain⟨rfl,rfl⟩:=hq
  refine⟨rfl,_,_,rfl,rfl,?_⟩
  exact⟨[],[],[],qAV ws p,⟨2,[]⟩,rfl,⟨_,rfl,_,_,rfl,rfl,rfl⟩,trivial,rfl,rfl⟩
 obtain⟨q1l,rfl,rfl⟩:=hq
 refine⟨rfl,_,⟨3,(0,psO ws q1)::[(2,rO rf0),(1,bxO)]⟩,rfl,rfl,?_⟩
 exact⟨[],[],[], .returned (.p r.pv),pbH ws q1,rfl,sk,sk,q1l,rfl,rfl⟩
def qRO (l:List Rf):AObj:=⟨qQt,false, .pus (l.map Rf.cells)⟩
def cmF:AV:=.fn (.func 134) [.ptr 0 0 0] []
def rfF:AV:=.fn (.func 135) [] [.ptr 1 0 0]
theorem qPx (ws:List Wd) (F q0:Nat) (hF:ws.length<F) (hg:GoodW ws) (hq0:q0<=ws.length):HoldsG cx 133 [cmF,rfF] (pbH ws q0) (qSJ ws (qFp ws (qJ8 ws) F q0) fun l=>.p (qBy l)):=by
 generalize hR:qFp ws (qJ8 ws) F q0=R
 rw [qFp] at hR
 refine qAC Tryz.func133 rfl rfl rfl ?_
 have hl:=hg.len
 refine(qPP ws q0 hg hq0).holds.useT [] [] rfl (sk) (sk) fun e0 H0 hq=>?_
 rcases h1:qJ8 ws q0 with p | ⟨r0,q1⟩
 ·rw [h1] at hq hR
  obtain⟨rfl,rfl⟩:=hq
  refine⟨rfl,_,_,rfl,rfl,?_⟩
  exact⟨[],[],[],qAV ws p,⟨2,[]⟩,rfl,⟨_,rfl,_,_,rfl,rfl,rfl⟩,trivial,by rw [<- hR];exact⟨rfl,rfl⟩⟩
 rw [h1] at hq hR
 obtain⟨q1l,rfl,rfl⟩:=hq
 refine⟨rfl,_,pbH ws q1,rfl,rfl,?_⟩
 simp only [qAL] at hR
 refine⟨List Rf × Nat,fun x=>[(0,cmF),(1,rfF),(5, .sl 2 4 0 x.1.length)],fun x=>⟨3,[(2,qRO x.1),(0,psO ws x.2),(1,bxO)]⟩,fun x=>x.2<=ws.length/\x.1.length<=x.2/\LI R (fun f=>qFD ws (qJ8 ws) f x.1 x.2) (ws.length - x.2),fun x=>ws.length - x.2,?_,?_⟩
 ·exact⟨([r0],q1),⟨q1l,by simp only [List.length_singleton];have:=qJ7 h1;omega,⟨F,by omega,hR.symm⟩⟩,qAA [] [] [] rfl ⟨⟨rfl,_,_,rfl,⟨_,_,rfl,⟨rfl,rfl⟩,rfl⟩,rfl⟩,⟨rfl,_,_,rfl,rfl,⟨_,_,rfl,⟨rfl,rfl⟩,rfl⟩⟩,rfl,trivial⟩ (sk) rfl⟩
 rintro⟨acc,q⟩ ⟨k1,k2,k3⟩
 simp only [] at k1 k2 k3
 by_cases c1:txt ws q=qEU
 ·have ql:q+1<=ws.length:=qBS (by rw [c1];decide)
  refine(qJf ws q hl k1).holds.useT [] [] rfl (sk) (sk) fun e0 H0 hq=>?_
  obtain⟨rfl,rfl⟩:=hq.1 c1
  refine⟨rfl,_,⟨3,(0,psO ws (q+1))::[(2,qRO acc),(1,bxO)]⟩,rfl,rfl,?_⟩
  refine(qPP ws (q+1) hg ql).holds.useT [] [] rfl (sk) (sk) fun e0 H0 hq=>?_
  rcases h2:qJ8 ws (q+1) with p | ⟨r,q2⟩
  ·rw [h2] at hq
   obtain⟨rfl,rfl⟩:=hq
   refine⟨rfl,_,_,rfl,rfl,?_⟩
   have hR:=k3.is (x:=.inl p) fun f=>by rw [qFD,if_pos c1,h2];rfl
   exact⟨[],[],[],qAV ws p,⟨2,[]⟩,rfl,⟨_,rfl,_,_,rfl,rfl,rfl⟩,trivial,by rw [hR];exact⟨rfl,rfl⟩⟩
  rw [h2] at hq
  obtain⟨q2l,rfl,rfl⟩:=hq
  have hlt:=qJ7 h2
  refine⟨rfl,_,⟨3,(0,psO ws q2)::(1,bxO)::[(2,qRO acc)]⟩,rfl,rfl,?_⟩
  refine⟨by show 0+1<=1;omega,[r.cells],rfl,?_⟩
  refine⟨by show 0+acc.length<=(acc.map Rf.cells).length;simp,acc.map Rf.cells,qAD (by simp),by show(acc.length+1) * 48<=140737488355328;omega,(acc++[r]).map Rf.cells,by simp,?_⟩
  exact⟨(acc++[r],q2),⟨q2l,by simp only [qAN];omega,k3.nxt (fun f=>by rw [qFD,if_pos c1,h2];rfl) (by omega)⟩,qAA [] [(2,4)] [] rfl ⟨⟨rfl,_,_,rfl,⟨_,_,rfl,⟨rfl,rfl⟩,rfl⟩,rfl⟩,⟨rfl,_,_,rfl,rfl,⟨_,_,rfl,⟨rfl,rfl⟩,rfl⟩⟩,congrArg (fun k:Nat=>AV.sl 4 4 0 k) (qAN acc r).symm,trivial⟩ (sk) rfl,by show ws.length - q2<ws.length - q;omega⟩
 ·refine(qJf ws q hl k1).holds.useT [] [] rfl (sk) (sk) fun e0 H0 hq=>?_
  obtain⟨rfl,rfl⟩:=hq.2 c1
  refine⟨rfl,_,⟨3,(0,psO ws q)::[(2,qRO acc),(1,bxO)]⟩,rfl,rfl,?_⟩
  have hR:=k3.is (x:=.inr (acc,q)) fun f=>by rw [qFD,if_neg c1]
  exact⟨[2],[],[], .returned (.p (qBy acc)),pbH ws q,rfl,⟨_,rfl,⟨_,rfl,by show 0+acc.length<=(acc.map Rf.cells).length;simp,qAD (by simp)⟩⟩,sk,by rw [hR];exact⟨k1,rfl,rfl⟩⟩
theorem qU1 {ws:List Wd} (hg:GoodW ws) {q q':Nat} {n:Int} (h:qDV ws q=.inr (n,q')):0<=n/\n<=9999:=by
 rw [qDV] at h
 split at h
 ·rename_i hk
  injection h with h;injection h with h1 h2
  obtain⟨h4,hd⟩:=qLf (qSP hg hk)
  have hv:=qGj hd _ (Nat.le_refl _)
  rw [qAc (Nat.le_refl _),h1] at hv
  have hp:(10:Int) ^ (txt ws q).length<=10 ^ 4:=by
   rcases (show(txt ws q).length=0∨(txt ws q).length=1∨(txt ws q).length=2∨(txt ws q).length=3∨(txt ws q).length=4 by omega) with e | e | e | e | e <;> rw [e] <;> decide
  have hp4:(10:Int) ^ 4=10000:=by decide
  omega
 ·cases h
theorem qMk (ws:List Wd) (F q0:Nat) (key:List UInt8) (hk:key ≠ []) (hF:ws.length<F) (hg:GoodW ws) (hq0:q0<=ws.length):HoldsG cx 104 [.ptr 0 0 0, .p (.str key)] (psH ws q0) (rdQ ws (qE9 ws F key q0) fun l=>.p (qBy l)):=by
 generalize hR:qE9 ws F key q0=R
 rw [qE9] at hR
 refine qAC Tryz.func104 rfl rfl rfl ?_
 have hl:=hg.len
 by_cases c1:txt ws q0=key
 rotate_left
 ·rw [if_neg c1] at hR
  refine(qAv ws q0 key hl hq0).holds.useT [] [] rfl (sk) (sk) fun e0 H0 hq=>?_
  obtain⟨rfl,rfl⟩:=hq.2 c1
  refine⟨rfl,_,⟨2,(0,psO ws q0)::[(1,bxO)]⟩,rfl,rfl,?_⟩
  exact⟨[],[],[], .returned (.p (qBy [])),psH ws q0,rfl,⟨_,rfl, .inr (.inr ⟨4,rfl⟩)⟩,sk,by rw [<- hR];exact⟨hq0,rfl,rfl⟩⟩
 rw [if_pos c1] at hR
 have q1l:q0+1<=ws.length:=qBS (by rw [c1];exact hk)
 refine(qAv ws q0 key hl hq0).holds.useT [] [] rfl (sk) (sk) fun e0 H0 hq=>?_
 obtain⟨rfl,rfl⟩:=hq.1 c1
 refine⟨rfl,_,⟨2,(0,psO ws (q0+1))::[(1,bxO)]⟩,rfl,rfl,?_⟩
 have hc:=qPx ws F (q0+1) hF hg q1l
 rw [hR] at hc
 refine hc.holds.useT [] [] rfl (sk) ⟨_,_,rfl,⟨rfl,_,_,rfl,⟨_,_,rfl,⟨rfl,rfl⟩,rfl⟩,rfl⟩,_,_,rfl,⟨rfl,_,_,rfl,rfl,⟨_,_,rfl,⟨rfl,rfl⟩,rfl⟩⟩,rfl⟩ fun e0 H0 hq=>?_
 rcases R with p | ⟨l,q2⟩
 ·obtain⟨rfl,rfl⟩:=hq
  refine⟨rfl,_,_,rfl,rfl,?_⟩
  exact⟨[],[],[],qAV ws p,⟨1,[]⟩,rfl,⟨_,rfl,_,_,rfl,rfl,rfl⟩,trivial,rfl,rfl⟩
 obtain⟨q2l,rfl,rfl⟩:=hq
 refine⟨rfl,_,⟨2,[(0,psO ws q2),(1,bxO)]⟩,rfl,rfl,?_⟩
 exact⟨[],[],[], .returned (.p (qBy l)),psH ws q2,rfl,sk,sk,q2l,rfl,rfl⟩
theorem qH9 (ws:List Wd) (q0:Nat) (hl:ws.length<=1500) (hq0:q0<=ws.length):HoldsG cx 156 [.ptr 0 0 0] (psH ws q0) (rdQ ws (qRN ws q0) fun n=>.p (i64 n)):=by
 generalize hR:qRN ws q0=R
 rw [qRN] at hR
 refine qAC Tryz.func156 rfl rfl rfl ?_
 by_cases c1:txt ws q0=tEq
 ·have q1l:q0<ws.length:=qBS (by rw [c1];decide)
  rw [if_pos c1] at hR
  refine(qAv ws q0 tEq hl hq0).holds.useT [] [] rfl (sk) (sk) fun e0 H0 hq=>?_
  obtain⟨rfl,rfl⟩:=hq.1 c1
  refine⟨rfl,_,⟨1,(0,psO ws (q0+1))::[]⟩,rfl,rfl,?_⟩
  exact⟨[],[],[], .returned (.p (i64 1)),psH ws (q0+1),rfl,sk,sk,by rw [<- hR];exact⟨by omega,rfl,rfl⟩⟩
 rw [if_neg c1] at hR
 refine(qAv ws q0 tEq hl hq0).holds.useT [] [] rfl (sk) (sk) fun e0 H0 hq=>?_
 obtain⟨rfl,rfl⟩:=hq.2 c1
 refine⟨rfl,_,⟨1,(0,psO ws q0)::[]⟩,rfl,rfl,?_⟩
 by_cases c2:txt ws q0=tNe
 ·have q1l:q0<ws.length:=qBS (by rw [c2];decide)
  rw [if_pos c2] at hR
  refine(qAv ws q0 tNe hl hq0).holds.useT [] [] rfl (sk) (sk) fun e0 H0 hq=>?_
  obtain⟨rfl,rfl⟩:=hq.1 c2
  refine⟨rfl,_,⟨1,(0,psO ws (q0+1))::[]⟩,rfl,rfl,?_⟩
  exact⟨[],[],[], .returned (.p (i64 2)),psH ws (q0+1),rfl,sk,sk,by rw [<- hR];exact⟨by omega,rfl,rfl⟩⟩
 rw [if_neg c2] at hR
 refine(qAv ws q0 tNe hl hq0).holds.useT [] [] rfl (sk) (sk) fun e0 H0 hq=>?_
 obtain⟨rfl,rfl⟩:=hq.2 c2
 refine⟨rfl,_,⟨1,(0,psO ws q0)::[]⟩,rfl,rfl,?_⟩
 by_cases c3:txt ws q0=tLt
 ·have q1l:q0<ws.length:=qBS (by rw [c3];decide)
  rw [if_pos c3] at hR
  refine(qAv ws q0 tLt hl hq0).holds.useT [] [] rfl (sk) (sk) fun e0 H0 hq=>?_
  obtain⟨rfl,rfl⟩:=hq.1 c3
  refine⟨rfl,_,⟨1,(0,psO ws (q0+1))::[]⟩,rfl,rfl,?_⟩
  exact⟨[],[],[], .returned (.p (i64 3)),psH ws (q0+1),rfl,sk,sk,by rw [<- hR];exact⟨by omega,rfl,rfl⟩⟩
 rw [if_neg c3] at hR
 refine(qAv ws q0 tLt hl hq0).holds.useT [] [] rfl (sk) (sk) fun e0 H0 hq=>?_
 obtain⟨rfl,rfl⟩:=hq.2 c3
 refine⟨rfl,_,⟨1,(0,psO ws q0)::[]⟩,rfl,rfl,?_⟩
 by_cases c4:txt ws q0=tLe
 ·have q1l:q0<ws.length:=qBS (by rw [c4];decide)
  rw [if_pos c4] at hR
  refine(qAv ws q0 tLe hl hq0).holds.useT [] [] rfl (sk) (sk) fun e0 H0 hq=>?_
  obtain⟨rfl,rfl⟩:=hq.1 c4
  refine⟨rfl,_,⟨1,(0,psO ws (q0+1))::[]⟩,rfl,rfl,?_⟩
  exact⟨[],[],[], .returned (.p (i64 4)),psH ws (q0+1),rfl,sk,sk,by rw [<- hR];exact⟨by omega,rfl,rfl⟩⟩
 rw [if_neg c4] at hR
 refine(qAv ws q0 tLe hl hq0).holds.useT [] [] rfl (sk) (sk) fun e0 H0 hq=>?_
 obtain⟨rfl,rfl⟩:=hq.2 c4
 refine⟨rfl,_,⟨1,(0,psO ws q0)::[]⟩,rfl,rfl,?_⟩
 refine(qKj ws q0 hl hq0).holds.useT [] [] rfl (sk) (sk) fun e0 H0 hq=>?_
 obtain⟨rfl,rfl⟩:=hq
 refine⟨rfl,_,⟨1,(0,psO ws q0)::[]⟩,rfl,rfl,?_⟩
 exact⟨[],[],[],qAV ws q0,⟨1,[]⟩,rfl,⟨_,rfl,_,_,rfl,rfl,rfl⟩,trivial,by rw [<- hR];exact⟨rfl,rfl⟩⟩
def moQ (ws:List Wd) (q:Nat) (e:AE) (H':Hp):Prop:=((txt ws q=qDw∨knd ws q=3)->e=.returned (vB true)/\H'=pbH ws q)/\(¬ (txt ws q=qDw∨knd ws q=3)->e=.returned (vB false)/\H'=pbH ws q)
theorem qIJ (ws:List Wd) (q0:Nat) (hl:ws.length<=1500) (hq0:q0<=ws.length):HoldsG cx 152 [.ptr 1 0 0] (pbH ws q0) (moQ ws q0):=by
 refine qAC Tryz.func152 rfl rfl rfl ?_
 refine(qMX ws q0 hl hq0).holds.useT [] [] rfl (sk) (sk) fun e0 H0 hq=>?_
 obtain⟨rfl,rfl⟩:=hq
 refine⟨rfl,_,⟨2,(0,psO ws q0)::[(1,bxO)]⟩,rfl,rfl,?_⟩
 refine QAD (fun c1=>?_) (fun c1=>?_)
 ·have c1:txt ws q0=qDw:=c1
  exact⟨[],[],[], .returned (vB true),pbH ws q0,rfl,sk,sk,fun _=>⟨rfl,rfl⟩,fun h=>absurd (.inl c1) h⟩
 have c1:¬ txt ws q0=qDw:=c1
 refine(qM9 ws q0 hl hq0).holds.useT [] [] rfl (sk) (sk) fun e0 H0 hq=>?_
 obtain⟨rfl,rfl⟩:=hq
 refine⟨rfl,_,⟨2,(0,psO ws q0)::[(1,bxO)]⟩,rfl,rfl,?_⟩
 refine QAD (fun c2=>?_) (fun c2=>?_)
 ·have c2:knd ws q0=3:=c2
  exact⟨[],[],[], .returned (vB true),pbH ws q0,rfl,sk,sk,fun _=>⟨rfl,rfl⟩,fun h=>absurd (.inr c2) h⟩
 have c2:¬ knd ws q0=3:=c2
 exact⟨[],[],[], .returned (vB false),pbH ws q0,rfl,sk,sk,fun h=>absurd h (not_or.2 ⟨c1,c2⟩),fun _=>⟨rfl,rfl⟩⟩
theorem qII (ws:List Wd) (q0:Nat) (hg:GoodW ws) (hq0:q0<=ws.length):HoldsG cx 154 [.ptr 1 0 0] (pbH ws q0) (qSJ ws (qP8 ws q0) fun n=>.p (i64 n)):=by
 generalize hR:qP8 ws q0=R
 rw [qP8] at hR
 have hl:=hg.len
 refine qAC Tryz.func154 rfl rfl rfl ?_
 by_cases c1:txt ws q0=qDw
 ·have q1l:q0+1<=ws.length:=qBS (by rw [c1];decide)
  rw [if_pos c1] at hR
  refine(qAv ws q0 qDw hl hq0).holds.useT [] [] rfl (sk) (sk) fun e0 H0 hq=>?_
  obtain⟨rfl,rfl⟩:=hq.1 c1
  refine⟨rfl,_,⟨2,(0,psO ws (q0+1))::[(1,bxO)]⟩,rfl,rfl,?_⟩
  refine(qBa ws (q0+1) hg q1l).holds.useT [] [] rfl (sk) (sk) fun e0 H0 hq=>?_
  rcases h1:qDV ws (q0+1) with p | ⟨n,q2⟩
  ·rw [h1] at hq hR
   obtain⟨rfl,rfl⟩:=hq
   refine⟨rfl,_,_,rfl,rfl,?_⟩
   exact⟨[],[],[],qAV ws p,⟨2,[]⟩,rfl,⟨_,rfl,_,_,rfl,rfl,rfl⟩,trivial,by rw [<- hR];exact⟨rfl,rfl⟩⟩
  have hb:=qU1 hg h1
  rw [h1] at hq hR
  obtain⟨q2l,rfl,rfl⟩:=hq
  refine⟨rfl,_,⟨2,(0,psO ws q2)::[(1,bxO)]⟩,rfl,rfl,?_⟩
  refine⟨-n,by show _=IntKind.i64.wrap (0 - n);rw [Int.zero_sub];exact w6z,?_⟩
  exact⟨[],[],[], .returned (.p (i64 (-n))),pbH ws q2,rfl,sk,sk,by rw [<- hR];exact⟨q2l,rfl,rfl⟩⟩
 rw [if_neg c1] at hR
 refine(qAv ws q0 qDw hl hq0).holds.useT [] [] rfl (sk) (sk) fun e0 H0 hq=>?_
 obtain⟨rfl,rfl⟩:=hq.2 c1
 refine⟨rfl,_,⟨2,(0,psO ws q0)::[(1,bxO)]⟩,rfl,rfl,?_⟩
 refine(qBa ws q0 hg hq0).holds.useT [] [] rfl (sk) (sk) fun e0 H0 hq=>?_
 rw [hR] at hq
 rcases R with p | ⟨n,q2⟩
 ·obtain⟨rfl,rfl⟩:=hq
  refine⟨rfl,_,_,rfl,rfl,?_⟩
  exact⟨[],[],[],qAV ws p,⟨2,[]⟩,rfl,⟨_,rfl,_,_,rfl,rfl,rfl⟩,trivial,rfl,rfl⟩
 obtain⟨q2l,rfl,rfl⟩:=hq
 refine⟨rfl,_,⟨2,(0,psO ws q2)::[(1,bxO)]⟩,rfl,rfl,?_⟩
 exact⟨[],[],[], .returned (.p (i64 n)),pbH ws q2,rfl,sk,sk,q2l,rfl,rfl⟩
theorem int_lt {ws:List Wd} {q q':Nat} {n:Int} (h:qP8 ws q=.inr (n,q')):q<q':=by
 rw [qP8] at h
 split at h
 ·obtain⟨m,q2,h2,h⟩:=then_ok h
  have:=qCe h2
  injection h with h;injection h with h3 h4;omega
 ·exact qCe h
def iO (l:List Int):AObj:=⟨qSl,false, .pu (l.map i64)⟩
def nmF:AV:=.fn (.func 152) [] [.ptr 1 0 0]
def nrF:AV:=.fn (.func 154) [] [.ptr 1 0 0]
def nbF:AV:=.fn (.func 101) [.ptr 0 0 0] []
theorem qOE (ws:List Wd) (F q0:Nat) (hF:ws.length<F) (hg:GoodW ws) (hq0:q0<=ws.length):HoldsG cx 153 [nmF,nrF] (pbH ws q0) (qSJ ws (qEk ws F q0) fun l=>.p (ints l)):=by
 generalize hR:qEk ws F q0=R
 rw [qEk] at hR
 refine qAC Tryz.func153 rfl rfl rfl ?_
 have hl:=hg.len
 refine(qII ws q0 hg hq0).holds.useT [] [] rfl (sk) (sk) fun e0 H0 hq=>?_
 rcases h1:qP8 ws q0 with p | ⟨n0,q1⟩
 ·rw [h1] at hq hR
  obtain⟨rfl,rfl⟩:=hq
  refine⟨rfl,_,_,rfl,rfl,?_⟩
  exact⟨[],[],[],qAV ws p,⟨2,[]⟩,rfl,⟨_,rfl,_,_,rfl,rfl,rfl⟩,trivial,by rw [<- hR];exact⟨rfl,rfl⟩⟩
 rw [h1] at hq hR
 obtain⟨q1l,rfl,rfl⟩:=hq
 refine⟨rfl,_,pbH ws q1,rfl,rfl,?_⟩
 simp only [qAL] at hR
 refine⟨List Int × Nat,fun x=>[(0,nmF),(1,nrF),(5, .sl 2 1 0 x.1.length)],fun x=>⟨3,[(2,iO x.1),(0,psO ws x.2),(1,bxO)]⟩,fun x=>x.2<=ws.length/\x.1.length<=x.2/\LI R (fun f=>qGM ws f x.1 x.2) (ws.length - x.2),fun x=>ws.length - x.2,?_,?_⟩
 ·exact⟨([n0],q1),⟨q1l,by simp only [List.length_singleton];have:=int_lt h1;omega,⟨F,by omega,hR.symm⟩⟩,qAA [] [] [] rfl ⟨⟨rfl,_,_,rfl,rfl,⟨_,_,rfl,⟨rfl,rfl⟩,rfl⟩⟩,⟨rfl,_,_,rfl,rfl,⟨_,_,rfl,⟨rfl,rfl⟩,rfl⟩⟩,rfl,trivial⟩ (sk) rfl⟩
 rintro⟨acc,q⟩ ⟨k1,k2,k3⟩
 simp only [] at k1 k2 k3
 by_cases c1:txt ws q=qDw∨knd ws q=3
 ·have ql:q<=ws.length:=k1
  refine(qIJ ws q hl k1).holds.useT [] [] rfl (sk) (sk) fun e0 H0 hq=>?_
  obtain⟨rfl,rfl⟩:=hq.1 c1
  refine⟨rfl,_,⟨3,[(0,psO ws q),(1,bxO),(2,iO acc)]⟩,rfl,rfl,?_⟩
  refine(qII ws q hg ql).holds.useT [] [] rfl (sk) (sk) fun e0 H0 hq=>?_
  rcases h2:qP8 ws q with p | ⟨n,q2⟩
  ·rw [h2] at hq
   obtain⟨rfl,rfl⟩:=hq
   refine⟨rfl,_,_,rfl,rfl,?_⟩
   have hR:=k3.is (x:=.inl p) fun f=>by rw [qGM,if_pos c1,h2];rfl
   exact⟨[],[],[],qAV ws p,⟨2,[]⟩,rfl,⟨_,rfl,_,_,rfl,rfl,rfl⟩,trivial,by rw [hR];exact⟨rfl,rfl⟩⟩
  rw [h2] at hq
  obtain⟨q2l,rfl,rfl⟩:=hq
  have hlt:=int_lt h2
  refine⟨rfl,_,⟨3,(0,psO ws q2)::(1,bxO)::[(2,iO acc)]⟩,rfl,rfl,?_⟩
  refine⟨by show 0+1<=1;omega,[i64 n],rfl,?_⟩
  refine⟨by show 0+acc.length<=(acc.map i64).length;simp,acc.map i64,qAD (by simp),by show(acc.length+1) * 8<=140737488355328;omega,(acc++[n]).map i64,by simp,?_⟩
  exact⟨(acc++[n],q2),⟨q2l,by simp only [qAN];omega,k3.nxt (fun f=>by rw [qGM,if_pos c1,h2];rfl) (by omega)⟩,qAA [] [(2,4)] [] rfl ⟨⟨rfl,_,_,rfl,rfl,⟨_,_,rfl,⟨rfl,rfl⟩,rfl⟩⟩,⟨rfl,_,_,rfl,rfl,⟨_,_,rfl,⟨rfl,rfl⟩,rfl⟩⟩,congrArg (fun k:Nat=>AV.sl 4 1 0 k) (qAN acc n).symm,trivial⟩ (sk) rfl,by show ws.length - q2<ws.length - q;omega⟩
 ·refine(qIJ ws q hl k1).holds.useT [] [] rfl (sk) (sk) fun e0 H0 hq=>?_
  obtain⟨rfl,rfl⟩:=hq.2 c1
  refine⟨rfl,_,⟨3,[(0,psO ws q),(1,bxO),(2,iO acc)]⟩,rfl,rfl,?_⟩
  have hR:=k3.is (x:=.inr (acc,q)) fun f=>by rw [qGM,if_neg c1]
  exact⟨[2],[],[], .returned (.p (ints acc)),pbH ws q,rfl,⟨_,rfl,⟨_,rfl,by show 0+acc.length<=(acc.map i64).length;simp,qAD (by simp)⟩⟩,sk,by rw [hR];exact⟨k1,rfl,rfl⟩⟩
def qW6 (ws:List Wd) (r:Rd (List Int)) (e:AE) (H':Hp):Prop:=match r with
 | .inl p=>e=qAV ws p/\H'=⟨1,[]⟩
 | .inr (l,q)=>(q<=ws.length/\l.length<=q)/\e=.returned (.sl 1 1 0 l.length)/\H'=⟨2,[(1,iO l),(0,psO ws q)]⟩
theorem qLo (ws:List Wd) (F q0:Nat) (hF:ws.length - q0<F) (hg:GoodW ws) (hq0:q0<=ws.length):HoldsG cx 153 [cmF,nbF] (psH ws q0) (qW6 ws (qFp ws (qDV ws) F q0)):=by
 generalize hR:qFp ws (qDV ws) F q0=R
 rw [qFp] at hR
 refine qAC Tryz.func153 rfl rfl rfl ?_
 have hl:=hg.len
 refine(qBa ws q0 hg hq0).holds.useT [] [] rfl (sk) (sk) fun e0 H0 hq=>?_
 rcases h1:qDV ws q0 with p | ⟨n0,q1⟩
 ·rw [h1] at hq hR
  obtain⟨rfl,rfl⟩:=hq
  refine⟨rfl,_,_,rfl,rfl,?_⟩
  exact⟨[],[],[],qAV ws p,⟨1,[]⟩,rfl,⟨_,rfl,_,_,rfl,rfl,rfl⟩,trivial,by rw [<- hR];exact⟨rfl,rfl⟩⟩
 rw [h1] at hq hR
 obtain⟨q1l,rfl,rfl⟩:=hq
 refine⟨rfl,_,psH ws q1,rfl,rfl,?_⟩
 simp only [qAL] at hR
 refine⟨List Int × Nat,fun x=>[(0,cmF),(1,nbF),(5, .sl 1 1 0 x.1.length)],fun x=>⟨2,[(1,iO x.1),(0,psO ws x.2)]⟩,fun x=>x.2<=ws.length/\x.1.length<=x.2/\LI R (fun f=>qFD ws (qDV ws) f x.1 x.2) (ws.length - x.2),fun x=>ws.length - x.2,?_,?_⟩
 ·exact⟨([n0],q1),⟨q1l,by simp only [List.length_singleton];have:=qCe h1;omega,⟨F,by show ws.length - q1<F;have:=qCe h1;omega,hR.symm⟩⟩,qAA [] [] [] rfl ⟨⟨rfl,_,_,rfl,⟨_,_,rfl,⟨rfl,rfl⟩,rfl⟩,rfl⟩,⟨rfl,_,_,rfl,⟨_,_,rfl,⟨rfl,rfl⟩,rfl⟩,rfl⟩,rfl,trivial⟩ (sk) rfl⟩
 rintro⟨acc,q⟩ ⟨k1,k2,k3⟩
 simp only [] at k1 k2 k3
 by_cases c1:txt ws q=qEU
 ·have ql:q+1<=ws.length:=qBS (by rw [c1];decide)
  refine(qJf ws q hl k1).holds.useT [] [] rfl (sk) (sk) fun e0 H0 hq=>?_
  obtain⟨rfl,rfl⟩:=hq.1 c1
  refine⟨rfl,_,⟨2,(0,psO ws (q+1))::[(1,iO acc)]⟩,rfl,rfl,?_⟩
  refine(qBa ws (q+1) hg ql).holds.useT [] [] rfl (sk) (sk) fun e0 H0 hq=>?_
  rcases h2:qDV ws (q+1) with p | ⟨n,q2⟩
  ·rw [h2] at hq
   obtain⟨rfl,rfl⟩:=hq
   refine⟨rfl,_,_,rfl,rfl,?_⟩
   have hR:=k3.is (x:=.inl p) fun f=>by rw [qFD,if_pos c1,h2];rfl
   exact⟨[],[],[],qAV ws p,⟨1,[]⟩,rfl,⟨_,rfl,_,_,rfl,rfl,rfl⟩,trivial,by rw [hR];exact⟨rfl,rfl⟩⟩
  rw [h2] at hq
  obtain⟨q2l,rfl,rfl⟩:=hq
  have hlt:=qCe h2
  refine⟨rfl,_,⟨2,(0,psO ws q2)::[(1,iO acc)]⟩,rfl,rfl,?_⟩
  refine⟨by show 0+1<=1;omega,[i64 n],rfl,?_⟩
  refine⟨by show 0+acc.length<=(acc.map i64).length;simp,acc.map i64,qAD (by simp),by show(acc.length+1) * 8<=140737488355328;omega,(acc++[n]).map i64,by simp,?_⟩
  exact⟨(acc++[n],q2),⟨q2l,by simp only [qAN];omega,k3.nxt (fun f=>by rw [qFD,if_pos c1,h2];rfl) (by omega)⟩,qAA [] [(1,3)] [] rfl ⟨⟨rfl,_,_,rfl,⟨_,_,rfl,⟨rfl,rfl⟩,rfl⟩,rfl⟩,⟨rfl,_,_,rfl,⟨_,_,rfl,⟨rfl,rfl⟩,rfl⟩,rfl⟩,congrArg (fun k:Nat=>AV.sl 3 1 0 k) (qAN acc n).symm,trivial⟩ (sk) rfl,by show ws.length - q2<ws.length - q;omega⟩
 ·refine(qJf ws q hl k1).holds.useT [] [] rfl (sk) (sk) fun e0 H0 hq=>?_
  obtain⟨rfl,rfl⟩:=hq.2 c1
  refine⟨rfl,_,⟨2,(0,psO ws q)::[(1,iO acc)]⟩,rfl,rfl,?_⟩
  have hR:=k3.is (x:=.inr (acc,q)) fun f=>by rw [qFD,if_neg c1]
  exact⟨[],[],[], .returned (.sl 1 1 0 acc.length),⟨2,[(1,iO acc),(0,psO ws q)]⟩,rfl,⟨_,rfl,rfl⟩,sk,by rw [hR];exact⟨⟨k1,k2⟩,rfl,rfl⟩⟩
theorem qKL (ws:List Wd) (F q0:Nat) (hF:ws.length<F) (hg:GoodW ws) (hq0:q0<=ws.length):HoldsG cx 138 [.ptr 0 0 0] (psH ws q0) (rdQ ws (qEk ws F q0) fun l=>.p (ints l)):=by
 have hc:=qOE ws F q0 hF hg hq0
 generalize qEk ws F q0=R at hc ⊢
 refine qAC Tryz.func138 rfl rfl rfl ?_
 refine hc.holds.useT [] [] rfl (sk) ⟨_,_,rfl,⟨rfl,_,_,rfl,rfl,⟨_,_,rfl,⟨rfl,rfl⟩,rfl⟩⟩,_,_,rfl,⟨rfl,_,_,rfl,rfl,⟨_,_,rfl,⟨rfl,rfl⟩,rfl⟩⟩,rfl⟩ fun e0 H0 hq=>?_
 rcases R with p | ⟨l,q2⟩
 ·obtain⟨rfl,rfl⟩:=hq
  refine⟨rfl,_,_,rfl,rfl,?_⟩
  exact⟨[],[],[],qAV ws p,⟨1,[]⟩,rfl,⟨_,rfl,_,_,rfl,rfl,rfl⟩,trivial,rfl,rfl⟩
 obtain⟨q2l,rfl,rfl⟩:=hq
 refine⟨rfl,_,⟨2,[(0,psO ws q2),(1,bxO)]⟩,rfl,rfl,?_⟩
 exact⟨[],[],[], .returned (.p (ints l)),psH ws q2,rfl,sk,sk,q2l,rfl,rfl⟩
theorem qE5 {α:Type} {P:List α->Prop} (h0:P []) (h1:∀ l x,P l->P (l++[x])) (l:List α):P l:=by
 rw [<- List.reverse_reverse l]
 induction l.reverse with
 | nil=>exact h0
 | cons x r ih=>rw [List.reverse_cons];exact h1 _ x ih
def qHk (acc:List Int) (x:Int):List Int:=if acc.getLast?=some x then acc else acc++[x]
def qEM (l:List Int):List Int:=l.foldl qHk []
theorem qFK (l:List Int) (x:Int):qEM (l++[x])=qHk (qEM l) x:=by rw [qEM,qEM,List.foldl_append];rfl
theorem qO3 (acc:List Int) (x:Int):(qHk acc x).getLast?=some x:=by
 unfold qHk
 split
 ·assumption
 ·rw [List.getLast?_append];rfl
theorem qRC (acc:List Int) (x y:Int):y∈qHk acc x ↔ y∈acc∨y=x:=by
 unfold qHk
 split
 ·rename_i h
  constructor
  ·exact .inl
  ·rintro (h1 | rfl)
   ·exact h1
   ·exact List.mem_of_getLast? h
 ·rw [List.mem_append,List.mem_singleton]
theorem qNS:∀ l:List Int,l ≠ []->(qEM l).getLast?=l.getLast?:=by
 refine qE5 (fun h=>absurd rfl h) fun l x _ _=>?_
 rw [qFK,qO3,List.getLast?_append];rfl
theorem qL9 (l:List Int) (y:Int):y∈qEM l ↔ y∈l:=by
 refine qE5 (P:=fun l=>y∈qEM l ↔ y∈l) Iff.rfl (fun l x ih=>?_) l
 rw [qFK,qRC,ih,List.mem_append,List.mem_singleton]
def Inc (l:List Int):Prop:=l.Pairwise (· < ·)
theorem qRk {l:List Int} {x:Int} (h:Inc l) (hx:∀ y∈l,y<x):Inc (l++[x]):=by
 rw [Inc,List.pairwise_append]
 exact⟨h,List.pairwise_singleton _ _,fun a ha b hb=>by rw [List.mem_singleton.1 hb];exact hx a ha⟩
theorem qRl:∀ {l:List Int},Inc l->∀ {z:Int},l.getLast?=some z->∀ y∈l,y<=z:=by
 intro l
 refine qE5 (P:=fun l=>Inc l->∀ {z:Int},l.getLast?=some z->∀ y∈l,y<=z) (fun _ z _ y hy=>by simp at hy) (fun l x _ h z hz y hy=>?_) l
 rw [List.getLast?_append] at hz
 have hz:x=z:=by simpa using hz
 subst hz
 rw [Inc,List.pairwise_append] at h
 rcases List.mem_append.1 hy with hy | hy
 ·have:=h.2.2 y hy x (List.mem_singleton.2 rfl)
  exact Int.le_of_lt this
 ·rw [List.mem_singleton.1 hy];exact Int.le_refl _
theorem qTq (l:List Int):l.Pairwise (·<=·)->Inc (qEM l):=by
 refine qE5 (P:=fun l=>l.Pairwise (·<=·)->Inc (qEM l)) (fun _=>List.Pairwise.nil) (fun l x ih h=>?_) l
 rw [List.pairwise_append] at h
 have ih:=ih h.1
 rw [qFK]
 unfold qHk
 split
 ·exact ih
 ·rename_i hne
  refine qRk ih fun y hy=>?_
  have hyl:=(qL9 l y).1 hy
  have hyx:=h.2.2 y hyl x (List.mem_singleton.2 rfl)
  rcases Int.lt_or_eq_of_le hyx with h1 | h1
  ·exact h1
  ·exfalso
   have hl:l ≠ []:=fun e=>by rw [e] at hyl;simp at hyl
   obtain⟨z,hz⟩:∃ z,(qEM l).getLast?=some z:=by
    rw [qNS l hl]
    exact⟨_,List.getLast?_eq_some_getLast hl⟩
   have h2:=qRl ih hz y hy
   have hzl:z∈l:=(qL9 l z).1 (List.mem_of_getLast? hz)
   have h3:=h.2.2 z hzl x (List.mem_singleton.2 rfl)
   exact hne (by rw [hz];congr 1;omega)
theorem qP9 (l:List Int) (n y:Int):y∈qLt l n ↔ y=n∨y∈l:=by
 induction l with
 | nil=>simp [qLt]
 | cons x l ih=>
  rw [qLt]
  split
  ·simp
  ·split
   ·rename_i h;subst h;simp
   ·rw [List.mem_cons,ih,List.mem_cons]
    constructor
    ·rintro (h | h | h) <;> simp [h]
    ·rintro (h | h | h) <;> simp [h]
theorem qTW (l:List Int) (n:Int) (h:Inc l):Inc (qLt l n):=by
 induction l with
 | nil=>exact List.pairwise_singleton _ _
 | cons x l ih=>
  rw [Inc,List.pairwise_cons] at h
  rw [qLt]
  split
  ·rename_i hn
   rw [Inc,List.pairwise_cons]
   refine⟨fun y hy=>?_,List.pairwise_cons.2 h⟩
   rcases List.mem_cons.1 hy with rfl | hy
   ·exact hn
   ·have:=h.1 y hy;omega
  ·split
   ·exact List.pairwise_cons.2 h
   ·rw [Inc,List.pairwise_cons]
    refine⟨fun y hy=>?_,ih h.2⟩
    rcases (qP9 l n y).1 hy with rfl | hy
    ·omega
    ·exact h.1 y hy
theorem qIw:∀ (l acc:List Int),Inc acc->Inc (l.foldl qLt acc)/\∀ y,y∈l.foldl qLt acc ↔ y∈acc∨y∈l
 | [],acc,h=>⟨h,fun y=>by simp⟩
 | x::l,acc,h=>by
  obtain⟨h1,h2⟩:=qIw l (qLt acc x) (qTW acc x h)
  refine⟨h1,fun y=>?_⟩
  rw [List.foldl_cons,h2,qP9,List.mem_cons]
  constructor
  ·rintro ((h | h) | h) <;> simp [h]
  ·rintro (h | h | h) <;> simp [h]
theorem qLv:∀ {a b:List Int},Inc a->Inc b->(∀ y,y∈a ↔ y∈b)->a=b
 | [],[],_,_,_=>rfl
 | [],y::b,_,_,h=>by have:=(h y).2 (by simp);simp at this
 | x::a,[],_,_,h=>by have:=(h x).1 (by simp);simp at this
 | x::a,y::b,ha,hb,h=>by
  rw [Inc,List.pairwise_cons] at ha hb
  have hxy:x=y:=by
   have h1:=(h x).1 (by simp)
   have h2:=(h y).2 (by simp)
   rcases List.mem_cons.1 h1 with h1 | h1
   ·exact h1
   ·rcases List.mem_cons.1 h2 with h2 | h2
    ·exact h2.symm
    ·have:=hb.1 x h1
     have:=ha.1 y h2
     omega
  subst hxy
  have:a=b:=qLv ha.2 hb.2 fun z=>by
   constructor
   ·intro hz
    have h1:=(h z).1 (by simp [hz])
    rcases List.mem_cons.1 h1 with rfl | h1
    ·exact absurd (ha.1 z hz) (Int.lt_irrefl z)
    ·exact h1
   ·intro hz
    have h1:=(h z).2 (by simp [hz])
    rcases List.mem_cons.1 h1 with rfl | h1
    ·exact absurd (hb.1 z hz) (Int.lt_irrefl z)
    ·exact h1
  rw [this]
theorem qNu {l s:List Int} (hp:s.Perm l) (hs:s.Pairwise (·<=·)):qEM s=qUF l:=by
 have h1:=qIw l [] List.Pairwise.nil
 refine qLv (qTq s hs) h1.1 fun y=>?_
 rw [qL9,qUF,h1.2,hp.mem_iff]
 simp
theorem qRD (acc:List Int) (x:Int):(qHk acc x).length<=acc.length+1:=by
 unfold qHk
 split <;> simp
theorem qQa (l:List Int):(qEM l).length<=l.length:=by
 refine qE5 (P:=fun l=>(qEM l).length<=l.length) (Nat.le_refl _) (fun l x ih=>?_) l
 rw [qFK]
 have:=qRD (qEM l) x
 simp only [List.length_append,List.length_singleton];omega
end Go.Proofs.YtmepdfingcmkmaaGreatDoor
namespace Go.Proofs
open Go.Shelf
def Tryz.lays189_ren:Go.Shelf.Ren:=⟨fun | 189=>157 | 125=>160 | 257=>159 | 128=>170 | 129=>171 | 294=>161 | 295=>162 | 296=>163 | 297=>164 | 298=>165 | 299=>166 | 216=>167 | 300=>168 | 301=>169 | 328=>172 | 329=>173 | 330=>174 | 331=>175 | 332=>176 | 215=>177 | 343=>178 | n=>n,fun | 28=>28 | 3=>3 | 46=>105 | 0=>0 | 51=>143 | 53=>146 | 4=>4 | 183=>224 | 182=>223 | 131=>134 | 5=>5 | 9=>9 | 218=>231 | 222=>191 | 228=>236 | 229=>237 | n=>n,fun | n=>n⟩
theorem Tryz.lays189:Go.Proofs.Lays.n189 Tryz.prog Tryz.lays189_ren:={
 mixed:=by kernel_rfl
 f125:=Tryz.func160.trans (congrArg some (by kernel_rfl))
 f128:=Tryz.func170.trans (congrArg some (by kernel_rfl))
 f129:=Tryz.func171.trans (congrArg some (by kernel_rfl))
 f189:=Tryz.func157.trans (congrArg some (by kernel_rfl))
 f215:=Tryz.func177.trans (congrArg some (by kernel_rfl))
 f216:=Tryz.func167.trans (congrArg some (by kernel_rfl))
 f257:=Tryz.func159.trans (congrArg some (by kernel_rfl))
 f294:=Tryz.func161.trans (congrArg some (by kernel_rfl))
 f295:=Tryz.func162.trans (congrArg some (by kernel_rfl))
 f296:=Tryz.func163.trans (congrArg some (by kernel_rfl))
 f297:=Tryz.func164.trans (congrArg some (by kernel_rfl))
 f298:=Tryz.func165.trans (congrArg some (by kernel_rfl))
 f299:=Tryz.func166.trans (congrArg some (by kernel_rfl))
 f300:=Tryz.func168.trans (congrArg some (by kernel_rfl))
 f301:=Tryz.func169.trans (congrArg some (by kernel_rfl))
 f328:=Tryz.func172.trans (congrArg some (by kernel_rfl))
 f329:=Tryz.func173.trans (congrArg some (by kernel_rfl))
 f330:=Tryz.func174.trans (congrArg some (by kernel_rfl))
 f331:=Tryz.func175.trans (congrArg some (by kernel_rfl))
 f332:=Tryz.func176.trans (congrArg some (by kernel_rfl))
 f343:=Tryz.func178.trans (congrArg some (by kernel_rfl))
 t0:=Tryz.underlying0
 a0:=Tryz.isAgg0
 z0:=Tryz.sizeOf0
 v0:=Tryz.zeroValue0
 t3:=Tryz.underlying3
 a3:=Tryz.isAgg3
 z3:=Tryz.sizeOf3
 v3:=Tryz.zeroValue3
 t4:=Tryz.underlying4
 a4:=Tryz.isAgg4
 z4:=Tryz.sizeOf4
 v4:=Tryz.zeroValue4
 t5:=Tryz.underlying5
 a5:=Tryz.isAgg5
 z5:=Tryz.sizeOf5
 v5:=Tryz.zeroValue5
 t9:=Tryz.underlying9
 a9:=Tryz.isAgg9
 z9:=Tryz.sizeOf9
 v9:=Tryz.zeroValue9
 t28:=Tryz.underlying28
 a28:=Tryz.isAgg28
 z28:=Tryz.sizeOf28
 v28:=Tryz.zeroValue28
 t46:=Tryz.underlying105
 a46:=Tryz.isAgg105
 z46:=Tryz.sizeOf105
 v46:=Tryz.zeroValue105
 t51:=Tryz.underlying143
 a51:=Tryz.isAgg143
 z51:=Tryz.sizeOf143
 v51:=Tryz.zeroValue143
 t53:=Tryz.underlying146
 a53:=Tryz.isAgg146
 z53:=Tryz.sizeOf146
 v53:=Tryz.zeroValue146
 t131:=Tryz.underlying134
 a131:=Tryz.isAgg134
 z131:=Tryz.sizeOf134
 v131:=Tryz.zeroValue134
 t182:=Tryz.underlying223
 a182:=Tryz.isAgg223
 z182:=Tryz.sizeOf223
 v182:=Tryz.zeroValue223
 t183:=Tryz.underlying224
 a183:=Tryz.isAgg224
 z183:=Tryz.sizeOf224
 v183:=Tryz.zeroValue224
 t218:=Tryz.underlying231
 a218:=Tryz.isAgg231
 z218:=Tryz.sizeOf231
 v218:=Tryz.zeroValue231
 t222:=Tryz.underlying191
 a222:=Tryz.isAgg191
 z222:=Tryz.sizeOf191
 v222:=Tryz.zeroValue191
 t228:=Tryz.underlying236
 a228:=Tryz.isAgg236
 z228:=Tryz.sizeOf236
 v228:=Tryz.zeroValue236
 t229:=Tryz.underlying237
 a229:=Tryz.isAgg237
 z229:=Tryz.sizeOf237
 v229:=Tryz.zeroValue237 }
open Go.Sort Go.RowKit in
theorem Tryz.slices_Sort_int (blk off cap:Nat) (zs:List Int) (w:World) (hH:Holds (Value.int .i64) w blk off zs.toArray) (hblk:blk<w.heap.size) (hsz:zs.length<4611686018427387904) :
  Calls Tryz.prog 157 #[.slice (some ⟨blk,off,none⟩) zs.length cap] w fun e w'=>
   e=.returned (.tuple #[])/\∃ n os,w'=grow (putRow (Value.int .i64) (Sort.ahead w n) blk off (zs.mergeSort fun x y=>decide (x<=y)).toArray) os:=Any.slices_Sort_int Tryz.lays189 blk off cap zs w hH hblk hsz
def Tryz.laysNm220_ren:Go.Shelf.Ren:=⟨fun | 20=>158 | n=>n,fun | 22=>28 | 3=>3 | 4=>4 | 0=>0 | n=>n,fun | n=>n⟩
theorem Tryz.laysNm220:Go.Proofs.Lays2.n20 Tryz.prog Tryz.laysNm220_ren:={
 mixed:=by kernel_rfl
 f20:=Tryz.func158.trans (congrArg some (by kernel_rfl))
 t0:=Tryz.underlying0
 a0:=Tryz.isAgg0
 z0:=Tryz.sizeOf0
 v0:=Tryz.zeroValue0
 t3:=Tryz.underlying3
 a3:=Tryz.isAgg3
 z3:=Tryz.sizeOf3
 v3:=Tryz.zeroValue3
 t4:=Tryz.underlying4
 a4:=Tryz.isAgg4
 z4:=Tryz.sizeOf4
 v4:=Tryz.zeroValue4
 t22:=Tryz.underlying28
 a22:=Tryz.isAgg28
 z22:=Tryz.sizeOf28
 v22:=Tryz.zeroValue28
 i3:=by kernel_rfl }
open Go.RowKit Go.Lib Go.Sort in
theorem Tryz.slices_Compact_int (blk off cap:Nat) (zs:List Int) (w:World) (hH:Holds (Value.int .i64) w blk off zs.toArray) (hsz:zs.length<=9223372036854775807) (hcap:zs.length<=cap) :
  Calls Tryz.prog 158 #[.slice (some ⟨blk,off,none⟩) zs.length cap] w fun e w'=>e=.returned (.slice (some ⟨blk,off,none⟩) (Lib.compact zs).length cap)/\∃ q,w'=putRow (Value.int .i64) (Sort.ahead w q) blk off (Lib.compact zs++List.replicate (zs.length - (Lib.compact zs).length) 0).toArray:=Any.slices_Compact_int Tryz.laysNm220 blk off cap zs w hH hsz hcap
open Go.RowKit Go.Lib Go.Sort in
theorem Tryz.slices_Compact_int_empty (a:Option Addr) (cap:Nat) (w:World) :
  Calls Tryz.prog 158 #[.slice a 0 cap] w fun e w'=>e=.returned (.slice a 0 cap)/\w'=w:=Any.slices_Compact_int_empty Tryz.laysNm220 a cap w
open Go.RowKit Go.Sort in
theorem Tryz.slices_Sort_int_none (p:Option Addr) (cap:Nat) (w:World) :
  Calls Tryz.prog 157 #[.slice p 0 cap] w fun e w'=>e=.returned (.tuple #[])/\w'=w:=Any.slices_Sort_int_none Tryz.lays189 p cap w
end Go.Proofs
namespace Go.Proofs.YtmepdfingcmkmaaGreatDoor
open Go Y
set_option maxRecDepth 100000
set_option maxHeartbeats 4000000
theorem qHa {l:List Int} {k:Nat} (h:k<l.length):l.toArray[k]! = l.getD k 0:=by
 rw [getElem!_pos l.toArray k (by simpa using h),List.getD_eq_getElem?_getD,List.getElem?_eq_getElem h];rfl
theorem qP4 {l:List Int} {m:Nat} (h:m<l.length):(l.take (m+1)).getLast?=some (l.getD m 0):=by
 rw [qAE 0 h,List.getLast?_append];rfl
theorem qOk (zs:List Int):∀ m,m<=zs.length->Lib.compactUpTo zs.toArray m=qEM (zs.take m)
 | 0,_=>rfl
 | m+1,h=>by
  rw [Lib.compactUpTo_succ,qOk zs m (by omega),qAE 0 (by omega),qFK,qHa (by omega)]
  cases m with
  | zero=>rfl
  | succ m=>
   have hl:(qEM (zs.take (m+1))).getLast?=some (zs.getD m 0):=by
    rw [qNS _ (fun e=>by have:=congrArg List.length e;simp at this;rw [this] at h;simp at h),qP4 (by omega)]
   unfold qHk
   rw [hl]
   by_cases e:zs.getD m 0=zs.getD (m+1) 0
   ·have hk:Lib.keeps zs.toArray (m+1)=false:=Lib.keeps_neg (by omega) (by rw [Nat.add_sub_cancel,qHa (by omega),qHa (by omega)];exact e.symm)
    simp only [hk,Bool.false_eq_true,if_false,List.append_nil]
    rw [if_pos (by rw [e])]
   ·have hk:Lib.keeps zs.toArray (m+1)=true:=Lib.keeps_pos (by rw [Nat.add_sub_cancel,qHa (by omega),qHa (by omega)];exact fun h=>e h.symm)
    simp only [hk,if_true]
    rw [if_neg (fun h=>e (Option.some.inj h))]
theorem qOP (zs:List Int):Lib.compact zs=qEM zs:=by
 rw [Lib.compact,qOk zs _ (Nat.le_refl _),List.take_length]
theorem qLq {Γ:Gm} {H:Hp} {w w':World} (h:R cx Γ H w) (e1:w'.os=w.os) (e2:w'.tape=w.tape) (e3:w'.output=w.output) (e4:w.heap.size<=w'.heap.size) (e5:∀ k,k<w.heap.size->w'.heap[k]?=w.heap[k]?):Later cx H.next Γ H w Γ H w':=by
 have hlt:∀ {b:Nat} {x:Obj},w.heap[b]?=some x->b<w.heap.size:=fun hx=>(Array.getElem?_eq_some_iff.1 hx).1
 refine⟨⟨h.glob,h.fresh,fun b arr hf=>?_,fun n o hn=>?_,h.own,h.apart⟩,Ext.refl _ _,Nat.le_refl _,⟨e1,e2,e3,e4,fun k hk _=>e5 k hk,fun k hk=>.inr hk,Fzn.le_refl _,fun k a hk=>.inl hk⟩⟩
 ·obtain⟨t,z,e⟩:=h.fzok b arr hf
  exact⟨t,z,by rw [e5 b (hlt e)];exact e⟩
 ·obtain⟨q,h1,h2⟩:=h.objs n o hn
  exact⟨q,h1,h2.ext (Gm.le_refl _) fun hl=>e5 _ (h2.blk_lt hl)⟩
theorem qMR {fz:Fzn}:∀ {l:List Int} {us:List Value},VPL fz (l.map i64) us->us=l.map (Value.int .i64)
 | [],us,h=>by simpa [VPL] using h
 | x::l,us,h=>by
  simp only [List.map_cons,VPL] at h
  obtain⟨u,us',rfl,h1,h2⟩:=h
  simp only [VP] at h1
  rw [h1,qMR h2];rfl
theorem qND {fz:Fzn}:∀ l:List Int,VPL fz (l.map i64) (l.map (Value.int .i64))
 | []=>by simp [VPL]
 | x::l=>by simp only [List.map_cons,VPL];exact⟨_,_,rfl,by simp only [VP],qND l⟩
theorem qRU {ys:List Int} {us rest:List Value} (h:us.length=ys.length):Sort.putCells (Value.int .i64) 0 ys.toArray ⟨us++rest⟩=⟨ys.map (Value.int .i64)++rest⟩:=by
 apply Array.ext
 ·simp [Sort.putCells,h]
 ·intro i h1 h2
  have hi:i<(us++rest).length:=by simpa [Sort.putCells] using h1
  simp only [Sort.putCells,Array.getElem_mapIdx,List.getElem_toArray]
  by_cases hk:i<ys.length
  ·rw [if_pos ⟨Nat.zero_le _,by simpa using hk⟩,List.getElem_append_left (by simpa using hk),List.getElem_map,Nat.sub_zero,getElem!_pos ys.toArray i (by simpa using hk)];rfl
  ·rw [if_neg (by simp;omega),List.getElem_append_right (by omega),List.getElem_append_right (by simp;omega)]
   simp [h]
structure RowW (xs:List Int) (Γ:Gm) (w:World) (q:Pl) where
 us:List Value
 rest:List Value
 z:Nat × Nat
 cells:w.heap[q.blk]?=some (.cells ⟨us++rest⟩ qSl z)
 free:qWX z (us++rest).length
 sz:qCn cx.P qSl=some q.s
 pos:0<q.s
 len:(us++rest).length=q.tc * q.s
 vals:us=xs.map (Value.int .i64)
 one:q.s=1
theorem row_of {xs:List Int} {Γ:Gm} {w:World} {q:Pl} (hR:R cx Γ ⟨1,[(0,iO xs)]⟩ w) (hq1:Γ.nm 0=some q) (hnl:q.nl=false):∃ _:RowW xs Γ w q,q.blk<w.heap.size:=by
 obtain⟨q',hq',hob⟩:=hR.objs 0 (iO xs) rfl
 rw [hq1] at hq'
 injection hq' with hq'
 subst hq'
 rcases (qAR rfl).1 hob with ⟨h,_⟩ | ⟨_,us,rest,z,g1,g2,g3,g4,g5,g6,g7,g8,g9⟩
 ·rw [hnl] at h;cases h
 exact⟨⟨us,rest,z,g1,g2,g3,g4,g5,qMR (qA8.1 g6),g8⟩,hob.blk_lt hnl⟩
theorem RowW.holds {xs:List Int} {Γ:Gm} {w:World} {q:Pl} (r:RowW xs Γ w q):Sort.Holds (Value.int .i64) w q.blk 0 xs.toArray:=by
 intro j hj
 have hj:j<xs.length:=by simpa using hj
 have hul:r.us.length=xs.length:=by rw [r.vals,List.length_map]
 have hx:(r.us++r.rest)[0+j]?=some (.int .i64 xs.toArray[j]!):=by
  rw [Nat.zero_add,List.getElem?_append_left (by omega),r.vals,List.getElem?_map,List.getElem?_eq_getElem hj,getElem!_pos xs.toArray j (by simpa using hj)];rfl
 refine⟨?_,?_⟩
 ·show(match w.heap[q.blk]? with | some (.cells c _ _)=>(if (none:Option Nat).isSome then none else c[0+j]?) | _=>none)=_
  rw [r.cells]
  show(List.toArray (r.us++r.rest))[0+j]?=_
  rw [List.getElem?_toArray];exact hx
 ·show(match w.heap[q.blk]? with | some (.cells _ _ (lo,hi))=>decide (lo<=0+j) && decide (0+j<hi) | _=>false)=false
  rw [r.cells]
  show(decide (r.z.1<=0+j) && decide (0+j<r.z.2))=false
  have hlen:j<(r.us++r.rest).length:=by rw [List.length_append];omega
  rw [Bool.and_eq_false_iff,decide_eq_false_iff_not,decide_eq_false_iff_not]
  rcases r.free with g2 | g2 <;> omega
theorem RowW.later {xs ys:List Int} {Γ:Gm} {w:World} {q:Pl} (r:RowW xs Γ w q) (hR:R cx Γ ⟨1,[(0,iO xs)]⟩ w) (hq1:Γ.nm 0=some q) (hnl:q.nl=false) (hlt:q.blk<w.heap.size) (hl:ys.length=xs.length) (n:Nat) (os:Array Obj) :
  Later cx 1 Γ ⟨1,[(0,iO xs)]⟩ w Γ ⟨1,[(0,iO ys)]⟩ (Sort.grow (Sort.putRow (Value.int .i64) (Sort.ahead w n) q.blk 0 ys.toArray) os):=by
 have hsz:r.us.length=ys.length:=by rw [r.vals,List.length_map,hl]
 have hput:=qRU (rest:=r.rest) hsz
 have hob':ObjR cx.P Γ (qA3 w q.blk (.cells ⟨ys.map (Value.int .i64)++r.rest⟩ qSl r.z)) q (iO ys):=by
  have hlen:(ys.map (Value.int .i64)++r.rest).length=(r.us++r.rest).length:=by rw [List.length_append,List.length_append,hsz,List.length_map]
  exact(qAR rfl).2 (.inr ⟨hnl,_,r.rest,r.z,qBR r.cells,by rw [hlen];exact r.free,r.sz,r.pos,by rw [hlen];exact r.len,qA8.2 (qND ys),fun u hu=>by obtain⟨x,_,rfl⟩:=List.mem_map.1 hu;rfl,r.one,fun h=>nomatch h⟩)
 have L1:=hR.repl (n:=0) (o:=iO xs) (o':=iO ys) rfl rfl hq1 hnl rfl hob'
 refine L1.trans (qLq L1.1 rfl rfl rfl ?_ fun k hk=>?_)
 ·show(qA3 w q.blk _).heap.size<=_
  simp [qA3,Sort.grow,Sort.putRow,Sort.mapBlock,Sort.ahead]
 ·have hk:k<w.heap.size:=by simpa [qA3] using hk
  show((w.heap.modify q.blk (Sort.onCells (Sort.putCells (Value.int .i64) 0 ys.toArray)))++os)[k]?=(w.heap.setIfInBounds q.blk _)[k]?
  rw [Array.getElem?_append_left (by simpa using hk),Array.getElem?_modify,Array.getElem?_setIfInBounds]
  by_cases e:q.blk=k
  ·subst e
   rw [if_pos rfl,if_pos rfl,if_pos hlt,r.cells]
   show some (Obj.cells (Sort.putCells (Value.int .i64) 0 ys.toArray ⟨r.us++r.rest⟩) qSl r.z)=_
   rw [hput]
  ·rw [if_neg e,if_neg e]
theorem qUa {xs:List Int} {Γ:Gm} {v:Value} (h:VR Γ (.sl 0 1 0 xs.length) v) (h0:xs ≠ []):∃ q,Γ.nm 0=some q/\q.nl=false/\xs.length<=q.tc/\v=.slice (some ⟨q.blk,0,none⟩) xs.length q.tc:=by
 simp only [VR] at h
 obtain⟨q,h1,h2,h3⟩:=h
 have hp:0<xs.length:=List.length_pos_iff.2 h0
 rcases h3 with ⟨_,_,h,_⟩ | ⟨hnl,htc,o,rfl,ho⟩
 ·omega
 ·have ho:o=0:=by rcases ho with h | h <;> omega
  subst ho
  exact⟨q,h1,hnl,by omega,by rw [Nat.sub_zero]⟩
theorem qSD {Γ:Gm} {v:Value} (h:VR Γ (.sl 0 1 0 0) v):∃ p c,v=.slice p 0 c:=by
 simp only [VR] at h
 obtain⟨q,h1,h2,h3⟩:=h
 rcases h3 with ⟨_,_,_,rfl⟩ | ⟨_,_,o,rfl,_⟩
 ·exact⟨_,_,rfl⟩
 ·exact⟨_,_,rfl⟩
theorem qUZ (xs:List Int) (hs:xs.length<=100000):HoldsG cx 157 [.sl 0 1 0 xs.length] ⟨1,[(0,iO xs)]⟩ fun e H'=>∃ ys:List Int,ys.Perm xs/\ys.Pairwise (·<=·)/\e=.returned und/\H'=⟨1,[(0,iO ys)]⟩:=by
 intro Γ w args' hR hA
 simp only [VRL] at hA
 obtain⟨a,as',rfl,hq,rfl⟩:=hA
 refine⟨rfl,?_⟩
 by_cases h0:xs=[]
 ·subst h0
  obtain⟨p,c,rfl⟩:=qSD hq
  refine(Tryz.slices_Sort_int_none p c w).mono ?_
  rintro e w' ⟨rfl,rfl⟩
  exact⟨.returned und,_,Γ,⟨[], .refl _,List.Pairwise.nil,rfl,rfl⟩,⟨_,rfl,by simp [VR,VRL]⟩,Later.refl hR _ (Nat.le_refl _)⟩
 obtain⟨q,hq1,hnl,htc,rfl⟩:=qUa hq h0
 obtain⟨r,hlt⟩:=row_of hR hq1 hnl
 refine(Tryz.slices_Sort_int q.blk 0 q.tc xs w r.holds hlt (by omega)).mono ?_
 rintro e w' ⟨rfl,n,os,rfl⟩
 have hperm:=List.mergeSort_perm xs fun x y=>decide (x<=y)
 refine⟨.returned und,_,Γ,⟨_,hperm,?_,rfl,rfl⟩,⟨_,rfl,by simp [VR,VRL]⟩,r.later hR hq1 hnl hlt hperm.length_eq n os⟩
 have:=List.pairwise_mergeSort (le:=fun x y:Int=>decide (x<=y)) (fun a b c h1 h2=>by simp at *;omega) (fun a b=>by simp;omega) xs
 exact this.imp fun h=>by simpa using h
theorem qQY (xs:List Int) (hs:xs.length<=100000):HoldsG cx 158 [.sl 0 1 0 xs.length] ⟨1,[(0,iO xs)]⟩ fun e H'=>e=.returned (.sl 0 1 0 (qEM xs).length)/\H'=⟨1,[(0,iO (qEM xs++List.replicate (xs.length - (qEM xs).length) 0))]⟩:=by
 intro Γ w args' hR hA
 simp only [VRL] at hA
 obtain⟨a,as',rfl,hq,rfl⟩:=hA
 refine⟨rfl,?_⟩
 by_cases h0:xs=[]
 ·subst h0
  have hq':=hq
  obtain⟨p,c,rfl⟩:=qSD hq
  refine(Tryz.slices_Compact_int_empty p c w).mono ?_
  rintro e w' ⟨rfl,rfl⟩
  exact⟨.returned (.sl 0 1 0 0),_,Γ,⟨rfl,rfl⟩,⟨_,rfl,hq'⟩,Later.refl hR _ (Nat.le_refl _)⟩
 have hq':=hq
 obtain⟨q,hq1,hnl,htc,rfl⟩:=qUa hq h0
 obtain⟨r,hlt⟩:=row_of hR hq1 hnl
 refine(Tryz.slices_Compact_int q.blk 0 q.tc xs w r.holds (by omega) htc).mono ?_
 rintro e w' ⟨rfl,n,rfl⟩
 rw [qOP]
 have hcl:=qQa xs
 have hL:=r.later (ys:=qEM xs++List.replicate (xs.length - (qEM xs).length) 0) hR hq1 hnl hlt (by rw [List.length_append,List.length_replicate];omega) n #[]
 rw [Sort.grow_empty] at hL
 refine⟨.returned (.sl 0 1 0 (qEM xs).length),_,Γ,⟨rfl,rfl⟩,⟨_,rfl,?_⟩,hL⟩
 simp only [VR]
 exact⟨q,hq1,r.one, .inr ⟨hnl,by omega,0,by rw [Nat.sub_zero], .inl (by omega)⟩⟩
def qW7 (ws:List Wd) (r:Rd Cd) (e:AE) (H':Hp):Prop:=match r with
 | .inl p=>e=qAV ws p/\H'=⟨1,[]⟩
 | .inr (c,q)=>q<=ws.length/\(∃ y,e=.returned (.p y)/\NilD y c.pv)/\H'=psH ws q
abbrev cdQ (ws:List Wd) (r:Rd Cd):AE->Hp->Prop:=rdQ ws r fun c=>.p c.pv
theorem qRQ {ws:List Wd} {g:FuncId} {args:List AV} {H:Hp} {r:Rd Cd} (h:HoldsG cx g args H (qW7 ws r)):HoldsG cx g args H (cdQ ws r):=
 h.weak fun e H' hq=>by
  rcases r with p | ⟨c,q⟩
  ·obtain⟨rfl,rfl⟩:=hq
   exact⟨_,rfl,rfl,rfl⟩
  ·obtain⟨h1,⟨y,rfl,h2⟩,rfl⟩:=hq
   exact⟨.returned (.p c.pv),⟨_,rfl,by simp only [NilA];exact⟨_,rfl,h2⟩⟩,h1,rfl,rfl⟩
theorem qRd (o n r v:Int) (rf:Rf) (st:List Int):NilD (.agg [i64 o,i64 n,i64 r,i64 v, .str rf.name,i64 rf.mode, .str rf.plate,i64 rf.n,ints st, .nils]) (Cd.mk o n r v rf st []).pv:=by
 show NilD _ (.agg [i64 o,i64 n,i64 r,i64 v, .str rf.name,i64 rf.mode, .str rf.plate,i64 rf.n,ints st, .lsts 10 []])
 simp only [NilD,NilDL]
 exact⟨_,rfl,_,_,rfl,rfl,_,_,rfl,rfl,_,_,rfl,rfl,_,_,rfl,rfl,_,_,rfl,rfl,_,_,rfl,rfl,_,_,rfl,rfl,_,_,rfl,rfl,_,_,rfl,⟨_,rfl,NilDL.refl _⟩,_,_,rfl, .inr (.inr ⟨10,rfl⟩),rfl⟩
theorem qAq (o n r v:Int) (rf:Rf):NilD (.agg [i64 o,i64 n,i64 r,i64 v, .str rf.name,i64 rf.mode, .str rf.plate,i64 rf.n, .nils, .nils]) (Cd.mk o n r v rf [] []).pv:=by
 show NilD _ (.agg [i64 o,i64 n,i64 r,i64 v, .str rf.name,i64 rf.mode, .str rf.plate,i64 rf.n, .lst [], .lsts 10 []])
 simp only [NilD,NilDL]
 exact⟨_,rfl,_,_,rfl,rfl,_,_,rfl,rfl,_,_,rfl,rfl,_,_,rfl,rfl,_,_,rfl,rfl,_,_,rfl,rfl,_,_,rfl,rfl,_,_,rfl,rfl,_,_,rfl, .inr (.inl rfl),_,_,rfl, .inr (.inr ⟨10,rfl⟩),rfl⟩
def cO (cs:List AV):AObj:=⟨qK6,false, .bx cs⟩
abbrev zc:AObj:=cO [.p (i64 0), .p (i64 0), .p (i64 0), .p (i64 0), .p (.str []), .p (i64 0), .p (.str []), .p (i64 0), .p .nils, .p .nils]
abbrev lfS (rf:Rf) (k:Nat):AObj:=cO [.p (i64 5), .p (i64 0), .p (i64 0), .p (i64 0), .p (.str rf.name), .p (i64 rf.mode), .p (.str rf.plate), .p (i64 rf.n), .sl 4 1 0 k, .p .nils]
abbrev lf (o n r v:Int) (rf:Rf):AObj:=cO [.p (i64 o), .p (i64 n), .p (i64 r), .p (i64 v), .p (.str rf.name), .p (i64 rf.mode), .p (.str rf.plate), .p (i64 rf.n), .p .nils, .p .nils]
abbrev qNi (ws:List Wd) (F:Nat) (q:Nat):Prop:=HoldsG cx 137 [.ptr 0 0 0] (psH ws q) (cdQ ws (qDc ws F q))
theorem qUX (ws:List Wd) (F q0:Nat) (hg:GoodW ws) (hq0:q0<=ws.length) (hF:4 * (ws.length - q0)+1<=F+1) (hC:∀ q,q<=ws.length->4 * (ws.length - q)+4<=F->qNi ws F q) :
  HoldsG cx 155 [.ptr 0 0 0] (psH ws q0) (cdQ ws (qGJ ws (F+1) q0)):=by
 refine qRQ ?_
 generalize hR:qGJ ws (F+1) q0=R
 rw [qGJ] at hR
 refine qAC Tryz.func155 rfl rfl rfl ?_
 have hl:=hg.len
 by_cases c1:txt ws q0=tLP
 ·have q1l:q0+1<=ws.length:=qBS (by rw [c1];decide)
  rw [if_pos c1] at hR
  refine(qAv ws q0 tLP hl hq0).holds.useT [] [] rfl (sk) (sk) fun e0 H0 hq=>?_
  obtain⟨rfl,rfl⟩:=hq.1 c1
  refine⟨rfl,_,⟨2,(0,psO ws (q0+1))::[(1,zc)]⟩,rfl,rfl,?_⟩
  refine(hC (q0+1) q1l (by omega)).holds.useT [] [] rfl (sk) (sk) fun e0 H0 hq=>?_
  rcases h1:qDc ws F (q0+1) with p | ⟨⟨o,n,rl,vl,rf,st,ar⟩,q2⟩
  ·rw [h1] at hq hR
   obtain⟨rfl,rfl⟩:=hq
   refine⟨rfl,_,_,rfl,rfl,?_⟩
   exact⟨[],[],[],qAV ws p,⟨1,[]⟩,rfl,⟨_,rfl,_,_,rfl,rfl,rfl⟩,trivial,by rw [<- hR];exact⟨rfl,rfl⟩⟩
  rw [h1] at hq hR
  obtain⟨q2l,rfl,rfl⟩:=hq
  refine⟨rfl,_,⟨2,(0,psO ws q2)::[(1,zc)]⟩,rfl,rfl,?_⟩
  simp only [qAL] at hR
  rw [<- qA0] at hR
  refine(qAf ws q2 [tRP] hl q2l (by simp) (by simp)).holds.useT [3] [] rfl (sk) ⟨_,_,rfl,⟨rfl,rfl⟩,_,_,rfl,⟨_,rfl,by decide,rfl⟩,rfl⟩ fun e0 H0 hq=>?_
  rcases h2:qAn ws [tRP] q2 with p | ⟨u,q3⟩
  ·rw [h2] at hq hR
   obtain⟨rfl,rfl⟩:=hq
   refine⟨rfl,_,_,rfl,rfl,?_⟩
   exact⟨[],[],[],qAV ws p,⟨1,[]⟩,rfl,⟨_,rfl,_,_,rfl,rfl,rfl⟩,trivial,by rw [<- hR];exact⟨rfl,rfl⟩⟩
  rw [h2] at hq hR
  obtain⟨q3l,rfl,rfl⟩:=hq
  refine⟨rfl,_,⟨4,(0,psO ws q3)::[(3,sO [tRP]),(2,cO ((Cd.mk o n rl vl rf st ar).cells.map .p)),(1,zc)]⟩,rfl,rfl,?_⟩
  simp only [qAL] at hR
  exact⟨[],[],[], .returned (.p (Cd.mk o n rl vl rf st ar).pv),psH ws q3,rfl,sk,sk,by rw [<- hR];exact⟨q3l,⟨_,rfl,NilD.refl _⟩,rfl⟩⟩
 rw [if_neg c1] at hR
 refine(qAv ws q0 tLP hl hq0).holds.useT [] [] rfl (sk) (sk) fun e0 H0 hq=>?_
 obtain⟨rfl,rfl⟩:=hq.2 c1
 refine⟨rfl,_,⟨2,(0,psO ws q0)::[(1,zc)]⟩,rfl,rfl,?_⟩
 by_cases c2:txt ws q0=qH2
 ·have q1l:q0+1<=ws.length:=qBS (by rw [c2];decide)
  rw [if_pos c2] at hR
  obtain⟨q1,hq1⟩:∃ q1,q1=q0+1:=⟨_,rfl⟩
  have q1l:q1<=ws.length:=by omega
  rw [<- hq1] at hR
  refine(qAv ws q0 qH2 hl hq0).holds.useT [] [] rfl (sk) (sk) fun e0 H0 hq=>?_
  obtain⟨rfl,rfl⟩:=hq.1 c2
  refine⟨rfl,_,⟨2,(0,psO ws (q0+1))::[(1,zc)]⟩,rfl,rfl,?_⟩
  rw [<- hq1]
  rw [<- qA0] at hR
  refine(qAf ws q1 [tLP] hl q1l (by simp) (by simp)).holds.useT [2] [] rfl (sk) ⟨_,_,rfl,⟨rfl,rfl⟩,_,_,rfl,⟨_,rfl,by decide,rfl⟩,rfl⟩ fun e0 H0 hq=>?_
  rcases h1:qAn ws [tLP] q1 with p | ⟨u1,q2⟩
  ·rw [h1] at hq hR
   obtain⟨rfl,rfl⟩:=hq
   refine⟨rfl,_,_,rfl,rfl,?_⟩
   exact⟨[],[],[],qAV ws p,⟨1,[]⟩,rfl,⟨_,rfl,_,_,rfl,rfl,rfl⟩,trivial,by rw [<- hR];exact⟨rfl,rfl⟩⟩
  rw [h1] at hq hR
  obtain⟨q2l,rfl,rfl⟩:=hq
  refine⟨rfl,_,⟨3,(0,psO ws q2)::[(2,sO [tLP]),(1,zc)]⟩,rfl,rfl,?_⟩
  simp only [qAL] at hR
  refine(qHA ws q2 hl q2l).holds.useT [] [] rfl (sk) (sk) fun e0 H0 hq=>?_
  rcases h2:qCp ws q2 with p | ⟨nm,q3⟩
  ·rw [h2] at hq hR
   obtain⟨rfl,rfl⟩:=hq
   refine⟨rfl,_,_,rfl,rfl,?_⟩
   exact⟨[],[],[],qAV ws p,⟨1,[]⟩,rfl,⟨_,rfl,_,_,rfl,rfl,rfl⟩,trivial,by rw [<- hR];exact⟨rfl,rfl⟩⟩
  rw [h2] at hq hR
  obtain⟨q3l,rfl,rfl⟩:=hq
  refine⟨rfl,_,⟨3,(0,psO ws q3)::[(2,sO [tLP]),(1,zc)]⟩,rfl,rfl,?_⟩
  simp only [qAL] at hR
  refine(qAf ws q3 [tLB,qMY,tRB,tEq] hl q3l (by simp) (by simp)).holds.useT [4] [] rfl (sk) ⟨_,_,rfl,⟨rfl,rfl⟩,_,_,rfl,⟨_,rfl,by decide,rfl⟩,rfl⟩ fun e0 H0 hq=>?_
  rcases h3:qAn ws [tLB,qMY,tRB,tEq] q3 with p | ⟨u3,q4⟩
  ·rw [h3] at hq hR
   obtain⟨rfl,rfl⟩:=hq
   refine⟨rfl,_,_,rfl,rfl,?_⟩
   exact⟨[],[],[],qAV ws p,⟨1,[]⟩,rfl,⟨_,rfl,_,_,rfl,rfl,rfl⟩,trivial,by rw [<- hR];exact⟨rfl,rfl⟩⟩
  rw [h3] at hq hR
  obtain⟨q4l,rfl,rfl⟩:=hq
  refine⟨rfl,_,⟨5,(0,psO ws q4)::[(4,sO [tLB,qMY,tRB,tEq]),(3,lf 6 0 0 0 ⟨nm,3,[],0⟩),(2,sO [tLP]),(1,zc)]⟩,rfl,rfl,?_⟩
  simp only [qAL] at hR
  refine(qBa ws q4 hg q4l).holds.useT [] [] rfl (sk) (sk) fun e0 H0 hq=>?_
  rcases h4:qDV ws q4 with p | ⟨v,q5⟩
  ·rw [h4] at hq hR
   obtain⟨rfl,rfl⟩:=hq
   refine⟨rfl,_,_,rfl,rfl,?_⟩
   exact⟨[],[],[],qAV ws p,⟨1,[]⟩,rfl,⟨_,rfl,_,_,rfl,rfl,rfl⟩,trivial,by rw [<- hR];exact⟨rfl,rfl⟩⟩
  rw [h4] at hq hR
  obtain⟨q5l,rfl,rfl⟩:=hq
  refine⟨rfl,_,⟨5,(0,psO ws q5)::[(4,sO [tLB,qMY,tRB,tEq]),(3,lf 6 0 0 0 ⟨nm,3,[],0⟩),(2,sO [tLP]),(1,zc)]⟩,rfl,rfl,?_⟩
  simp only [qAL] at hR
  rw [<- qA0] at hR
  refine(qAf ws q5 [tRP] hl q5l (by simp) (by simp)).holds.useT [5] [] rfl (sk) ⟨_,_,rfl,⟨rfl,rfl⟩,_,_,rfl,⟨_,rfl,by decide,rfl⟩,rfl⟩ fun e0 H0 hq=>?_
  rcases h5:qAn ws [tRP] q5 with p | ⟨u5,q6⟩
  ·rw [h5] at hq hR
   obtain⟨rfl,rfl⟩:=hq
   refine⟨rfl,_,_,rfl,rfl,?_⟩
   exact⟨[],[],[],qAV ws p,⟨1,[]⟩,rfl,⟨_,rfl,_,_,rfl,rfl,rfl⟩,trivial,by rw [<- hR];exact⟨rfl,rfl⟩⟩
  rw [h5] at hq hR
  obtain⟨q6l,rfl,rfl⟩:=hq
  refine⟨rfl,_,⟨6,(0,psO ws q6)::[(5,sO [tRP]),(4,sO [tLB,qMY,tRB,tEq]),(3,lf 6 0 0 v ⟨nm,3,[],0⟩),(2,sO [tLP]),(1,zc)]⟩,rfl,rfl,?_⟩
  simp only [qAL] at hR
  refine(qH9 ws q6 hl q6l).holds.useT [] [] rfl (sk) (sk) fun e0 H0 hq=>?_
  rcases h6:qRN ws q6 with p | ⟨r,q7⟩
  ·rw [h6] at hq hR
   obtain⟨rfl,rfl⟩:=hq
   refine⟨rfl,_,_,rfl,rfl,?_⟩
   exact⟨[],[],[],qAV ws p,⟨1,[]⟩,rfl,⟨_,rfl,_,_,rfl,rfl,rfl⟩,trivial,by rw [<- hR];exact⟨rfl,rfl⟩⟩
  rw [h6] at hq hR
  obtain⟨q7l,rfl,rfl⟩:=hq
  refine⟨rfl,_,⟨6,(0,psO ws q7)::[(5,sO [tRP]),(4,sO [tLB,qMY,tRB,tEq]),(3,lf 6 0 0 v ⟨nm,3,[],0⟩),(2,sO [tLP]),(1,zc)]⟩,rfl,rfl,?_⟩
  simp only [qAL] at hR
  refine(qBa ws q7 hg q7l).holds.useT [] [] rfl (sk) (sk) fun e0 H0 hq=>?_
  rcases h7:qDV ws q7 with p | ⟨n,q8⟩
  ·rw [h7] at hq hR
   obtain⟨rfl,rfl⟩:=hq
   refine⟨rfl,_,_,rfl,rfl,?_⟩
   exact⟨[],[],[],qAV ws p,⟨1,[]⟩,rfl,⟨_,rfl,_,_,rfl,rfl,rfl⟩,trivial,by rw [<- hR];exact⟨rfl,rfl⟩⟩
  rw [h7] at hq hR
  obtain⟨q8l,rfl,rfl⟩:=hq
  refine⟨rfl,_,⟨6,(0,psO ws q8)::[(5,sO [tRP]),(4,sO [tLB,qMY,tRB,tEq]),(3,lf 6 0 r v ⟨nm,3,[],0⟩),(2,sO [tLP]),(1,zc)]⟩,rfl,rfl,?_⟩
  simp only [qAL] at hR
  exact⟨[],[],[], .returned (.p (.agg [i64 6,i64 n,i64 r,i64 v, .str nm,i64 3, .str [],i64 0, .nils, .nils])),psH ws q8,rfl,sk,sk,by rw [<- hR];exact⟨q8l,⟨_,rfl,qAq 6 n r v ⟨nm,3,[],0⟩⟩,rfl⟩⟩
 rw [if_neg c2] at hR
 refine(qAv ws q0 qH2 hl hq0).holds.useT [] [] rfl (sk) (sk) fun e0 H0 hq=>?_
 obtain⟨rfl,rfl⟩:=hq.2 c2
 refine⟨rfl,_,⟨2,(0,psO ws q0)::[(1,zc)]⟩,rfl,rfl,?_⟩
 refine(qUl ws q0 hg hq0).holds.useT [] [] rfl (sk) (sk) fun e0 H0 hq=>?_
 rcases h1:qJ8 ws q0 with p | ⟨rf,q1⟩
 ·rw [h1] at hq hR
  obtain⟨rfl,rfl⟩:=hq
  refine⟨rfl,_,_,rfl,rfl,?_⟩
  exact⟨[],[],[],qAV ws p,⟨1,[]⟩,rfl,⟨_,rfl,_,_,rfl,rfl,rfl⟩,trivial,by rw [<- hR];exact⟨rfl,rfl⟩⟩
 rw [h1] at hq hR
 obtain⟨q1l,rfl,rfl⟩:=hq
 refine⟨rfl,_,⟨2,(0,psO ws q1)::[(1,zc)]⟩,rfl,rfl,?_⟩
 simp only [qAL] at hR
 by_cases c3:txt ws q1=tIn
 rotate_left
 ·rw [if_neg c3] at hR
  refine(qAv ws q1 tIn hl q1l).holds.useT [] [] rfl (sk) (sk) fun e0 H0 hq=>?_
  obtain⟨rfl,rfl⟩:=hq.2 c3
  refine⟨rfl,_,⟨3,(0,psO ws q1)::[(2,lf 0 0 0 0 rf),(1,zc)]⟩,rfl,rfl,?_⟩
  refine(qH9 ws q1 hl q1l).holds.useT [] [] rfl (sk) (sk) fun e0 H0 hq=>?_
  rcases h2:qRN ws q1 with p | ⟨o,q2⟩
  ·rw [h2] at hq hR
   obtain⟨rfl,rfl⟩:=hq
   refine⟨rfl,_,_,rfl,rfl,?_⟩
   exact⟨[],[],[],qAV ws p,⟨1,[]⟩,rfl,⟨_,rfl,_,_,rfl,rfl,rfl⟩,trivial,by rw [<- hR];exact⟨rfl,rfl⟩⟩
  rw [h2] at hq hR
  obtain⟨q2l,rfl,rfl⟩:=hq
  refine⟨rfl,_,⟨3,(0,psO ws q2)::[(2,lf 0 0 0 0 rf),(1,zc)]⟩,rfl,rfl,?_⟩
  simp only [qAL] at hR
  refine(qBa ws q2 hg q2l).holds.useT [] [] rfl (sk) (sk) fun e0 H0 hq=>?_
  rcases h3:qDV ws q2 with p | ⟨n,q3⟩
  ·rw [h3] at hq hR
   obtain⟨rfl,rfl⟩:=hq
   refine⟨rfl,_,_,rfl,rfl,?_⟩
   exact⟨[],[],[],qAV ws p,⟨1,[]⟩,rfl,⟨_,rfl,_,_,rfl,rfl,rfl⟩,trivial,by rw [<- hR];exact⟨rfl,rfl⟩⟩
  rw [h3] at hq hR
  obtain⟨q3l,rfl,rfl⟩:=hq
  refine⟨rfl,_,⟨3,(0,psO ws q3)::[(2,lf o 0 0 0 rf),(1,zc)]⟩,rfl,rfl,?_⟩
  simp only [qAL] at hR
  exact⟨[],[],[], .returned (.p (.agg [i64 o,i64 n,i64 0,i64 0, .str rf.name,i64 rf.mode, .str rf.plate,i64 rf.n, .nils, .nils])),psH ws q3,rfl,sk,sk,by rw [<- hR];exact⟨q3l,⟨_,rfl,qAq o n 0 0 rf⟩,rfl⟩⟩
 have q2l:q1+1<=ws.length:=qBS (by rw [c3];decide)
 rw [if_pos c3] at hR
 refine(qAv ws q1 tIn hl q1l).holds.useT [] [] rfl (sk) (sk) fun e0 H0 hq=>?_
 obtain⟨rfl,rfl⟩:=hq.1 c3
 refine⟨rfl,_,⟨3,(0,psO ws (q1+1))::[(2,lf 0 0 0 0 rf),(1,zc)]⟩,rfl,rfl,?_⟩
 obtain⟨q2,hq2⟩:∃ q2,q2=q1+1:=⟨_,rfl⟩
 rw [<- hq2] at hR q2l
 rw [<- hq2]
 rw [<- qA0] at hR
 refine(qAf ws q2 [tLC] hl q2l (by simp) (by simp)).holds.useT [3] [] rfl (sk) ⟨_,_,rfl,⟨rfl,rfl⟩,_,_,rfl,⟨_,rfl,by decide,rfl⟩,rfl⟩ fun e0 H0 hq=>?_
 rcases h2:qAn ws [tLC] q2 with p | ⟨u2,q3⟩
 ·rw [h2] at hq hR
  obtain⟨rfl,rfl⟩:=hq
  refine⟨rfl,_,_,rfl,rfl,?_⟩
  exact⟨[],[],[],qAV ws p,⟨1,[]⟩,rfl,⟨_,rfl,_,_,rfl,rfl,rfl⟩,trivial,by rw [<- hR];exact⟨rfl,rfl⟩⟩
 rw [h2] at hq hR
 obtain⟨q3l,rfl,rfl⟩:=hq
 refine⟨rfl,_,⟨4,(0,psO ws q3)::[(3,sO [tLC]),(2,lf 5 0 0 0 rf),(1,zc)]⟩,rfl,rfl,?_⟩
 simp only [qAL] at hR
 have hlt:=qJ7 h1
 have hm2:=qAr (ws:=ws) (s:=tLC) (q:=q2) (q':=q3) (u:=u2) (by rw [<- qA0];exact h2)
 refine(qLo ws F q3 (by omega) hg q3l).holds.useT [] [] rfl (sk) ⟨_,_,rfl,⟨rfl,_,_,rfl,⟨_,_,rfl,⟨rfl,rfl⟩,rfl⟩,rfl⟩,_,_,rfl,⟨rfl,_,_,rfl,⟨_,_,rfl,⟨rfl,rfl⟩,rfl⟩,rfl⟩,rfl⟩ fun e0 H0 hq=>?_
 rcases h3:qFp ws (qDV ws) F q3 with p | ⟨l,q4⟩
 ·rw [h3] at hq hR
  obtain⟨rfl,rfl⟩:=hq
  refine⟨rfl,_,_,rfl,rfl,?_⟩
  exact⟨[],[],[],qAV ws p,⟨1,[]⟩,rfl,⟨_,rfl,_,_,rfl,rfl,rfl⟩,trivial,by rw [<- hR];exact⟨rfl,rfl⟩⟩
 rw [h3] at hq hR
 obtain⟨⟨q4l,hll⟩,rfl,rfl⟩:=hq
 refine⟨rfl,_,⟨5,[(4,iO l),(0,psO ws q4),(3,sO [tLC]),(2,lf 5 0 0 0 rf),(1,zc)]⟩,rfl,rfl,?_⟩
 simp only [qAL] at hR
 rw [<- qA0] at hR
 refine(qAf ws q4 [tRC] hl q4l (by simp) (by simp)).holds.useT [5] [] rfl (sk) ⟨_,_,rfl,⟨rfl,rfl⟩,_,_,rfl,⟨_,rfl,by decide,rfl⟩,rfl⟩ fun e0 H0 hq=>?_
 rcases h4:qAn ws [tRC] q4 with p | ⟨u4,q5⟩
 ·rw [h4] at hq hR
  obtain⟨rfl,rfl⟩:=hq
  refine⟨rfl,_,_,rfl,rfl,?_⟩
  exact⟨[],[],[],qAV ws p,⟨1,[]⟩,rfl,⟨_,rfl,_,_,rfl,rfl,rfl⟩,trivial,by rw [<- hR];exact⟨rfl,rfl⟩⟩
 rw [h4] at hq hR
 obtain⟨q5l,rfl,rfl⟩:=hq
 refine⟨rfl,_,⟨6,(0,psO ws q5)::[(5,sO [tRC]),(4,iO l),(3,sO [tLC]),(2,lfS rf l.length),(1,zc)]⟩,rfl,rfl,?_⟩
 simp only [qAL] at hR
 refine(qUZ l (by omega)).holds.useT [] [(0,4)] rfl (sk) (sk) fun e0 H0 hq=>?_
 obtain⟨ys,hp,hs,rfl,rfl⟩:=hq
 have hlen:=hp.length_eq
 refine⟨rfl,_,⟨6,[(4,iO ys),(0,psO ws q5),(5,sO [tRC]),(3,sO [tLC]),(2,lfS rf l.length),(1,zc)]⟩,rfl,rfl,?_⟩
 have hCp:=qQY ys (by omega)
 rw [hlen] at hCp
 have hcl:=qQa ys
 refine hCp.holds.useT [] [(0,4)] rfl (sk) (sk) fun e0 H0 hq=>?_
 obtain⟨rfl,rfl⟩:=hq
 refine⟨rfl,_,⟨6,[(4,iO (qEM ys++List.replicate (l.length - (qEM ys).length) 0)),(0,psO ws q5),(5,sO [tRC]),(3,sO [tLC]),(2,lfS rf l.length),(1,zc)]⟩,rfl,rfl,?_⟩
 rw [<- qNu hp hs] at hR
 refine⟨[4],[],[], .returned (.p (Cd.mk 5 0 0 0 rf (qEM ys) []).pv),psH ws q5,rfl,⟨_,rfl,?_⟩,sk,by rw [<- hR];exact⟨q5l,⟨_,rfl,NilD.refl _⟩,rfl⟩⟩
 refine⟨_,rfl,_,_,rfl,rfl,_,_,rfl,rfl,_,_,rfl,rfl,_,_,rfl,rfl,_,_,rfl,rfl,_,_,rfl,rfl,_,_,rfl,rfl,_,_,rfl,rfl,_,_,rfl,⟨(qEM ys).map i64,rfl,by show 0+(qEM ys).length<=((qEM ys++List.replicate (l.length - (qEM ys).length) 0).map i64).length;simp,?_⟩,_,_,rfl, .inr (.inr ⟨10,rfl⟩),rfl⟩
 show(qEM ys).map i64=(((qEM ys++List.replicate (l.length - (qEM ys).length) 0).map i64).drop 0).take (qEM ys).length
 rw [List.drop_zero,List.map_append,List.take_left' (List.length_map ..)]
theorem qSI {ws:List Wd} {q q':Nat} {n:Int} (h:qRN ws q=.inr (n,q')):q<q':=by
 rw [qRN] at h
 split at h
 ·injection h with h;injection h with h1 h2;omega
 ·split at h
  ·injection h with h;injection h with h1 h2;omega
  ·split at h
   ·injection h with h;injection h with h1 h2;omega
   ·split at h
    ·injection h with h;injection h with h1 h2;omega
    ·cases h
theorem qPp {α:Type} {ws:List Wd} {rd:Nat->Rd α} (hrd:∀ q a q',rd q=.inr (a,q')->q<q'):∀ (f:Nat) {acc l:List α} {q q':Nat},qFD ws rd f acc q=.inr (l,q')->q<=q'
 | 0,_,_,_,_,h=>by cases h
 | f+1,acc,l,q,q',h=>by
  rw [qFD] at h
  split at h
  ·obtain⟨a,q1,h1,h⟩:=then_ok h
   have:=hrd _ _ _ h1
   have:=qPp hrd f h
   omega
  ·injection h with h;injection h with h1 h2;omega
theorem qPw {α:Type} {ws:List Wd} {rd:Nat->Rd α} (hrd:∀ q a q',rd q=.inr (a,q')->q<q') {F q q':Nat} {l:List α} (h:qFp ws rd F q=.inr (l,q')):q<q':=by
 rw [qFp] at h
 obtain⟨a,q1,h1,h⟩:=then_ok h
 have:=hrd _ _ _ h1
 have:=qPp hrd F h
 omega
structure CLt (ws:List Wd) (F:Nat):Prop where
 cond:∀ {q c q'},qDc ws F q=.inr (c,q')->q<q'
 orr:∀ {d q c q'},orR ws F d q=.inr (c,q')->q<=q'
 conj:∀ {q c q'},qDL ws F q=.inr (c,q')->q<q'
 andr:∀ {d q c q'},qOc ws F d q=.inr (c,q')->q<=q'
 neg:∀ {q c q'},qIQ ws F q=.inr (c,q')->q<q'
 test:∀ {q c q'},qGJ ws F q=.inr (c,q')->q<q'
theorem qVv (ws:List Wd):∀ F,CLt ws F
 | 0=>by
  constructor
  ·intro q c q' h;rw [qDc] at h;cases h
  ·intro d q c q' h;rw [orR] at h;cases h
  ·intro q c q' h;rw [qDL] at h;cases h
  ·intro d q c q' h;rw [qOc] at h;cases h
  ·intro q c q' h;rw [qIQ] at h;cases h
  ·intro q c q' h;rw [qGJ] at h;cases h
 | F+1=>by
  have ih:=qVv ws F
  constructor
  ·intro q c q' h
   rw [qDc] at h
   obtain⟨a,p,h1,h⟩:=then_ok h
   have:=ih.conj h1
   have:=ih.orr h
   omega
  ·intro d q c q' h
   rw [orR] at h
   split at h
   ·obtain⟨a,p,h1,h⟩:=then_ok h
    have:=ih.conj h1
    have:=ih.orr h
    omega
   ·injection h with h;injection h with h1 h2;omega
  ·intro q c q' h
   rw [qDL] at h
   obtain⟨a,p,h1,h⟩:=then_ok h
   have:=ih.neg h1
   have:=ih.andr h
   omega
  ·intro d q c q' h
   rw [qOc] at h
   split at h
   ·obtain⟨a,p,h1,h⟩:=then_ok h
    have:=ih.neg h1
    have:=ih.andr h
    omega
   ·injection h with h;injection h with h1 h2;omega
  ·intro q c q' h
   rw [qIQ] at h
   split at h
   ·obtain⟨a,p,h1,h⟩:=then_ok h
    have:=ih.neg h1
    injection h with h;injection h with h1 h2;omega
   ·exact ih.test h
  ·intro q c q' h
   rw [qGJ] at h
   split at h
   ·obtain⟨a,p,h1,h⟩:=then_ok h
    have:=ih.cond h1
    obtain⟨u,p2,h2,h⟩:=then_ok h
    have:=qAr h2
    injection h with h;injection h with h1 h2;omega
   ·split at h
    ·obtain⟨u,p1,h1,h⟩:=then_ok h
     have:=qAr h1
     obtain⟨nm,p2,h2,h⟩:=then_ok h
     have:=qEn h2
     obtain⟨u3,p3,h3,h⟩:=then_ok h
     obtain⟨v,p4,h4,h⟩:=then_ok h
     have:=qCe h4
     obtain⟨u5,p5,h5,h⟩:=then_ok h
     have:=qAr h5
     obtain⟨r,p6,h6,h⟩:=then_ok h
     have:=qSI h6
     obtain⟨n,p7,h7,h⟩:=then_ok h
     have:=qCe h7
     have h3':p2<=p3:=by
      rw [qAn] at h3
      obtain⟨_,a1,g1,h3⟩:=then_ok h3
      rw [qAn] at h3
      obtain⟨_,a2,g2,h3⟩:=then_ok h3
      rw [qAn] at h3
      obtain⟨_,a3,g3,h3⟩:=then_ok h3
      rw [qAn] at h3
      obtain⟨_,a4,g4,h3⟩:=then_ok h3
      have:=qAr g1
      have:=qAr g2
      have:=qAr g3
      have:=qAr g4
      injection h3 with h3;injection h3 with h3 h3';omega
     injection h with h;injection h with h1 h2;omega
    ·obtain⟨r,p1,h1,h⟩:=then_ok h
     have:=qJ7 h1
     try simp only [] at h
     split at h
     ·obtain⟨u,p2,h2,h⟩:=then_ok h
      have:=qAr h2
      obtain⟨l,p3,h3,h⟩:=then_ok h
      have:=qPw (fun q a q' h=>qCe h) h3
      obtain⟨u4,p4,h4,h⟩:=then_ok h
      have:=qAr h4
      injection h with h;injection h with h1 h2;omega
     ·obtain⟨o,p2,h2,h⟩:=then_ok h
      have:=qSI h2
      obtain⟨n,p3,h3,h⟩:=then_ok h
      have:=qCe h3
      injection h with h;injection h with h1 h2;omega
theorem qSQ {ws:List Wd} (F:Nat) {q q':Nat} {c:Cd} (h:qIQ ws F q=.inr (c,q')):q<q':=(qVv ws F).neg h
theorem qQW {ws:List Wd} (F:Nat) {q q':Nat} {c:Cd} (h:qDL ws F q=.inr (c,q')):q<q':=(qVv ws F).conj h
def ngF:AV:=.fn (.func 151) [.ptr 0 0 0] []
def cjF:AV:=.fn (.func 150) [] [.ptr 1 0 0]
theorem qWR (ws:List Wd) (F q0:Nat) (hg:GoodW ws) (hq0:q0<=ws.length) (hF:4 * (ws.length - q0)+3<=F+1) (hC:∀ q,q<=ws.length->∀ f,f<=F->4 * (ws.length - q)+2<=f->HoldsG cx 151 [.ptr 0 0 0] (psH ws q) (cdQ ws (qIQ ws f q))) :
  HoldsG cx 149 [.ptr 0 0 0, .p (.str qOY), .p (i64 8),ngF] (psH ws q0) (rdQ ws (qDL ws (F+1) q0) fun c=>.p c.pv):=by
 generalize hR:qDL ws (F+1) q0=R
 rw [qDL] at hR
 refine qAC Tryz.func149 rfl rfl rfl ?_
 have hl:=hg.len
 refine(hC q0 hq0 F (Nat.le_refl _) (by omega)).holds.useT [] [] rfl (sk) (sk) fun e0 H0 hq=>?_
 rcases h1:qIQ ws F q0 with p | ⟨⟨o,n,rl,vl,rf,st,ar⟩,q1⟩
 ·rw [h1] at hq hR
  obtain⟨rfl,rfl⟩:=hq
  refine⟨rfl,_,_,rfl,rfl,?_⟩
  exact⟨[],[],[],qAV ws p,⟨1,[]⟩,rfl,⟨_,rfl,_,_,rfl,rfl,rfl⟩,trivial,by rw [<- hR];exact⟨rfl,rfl⟩⟩
 rw [h1] at hq hR
 obtain⟨q1l,rfl,rfl⟩:=hq
 have hlt:=qSQ F h1
 refine⟨rfl,_,⟨2,(0,psO ws q1)::[(1,zc)]⟩,rfl,rfl,?_⟩
 simp only [qAL] at hR
 refine⟨Cd × Nat,fun x=>[(0, .ptr 0 0 0),(1, .p (.str qOY)),(2, .p (i64 8)),(3,ngF),(8, .ptr 1 0 0),(9, .ptr 2 0 0)],fun x=>⟨3,[(2,cO (x.1.cells.map .p)),(0,psO ws x.2),(1,zc)]⟩,fun x=>x.2<=ws.length/\∃ f,f<=F/\4 * (ws.length - x.2)+2<=f/\R=qOc ws f x.1 x.2,fun x=>ws.length - x.2,?_,?_⟩
 ·exact⟨(.mk o n rl vl rf st ar,q1),⟨q1l,F,Nat.le_refl _,by simp only [];omega,hR.symm⟩,qAA [] [] [] rfl ⟨⟨rfl,rfl⟩,rfl,rfl,⟨rfl,_,_,rfl,⟨_,_,rfl,⟨rfl,rfl⟩,rfl⟩,rfl⟩,⟨rfl,rfl⟩,⟨rfl,rfl⟩,trivial⟩ (sk) rfl⟩
 rintro⟨⟨o,n,rl,vl,rf,st,ar⟩,q⟩ ⟨k1,f,k0,k2,k3⟩
 simp only [] at k1 k0 k2 k3
 obtain⟨f,rfl⟩:∃ g,f=g+1:=⟨f - 1,by omega⟩
 rw [qOc] at k3
 by_cases c1:txt ws q=qOY
 ·have ql:q+1<=ws.length:=qBS (by rw [c1];decide)
  rw [if_pos c1] at k3
  refine(qAv ws q qOY hl k1).holds.useT [] [] rfl (sk) (sk) fun e0 H0 hq=>?_
  obtain⟨rfl,rfl⟩:=hq.1 c1
  refine⟨rfl,_,⟨3,(0,psO ws (q+1))::[(2,cO ((Cd.mk o n rl vl rf st ar).cells.map .p)),(1,zc)]⟩,rfl,rfl,?_⟩
  refine VDraw.seq rfl ?_
  refine(hC (q+1) ql f (by omega) (by omega)).holds.useT [] [] rfl (sk) (sk) fun e0 H0 hq=>?_
  rcases h2:qIQ ws f (q+1) with p | ⟨⟨o',n',rl',vl',rf',st',ar'⟩,q2⟩
  ·rw [h2] at hq k3
   obtain⟨rfl,rfl⟩:=hq
   refine⟨rfl,_,_,rfl,rfl,?_⟩
   exact⟨[],[],[],qAV ws p,⟨1,[]⟩,rfl,⟨_,rfl,_,_,rfl,rfl,rfl⟩,trivial,by rw [k3];exact⟨rfl,rfl⟩⟩
  rw [h2] at hq k3
  obtain⟨q2l,rfl,rfl⟩:=hq
  have hlt2:=qSQ f h2
  refine⟨rfl,_,⟨3,(0,psO ws q2)::[(2,cO ((Cd.mk o n rl vl rf st ar).cells.map .p)),(1,zc)]⟩,rfl,rfl,?_⟩
  refine⟨sk,?_⟩
  exact⟨(.mk 8 0 0 0 rf0 [] [.mk o n rl vl rf st ar, .mk o' n' rl' vl' rf' st' ar'],q2),⟨q2l,f,by omega,by simp only [];omega,k3⟩,qAA [3] [] [] rfl ⟨⟨rfl,rfl⟩,rfl,rfl,⟨rfl,_,_,rfl,⟨_,_,rfl,⟨rfl,rfl⟩,rfl⟩,rfl⟩,⟨rfl,rfl⟩,⟨rfl,rfl⟩,trivial⟩
   ⟨⟨_,rfl,rfl,rfl,_,rfl,_,_,rfl,rfl,_,_,rfl,rfl,_,_,rfl,rfl,_,_,rfl,rfl,_,_,rfl,rfl,_,_,rfl,rfl,_,_,rfl,rfl,_,_,rfl,rfl,_,_,rfl, .inr (.inl rfl),_,_,rfl,⟨_,rfl,by show 0+2<=2;omega,rfl⟩,rfl⟩,sk⟩ rfl,by show ws.length - q2<ws.length - q;omega⟩
 ·rw [if_neg c1] at k3
  refine(qAv ws q qOY hl k1).holds.useT [] [] rfl (sk) (sk) fun e0 H0 hq=>?_
  obtain⟨rfl,rfl⟩:=hq.2 c1
  refine⟨rfl,_,⟨3,(0,psO ws q)::[(2,cO ((Cd.mk o n rl vl rf st ar).cells.map .p)),(1,zc)]⟩,rfl,rfl,?_⟩
  exact⟨[],[],[], .returned (.p (Cd.mk o n rl vl rf st ar).pv),psH ws q,rfl,sk,sk,by rw [k3];exact⟨k1,rfl,rfl⟩⟩
theorem qXN (ws:List Wd) (F q0:Nat) (hg:GoodW ws) (hq0:q0<=ws.length) (hF:4 * (ws.length - q0)+4<=F+1) (hC:∀ q,q<=ws.length->∀ f,f<=F->4 * (ws.length - q)+3<=f->HoldsG cx 150 [.ptr 1 0 0] (pbH ws q) (qSJ ws (qDL ws f q) fun c=>.p c.pv)) :
  HoldsG cx 149 [.ptr 0 0 0, .p (.str tOr), .p (i64 9),cjF] (pbH ws q0) (qSJ ws (qDc ws (F+1) q0) fun c=>.p c.pv):=by
 generalize hR:qDc ws (F+1) q0=R
 rw [qDc] at hR
 refine qAC Tryz.func149 rfl rfl rfl ?_
 have hl:=hg.len
 refine(hC q0 hq0 F (Nat.le_refl _) (by omega)).holds.useT [] [] rfl (sk) (sk) fun e0 H0 hq=>?_
 rcases h1:qDL ws F q0 with p | ⟨⟨o,n,rl,vl,rf,st,ar⟩,q1⟩
 ·rw [h1] at hq hR
  obtain⟨rfl,rfl⟩:=hq
  refine⟨rfl,_,_,rfl,rfl,?_⟩
  exact⟨[],[],[],qAV ws p,⟨2,[]⟩,rfl,⟨_,rfl,_,_,rfl,rfl,rfl⟩,trivial,by rw [<- hR];exact⟨rfl,rfl⟩⟩
 rw [h1] at hq hR
 obtain⟨q1l,rfl,rfl⟩:=hq
 have hlt:=qQW F h1
 refine⟨rfl,_,⟨3,(0,psO ws q1)::[(1,bxO),(2,zc)]⟩,rfl,rfl,?_⟩
 simp only [qAL] at hR
 refine⟨Cd × Nat,fun x=>[(0, .ptr 0 0 0),(1, .p (.str tOr)),(2, .p (i64 9)),(3,cjF),(8, .ptr 2 0 0),(9, .ptr 3 0 0)],fun x=>⟨4,[(3,cO (x.1.cells.map .p)),(0,psO ws x.2),(1,bxO),(2,zc)]⟩,fun x=>x.2<=ws.length/\∃ f,f<=F/\4 * (ws.length - x.2)+3<=f/\R=orR ws f x.1 x.2,fun x=>ws.length - x.2,?_,?_⟩
 ·exact⟨(.mk o n rl vl rf st ar,q1),⟨q1l,F,Nat.le_refl _,by simp only [];omega,hR.symm⟩,qAA [] [] [] rfl ⟨⟨rfl,rfl⟩,rfl,rfl,⟨rfl,_,_,rfl,rfl,⟨_,_,rfl,⟨rfl,rfl⟩,rfl⟩⟩,⟨rfl,rfl⟩,⟨rfl,rfl⟩,trivial⟩ (sk) rfl⟩
 rintro⟨⟨o,n,rl,vl,rf,st,ar⟩,q⟩ ⟨k1,f,k0,k2,k3⟩
 simp only [] at k1 k0 k2 k3
 obtain⟨f,rfl⟩:∃ g,f=g+1:=⟨f - 1,by omega⟩
 rw [orR] at k3
 by_cases c1:txt ws q=tOr
 ·have ql:q+1<=ws.length:=qBS (by rw [c1];decide)
  rw [if_pos c1] at k3
  refine(qAv ws q tOr hl k1).holds.useT [] [] rfl (sk) (sk) fun e0 H0 hq=>?_
  obtain⟨rfl,rfl⟩:=hq.1 c1
  refine⟨rfl,_,⟨4,(0,psO ws (q+1))::[(3,cO ((Cd.mk o n rl vl rf st ar).cells.map .p)),(1,bxO),(2,zc)]⟩,rfl,rfl,?_⟩
  refine VDraw.seq rfl ?_
  refine(hC (q+1) ql f (by omega) (by omega)).holds.useT [] [] rfl (sk) (sk) fun e0 H0 hq=>?_
  rcases h2:qDL ws f (q+1) with p | ⟨⟨o',n',rl',vl',rf',st',ar'⟩,q2⟩
  ·rw [h2] at hq k3
   obtain⟨rfl,rfl⟩:=hq
   refine⟨rfl,_,_,rfl,rfl,?_⟩
   exact⟨[],[],[],qAV ws p,⟨2,[]⟩,rfl,⟨_,rfl,_,_,rfl,rfl,rfl⟩,trivial,by rw [k3];exact⟨rfl,rfl⟩⟩
  rw [h2] at hq k3
  obtain⟨q2l,rfl,rfl⟩:=hq
  have hlt2:=qQW f h2
  refine⟨rfl,_,⟨4,(0,psO ws q2)::[(1,bxO),(3,cO ((Cd.mk o n rl vl rf st ar).cells.map .p)),(2,zc)]⟩,rfl,rfl,?_⟩
  refine⟨sk,?_⟩
  exact⟨(.mk 9 0 0 0 rf0 [] [.mk o n rl vl rf st ar, .mk o' n' rl' vl' rf' st' ar'],q2),⟨q2l,f,by omega,by simp only [];omega,k3⟩,qAA [4] [] [] rfl ⟨⟨rfl,rfl⟩,rfl,rfl,⟨rfl,_,_,rfl,rfl,⟨_,_,rfl,⟨rfl,rfl⟩,rfl⟩⟩,⟨rfl,rfl⟩,⟨rfl,rfl⟩,trivial⟩
   ⟨⟨_,rfl,rfl,rfl,_,rfl,_,_,rfl,rfl,_,_,rfl,rfl,_,_,rfl,rfl,_,_,rfl,rfl,_,_,rfl,rfl,_,_,rfl,rfl,_,_,rfl,rfl,_,_,rfl,rfl,_,_,rfl, .inr (.inl rfl),_,_,rfl,⟨_,rfl,by show 0+2<=2;omega,rfl⟩,rfl⟩,sk⟩ rfl,by show ws.length - q2<ws.length - q;omega⟩
 ·rw [if_neg c1] at k3
  refine(qAv ws q tOr hl k1).holds.useT [] [] rfl (sk) (sk) fun e0 H0 hq=>?_
  obtain⟨rfl,rfl⟩:=hq.2 c1
  refine⟨rfl,_,⟨4,(0,psO ws q)::[(3,cO ((Cd.mk o n rl vl rf st ar).cells.map .p)),(1,bxO),(2,zc)]⟩,rfl,rfl,?_⟩
  exact⟨[],[],[], .returned (.p (Cd.mk o n rl vl rf st ar).pv),pbH ws q,rfl,sk,sk,by rw [k3];exact⟨k1,rfl,rfl⟩⟩
structure CAll (ws:List Wd) (f:Nat):Prop where
 cond:∀ q,q<=ws.length->4 * (ws.length - q)+4<=f->qNi ws f q
 conj:∀ q,q<=ws.length->4 * (ws.length - q)+3<=f->HoldsG cx 150 [.ptr 1 0 0] (pbH ws q) (qSJ ws (qDL ws f q) fun c=>.p c.pv)
 neg:∀ q,q<=ws.length->4 * (ws.length - q)+2<=f->HoldsG cx 151 [.ptr 0 0 0] (psH ws q) (cdQ ws (qIQ ws f q))
 test:∀ q,q<=ws.length->4 * (ws.length - q)+1<=f->HoldsG cx 155 [.ptr 0 0 0] (psH ws q) (cdQ ws (qGJ ws f q))
theorem qWH (ws:List Wd) (F q0:Nat) (hg:GoodW ws) (hq0:q0<=ws.length) (hF:4 * (ws.length - q0)+2<=F+1) (ih:CAll ws F) :
  HoldsG cx 151 [.ptr 0 0 0] (psH ws q0) (cdQ ws (qIQ ws (F+1) q0)):=by
 generalize hR:qIQ ws (F+1) q0=R
 rw [qIQ] at hR
 refine qAC Tryz.func151 rfl rfl rfl ?_
 have hl:=hg.len
 by_cases c1:txt ws q0=qQy
 ·have q1l:q0+1<=ws.length:=qBS (by rw [c1];decide)
  rw [if_pos c1] at hR
  refine(qAv ws q0 qQy hl hq0).holds.useT [] [] rfl (sk) (sk) fun e0 H0 hq=>?_
  obtain⟨rfl,rfl⟩:=hq.1 c1
  refine⟨rfl,_,⟨2,(0,psO ws (q0+1))::[(1,zc)]⟩,rfl,rfl,?_⟩
  refine(ih.neg (q0+1) q1l (by omega)).holds.useT [] [] rfl (sk) (sk) fun e0 H0 hq=>?_
  rcases h1:qIQ ws F (q0+1) with p | ⟨⟨o,n,rl,vl,rf,st,ar⟩,q2⟩
  ·rw [h1] at hq hR
   obtain⟨rfl,rfl⟩:=hq
   refine⟨rfl,_,_,rfl,rfl,?_⟩
   exact⟨[],[],[],qAV ws p,⟨1,[]⟩,rfl,⟨_,rfl,_,_,rfl,rfl,rfl⟩,trivial,by rw [<- hR];exact⟨rfl,rfl⟩⟩
  rw [h1] at hq hR
  obtain⟨q2l,rfl,rfl⟩:=hq
  refine⟨rfl,_,⟨2,(0,psO ws q2)::[(1,zc)]⟩,rfl,rfl,?_⟩
  simp only [qAL] at hR
  exact⟨[2],[],[], .returned (.p (Cd.mk 7 0 0 0 rf0 [] [.mk o n rl vl rf st ar]).pv),psH ws q2,rfl,⟨_,rfl,⟨_,rfl,_,_,rfl,rfl,_,_,rfl,rfl,_,_,rfl,rfl,_,_,rfl,rfl,_,_,rfl,rfl,_,_,rfl,rfl,_,_,rfl,rfl,_,_,rfl,rfl,_,_,rfl, .inr (.inl rfl),_,_,rfl,⟨_,rfl,by show 0+1<=1;omega,rfl⟩,rfl⟩⟩,sk,by rw [<- hR];exact⟨q2l,rfl,rfl⟩⟩
 rw [if_neg c1] at hR
 refine(qAv ws q0 qQy hl hq0).holds.useT [] [] rfl (sk) (sk) fun e0 H0 hq=>?_
 obtain⟨rfl,rfl⟩:=hq.2 c1
 refine⟨rfl,_,⟨2,(0,psO ws q0)::[(1,zc)]⟩,rfl,rfl,?_⟩
 have hc:=ih.test q0 hq0 (by omega)
 rw [hR] at hc
 refine hc.holds.useT [] [] rfl (sk) (sk) fun e0 H0 hq=>?_
 rcases R with p | ⟨⟨o,n,rl,vl,rf,st,ar⟩,q2⟩
 ·obtain⟨rfl,rfl⟩:=hq
  refine⟨rfl,_,_,rfl,rfl,?_⟩
  exact⟨[],[],[],qAV ws p,⟨1,[]⟩,rfl,⟨_,rfl,_,_,rfl,rfl,rfl⟩,trivial,rfl,rfl⟩
 obtain⟨q2l,rfl,rfl⟩:=hq
 refine⟨rfl,_,⟨2,(0,psO ws q2)::[(1,zc)]⟩,rfl,rfl,?_⟩
 exact⟨[],[],[], .returned (.p (Cd.mk o n rl vl rf st ar).pv),psH ws q2,rfl,sk,sk,q2l,rfl,rfl⟩
theorem qVS (ws:List Wd) (F q0:Nat) (hg:GoodW ws) (hq0:q0<=ws.length) (hF:4 * (ws.length - q0)+3<=F+1) (ih:∀ f,f<=F->CAll ws f) :
  HoldsG cx 150 [.ptr 1 0 0] (pbH ws q0) (qSJ ws (qDL ws (F+1) q0) fun c=>.p c.pv):=by
 have hc:=qWR ws F q0 hg hq0 hF fun q hq f hf hb=>(ih f hf).neg q hq hb
 generalize qDL ws (F+1) q0=R at hc ⊢
 refine qAC Tryz.func150 rfl rfl rfl ?_
 refine hc.holds.useT [] [] rfl (sk) ⟨_,_,rfl,⟨rfl,rfl⟩,_,_,rfl,rfl,_,_,rfl,rfl,_,_,rfl,⟨rfl,_,_,rfl,⟨_,_,rfl,⟨rfl,rfl⟩,rfl⟩,rfl⟩,rfl⟩ fun e0 H0 hq=>?_
 rcases R with p | ⟨⟨o,n,rl,vl,rf,st,ar⟩,q2⟩
 ·obtain⟨rfl,rfl⟩:=hq
  refine⟨rfl,_,_,rfl,rfl,?_⟩
  exact⟨[],[],[],qAV ws p,⟨2,[]⟩,rfl,⟨_,rfl,_,_,rfl,rfl,rfl⟩,trivial,rfl,rfl⟩
 obtain⟨q2l,rfl,rfl⟩:=hq
 refine⟨rfl,_,⟨3,(0,psO ws q2)::[(2,zc),(1,bxO)]⟩,rfl,rfl,?_⟩
 exact⟨[],[],[], .returned (.p (Cd.mk o n rl vl rf st ar).pv),pbH ws q2,rfl,sk,sk,q2l,rfl,rfl⟩
theorem qVT (ws:List Wd) (F q0:Nat) (hg:GoodW ws) (hq0:q0<=ws.length) (hF:4 * (ws.length - q0)+4<=F+1) (ih:∀ f,f<=F->CAll ws f):qNi ws (F+1) q0:=by
 have hc:=qXN ws F q0 hg hq0 hF fun q hq f hf hb=>(ih f hf).conj q hq hb
 show HoldsG cx _ _ _ (rdQ ws (qDc ws (F+1) q0) fun c=>.p c.pv)
 generalize qDc ws (F+1) q0=R at hc ⊢
 refine qAC Tryz.func137 rfl rfl rfl ?_
 refine hc.holds.useT [] [] rfl (sk) ⟨_,_,rfl,⟨rfl,rfl⟩,_,_,rfl,rfl,_,_,rfl,rfl,_,_,rfl,⟨rfl,_,_,rfl,rfl,⟨_,_,rfl,⟨rfl,rfl⟩,rfl⟩⟩,rfl⟩ fun e0 H0 hq=>?_
 rcases R with p | ⟨⟨o,n,rl,vl,rf,st,ar⟩,q2⟩
 ·obtain⟨rfl,rfl⟩:=hq
  refine⟨rfl,_,_,rfl,rfl,?_⟩
  exact⟨[],[],[],qAV ws p,⟨1,[]⟩,rfl,⟨_,rfl,_,_,rfl,rfl,rfl⟩,trivial,rfl,rfl⟩
 obtain⟨q2l,rfl,rfl⟩:=hq
 refine⟨rfl,_,⟨3,(0,psO ws q2)::[(1,bxO),(2,zc)]⟩,rfl,rfl,?_⟩
 exact⟨[],[],[], .returned (.p (Cd.mk o n rl vl rf st ar).pv),psH ws q2,rfl,sk,sk,q2l,rfl,rfl⟩
theorem qVZ (ws:List Wd) (hg:GoodW ws):∀ F f,f<=F->CAll ws f
 | 0,f,hf=>by
  have:f=0:=by omega
  subst this
  exact⟨fun q _ h=>absurd h (by omega),fun q _ h=>absurd h (by omega),fun q _ h=>absurd h (by omega),fun q _ h=>absurd h (by omega)⟩
 | F+1,f,hf=>by
  have ih:=qVZ ws hg F
  by_cases h:f<=F
  ·exact ih f h
  have:f=F+1:=by omega
  subst this
  exact⟨fun q hq hb=>qVT ws F q hg hq hb ih,fun q hq hb=>qVS ws F q hg hq hb ih,fun q hq hb=>qWH ws F q hg hq hb (ih F (Nat.le_refl _)),fun q hq hb=>qUX ws F q hg hq hb fun q hq hb=>(ih F (Nat.le_refl _)).cond q hq hb⟩
theorem qL7 (ws:List Wd) (F q:Nat) (hg:GoodW ws) (hq:q<=ws.length) (hF:4 * (ws.length - q)+4<=F):qNi ws F q:=(qVZ ws hg F F (Nat.le_refl _)).cond q hq hF
def qW8 {α:Type} (ws:List Wd) (r:Rd α) (val:α->PV) (e:AE) (H':Hp):Prop:=match r with
 | .inl p=>e=qAV ws p/\H'=⟨1,[]⟩
 | .inr (a,q)=>q<=ws.length/\(∃ y,e=.returned (.p y)/\NilD y (val a))/\H'=psH ws q
theorem qEF {α:Type} {ws:List Wd} {g:FuncId} {args:List AV} {H:Hp} {r:Rd α} {val:α->PV} (h:HoldsG cx g args H (qW8 ws r val)):HoldsG cx g args H (rdQ ws r fun a=>.p (val a)):=
 h.weak fun e H' hq=>by
  rcases r with p | ⟨c,q⟩
  ·obtain⟨rfl,rfl⟩:=hq
   exact⟨_,rfl,rfl,rfl⟩
  ·obtain⟨h1,⟨y,rfl,h2⟩,rfl⟩:=hq
   exact⟨.returned (.p (val c)),⟨_,rfl,by simp only [NilA];exact⟨_,rfl,h2⟩⟩,h1,rfl,rfl⟩
theorem qP5 {ws:List Wd}:∀ (f:Nat) {acc l:List Int} {q q':Nat},qGM ws f acc q=.inr (l,q')->q<=q'
 | 0,_,_,_,_,h=>by cases h
 | f+1,acc,l,q,q',h=>by
  rw [qGM] at h
  split at h
  ·obtain⟨a,q1,h1,h⟩:=then_ok h
   have:=int_lt h1
   have:=qP5 f h
   omega
  ·injection h with h;injection h with h1 h2;omega
theorem qLe {ws:List Wd} {F q q':Nat} {l:List Int} (h:qEk ws F q=.inr (l,q')):q<q':=by
 rw [qEk] at h
 obtain⟨a,q1,h1,h⟩:=then_ok h
 have:=int_lt h1
 have:=qP5 F h
 omega
theorem qPg {ws:List Wd} {q q':Nat} {n:Int} (h:qDV ws q=.inr (n,q')):q'<=ws.length:=by
 rw [qDV] at h
 split at h
 ·rename_i hk
  have:=qKX (ws:=ws) (q:=q) (by rw [hk];decide)
  injection h with h;injection h with h1 h2;omega
 ·cases h
theorem qP7 {ws:List Wd} {q q':Nat} {n:Int} (h:qP8 ws q=.inr (n,q')):q'<=ws.length:=by
 rw [qP8] at h
 split at h
 ·obtain⟨m,q2,h2,h⟩:=then_ok h
  have:=qPg h2
  injection h with h;injection h with h3 h4;omega
 ·exact qPg h
theorem qNF {ws:List Wd}:∀ (f:Nat) {acc l:List Int} {q q':Nat},q<=ws.length->qGM ws f acc q=.inr (l,q')->q'<=ws.length
 | 0,_,_,_,_,_,h=>by cases h
 | f+1,acc,l,q,q',hq,h=>by
  rw [qGM] at h
  split at h
  ·obtain⟨a,q1,h1,h⟩:=then_ok h
   exact qNF f (qP7 h1) h
  ·injection h with h;injection h with h1 h2;omega
theorem qRb {ws:List Wd} {F q q':Nat} {l:List Int} (h:qEk ws F q=.inr (l,q')):q'<=ws.length:=by
 rw [qEk] at h
 obtain⟨a,q1,h1,h⟩:=then_ok h
 exact qNF F (qP7 h1) h
theorem qQX {ws:List Wd} (F:Nat) {q q':Nat} {c:Cd} (h:qDc ws F q=.inr (c,q')):q<q':=(qVv ws F).cond h
def csO (l:List Cs):AObj:=⟨qHe,false, .pus (l.map Cs.cells)⟩
abbrev qSd (l:List Int):List PV:=[i64 0,i64 0,i64 0,i64 0, .str [],i64 0, .str [],i64 0, .nils, .nils,ints l]
theorem qTL (l:List Int):NilDL (qSd l) (Cs.cells ⟨cd0,l⟩):=by
 show NilDL _ [i64 0,i64 0,i64 0,i64 0, .str [],i64 0, .str [],i64 0, .lst [], .lsts 10 [],ints l]
 simp only [NilDL,NilD]
 exact⟨_,_,rfl,rfl,_,_,rfl,rfl,_,_,rfl,rfl,_,_,rfl,rfl,_,_,rfl,rfl,_,_,rfl,rfl,_,_,rfl,rfl,_,_,rfl,rfl,_,_,rfl, .inr (.inl rfl),_,_,rfl, .inr (.inr ⟨10,rfl⟩),_,_,rfl,⟨_,rfl,NilDL.refl _⟩,rfl⟩
theorem qIP {y z:List PV} (h:NilDL y z):∀ xs:List (List PV),NilDLL (xs++[y]) (xs++[z])
 | []=>by
  show NilDLL [y] [z]
  simp only [NilDLL]
  exact⟨_,_,rfl,h,rfl⟩
 | x::xs=>by
  show NilDLL (x::(xs++[y])) (x::(xs++[z]))
  simp only [NilDLL]
  exact⟨_,_,rfl,NilDL.refl x,qIP h xs⟩
theorem qTM (acc:List Cs) (l:List Int):NilD (.lsts 11 (acc.map Cs.cells++[qSd l])) (css (acc++[⟨cd0,l⟩])):=by
 show NilD _ (.lsts 11 ((acc++[(⟨cd0,l⟩:Cs)]).map Cs.cells))
 rw [List.map_append]
 simp only [NilD]
 exact⟨_,rfl,qIP (qTL l) _⟩
theorem qPG (ws:List Wd) (F q0:Nat) (hF:4 * ws.length+8<=F) (hg:GoodW ws) (hq0:q0<=ws.length):HoldsG cx 105 [.ptr 0 0 0] (psH ws q0) (rdQ ws (qGL ws F q0) fun l=>.p (css l)):=by
 refine qEF ?_
 generalize hR:qGL ws F q0=R
 rw [qGL] at hR
 refine qAC Tryz.func105 rfl rfl rfl ?_
 have hl:=hg.len
 rw [<- qA0] at hR
 refine(qAf ws q0 [tLC] hl hq0 (by simp) (by simp)).holds.useT [1] [] rfl (sk) ⟨_,_,rfl,⟨rfl,rfl⟩,_,_,rfl,⟨_,rfl,by decide,rfl⟩,rfl⟩ fun e0 H0 hq=>?_
 rcases h1:qAn ws [tLC] q0 with p | ⟨u1,q1⟩
 ·rw [h1] at hq hR
  obtain⟨rfl,rfl⟩:=hq
  refine⟨rfl,_,_,rfl,rfl,?_⟩
  exact⟨[],[],[],qAV ws p,⟨1,[]⟩,rfl,⟨_,rfl,_,_,rfl,rfl,rfl⟩,trivial,by rw [<- hR];exact⟨rfl,rfl⟩⟩
 rw [h1] at hq hR
 obtain⟨q1l,rfl,rfl⟩:=hq
 refine⟨rfl,_,⟨2,(0,psO ws q1)::[(1,sO [tLC])]⟩,rfl,rfl,?_⟩
 simp only [qAL] at hR
 refine⟨List Cs × Nat,fun x=>[(0, .ptr 0 0 0),(3, .sl 1 11 0 x.1.length)],fun x=>⟨2,[(1,csO x.1),(0,psO ws x.2)]⟩,fun x=>x.2<=ws.length/\x.1.length<=x.2/\LI R (fun f=>qFL ws F f x.1 x.2) (ws.length - x.2),fun x=>ws.length - x.2,?_,?_⟩
 ·exact⟨([],q1),⟨q1l,by simp,⟨F,by simp only [];omega,hR.symm⟩⟩,qAA [] [] [(1,11)] rfl (sk) (sk) rfl⟩
 rintro⟨acc,q⟩ ⟨k1,k2,k3⟩
 simp only [] at k1 k2 k3
 by_cases c1:txt ws q=qNs
 ·have ql:q+1<=ws.length:=qBS (by rw [c1];decide)
  have hR:qGv ws F acc (q+1)=R:=(k3.is fun f=>by rw [qFL,if_pos c1]).symm
  clear k3
  rw [qGv] at hR
  refine(qAv ws q qNs hl k1).holds.useT [] [] rfl (sk) (sk) fun e0 H0 hq=>?_
  obtain⟨rfl,rfl⟩:=hq.1 c1
  refine⟨rfl,_,⟨2,(0,psO ws (q+1))::[(1,csO acc)]⟩,rfl,rfl,?_⟩
  rw [<- qA0] at hR
  refine(qAf ws (q+1) [qDP] hl ql (by simp) (by simp)).holds.useT [2] [] rfl (sk) ⟨_,_,rfl,⟨rfl,rfl⟩,_,_,rfl,⟨_,rfl,by decide,rfl⟩,rfl⟩ fun e0 H0 hq=>?_
  rcases h2:qAn ws [qDP] (q+1) with p | ⟨u2,q2⟩
  ·rw [h2] at hq hR
   obtain⟨rfl,rfl⟩:=hq
   refine⟨rfl,_,_,rfl,rfl,?_⟩
   exact⟨[],[],[],qAV ws p,⟨1,[]⟩,rfl,⟨_,rfl,_,_,rfl,rfl,rfl⟩,trivial,by rw [<- hR];exact⟨rfl,rfl⟩⟩
  rw [h2] at hq hR
  obtain⟨q2l,rfl,rfl⟩:=hq
  refine⟨rfl,_,⟨3,(0,psO ws q2)::[(2,sO [qDP]),(1,csO acc)]⟩,rfl,rfl,?_⟩
  simp only [qAL] at hR
  refine(qKL ws F q2 (by omega) hg q2l).holds.useT [] [] rfl (sk) (sk) fun e0 H0 hq=>?_
  rcases h3:qEk ws F q2 with p | ⟨l,q3⟩
  ·rw [h3] at hq hR
   obtain⟨rfl,rfl⟩:=hq
   refine⟨rfl,_,_,rfl,rfl,?_⟩
   exact⟨[],[],[],qAV ws p,⟨1,[]⟩,rfl,⟨_,rfl,_,_,rfl,rfl,rfl⟩,trivial,by rw [<- hR];exact⟨rfl,rfl⟩⟩
  rw [h3] at hq hR
  obtain⟨q3l,rfl,rfl⟩:=hq
  refine⟨rfl,_,⟨3,(0,psO ws q3)::[(2,sO [qDP]),(1,csO acc)]⟩,rfl,rfl,?_⟩
  simp only [qAL] at hR
  refine⟨by show 0+1<=1;omega,[qSd l],rfl,?_⟩
  refine⟨by show 0+acc.length<=(acc.map Cs.cells).length;simp,acc.map Cs.cells,qAD (by simp),by show(acc.length+1) * 152<=140737488355328;omega,acc.map Cs.cells++[qSd l],rfl,?_⟩
  rw [<- qA0] at hR
  refine(qAf ws q3 [tRC] hl q3l (by simp) (by simp)).holds.useT [5] [] rfl (sk) ⟨_,_,rfl,⟨rfl,rfl⟩,_,_,rfl,⟨_,rfl,by decide,rfl⟩,rfl⟩ fun e0 H0 hq=>?_
  rcases h4:qAn ws [tRC] q3 with p | ⟨u4,q4⟩
  ·rw [h4] at hq hR
   obtain⟨rfl,rfl⟩:=hq
   refine⟨rfl,_,_,rfl,rfl,?_⟩
   exact⟨[],[],[],qAV ws p,⟨1,[]⟩,rfl,⟨_,rfl,_,_,rfl,rfl,rfl⟩,trivial,by rw [<- hR];exact⟨rfl,rfl⟩⟩
  rw [h4] at hq hR
  obtain⟨q4l,rfl,rfl⟩:=hq
  refine⟨rfl,_,⟨6,(0,psO ws q4)::[(5,sO [tRC]),(4,⟨qHe,false, .pus (acc.map Cs.cells++[qSd l])⟩),(3,⟨qHe,false, .pus [qSd l]⟩),(2,sO [qDP])]⟩,rfl,rfl,?_⟩
  simp only [qAL] at hR
  exact⟨[4],[],[], .returned (.p (.lsts 11 (acc.map Cs.cells++[qSd l]))),psH ws q4,rfl,⟨_,rfl,⟨_,rfl,by show 0+(acc.length+1)<=(acc.map Cs.cells++[qSd l]).length;simp,qAD (by simp)⟩⟩,sk,by rw [<- hR];exact⟨q4l,⟨_,rfl,qTM acc l⟩,rfl⟩⟩
 ·obtain⟨f,hf,k3⟩:=k3
  obtain⟨f,rfl⟩:∃ g,f=g+1:=⟨f - 1,by omega⟩
  simp only [] at k3
  rw [qFL,if_neg c1] at k3
  have hR:=k3.symm
  clear k3
  refine(qAv ws q qNs hl k1).holds.useT [] [] rfl (sk) (sk) fun e0 H0 hq=>?_
  obtain⟨rfl,rfl⟩:=hq.2 c1
  refine⟨rfl,_,⟨2,(0,psO ws q)::[(1,csO acc)]⟩,rfl,rfl,?_⟩
  refine(qL7 ws F q hg k1 (by omega)).holds.useT [] [] rfl (sk) (sk) fun e0 H0 hq=>?_
  rcases h1:qDc ws F q with p | ⟨⟨o,n,rl,vl,rf,st,ar⟩,q1⟩
  ·rw [h1] at hq hR
   obtain⟨rfl,rfl⟩:=hq
   refine⟨rfl,_,_,rfl,rfl,?_⟩
   exact⟨[],[],[],qAV ws p,⟨1,[]⟩,rfl,⟨_,rfl,_,_,rfl,rfl,rfl⟩,trivial,by rw [<- hR];exact⟨rfl,rfl⟩⟩
  have hlt1:=qQX F h1
  rw [h1] at hq hR
  obtain⟨q1l,rfl,rfl⟩:=hq
  refine⟨rfl,_,⟨2,(0,psO ws q1)::[(1,csO acc)]⟩,rfl,rfl,?_⟩
  simp only [qAL] at hR
  rw [<- qA0] at hR
  refine(qAf ws q1 [qDP] hl q1l (by simp) (by simp)).holds.useT [3] [] rfl (sk) ⟨_,_,rfl,⟨rfl,rfl⟩,_,_,rfl,⟨_,rfl,by decide,rfl⟩,rfl⟩ fun e0 H0 hq=>?_
  rcases h2:qAn ws [qDP] q1 with p | ⟨u2,q2⟩
  ·rw [h2] at hq hR
   obtain⟨rfl,rfl⟩:=hq
   refine⟨rfl,_,_,rfl,rfl,?_⟩
   exact⟨[],[],[],qAV ws p,⟨1,[]⟩,rfl,⟨_,rfl,_,_,rfl,rfl,rfl⟩,trivial,by rw [<- hR];exact⟨rfl,rfl⟩⟩
  rw [h2] at hq hR
  obtain⟨q2l,rfl,rfl⟩:=hq
  refine⟨rfl,_,⟨4,(0,psO ws q2)::[(3,sO [qDP]),(2,cO ((Cd.mk o n rl vl rf st ar).cells.map .p)),(1,csO acc)]⟩,rfl,rfl,?_⟩
  simp only [qAL] at hR
  have hlt2:=qAr (ws:=ws) (s:=qDP) (q:=q1) (q':=q2) (u:=u2) (by rw [<- qA0];exact h2)
  have hN:=qKL ws F q2 (by omega) hg q2l
  rcases h3:qEk ws F q2 with p | ⟨l,q3⟩
  ·rw [h3] at hN hR
   refine VDraw.seq rfl ?_
   refine hN.holds.useT [] [] rfl (sk) (sk) fun e0 H0 hq=>?_
   obtain⟨rfl,rfl⟩:=hq
   refine⟨rfl,_,_,rfl,rfl,?_⟩
   exact⟨[],[],[],qAV ws p,⟨1,[]⟩,rfl,⟨_,rfl,_,_,rfl,rfl,rfl⟩,trivial,by rw [<- hR];exact⟨rfl,rfl⟩⟩
  have hlt3:=qLe h3
  rw [h3] at hN hR
  simp only [qAL] at hR
  obtain⟨x,hx⟩:∃ x:Cs,x=⟨.mk o n rl vl rf st ar,l⟩:=⟨_,rfl⟩
  have hq3l:=qRb h3
  refine VDraw.seqTo [(0, .ptr 0 0 0),(3, .sl 1 11 0 (acc.length+1))] ⟨2,[(1,csO (acc++[x])),(0,psO ws q3)]⟩ rfl ?_ ?_
  ·refine hN.holds.useT [] [] rfl (sk) (sk) fun e0 H0 hq=>?_
   obtain⟨q3l,rfl,rfl⟩:=hq
   refine⟨rfl,_,⟨4,(0,psO ws q3)::[(3,sO [qDP]),(2,cO ((Cd.mk o n rl vl rf st ar).cells.map .p)),(1,csO acc)]⟩,rfl,rfl,?_⟩
   refine⟨sk,?_⟩
   refine⟨by show 0+1<=1;omega,[x.cells],by rw [hx];rfl,?_⟩
   refine⟨by show 0+acc.length<=(acc.map Cs.cells).length;simp,acc.map Cs.cells,qAD (by simp),by show(acc.length+1) * 152<=140737488355328;omega,(acc++[x]).map Cs.cells,by simp,?_⟩
   exact qAA [] [(1,5)] [] rfl (sk) (sk) rfl
  rw [<- qA0] at hR
  refine(qAf ws q3 [qBh] hl hq3l (by simp) (by simp)).holds.useT [2] [] rfl (sk) ⟨_,_,rfl,⟨rfl,rfl⟩,_,_,rfl,⟨_,rfl,by decide,rfl⟩,rfl⟩ fun e0 H0 hq=>?_
  rcases h4:qAn ws [qBh] q3 with p | ⟨u4,q4⟩
  ·rw [h4] at hq hR
   obtain⟨rfl,rfl⟩:=hq
   refine⟨rfl,_,_,rfl,rfl,?_⟩
   exact⟨[],[],[],qAV ws p,⟨1,[]⟩,rfl,⟨_,rfl,_,_,rfl,rfl,rfl⟩,trivial,by rw [<- hR];exact⟨rfl,rfl⟩⟩
  rw [h4] at hq hR
  obtain⟨q4l,rfl,rfl⟩:=hq
  refine⟨rfl,_,⟨3,(0,psO ws q4)::[(2,sO [qBh]),(1,csO (acc++[x]))]⟩,rfl,rfl,?_⟩
  simp only [qAL] at hR
  have hlt4:=qAr (ws:=ws) (s:=qBh) (q:=q3) (q':=q4) (u:=u4) (by rw [<- qA0];exact h4)
  exact⟨(acc++[x],q4),⟨q4l,by simp only [qAN];omega,⟨f,by simp only [];omega,by rw [<- hR,hx]⟩⟩,qAA [] [] [] rfl ⟨⟨rfl,rfl⟩,congrArg (fun k:Nat=>AV.sl 1 11 0 k) (qAN acc x).symm,trivial⟩ (sk) rfl,by show ws.length - q4<ws.length - q;omega⟩
def dO (k n:Int) (nm pl:List UInt8) (fr cs:PV):AObj:=⟨qHt,false, .bx [.p (i64 k), .p (i64 n), .p (.str nm), .p (.str pl), .p fr, .p cs]⟩
abbrev zd:AObj:=dO 0 0 [] [] .nils .nils
theorem qIO {k n:Int} {nm pl:List UInt8} {fr cs:PV} {l:List Rf} {c:List Cs} (hf:NilD fr (qBy l)) (hc:NilD cs (css c)):NilD (.agg [i64 k,i64 n, .str nm, .str pl,fr,cs]) (De.pv ⟨k,n,nm,pl,l,c⟩):=by
 show NilD _ (.agg [i64 k,i64 n, .str nm, .str pl,qBy l,css c])
 simp only [NilD,NilDL]
 exact⟨_,rfl,_,_,rfl,rfl,_,_,rfl,rfl,_,_,rfl,rfl,_,_,rfl,rfl,_,_,rfl,hf,_,_,rfl,hc,rfl⟩
theorem qU6:NilD .nils (qBy []):=by simp only [NilD];exact .inr (.inr ⟨4,rfl⟩)
theorem qPl:NilD .nils (css []):=by simp only [NilD];exact .inr (.inr ⟨11,rfl⟩)
def qQx (ws:List Wd) (g:FuncId) (rd:Nat->Rd De):Prop:=∀ q,q<=ws.length->HoldsG cx g [.ptr 0 0 0] (psH ws q) (rdQ ws (rd q) fun d=>.p d.pv)
theorem qTX (ws:List Wd) (F:Nat) (_hF:4 * ws.length+8<=F) (hg:GoodW ws):qQx ws 69 (qFG ws):=by
 intro q0 q0l
 refine qEF ?_
 generalize hR:qFG ws q0=R
 rw [qFG] at hR
 refine qAC Tryz.func69 rfl rfl rfl ?_
 have hl:=hg.len
 refine(qBa ws q0 hg q0l).holds.useT [] [] rfl (sk) (sk) fun e0 H0 hq=>?_
 rcases h1:qDV ws q0 with p | ⟨n,q1⟩
 ·rw [h1] at hq hR
  obtain⟨rfl,rfl⟩:=hq
  refine⟨rfl,_,_,rfl,rfl,?_⟩
  exact⟨[],[],[],qAV ws p,⟨1,[]⟩,rfl,⟨_,rfl,_,_,rfl,rfl,rfl⟩,trivial,by rw [<- hR];exact⟨rfl,rfl⟩⟩
 rw [h1] at hq hR
 obtain⟨q1l,rfl,rfl⟩:=hq
 refine⟨rfl,_,⟨2,(0,psO ws q1)::[(1,zd)]⟩,rfl,rfl,?_⟩
 simp only [qAL] at hR
 exact⟨[],[],[], .returned (.p (.agg [i64 1,i64 n, .str [], .str [], .nils, .nils])),psH ws q1,rfl,sk,sk,by rw [<- hR];exact⟨q1l,⟨_,rfl,qIO qU6 qPl⟩,rfl⟩⟩
theorem qTD (ws:List Wd) (F:Nat) (_hF:4 * ws.length+8<=F) (hg:GoodW ws):qQx ws 70 (qFB ws):=by
 intro q0 q0l
 refine qEF ?_
 generalize hR:qFB ws q0=R
 rw [qFB] at hR
 refine qAC Tryz.func70 rfl rfl rfl ?_
 have hl:=hg.len
 refine(qHA ws q0 hl q0l).holds.useT [] [] rfl (sk) (sk) fun e0 H0 hq=>?_
 rcases h1:qCp ws q0 with p | ⟨nm,q1⟩
 ·rw [h1] at hq hR
  obtain⟨rfl,rfl⟩:=hq
  refine⟨rfl,_,_,rfl,rfl,?_⟩
  exact⟨[],[],[],qAV ws p,⟨1,[]⟩,rfl,⟨_,rfl,_,_,rfl,rfl,rfl⟩,trivial,by rw [<- hR];exact⟨rfl,rfl⟩⟩
 rw [h1] at hq hR
 obtain⟨q1l,rfl,rfl⟩:=hq
 refine⟨rfl,_,⟨2,(0,psO ws q1)::[(1,zd)]⟩,rfl,rfl,?_⟩
 simp only [qAL] at hR
 rw [<- qA0] at hR
 refine(qAf ws q1 [tEq] hl q1l (by simp) (by simp)).holds.useT [3] [] rfl (sk) ⟨_,_,rfl,⟨rfl,rfl⟩,_,_,rfl,⟨_,rfl,by decide,rfl⟩,rfl⟩ fun e0 H0 hq=>?_
 rcases h2:qAn ws [tEq] q1 with p | ⟨u2,q2⟩
 ·rw [h2] at hq hR
  obtain⟨rfl,rfl⟩:=hq
  refine⟨rfl,_,_,rfl,rfl,?_⟩
  exact⟨[],[],[],qAV ws p,⟨1,[]⟩,rfl,⟨_,rfl,_,_,rfl,rfl,rfl⟩,trivial,by rw [<- hR];exact⟨rfl,rfl⟩⟩
 rw [h2] at hq hR
 obtain⟨q2l,rfl,rfl⟩:=hq
 refine⟨rfl,_,⟨4,(0,psO ws q2)::[(3,sO [tEq]),(2,dO 2 0 nm [] .nils .nils),(1,zd)]⟩,rfl,rfl,?_⟩
 simp only [qAL] at hR
 refine(qBa ws q2 hg q2l).holds.useT [] [] rfl (sk) (sk) fun e0 H0 hq=>?_
 rcases h3:qDV ws q2 with p | ⟨n,q3⟩
 ·rw [h3] at hq hR
  obtain⟨rfl,rfl⟩:=hq
  refine⟨rfl,_,_,rfl,rfl,?_⟩
  exact⟨[],[],[],qAV ws p,⟨1,[]⟩,rfl,⟨_,rfl,_,_,rfl,rfl,rfl⟩,trivial,by rw [<- hR];exact⟨rfl,rfl⟩⟩
 rw [h3] at hq hR
 obtain⟨q3l,rfl,rfl⟩:=hq
 refine⟨rfl,_,⟨4,(0,psO ws q3)::[(3,sO [tEq]),(2,dO 2 0 nm [] .nils .nils),(1,zd)]⟩,rfl,rfl,?_⟩
 simp only [qAL] at hR
 exact⟨[],[],[], .returned (.p (.agg [i64 2,i64 n, .str nm, .str [], .nils, .nils])),psH ws q3,rfl,sk,sk,by rw [<- hR];exact⟨q3l,⟨_,rfl,qIO qU6 qPl⟩,rfl⟩⟩
theorem qR2 (ws:List Wd) (F:Nat) (hF:4 * ws.length+8<=F) (hg:GoodW ws):qQx ws 72 (qDe ws F):=by
 intro q0 q0l
 refine qEF ?_
 generalize hR:qDe ws F q0=R
 rw [qDe] at hR
 refine qAC Tryz.func72 rfl rfl rfl ?_
 have hl:=hg.len
 refine(qHA ws q0 hl q0l).holds.useT [] [] rfl (sk) (sk) fun e0 H0 hq=>?_
 rcases h1:qCp ws q0 with p | ⟨nm,q1⟩
 ·rw [h1] at hq hR
  obtain⟨rfl,rfl⟩:=hq
  refine⟨rfl,_,_,rfl,rfl,?_⟩
  exact⟨[],[],[],qAV ws p,⟨1,[]⟩,rfl,⟨_,rfl,_,_,rfl,rfl,rfl⟩,trivial,by rw [<- hR];exact⟨rfl,rfl⟩⟩
 rw [h1] at hq hR
 obtain⟨q1l,rfl,rfl⟩:=hq
 refine⟨rfl,_,⟨2,(0,psO ws q1)::[(1,zd)]⟩,rfl,rfl,?_⟩
 simp only [qAL] at hR
 rw [<- qA0] at hR
 refine(qAf ws q1 [qDP] hl q1l (by simp) (by simp)).holds.useT [3] [] rfl (sk) ⟨_,_,rfl,⟨rfl,rfl⟩,_,_,rfl,⟨_,rfl,by decide,rfl⟩,rfl⟩ fun e0 H0 hq=>?_
 rcases h2:qAn ws [qDP] q1 with p | ⟨u2,q2⟩
 ·rw [h2] at hq hR
  obtain⟨rfl,rfl⟩:=hq
  refine⟨rfl,_,_,rfl,rfl,?_⟩
  exact⟨[],[],[],qAV ws p,⟨1,[]⟩,rfl,⟨_,rfl,_,_,rfl,rfl,rfl⟩,trivial,by rw [<- hR];exact⟨rfl,rfl⟩⟩
 rw [h2] at hq hR
 obtain⟨q2l,rfl,rfl⟩:=hq
 refine⟨rfl,_,⟨4,(0,psO ws q2)::[(3,sO [qDP]),(2,dO 4 0 nm [] .nils .nils),(1,zd)]⟩,rfl,rfl,?_⟩
 simp only [qAL] at hR
 refine(qBa ws q2 hg q2l).holds.useT [] [] rfl (sk) (sk) fun e0 H0 hq=>?_
 rcases h3:qDV ws q2 with p | ⟨n,q3⟩
 ·rw [h3] at hq hR
  obtain⟨rfl,rfl⟩:=hq
  refine⟨rfl,_,_,rfl,rfl,?_⟩
  exact⟨[],[],[],qAV ws p,⟨1,[]⟩,rfl,⟨_,rfl,_,_,rfl,rfl,rfl⟩,trivial,by rw [<- hR];exact⟨rfl,rfl⟩⟩
 rw [h3] at hq hR
 obtain⟨q3l,rfl,rfl⟩:=hq
 refine⟨rfl,_,⟨4,(0,psO ws q3)::[(3,sO [qDP]),(2,dO 4 0 nm [] .nils .nils),(1,zd)]⟩,rfl,rfl,?_⟩
 simp only [qAL] at hR
 refine(qMk ws F q3 qEa (by decide) (by omega) hg q3l).holds.useT [] [] rfl (sk) (sk) fun e0 H0 hq=>?_
 rcases h4:qE9 ws F qEa q3 with p | ⟨l,q4⟩
 ·rw [h4] at hq hR
  obtain⟨rfl,rfl⟩:=hq
  refine⟨rfl,_,_,rfl,rfl,?_⟩
  exact⟨[],[],[],qAV ws p,⟨1,[]⟩,rfl,⟨_,rfl,_,_,rfl,rfl,rfl⟩,trivial,by rw [<- hR];exact⟨rfl,rfl⟩⟩
 rw [h4] at hq hR
 obtain⟨q4l,rfl,rfl⟩:=hq
 refine⟨rfl,_,⟨4,(0,psO ws q4)::[(3,sO [qDP]),(2,dO 4 n nm [] .nils .nils),(1,zd)]⟩,rfl,rfl,?_⟩
 simp only [qAL] at hR
 exact⟨[],[],[], .returned (.p (.agg [i64 4,i64 n, .str nm, .str [],qBy l, .nils])),psH ws q4,rfl,sk,sk,by rw [<- hR];exact⟨q4l,⟨_,rfl,qIO (NilD.refl _) qPl⟩,rfl⟩⟩
theorem qVK (ws:List Wd) (F:Nat) (hF:4 * ws.length+8<=F) (hg:GoodW ws):qQx ws 73 (qJS ws F):=by
 intro q0 q0l
 refine qEF ?_
 generalize hR:qJS ws F q0=R
 rw [qJS] at hR
 refine qAC Tryz.func73 rfl rfl rfl ?_
 have hl:=hg.len
 refine(qMk ws F q0 qEQ (by decide) (by omega) hg q0l).holds.useT [] [] rfl (sk) (sk) fun e0 H0 hq=>?_
 rcases h1:qE9 ws F qEQ q0 with p | ⟨l,q1⟩
 ·rw [h1] at hq hR
  obtain⟨rfl,rfl⟩:=hq
  refine⟨rfl,_,_,rfl,rfl,?_⟩
  exact⟨[],[],[],qAV ws p,⟨1,[]⟩,rfl,⟨_,rfl,_,_,rfl,rfl,rfl⟩,trivial,by rw [<- hR];exact⟨rfl,rfl⟩⟩
 rw [h1] at hq hR
 obtain⟨q1l,rfl,rfl⟩:=hq
 refine⟨rfl,_,⟨2,(0,psO ws q1)::[(1,zd)]⟩,rfl,rfl,?_⟩
 simp only [qAL] at hR
 rw [<- qA0] at hR
 refine(qAf ws q1 [tEq] hl q1l (by simp) (by simp)).holds.useT [3] [] rfl (sk) ⟨_,_,rfl,⟨rfl,rfl⟩,_,_,rfl,⟨_,rfl,by decide,rfl⟩,rfl⟩ fun e0 H0 hq=>?_
 rcases h2:qAn ws [tEq] q1 with p | ⟨u2,q2⟩
 ·rw [h2] at hq hR
  obtain⟨rfl,rfl⟩:=hq
  refine⟨rfl,_,_,rfl,rfl,?_⟩
  exact⟨[],[],[],qAV ws p,⟨1,[]⟩,rfl,⟨_,rfl,_,_,rfl,rfl,rfl⟩,trivial,by rw [<- hR];exact⟨rfl,rfl⟩⟩
 rw [h2] at hq hR
 obtain⟨q2l,rfl,rfl⟩:=hq
 refine⟨rfl,_,⟨4,(0,psO ws q2)::[(3,sO [tEq]),(2,dO 5 0 [] [] (qBy l) .nils),(1,zd)]⟩,rfl,rfl,?_⟩
 simp only [qAL] at hR
 refine(qPG ws F q2 hF hg q2l).holds.useT [] [] rfl (sk) (sk) fun e0 H0 hq=>?_
 rcases h3:qGL ws F q2 with p | ⟨cs,q3⟩
 ·rw [h3] at hq hR
  obtain⟨rfl,rfl⟩:=hq
  refine⟨rfl,_,_,rfl,rfl,?_⟩
  exact⟨[],[],[],qAV ws p,⟨1,[]⟩,rfl,⟨_,rfl,_,_,rfl,rfl,rfl⟩,trivial,by rw [<- hR];exact⟨rfl,rfl⟩⟩
 rw [h3] at hq hR
 obtain⟨q3l,rfl,rfl⟩:=hq
 refine⟨rfl,_,⟨4,(0,psO ws q3)::[(3,sO [tEq]),(2,dO 5 0 [] [] (qBy l) .nils),(1,zd)]⟩,rfl,rfl,?_⟩
 simp only [qAL] at hR
 exact⟨[],[],[], .returned (.p (.agg [i64 5,i64 0, .str [], .str [],qBy l,css cs])),psH ws q3,rfl,sk,sk,by rw [<- hR];exact⟨q3l,⟨_,rfl,qIO (NilD.refl _) (NilD.refl _)⟩,rfl⟩⟩
theorem qU3 (ws:List Wd) (F:Nat) (hF:4 * ws.length+8<=F) (hg:GoodW ws):qQx ws 71 (qJJ ws F):=by
 intro q0 q0l
 refine qEF ?_
 generalize hR:qJJ ws F q0=R
 rw [qJJ] at hR
 refine qAC Tryz.func71 rfl rfl rfl ?_
 have hl:=hg.len
 refine(qHA ws q0 hl q0l).holds.useT [] [] rfl (sk) (sk) fun e0 H0 hq=>?_
 rcases h1:qCp ws q0 with p | ⟨nm,q1⟩
 ·rw [h1] at hq hR
  obtain⟨rfl,rfl⟩:=hq
  refine⟨rfl,_,_,rfl,rfl,?_⟩
  exact⟨[],[],[],qAV ws p,⟨1,[]⟩,rfl,⟨_,rfl,_,_,rfl,rfl,rfl⟩,trivial,by rw [<- hR];exact⟨rfl,rfl⟩⟩
 rw [h1] at hq hR
 obtain⟨q1l,rfl,rfl⟩:=hq
 refine⟨rfl,_,⟨2,(0,psO ws q1)::[(1,zd)]⟩,rfl,rfl,?_⟩
 simp only [qAL] at hR
 by_cases c1:txt ws q1=tLB
 rotate_left
 ·rw [if_neg c1] at hR
  refine(qAv ws q1 tLB hl q1l).holds.useT [] [] rfl (sk) (sk) fun e0 H0 hq=>?_
  obtain⟨rfl,rfl⟩:=hq.2 c1
  refine⟨rfl,_,⟨3,(0,psO ws q1)::[(2,dO 3 0 nm [] .nils .nils),(1,zd)]⟩,rfl,rfl,?_⟩
  rw [qCu] at hR
  rw [<- qA0] at hR
  refine(qAf ws q1 [qDP] hl q1l (by simp) (by simp)).holds.useT [3] [] rfl (sk) ⟨_,_,rfl,⟨rfl,rfl⟩,_,_,rfl,⟨_,rfl,by decide,rfl⟩,rfl⟩ fun e0 H0 hq=>?_
  rcases h5:qAn ws [qDP] q1 with p | ⟨u5,q5⟩
  ·rw [h5] at hq hR
   obtain⟨rfl,rfl⟩:=hq
   refine⟨rfl,_,_,rfl,rfl,?_⟩
   exact⟨[],[],[],qAV ws p,⟨1,[]⟩,rfl,⟨_,rfl,_,_,rfl,rfl,rfl⟩,trivial,by rw [<- hR];exact⟨rfl,rfl⟩⟩
  rw [h5] at hq hR
  obtain⟨q5l,rfl,rfl⟩:=hq
  refine⟨rfl,_,⟨4,(0,psO ws q5)::[(3,sO [qDP]),(2,dO 3 0 nm [] .nils .nils),(1,zd)]⟩,rfl,rfl,?_⟩
  simp only [qAL] at hR
  refine(qBa ws q5 hg q5l).holds.useT [] [] rfl (sk) (sk) fun e0 H0 hq=>?_
  rcases h6:qDV ws q5 with p | ⟨n,q6⟩
  ·rw [h6] at hq hR
   obtain⟨rfl,rfl⟩:=hq
   refine⟨rfl,_,_,rfl,rfl,?_⟩
   exact⟨[],[],[],qAV ws p,⟨1,[]⟩,rfl,⟨_,rfl,_,_,rfl,rfl,rfl⟩,trivial,by rw [<- hR];exact⟨rfl,rfl⟩⟩
  rw [h6] at hq hR
  obtain⟨q6l,rfl,rfl⟩:=hq
  refine⟨rfl,_,⟨4,(0,psO ws q6)::[(3,sO [qDP]),(2,dO 3 0 nm [] .nils .nils),(1,zd)]⟩,rfl,rfl,?_⟩
  simp only [qAL] at hR
  refine(qMk ws F q6 qEQ (by decide) (by omega) hg q6l).holds.useT [] [] rfl (sk) (sk) fun e0 H0 hq=>?_
  rcases h7:qE9 ws F qEQ q6 with p | ⟨l,q7⟩
  ·rw [h7] at hq hR
   obtain⟨rfl,rfl⟩:=hq
   refine⟨rfl,_,_,rfl,rfl,?_⟩
   exact⟨[],[],[],qAV ws p,⟨1,[]⟩,rfl,⟨_,rfl,_,_,rfl,rfl,rfl⟩,trivial,by rw [<- hR];exact⟨rfl,rfl⟩⟩
  rw [h7] at hq hR
  obtain⟨q7l,rfl,rfl⟩:=hq
  refine⟨rfl,_,⟨4,(0,psO ws q7)::[(3,sO [qDP]),(2,dO 3 n nm [] .nils .nils),(1,zd)]⟩,rfl,rfl,?_⟩
  simp only [qAL] at hR
  rw [<- qA0] at hR
  refine(qAf ws q7 [tEq] hl q7l (by simp) (by simp)).holds.useT [4] [] rfl (sk) ⟨_,_,rfl,⟨rfl,rfl⟩,_,_,rfl,⟨_,rfl,by decide,rfl⟩,rfl⟩ fun e0 H0 hq=>?_
  rcases h8:qAn ws [tEq] q7 with p | ⟨u8,q8⟩
  ·rw [h8] at hq hR
   obtain⟨rfl,rfl⟩:=hq
   refine⟨rfl,_,_,rfl,rfl,?_⟩
   exact⟨[],[],[],qAV ws p,⟨1,[]⟩,rfl,⟨_,rfl,_,_,rfl,rfl,rfl⟩,trivial,by rw [<- hR];exact⟨rfl,rfl⟩⟩
  rw [h8] at hq hR
  obtain⟨q8l,rfl,rfl⟩:=hq
  refine⟨rfl,_,⟨5,(0,psO ws q8)::[(4,sO [tEq]),(3,sO [qDP]),(2,dO 3 n nm [] (qBy l) .nils),(1,zd)]⟩,rfl,rfl,?_⟩
  simp only [qAL] at hR
  refine(qPG ws F q8 hF hg q8l).holds.useT [] [] rfl (sk) (sk) fun e0 H0 hq=>?_
  rcases h9:qGL ws F q8 with p | ⟨cs,q9⟩
  ·rw [h9] at hq hR
   obtain⟨rfl,rfl⟩:=hq
   refine⟨rfl,_,_,rfl,rfl,?_⟩
   exact⟨[],[],[],qAV ws p,⟨1,[]⟩,rfl,⟨_,rfl,_,_,rfl,rfl,rfl⟩,trivial,by rw [<- hR];exact⟨rfl,rfl⟩⟩
  rw [h9] at hq hR
  obtain⟨q9l,rfl,rfl⟩:=hq
  refine⟨rfl,_,⟨5,(0,psO ws q9)::[(4,sO [tEq]),(3,sO [qDP]),(2,dO 3 n nm [] (qBy l) .nils),(1,zd)]⟩,rfl,rfl,?_⟩
  simp only [qAL] at hR
  exact⟨[],[],[], .returned (.p (.agg [i64 3,i64 n, .str nm, .str [],qBy l,css cs])),psH ws q9,rfl,sk,sk,by rw [<- hR];exact⟨q9l,⟨_,rfl,qIO (NilD.refl _) (NilD.refl _)⟩,rfl⟩⟩
 rw [if_pos c1] at hR
 have q2l:q1+1<=ws.length:=qBS (by rw [c1];decide)
 refine(qAv ws q1 tLB hl q1l).holds.useT [] [] rfl (sk) (sk) fun e0 H0 hq=>?_
 obtain⟨rfl,rfl⟩:=hq.1 c1
 refine⟨rfl,_,⟨3,(0,psO ws (q1+1))::[(2,dO 3 0 nm [] .nils .nils),(1,zd)]⟩,rfl,rfl,?_⟩
 refine(qHA ws (q1+1) hl q2l).holds.useT [] [] rfl (sk) (sk) fun e0 H0 hq=>?_
 rcases h3:qCp ws (q1+1) with p | ⟨pl,q3⟩
 ·rw [h3] at hq hR
  obtain⟨rfl,rfl⟩:=hq
  refine⟨rfl,_,_,rfl,rfl,?_⟩
  exact⟨[],[],[],qAV ws p,⟨1,[]⟩,rfl,⟨_,rfl,_,_,rfl,rfl,rfl⟩,trivial,by rw [<- hR];exact⟨rfl,rfl⟩⟩
 rw [h3] at hq hR
 obtain⟨q3l,rfl,rfl⟩:=hq
 refine⟨rfl,_,⟨3,(0,psO ws q3)::[(2,dO 3 0 nm [] .nils .nils),(1,zd)]⟩,rfl,rfl,?_⟩
 simp only [qAL] at hR
 rw [<- qA0] at hR
 refine(qAf ws q3 [tRB] hl q3l (by simp) (by simp)).holds.useT [3] [] rfl (sk) ⟨_,_,rfl,⟨rfl,rfl⟩,_,_,rfl,⟨_,rfl,by decide,rfl⟩,rfl⟩ fun e0 H0 hq=>?_
 rcases h4:qAn ws [tRB] q3 with p | ⟨u4,q4⟩
 ·rw [h4] at hq hR
  obtain⟨rfl,rfl⟩:=hq
  refine⟨rfl,_,_,rfl,rfl,?_⟩
  exact⟨[],[],[],qAV ws p,⟨1,[]⟩,rfl,⟨_,rfl,_,_,rfl,rfl,rfl⟩,trivial,by rw [<- hR];exact⟨rfl,rfl⟩⟩
 rw [h4] at hq hR
 obtain⟨q4l,rfl,rfl⟩:=hq
 refine⟨rfl,_,⟨4,(0,psO ws q4)::[(3,sO [tRB]),(2,dO 3 0 nm pl .nils .nils),(1,zd)]⟩,rfl,rfl,?_⟩
 simp only [qAL] at hR
 rw [qCu] at hR
 rw [<- qA0] at hR
 refine(qAf ws q4 [qDP] hl q4l (by simp) (by simp)).holds.useT [4] [] rfl (sk) ⟨_,_,rfl,⟨rfl,rfl⟩,_,_,rfl,⟨_,rfl,by decide,rfl⟩,rfl⟩ fun e0 H0 hq=>?_
 rcases h5:qAn ws [qDP] q4 with p | ⟨u5,q5⟩
 ·rw [h5] at hq hR
  obtain⟨rfl,rfl⟩:=hq
  refine⟨rfl,_,_,rfl,rfl,?_⟩
  exact⟨[],[],[],qAV ws p,⟨1,[]⟩,rfl,⟨_,rfl,_,_,rfl,rfl,rfl⟩,trivial,by rw [<- hR];exact⟨rfl,rfl⟩⟩
 rw [h5] at hq hR
 obtain⟨q5l,rfl,rfl⟩:=hq
 refine⟨rfl,_,⟨5,(0,psO ws q5)::[(4,sO [qDP]),(3,sO [tRB]),(2,dO 3 0 nm pl .nils .nils),(1,zd)]⟩,rfl,rfl,?_⟩
 simp only [qAL] at hR
 refine(qBa ws q5 hg q5l).holds.useT [] [] rfl (sk) (sk) fun e0 H0 hq=>?_
 rcases h6:qDV ws q5 with p | ⟨n,q6⟩
 ·rw [h6] at hq hR
  obtain⟨rfl,rfl⟩:=hq
  refine⟨rfl,_,_,rfl,rfl,?_⟩
  exact⟨[],[],[],qAV ws p,⟨1,[]⟩,rfl,⟨_,rfl,_,_,rfl,rfl,rfl⟩,trivial,by rw [<- hR];exact⟨rfl,rfl⟩⟩
 rw [h6] at hq hR
 obtain⟨q6l,rfl,rfl⟩:=hq
 refine⟨rfl,_,⟨5,(0,psO ws q6)::[(4,sO [qDP]),(3,sO [tRB]),(2,dO 3 0 nm pl .nils .nils),(1,zd)]⟩,rfl,rfl,?_⟩
 simp only [qAL] at hR
 refine(qMk ws F q6 qEQ (by decide) (by omega) hg q6l).holds.useT [] [] rfl (sk) (sk) fun e0 H0 hq=>?_
 rcases h7:qE9 ws F qEQ q6 with p | ⟨l,q7⟩
 ·rw [h7] at hq hR
  obtain⟨rfl,rfl⟩:=hq
  refine⟨rfl,_,_,rfl,rfl,?_⟩
  exact⟨[],[],[],qAV ws p,⟨1,[]⟩,rfl,⟨_,rfl,_,_,rfl,rfl,rfl⟩,trivial,by rw [<- hR];exact⟨rfl,rfl⟩⟩
 rw [h7] at hq hR
 obtain⟨q7l,rfl,rfl⟩:=hq
 refine⟨rfl,_,⟨5,(0,psO ws q7)::[(4,sO [qDP]),(3,sO [tRB]),(2,dO 3 n nm pl .nils .nils),(1,zd)]⟩,rfl,rfl,?_⟩
 simp only [qAL] at hR
 rw [<- qA0] at hR
 refine(qAf ws q7 [tEq] hl q7l (by simp) (by simp)).holds.useT [5] [] rfl (sk) ⟨_,_,rfl,⟨rfl,rfl⟩,_,_,rfl,⟨_,rfl,by decide,rfl⟩,rfl⟩ fun e0 H0 hq=>?_
 rcases h8:qAn ws [tEq] q7 with p | ⟨u8,q8⟩
 ·rw [h8] at hq hR
  obtain⟨rfl,rfl⟩:=hq
  refine⟨rfl,_,_,rfl,rfl,?_⟩
  exact⟨[],[],[],qAV ws p,⟨1,[]⟩,rfl,⟨_,rfl,_,_,rfl,rfl,rfl⟩,trivial,by rw [<- hR];exact⟨rfl,rfl⟩⟩
 rw [h8] at hq hR
 obtain⟨q8l,rfl,rfl⟩:=hq
 refine⟨rfl,_,⟨6,(0,psO ws q8)::[(5,sO [tEq]),(4,sO [qDP]),(3,sO [tRB]),(2,dO 3 n nm pl (qBy l) .nils),(1,zd)]⟩,rfl,rfl,?_⟩
 simp only [qAL] at hR
 refine(qPG ws F q8 hF hg q8l).holds.useT [] [] rfl (sk) (sk) fun e0 H0 hq=>?_
 rcases h9:qGL ws F q8 with p | ⟨cs,q9⟩
 ·rw [h9] at hq hR
  obtain⟨rfl,rfl⟩:=hq
  refine⟨rfl,_,_,rfl,rfl,?_⟩
  exact⟨[],[],[],qAV ws p,⟨1,[]⟩,rfl,⟨_,rfl,_,_,rfl,rfl,rfl⟩,trivial,by rw [<- hR];exact⟨rfl,rfl⟩⟩
 rw [h9] at hq hR
 obtain⟨q9l,rfl,rfl⟩:=hq
 refine⟨rfl,_,⟨6,(0,psO ws q9)::[(5,sO [tEq]),(4,sO [qDP]),(3,sO [tRB]),(2,dO 3 n nm pl (qBy l) .nils),(1,zd)]⟩,rfl,rfl,?_⟩
 simp only [qAL] at hR
 exact⟨[],[],[], .returned (.p (.agg [i64 3,i64 n, .str nm, .str pl,qBy l,css cs])),psH ws q9,rfl,sk,sk,by rw [<- hR];exact⟨q9l,⟨_,rfl,qIO (NilD.refl _) (NilD.refl _)⟩,rfl⟩⟩
theorem qLW {ws:List Wd} {F:Nat} {key:List UInt8} {q q':Nat} {l:List Rf} (h:qE9 ws F key q=.inr (l,q')):q<=q':=by
 rw [qE9] at h
 split at h
 ·have:=qPw (fun q a q' h=>qJ7 h) h;omega
 ·injection h with h;injection h with h1 h2;omega
theorem qNU {ws:List Wd} {F:Nat}:∀ (f:Nat) {acc l:List Cs} {q q':Nat},qFL ws F f acc q=.inr (l,q')->q<q'
 | 0,_,_,_,_,h=>by cases h
 | f+1,acc,l,q,q',h=>by
  rw [qFL] at h
  split at h
  ·rw [qGv] at h
   obtain⟨u,q1,h1,h⟩:=then_ok h
   have:=qAr h1
   obtain⟨l1,q2,h2,h⟩:=then_ok h
   have:=qLe h2
   obtain⟨u3,q3,h3,h⟩:=then_ok h
   have:=qAr h3
   injection h with h;injection h with h1 h2;omega
  ·obtain⟨c,q1,h1,h⟩:=then_ok h
   have:=qQX F h1
   obtain⟨u2,q2,h2,h⟩:=then_ok h
   have:=qAr h2
   obtain⟨l3,q3,h3,h⟩:=then_ok h
   have:=qLe h3
   obtain⟨u4,q4,h4,h⟩:=then_ok h
   have:=qAr h4
   have:=qNU f h
   omega
theorem qPF {ws:List Wd} {F q q':Nat} {l:List Cs} (h:qGL ws F q=.inr (l,q')):q<q':=by
 rw [qGL] at h
 obtain⟨u,q1,h1,h⟩:=then_ok h
 have:=qAr h1
 have:=qNU F h
 omega
theorem qMv {ws:List Wd} {F q q':Nat} {nm pl:List UInt8} {d:De} (h:qCu ws F nm pl q=.inr (d,q')):q<q':=by
 rw [qCu] at h
 obtain⟨u1,q1,h1,h⟩:=then_ok h
 have:=qAr h1
 obtain⟨n,q2,h2,h⟩:=then_ok h
 have:=qCe h2
 obtain⟨l,q3,h3,h⟩:=then_ok h
 have:=qLW h3
 obtain⟨u4,q4,h4,h⟩:=then_ok h
 have:=qAr h4
 obtain⟨cs,q5,h5,h⟩:=then_ok h
 have:=qPF h5
 injection h with h;injection h with h1 h2;omega
theorem qHT {ws:List Wd} {F q q':Nat} {d:De} (h:qD7 ws F q=.inr (d,q')):q<q':=by
 rw [qD7] at h
 split at h
 ·rw [qFG] at h
  obtain⟨n,q1,h1,h⟩:=then_ok h
  have:=qCe h1
  injection h with h;injection h with h1 h2;omega
 split at h
 ·rw [qFB] at h
  obtain⟨nm,q1,h1,h⟩:=then_ok h
  have:=qEn h1
  obtain⟨u,q2,h2,h⟩:=then_ok h
  have:=qAr h2
  obtain⟨n,q3,h3,h⟩:=then_ok h
  have:=qCe h3
  injection h with h;injection h with h1 h2;omega
 split at h
 ·rw [qJJ] at h
  obtain⟨nm,q1,h1,h⟩:=then_ok h
  have:=qEn h1
  try simp only [] at h
  split at h
  ·obtain⟨pl,q2,h2,h⟩:=then_ok h
   have:=qEn h2
   obtain⟨u,q3,h3,h⟩:=then_ok h
   have:=qAr h3
   have:=qMv h
   omega
  ·have:=qMv h
   omega
 split at h
 ·rw [qDe] at h
  obtain⟨nm,q1,h1,h⟩:=then_ok h
  have:=qEn h1
  obtain⟨u,q2,h2,h⟩:=then_ok h
  have:=qAr h2
  obtain⟨n,q3,h3,h⟩:=then_ok h
  have:=qCe h3
  obtain⟨l,q4,h4,h⟩:=then_ok h
  have:=qLW h4
  injection h with h;injection h with h1 h2;omega
 split at h
 ·rw [qJS] at h
  obtain⟨l,q1,h1,h⟩:=then_ok h
  have:=qLW h1
  obtain⟨u,q2,h2,h⟩:=then_ok h
  have:=qAr h2
  obtain⟨cs,q3,h3,h⟩:=then_ok h
  have:=qPF h3
  injection h with h;injection h with h1 h2;omega
 ·cases h
abbrev fnP (g:FuncId):PV:=.fn (.func g) [] []
def qTB:List (List UInt8 × PV):=[(qH1,fnP 69),(qH0,fnP 70),(qNq,fnP 71),(qFY,fnP 72),(qNr,fnP 73)]
def mpO:AObj:=⟨163,false, .ms qTB⟩
def srO (v:AV):AObj:=⟨40,false, .bx [v]⟩
def qOJ (l:List De):AObj:=⟨qHt,false, .pus (l.map De.cells)⟩
def deO (d:De):AObj:=⟨qHt,false, .bx (d.cells.map .p)⟩
abbrev prH (ws:List Wd) (acc:List De) (q:Nat):Hp:=⟨5,[(4,qOJ acc),(3,srO (.sl 4 6 0 acc.length)),(2,mpO),(1,srO (.p .nils)),(0,psO ws q)]⟩
theorem qTT {a:List UInt8} (h1:¬ a=qH1) (h2:¬ a=qH0) (h3:¬ a=qNq) (h4:¬ a=qFY) (h5:¬ a=qNr):qBF qTB a=none:=by
 simp only [qTB,qBF,decide_eq_false h1,decide_eq_false h2,decide_eq_false h3,decide_eq_false h4,decide_eq_false h5]
theorem qPT (ws:List Wd) (F q0:Nat) (hF:4 * ws.length+8<=F) (hg:GoodW ws) (hq0:q0<=ws.length):HoldsG cx 46 [.ptr 0 0 0] (psH ws q0) (rdQ ws (qFg ws F F [] q0) fun l=>.p (qCs l)):=by
 generalize hR:qFg ws F F [] q0=R
 refine qAC Tryz.func46 rfl rfl rfl ?_
 have hl:=hg.len
 have hl':(ws.map Wd.cells).length=ws.length:=List.length_map ..
 refine⟨_,rfl,_,rfl,_,rfl,_,rfl,_,rfl,?_⟩
 refine⟨List De × Nat,fun x=>[(0, .ptr 0 0 0),(2, .ptr 1 0 0),(3, .mp 2),(4, .ptr 3 0 0)],fun x=>prH ws x.1 x.2,fun x=>x.2<=ws.length/\x.1.length<=x.2/\LI R (fun f=>qFg ws F f x.1 x.2) (ws.length - x.2),fun x=>ws.length - x.2,?_,?_⟩
 ·exact⟨([],q0),⟨hq0,by simp,⟨F,by simp only [];omega,hR.symm⟩⟩,qAA [] [] [(4,6)] rfl (sk) (sk) rfl⟩
 rintro⟨acc,q⟩ ⟨k1,k2,k3⟩
 simp only [] at k1 k2 k3
 refine VDraw.seq rfl ?_
 obtain⟨f,hf,k3⟩:=k3
 obtain⟨f,rfl⟩:∃ g,f=g+1:=⟨f - 1,by omega⟩
 simp only [] at k3
 rw [qFg] at k3
 refine QAD (fun c0=>?_) (fun c0=>?_)
 rotate_left
 ·have c0:¬ (q:Int)<((ws.map Wd.cells).length:Nat):=c0
  rw [hl'] at c0
  rw [if_neg (by omega)] at k3
  exact⟨[4],[],[], .returned (.p (qCs acc)),psH ws q,rfl,⟨_,rfl,⟨_,rfl,_,_,rfl,⟨_,rfl,by show 0+acc.length<=(acc.map De.cells).length;simp,qAD (by simp)⟩,rfl⟩⟩,sk,by rw [k3];exact⟨k1,rfl,rfl⟩⟩
 have c0:(q:Int)<((ws.map Wd.cells).length:Nat):=c0
 rw [hl'] at c0
 rw [if_pos (by omega)] at k3
 have hR:=k3.symm
 clear k3
 refine(qMX ws q hl k1).holds.useT [] [] rfl (sk) (sk) fun e0 H0 hq=>?_
 obtain⟨rfl,rfl⟩:=hq
 refine⟨rfl,_,⟨5,(0,psO ws q)::[(4,qOJ acc),(3,srO (.sl 4 6 0 acc.length)),(2,mpO),(1,srO (.p .nils))]⟩,rfl,rfl,?_⟩
 by_cases c:txt ws q=qH1
 ·have hdl:qD7 ws F q=qFG ws (q+1):=by rw [qD7,if_pos c]
  rw [hdl] at hR
  have ql:q+1<=ws.length:=qBS (by rw [c];decide)
  have hR:((qFG ws) (q+1)).then _=R:=hR
  refine⟨_, .inl ⟨_,by rw [c];rfl,rfl⟩,?_⟩
  refine⟨_,w6z,?_⟩
  refine((qTX ws F hF hg) (q+1) ql).holds.useT [] [] rfl (sk) (sk) fun e0 H0 hq=>?_
  rcases h1:(qFG ws) (q+1) with p | ⟨d,q2⟩
  ·rw [h1] at hq hR
   obtain⟨rfl,rfl⟩:=hq
   refine⟨rfl,_,_,rfl,rfl,?_⟩
   exact⟨[],[],[],qAV ws p,⟨1,[]⟩,rfl,⟨_,rfl,_,_,rfl,rfl,rfl⟩,trivial,by rw [<- hR];exact⟨rfl,rfl⟩⟩
  rw [h1] at hq hR hdl
  have hlt:=qHT hdl
  obtain⟨q2l,rfl,rfl⟩:=hq
  refine⟨rfl,_,⟨5,(0,psO ws q2)::[(4,qOJ acc),(3,srO (.sl 4 6 0 acc.length)),(2,mpO),(1,srO (.p .nils))]⟩,rfl,rfl,?_⟩
  simp only [qAL] at hR
  rw [<- qA0] at hR
  refine(qAf ws q2 [qBh] hl q2l (by simp) (by simp)).holds.useT [6] [] rfl (sk) ⟨_,_,rfl,⟨rfl,rfl⟩,_,_,rfl,⟨_,rfl,by decide,rfl⟩,rfl⟩ fun e0 H0 hq=>?_
  rcases h2:qAn ws [qBh] q2 with p | ⟨u2,q3⟩
  ·rw [h2] at hq hR
   obtain⟨rfl,rfl⟩:=hq
   refine⟨rfl,_,_,rfl,rfl,?_⟩
   exact⟨[],[],[],qAV ws p,⟨1,[]⟩,rfl,⟨_,rfl,_,_,rfl,rfl,rfl⟩,trivial,by rw [<- hR];exact⟨rfl,rfl⟩⟩
  rw [h2] at hq hR
  obtain⟨q3l,rfl,rfl⟩:=hq
  refine⟨rfl,_,⟨7,(0,psO ws q3)::[(6,sO [qBh]),(5,deO d),(4,qOJ acc),(3,srO (.sl 4 6 0 acc.length)),(2,mpO),(1,srO (.p .nils))]⟩,rfl,rfl,?_⟩
  simp only [qAL] at hR
  have hlt2:=qAr (ws:=ws) (s:=qBh) (q:=q2) (q':=q3) (u:=u2) (by rw [<- qA0];exact h2)
  refine⟨by show 0+1<=1;omega,[d.cells],rfl,?_⟩
  refine⟨by show 0+acc.length<=(acc.map De.cells).length;simp,acc.map De.cells,qAD (by simp),by show(acc.length+1) * 96<=140737488355328;omega,(acc++[d]).map De.cells,by simp,?_⟩
  exact⟨(acc++[d],q3),⟨q3l,by simp only [qAN];omega,⟨f,by simp only [];omega,hR.symm⟩⟩,qAA [] [(4,8)] [] rfl (sk) ⟨⟨_,rfl,rfl,rfl,rfl⟩,⟨_,rfl,rfl,rfl,_,rfl,_,_,rfl,congrArg (fun k:Nat=>AV.sl 8 6 0 k) (qAN acc d).symm,rfl⟩,sk⟩ rfl,by show ws.length - q3<ws.length - q;omega⟩
 have d1:=c
 clear c
 by_cases c:txt ws q=qH0
 ·have hdl:qD7 ws F q=qFB ws (q+1):=by rw [qD7,if_neg d1,if_pos c]
  rw [hdl] at hR
  have ql:q+1<=ws.length:=qBS (by rw [c];decide)
  have hR:((qFB ws) (q+1)).then _=R:=hR
  refine⟨_, .inl ⟨_,by rw [c];rfl,rfl⟩,?_⟩
  refine⟨_,w6z,?_⟩
  refine((qTD ws F hF hg) (q+1) ql).holds.useT [] [] rfl (sk) (sk) fun e0 H0 hq=>?_
  rcases h1:(qFB ws) (q+1) with p | ⟨d,q2⟩
  ·rw [h1] at hq hR
   obtain⟨rfl,rfl⟩:=hq
   refine⟨rfl,_,_,rfl,rfl,?_⟩
   exact⟨[],[],[],qAV ws p,⟨1,[]⟩,rfl,⟨_,rfl,_,_,rfl,rfl,rfl⟩,trivial,by rw [<- hR];exact⟨rfl,rfl⟩⟩
  rw [h1] at hq hR hdl
  have hlt:=qHT hdl
  obtain⟨q2l,rfl,rfl⟩:=hq
  refine⟨rfl,_,⟨5,(0,psO ws q2)::[(4,qOJ acc),(3,srO (.sl 4 6 0 acc.length)),(2,mpO),(1,srO (.p .nils))]⟩,rfl,rfl,?_⟩
  simp only [qAL] at hR
  rw [<- qA0] at hR
  refine(qAf ws q2 [qBh] hl q2l (by simp) (by simp)).holds.useT [6] [] rfl (sk) ⟨_,_,rfl,⟨rfl,rfl⟩,_,_,rfl,⟨_,rfl,by decide,rfl⟩,rfl⟩ fun e0 H0 hq=>?_
  rcases h2:qAn ws [qBh] q2 with p | ⟨u2,q3⟩
  ·rw [h2] at hq hR
   obtain⟨rfl,rfl⟩:=hq
   refine⟨rfl,_,_,rfl,rfl,?_⟩
   exact⟨[],[],[],qAV ws p,⟨1,[]⟩,rfl,⟨_,rfl,_,_,rfl,rfl,rfl⟩,trivial,by rw [<- hR];exact⟨rfl,rfl⟩⟩
  rw [h2] at hq hR
  obtain⟨q3l,rfl,rfl⟩:=hq
  refine⟨rfl,_,⟨7,(0,psO ws q3)::[(6,sO [qBh]),(5,deO d),(4,qOJ acc),(3,srO (.sl 4 6 0 acc.length)),(2,mpO),(1,srO (.p .nils))]⟩,rfl,rfl,?_⟩
  simp only [qAL] at hR
  have hlt2:=qAr (ws:=ws) (s:=qBh) (q:=q2) (q':=q3) (u:=u2) (by rw [<- qA0];exact h2)
  refine⟨by show 0+1<=1;omega,[d.cells],rfl,?_⟩
  refine⟨by show 0+acc.length<=(acc.map De.cells).length;simp,acc.map De.cells,qAD (by simp),by show(acc.length+1) * 96<=140737488355328;omega,(acc++[d]).map De.cells,by simp,?_⟩
  exact⟨(acc++[d],q3),⟨q3l,by simp only [qAN];omega,⟨f,by simp only [];omega,hR.symm⟩⟩,qAA [] [(4,8)] [] rfl (sk) ⟨⟨_,rfl,rfl,rfl,rfl⟩,⟨_,rfl,rfl,rfl,_,rfl,_,_,rfl,congrArg (fun k:Nat=>AV.sl 8 6 0 k) (qAN acc d).symm,rfl⟩,sk⟩ rfl,by show ws.length - q3<ws.length - q;omega⟩
 have d2:=c
 clear c
 by_cases c:txt ws q=qNq
 ·have hdl:qD7 ws F q=qJJ ws F (q+1):=by rw [qD7,if_neg d1,if_neg d2,if_pos c]
  rw [hdl] at hR
  have ql:q+1<=ws.length:=qBS (by rw [c];decide)
  have hR:((qJJ ws F) (q+1)).then _=R:=hR
  refine⟨_, .inl ⟨_,by rw [c];rfl,rfl⟩,?_⟩
  refine⟨_,w6z,?_⟩
  refine((qU3 ws F hF hg) (q+1) ql).holds.useT [] [] rfl (sk) (sk) fun e0 H0 hq=>?_
  rcases h1:(qJJ ws F) (q+1) with p | ⟨d,q2⟩
  ·rw [h1] at hq hR
   obtain⟨rfl,rfl⟩:=hq
   refine⟨rfl,_,_,rfl,rfl,?_⟩
   exact⟨[],[],[],qAV ws p,⟨1,[]⟩,rfl,⟨_,rfl,_,_,rfl,rfl,rfl⟩,trivial,by rw [<- hR];exact⟨rfl,rfl⟩⟩
  rw [h1] at hq hR hdl
  have hlt:=qHT hdl
  obtain⟨q2l,rfl,rfl⟩:=hq
  refine⟨rfl,_,⟨5,(0,psO ws q2)::[(4,qOJ acc),(3,srO (.sl 4 6 0 acc.length)),(2,mpO),(1,srO (.p .nils))]⟩,rfl,rfl,?_⟩
  simp only [qAL] at hR
  rw [<- qA0] at hR
  refine(qAf ws q2 [qBh] hl q2l (by simp) (by simp)).holds.useT [6] [] rfl (sk) ⟨_,_,rfl,⟨rfl,rfl⟩,_,_,rfl,⟨_,rfl,by decide,rfl⟩,rfl⟩ fun e0 H0 hq=>?_
  rcases h2:qAn ws [qBh] q2 with p | ⟨u2,q3⟩
  ·rw [h2] at hq hR
   obtain⟨rfl,rfl⟩:=hq
   refine⟨rfl,_,_,rfl,rfl,?_⟩
   exact⟨[],[],[],qAV ws p,⟨1,[]⟩,rfl,⟨_,rfl,_,_,rfl,rfl,rfl⟩,trivial,by rw [<- hR];exact⟨rfl,rfl⟩⟩
  rw [h2] at hq hR
  obtain⟨q3l,rfl,rfl⟩:=hq
  refine⟨rfl,_,⟨7,(0,psO ws q3)::[(6,sO [qBh]),(5,deO d),(4,qOJ acc),(3,srO (.sl 4 6 0 acc.length)),(2,mpO),(1,srO (.p .nils))]⟩,rfl,rfl,?_⟩
  simp only [qAL] at hR
  have hlt2:=qAr (ws:=ws) (s:=qBh) (q:=q2) (q':=q3) (u:=u2) (by rw [<- qA0];exact h2)
  refine⟨by show 0+1<=1;omega,[d.cells],rfl,?_⟩
  refine⟨by show 0+acc.length<=(acc.map De.cells).length;simp,acc.map De.cells,qAD (by simp),by show(acc.length+1) * 96<=140737488355328;omega,(acc++[d]).map De.cells,by simp,?_⟩
  exact⟨(acc++[d],q3),⟨q3l,by simp only [qAN];omega,⟨f,by simp only [];omega,hR.symm⟩⟩,qAA [] [(4,8)] [] rfl (sk) ⟨⟨_,rfl,rfl,rfl,rfl⟩,⟨_,rfl,rfl,rfl,_,rfl,_,_,rfl,congrArg (fun k:Nat=>AV.sl 8 6 0 k) (qAN acc d).symm,rfl⟩,sk⟩ rfl,by show ws.length - q3<ws.length - q;omega⟩
 have d3:=c
 clear c
 by_cases c:txt ws q=qFY
 ·have hdl:qD7 ws F q=qDe ws F (q+1):=by rw [qD7,if_neg d1,if_neg d2,if_neg d3,if_pos c]
  rw [hdl] at hR
  have ql:q+1<=ws.length:=qBS (by rw [c];decide)
  have hR:((qDe ws F) (q+1)).then _=R:=hR
  refine⟨_, .inl ⟨_,by rw [c];rfl,rfl⟩,?_⟩
  refine⟨_,w6z,?_⟩
  refine((qR2 ws F hF hg) (q+1) ql).holds.useT [] [] rfl (sk) (sk) fun e0 H0 hq=>?_
  rcases h1:(qDe ws F) (q+1) with p | ⟨d,q2⟩
  ·rw [h1] at hq hR
   obtain⟨rfl,rfl⟩:=hq
   refine⟨rfl,_,_,rfl,rfl,?_⟩
   exact⟨[],[],[],qAV ws p,⟨1,[]⟩,rfl,⟨_,rfl,_,_,rfl,rfl,rfl⟩,trivial,by rw [<- hR];exact⟨rfl,rfl⟩⟩
  rw [h1] at hq hR hdl
  have hlt:=qHT hdl
  obtain⟨q2l,rfl,rfl⟩:=hq
  refine⟨rfl,_,⟨5,(0,psO ws q2)::[(4,qOJ acc),(3,srO (.sl 4 6 0 acc.length)),(2,mpO),(1,srO (.p .nils))]⟩,rfl,rfl,?_⟩
  simp only [qAL] at hR
  rw [<- qA0] at hR
  refine(qAf ws q2 [qBh] hl q2l (by simp) (by simp)).holds.useT [6] [] rfl (sk) ⟨_,_,rfl,⟨rfl,rfl⟩,_,_,rfl,⟨_,rfl,by decide,rfl⟩,rfl⟩ fun e0 H0 hq=>?_
  rcases h2:qAn ws [qBh] q2 with p | ⟨u2,q3⟩
  ·rw [h2] at hq hR
   obtain⟨rfl,rfl⟩:=hq
   refine⟨rfl,_,_,rfl,rfl,?_⟩
   exact⟨[],[],[],qAV ws p,⟨1,[]⟩,rfl,⟨_,rfl,_,_,rfl,rfl,rfl⟩,trivial,by rw [<- hR];exact⟨rfl,rfl⟩⟩
  rw [h2] at hq hR
  obtain⟨q3l,rfl,rfl⟩:=hq
  refine⟨rfl,_,⟨7,(0,psO ws q3)::[(6,sO [qBh]),(5,deO d),(4,qOJ acc),(3,srO (.sl 4 6 0 acc.length)),(2,mpO),(1,srO (.p .nils))]⟩,rfl,rfl,?_⟩
  simp only [qAL] at hR
  have hlt2:=qAr (ws:=ws) (s:=qBh) (q:=q2) (q':=q3) (u:=u2) (by rw [<- qA0];exact h2)
  refine⟨by show 0+1<=1;omega,[d.cells],rfl,?_⟩
  refine⟨by show 0+acc.length<=(acc.map De.cells).length;simp,acc.map De.cells,qAD (by simp),by show(acc.length+1) * 96<=140737488355328;omega,(acc++[d]).map De.cells,by simp,?_⟩
  exact⟨(acc++[d],q3),⟨q3l,by simp only [qAN];omega,⟨f,by simp only [];omega,hR.symm⟩⟩,qAA [] [(4,8)] [] rfl (sk) ⟨⟨_,rfl,rfl,rfl,rfl⟩,⟨_,rfl,rfl,rfl,_,rfl,_,_,rfl,congrArg (fun k:Nat=>AV.sl 8 6 0 k) (qAN acc d).symm,rfl⟩,sk⟩ rfl,by show ws.length - q3<ws.length - q;omega⟩
 have d4:=c
 clear c
 by_cases c:txt ws q=qNr
 ·have hdl:qD7 ws F q=qJS ws F (q+1):=by rw [qD7,if_neg d1,if_neg d2,if_neg d3,if_neg d4,if_pos c]
  rw [hdl] at hR
  have ql:q+1<=ws.length:=qBS (by rw [c];decide)
  have hR:((qJS ws F) (q+1)).then _=R:=hR
  refine⟨_, .inl ⟨_,by rw [c];rfl,rfl⟩,?_⟩
  refine⟨_,w6z,?_⟩
  refine((qVK ws F hF hg) (q+1) ql).holds.useT [] [] rfl (sk) (sk) fun e0 H0 hq=>?_
  rcases h1:(qJS ws F) (q+1) with p | ⟨d,q2⟩
  ·rw [h1] at hq hR
   obtain⟨rfl,rfl⟩:=hq
   refine⟨rfl,_,_,rfl,rfl,?_⟩
   exact⟨[],[],[],qAV ws p,⟨1,[]⟩,rfl,⟨_,rfl,_,_,rfl,rfl,rfl⟩,trivial,by rw [<- hR];exact⟨rfl,rfl⟩⟩
  rw [h1] at hq hR hdl
  have hlt:=qHT hdl
  obtain⟨q2l,rfl,rfl⟩:=hq
  refine⟨rfl,_,⟨5,(0,psO ws q2)::[(4,qOJ acc),(3,srO (.sl 4 6 0 acc.length)),(2,mpO),(1,srO (.p .nils))]⟩,rfl,rfl,?_⟩
  simp only [qAL] at hR
  rw [<- qA0] at hR
  refine(qAf ws q2 [qBh] hl q2l (by simp) (by simp)).holds.useT [6] [] rfl (sk) ⟨_,_,rfl,⟨rfl,rfl⟩,_,_,rfl,⟨_,rfl,by decide,rfl⟩,rfl⟩ fun e0 H0 hq=>?_
  rcases h2:qAn ws [qBh] q2 with p | ⟨u2,q3⟩
  ·rw [h2] at hq hR
   obtain⟨rfl,rfl⟩:=hq
   refine⟨rfl,_,_,rfl,rfl,?_⟩
   exact⟨[],[],[],qAV ws p,⟨1,[]⟩,rfl,⟨_,rfl,_,_,rfl,rfl,rfl⟩,trivial,by rw [<- hR];exact⟨rfl,rfl⟩⟩
  rw [h2] at hq hR
  obtain⟨q3l,rfl,rfl⟩:=hq
  refine⟨rfl,_,⟨7,(0,psO ws q3)::[(6,sO [qBh]),(5,deO d),(4,qOJ acc),(3,srO (.sl 4 6 0 acc.length)),(2,mpO),(1,srO (.p .nils))]⟩,rfl,rfl,?_⟩
  simp only [qAL] at hR
  have hlt2:=qAr (ws:=ws) (s:=qBh) (q:=q2) (q':=q3) (u:=u2) (by rw [<- qA0];exact h2)
  refine⟨by show 0+1<=1;omega,[d.cells],rfl,?_⟩
  refine⟨by show 0+acc.length<=(acc.map De.cells).length;simp,acc.map De.cells,qAD (by simp),by show(acc.length+1) * 96<=140737488355328;omega,(acc++[d]).map De.cells,by simp,?_⟩
  exact⟨(acc++[d],q3),⟨q3l,by simp only [qAN];omega,⟨f,by simp only [];omega,hR.symm⟩⟩,qAA [] [(4,8)] [] rfl (sk) ⟨⟨_,rfl,rfl,rfl,rfl⟩,⟨_,rfl,rfl,rfl,_,rfl,_,_,rfl,congrArg (fun k:Nat=>AV.sl 8 6 0 k) (qAN acc d).symm,rfl⟩,sk⟩ rfl,by show ws.length - q3<ws.length - q;omega⟩
 have hdl:qD7 ws F q=.inl q:=by rw [qD7,if_neg d1,if_neg d2,if_neg d3,if_neg d4,if_neg c]
 rw [hdl] at hR
 refine⟨_, .inr ⟨qTT d1 d2 d3 d4 c,rfl⟩,?_⟩
 refine(qKj ws q hl k1).holds.useT [] [] rfl (sk) (sk) fun e0 H0 hq=>?_
 obtain⟨rfl,rfl⟩:=hq
 refine⟨rfl,_,⟨5,(0,psO ws q)::[(4,qOJ acc),(3,srO (.sl 4 6 0 acc.length)),(2,mpO),(1,srO (.p .nils))]⟩,rfl,rfl,?_⟩
 exact⟨[],[],[],qAV ws q,⟨1,[]⟩,rfl,⟨_,rfl,_,_,rfl,rfl,rfl⟩,trivial,by rw [<- hR];exact⟨rfl,rfl⟩⟩
def checkN (w:Wd):Bool:=decide (1<=w.line) && (decide (w.line<=8000) && (decide (1<=w.col) && (decide (w.col<=8000) && qAw w.kind w.text)))
def qGH (w:Wd):Int:=if checkN w then 0 else 370
theorem qTs (w:Wd) (ht:w.text.length<=9223372036854775807):Pure cx 106 [.agg w.cells] (·=.ret [i64 (qGH w)]):=by
 refine qAB Tryz.func106 rfl rfl rfl ?_
 have bad:checkN w=false->PEnd.ret [i64 370]=.ret [i64 (qGH w)]:=fun h=>by rw [qGH,h];rfl
 refine And.intro (fun h1=>?_) (fun h1=>?_)
 ·have h1:w.line<1:=h1
  exact qAF _ rfl rfl (bad (by simp [checkN];omega))
 ·have h1:¬ w.line<1:=h1
  refine And.intro (fun h2=>?_) (fun h2=>?_)
  ·have h2:8000<w.line:=h2
   exact qAF _ rfl rfl (bad (by simp [checkN];omega))
  ·have h2:¬ 8000<w.line:=h2
   refine And.intro (fun h3=>?_) (fun h3=>?_)
   ·have h3:w.col<1:=h3
    exact qAF _ rfl rfl (bad (by simp [checkN];omega))
   ·have h3:¬ w.col<1:=h3
    refine And.intro (fun h4=>?_) (fun h4=>?_)
    ·have h4:8000<w.col:=h4
     exact qAF _ rfl rfl (bad (by simp [checkN];omega))
    ·have h4:¬ 8000<w.col:=h4
     have hP:=qDT w.kind w.text ht
     by_cases hr:qAw w.kind w.text=true
     ·rw [hr] at hP
      refine hP.eq rfl ?_
      refine qAF _ rfl rfl ?_
      rw [qGH,if_pos (by simp [checkN,hr];omega)]
     ·rw [Bool.not_eq_true] at hr
      rw [hr] at hP
      refine hP.eq rfl ?_
      exact qAF _ rfl rfl (bad (by simp [checkN,hr]))
def qB0 (n:Int):Bool:=decide (0<=n) && decide (n<=9999)
def qBg (r:Rf):Bool:=qAk r.name && (if r.mode=0∨r.mode=3 then decide (r.plate=[]) && decide (r.n=0) else if r.mode=1 then qAk r.plate && qB0 r.n else if r.mode=2 then decide (r.plate=[]) && qB0 r.n else false)
def qOb (l:List Int):Nat->Nat->Bool
 | 0,_=>true
 | f+1,k=>qB0 (l.getD k 0) && (decide (k=0) || decide (l.getD (k - 1) 0<l.getD k 0)) && qOb l f (k+1)
def qGp (l:List Int):Bool:=decide (1<=l.length) && decide (l.length<=8) && qOb l l.length 0
abbrev qLD (t:List UInt8):Prop:=t.length<=9223372036854775807
structure BigR (r:Rf):Prop where
 name:qLD r.name
 plate:qLD r.plate
theorem qGV (t:List UInt8) (ht:qLD t):Pure cx 79 [.str t] (·=.ret [.bool (qAk t)]):=by
 have hc:=qTs ⟨1,t,1,1⟩ ht
 refine qAB Tryz.func79 rfl rfl rfl ?_
 refine hc.eq rfl ?_
 have e:qGH ⟨1,t,1,1⟩=if qAk t then 0 else 370:=by
  simp [qGH,checkN,qAw]
 refine QAD (fun h1=>?_) (fun h1=>?_)
 ·have h1:qGH ⟨1,t,1,1⟩=0:=h1
  exact qAF _ rfl rfl (qAO (by cases hn:qAk t <;> simp_all))
 ·have h1:¬ qGH ⟨1,t,1,1⟩=0:=h1
  exact qAF _ rfl rfl (qAO (by cases hn:qAk t <;> simp_all))
theorem qD4 (n:Int):Pure cx 77 [i64 n] (·=.ret [.bool (qB0 n)]):=by
 refine qAB Tryz.func77 rfl rfl rfl ?_
 refine QAD (fun h1=>?_) (fun h1=>?_)
 ·have h1:(0:Int)<=n:=h1
  refine QAD (fun h2=>?_) (fun h2=>?_)
  ·have h2:n<=9999:=h2
   exact qAF _ rfl rfl (qAO (by simp [qB0,h1,h2]))
  ·have h2:¬ n<=9999:=h2
   exact qAF _ rfl rfl (qAO (by simp [qB0,h2]))
 ·have h1:¬ (0:Int)<=n:=h1
  exact qAF _ rfl rfl (qAO (by simp [qB0,h1]))
theorem qG1 (r:Rf) (hr:BigR r):Pure cx 78 [r.pv] (·=.ret [.bool (qBg r)]):=by
 refine qAB Tryz.func78 rfl rfl rfl ?_
 have hN:=qGV r.name hr.name
 by_cases n1:qAk r.name=true
 rotate_left
 ·rw [Bool.not_eq_true] at n1
  rw [n1] at hN
  refine hN.eq rfl ?_
  exact qAF _ rfl rfl (qAO (by rw [qBg,n1];rfl))
 rw [n1] at hN
 refine hN.eq rfl ?_
 have hP:=qGV r.plate hr.plate
 have hA:=qD4 r.n
 refine QAD (fun h1=>?_) (fun h1=>?_)
 ·have h1:r.mode=0:=h1
  refine QAD (fun h2=>?_) (fun h2=>?_)
  ·have h2:r.plate=[]:=h2
   refine QAD (fun h3=>?_) (fun h3=>?_)
   ·have h3:r.n=0:=h3
    exact qAF _ rfl rfl (qAO (by simp [qBg,n1,h1,h2,h3]))
   ·have h3:¬ r.n=0:=h3
    exact qAF _ rfl rfl (qAO (by simp [qBg,n1,h1,h2,h3]))
  ·have h2:¬ r.plate=[]:=h2
   exact qAF _ rfl rfl (qAO (by simp [qBg,n1,h1,h2]))
 have h1:¬ r.mode=0:=h1
 refine QAD (fun h4=>?_) (fun h4=>?_)
 ·have h4:r.mode=3:=h4
  refine QAD (fun h2=>?_) (fun h2=>?_)
  ·have h2:r.plate=[]:=h2
   refine QAD (fun h3=>?_) (fun h3=>?_)
   ·have h3:r.n=0:=h3
    exact qAF _ rfl rfl (qAO (by simp [qBg,n1,h4,h2,h3]))
   ·have h3:¬ r.n=0:=h3
    exact qAF _ rfl rfl (qAO (by simp [qBg,n1,h4,h2,h3]))
  ·have h2:¬ r.plate=[]:=h2
   exact qAF _ rfl rfl (qAO (by simp [qBg,n1,h4,h2]))
 have h4:¬ r.mode=3:=h4
 refine QAD (fun h5=>?_) (fun h5=>?_)
 ·have h5:r.mode=1:=h5
  by_cases n2:qAk r.plate=true
  ·rw [n2] at hP
   refine hP.eq rfl ?_
   refine hA.eq rfl ?_
   exact qAF _ rfl rfl (qAO (by simp [qBg,n1,n2,h5]))
  ·rw [Bool.not_eq_true] at n2
   rw [n2] at hP
   refine hP.eq rfl ?_
   exact qAF _ rfl rfl (qAO (by simp [qBg,n1,n2,h5]))
 have h5:¬ r.mode=1:=h5
 refine QAD (fun h6=>?_) (fun h6=>?_)
 ·have h6:r.mode=2:=h6
  refine QAD (fun h2=>?_) (fun h2=>?_)
  ·have h2:r.plate=[]:=h2
   refine hA.eq rfl ?_
   exact qAF _ rfl rfl (qAO (by simp [qBg,n1,h6,h2]))
  ·have h2:¬ r.plate=[]:=h2
   exact qAF _ rfl rfl (qAO (by simp [qBg,n1,h6,h2]))
 have h6:¬ r.mode=2:=h6
 exact qAF _ rfl rfl (qAO (by simp [qBg,h1,h4,h5,h6]))
theorem qV0 (l:List Int) (hl:l.length<=9223372036854775807):Pure cx 139 [ints l] (·=.ret [.bool (qGp l)]):=by
 refine qAB Tryz.func139 rfl rfl rfl ?_
 have hm:(l.map i64).length=l.length:=List.length_map ..
 refine QAD (fun h1=>?_) (fun h1=>?_)
 ·have h1:((l.map i64).length:Int)<1:=h1
  rw [hm] at h1
  exact qAF _ rfl rfl (qAO (by rw [qGp,decide_eq_false (by omega)];rfl))
 have h1:¬ ((l.map i64).length:Int)<1:=h1
 rw [hm] at h1
 refine QAD (fun h2=>?_) (fun h2=>?_)
 ·have h2:(8:Int)<((l.map i64).length:Nat):=h2
  rw [hm] at h2
  exact qAF _ rfl rfl (qAO (by rw [qGp,decide_eq_false (show ¬ l.length<=8 by omega),Bool.and_false];rfl))
 have h2:¬ (8:Int)<((l.map i64).length:Nat):=h2
 rw [hm] at h2
 have hB0:qGp l=qOb l (l.length - 0) 0:=by rw [qGp,decide_eq_true (show 1<=l.length by omega),decide_eq_true (show l.length<=8 by omega)];rfl
 refine⟨Nat,fun k=>[(0, .p (ints l)),(13, .p (ints l)),(14, .p (i64 l.length)),(15, .p (i64 k))],fun _=>⟨0,[]⟩,fun k=>k<=l.length/\qGp l=qOb l (l.length - k) k,fun k=>l.length - k,?_,?_⟩
 ·exact⟨0,⟨Nat.zero_le _,hB0⟩,qDu rfl ⟨rfl,rfl,congrArg (fun n:Nat=>i64 n) hm.symm,rfl,trivial⟩ trivial rfl⟩
 rintro k ⟨k1,k2⟩
 refine QAD (fun h3=>?_) (fun h3=>?_)
 rotate_left
 ·have h3:¬ (k:Int)<(l.length:Nat):=h3
  rw [show l.length - k=0 by omega,qOb] at k2
  exact qAF _ rfl rfl (qAO k2.symm)
 have h3:(k:Int)<(l.length:Nat):=h3
 have hk:k<l.length:=by omega
 obtain⟨f,hf⟩:∃ f,l.length - k=f+1:=⟨l.length - k - 1,by omega⟩
 rw [hf,qOb] at k2
 refine⟨_,⟨by omega,i64 (l.getD k 0),qCQ hk,rfl⟩,?_⟩
 have hN:=qD4 (l.getD k 0)
 by_cases n1:qB0 (l.getD k 0)=true
 rotate_left
 ·rw [Bool.not_eq_true] at n1
  rw [n1] at hN k2
  refine hN.eq rfl ?_
  exact qAF _ rfl rfl (qAO (by rw [k2];simp))
 rw [n1] at hN k2
 refine hN.eq rfl ?_
 refine QAD (fun h4=>?_) (fun h4=>?_)
 ·have h4:(0:Int)<(k:Nat):=h4
  obtain⟨j,rfl⟩:∃ j,k=j+1:=⟨k - 1,by omega⟩
  refine⟨(j:Int),by rw [show((j+1:Nat):Int) - 1=(j:Int) by omega];exact w6z,?_⟩
  refine⟨_,⟨by omega,i64 (l.getD j 0),qCQ (by omega),rfl⟩,?_⟩
  refine QAD (fun h5=>?_) (fun h5=>?_)
  ·have h5:l.getD (j+1) 0<=l.getD j 0:=h5
   exact qAF _ rfl rfl (qAO (by rw [k2,Nat.add_sub_cancel,decide_eq_false (show ¬ l.getD j 0<l.getD (j+1) 0 by omega),decide_eq_false (by omega)];rfl))
  ·have h5:¬ l.getD (j+1) 0<=l.getD j 0:=h5
   refine⟨_,w6z,?_⟩
   exact⟨j+1+1,⟨by omega,by rw [k2,Nat.add_sub_cancel,decide_eq_true (show l.getD j 0<l.getD (j+1) 0 by omega),Bool.or_true,show l.length - (j+1+1)=f by omega];rfl⟩,qDu rfl ⟨rfl,rfl,rfl,rfl,trivial⟩ trivial rfl,by show l.length - (j+1+1)<l.length - (j+1);omega⟩
 ·have h4:¬ (0:Int)<(k:Nat):=h4
  have hk0:k=0:=by omega
  subst hk0
  refine⟨_,w6z,?_⟩
  exact⟨0+1,⟨by omega,by rw [k2,show l.length - (0+1)=f by omega];rfl⟩,qDu rfl ⟨rfl,rfl,rfl,rfl,trivial⟩ trivial rfl,by show l.length - (0+1)<l.length - 0;omega⟩
def qAm (n rel val:Int) (r:Rf) (st:List Int):Bool:=decide (n=0) && decide (rel=0) && decide (val=0) && decide (r=rf0) && decide (st=[])
def qAT (op n rel val:Int) (r:Rf) (st:List Int):Bool:=
 if op=1∨op=2∨op=3∨op=4 then qBg r && qB0 n && decide (rel=0) && decide (val=0) && decide (st=[])
 else if op=5 then qBg r && decide (n=0) && decide (rel=0) && decide (val=0) && qGp st
 else if op=6 then qBg r && decide (r.mode=3) && qB0 n && qB0 val && decide (1<=rel) && decide (rel<=4) && decide (st=[]) else false
def qAX (op:Int):Nat:=if op=7 then 1 else if op=8∨op=9 then 2 else 0
def qAW (op n rel val:Int) (r:Rf) (st:List Int) (k:Nat):Bool:=if qAX op=0 then qAT op n rel val r st && decide (k=0) else decide (k=qAX op) && qAm n rel val r st
def qAg:Nat->Cd->Nat->Option Nat
 | 0,_,_=>none
 | d+1, .mk op n rel val r st ar,left=>if left=0 then none else if qAW op n rel val r st ar.length=true then ar.foldlM (fun l c=>qAg d c l) (left - 1) else none
theorem qQG {f:Nat->Cd->Option Nat} (hf:∀ l c k,f l c=some k->k<=l):∀ (ar:List Cd) (l k:Nat),ar.foldlM f l=some k->k<=l
 | [],l,k,h=>by
  rw [List.foldlM_nil] at h
  injection h with h;omega
 | c::ar,l,k,h=>by
  rw [List.foldlM_cons] at h
  cases hc:f l c with
  | none=>rw [hc] at h;cases h
  | some m=>
   rw [hc] at h
   have:=qQG hf ar m k h
   have:=hf l c m hc
   omega
theorem qBf:∀ (d:Nat) (c:Cd) (left k:Nat),qAg d c left=some k->k<=left
 | 0,_,_,_,h=>by cases h
 | d+1, .mk op n rel val r st ar,left,k,h=>by
  rw [qAg] at h
  split at h
  ·cases h
  ·split at h
   ·have:=qQG (fun l c k h=>qBf d c l k h) ar _ k h
    omega
   ·cases h
mutual
def qC8:Cd->Prop
 | .mk _ _ _ _ r st ar=>BigR r/\st.length<=9223372036854775807/\ar.length<=9223372036854775807/\qHu ar
def qHu:List Cd->Prop
 | []=>True
 | c::r=>qC8 c/\qHu r
end
theorem qBO:∀ {l:List Cd} {c:Cd},qHu l->c∈l->qC8 c
 | [],_,_,h=>by simp at h
 | x::l,c,h,hc=>by
  simp only [qHu] at h
  rcases List.mem_cons.1 hc with rfl | hc
  ·exact h.1
  ·exact qBO h.2 hc
theorem qPZ (op n rel val:Int) (r:Rf) (st:List Int) (ar:List Cd) (_hs:st.length<=9223372036854775807):Pure cx 107 [(Cd.mk op n rel val r st ar).pv] (·=.ret [.bool (qAm n rel val r st)]):=by
 refine qAB Tryz.func107 rfl rfl rfl ?_
 refine QAD (fun h1=>?_) (fun h1=>?_)
 rotate_left
 ·have h1:¬ n=0:=h1
  exact qAF _ rfl rfl (qAO (by rw [qAm,decide_eq_false h1];rfl))
 have h1:n=0:=h1
 refine QAD (fun h2=>?_) (fun h2=>?_)
 rotate_left
 ·have h2:¬ rel=0:=h2
  exact qAF _ rfl rfl (qAO (by rw [qAm,decide_eq_false h2,Bool.and_false];rfl))
 have h2:rel=0:=h2
 refine QAD (fun h3=>?_) (fun h3=>?_)
 rotate_left
 ·have h3:¬ val=0:=h3
  exact qAF _ rfl rfl (qAO (by rw [qAm,decide_eq_false h3,Bool.and_false];rfl))
 have h3:val=0:=h3
 refine⟨⟨by kernel_rfl,by kernel_rfl⟩,fun h4=>?_,fun h4=>?_⟩
 rotate_left
 ·have h4:¬ r=rf0:=fun e=>h4 (by rw [e];rfl)
  exact qAF _ rfl rfl (qAO (by rw [qAm,decide_eq_false h4,Bool.and_false];rfl))
 have h4:r=rf0:=by
  have h4:r.cells=rf0.cells:=by first | exact h4 | (injection h4)
  obtain⟨a,b,c,d⟩:=r
  simp only [Rf.cells,rf0,List.cons.injEq,PV.str.injEq,PV.int.injEq,true_and,and_true] at h4
  obtain⟨rfl,rfl,rfl,rfl⟩:=h4
  rfl
 refine QAD (fun h5=>?_) (fun h5=>?_)
 ·have h5:((st.map i64).length:Int)=0:=h5
  rw [List.length_map] at h5
  have:st=[]:=List.length_eq_zero_iff.1 (by omega)
  exact qAF _ rfl rfl (qAO (by rw [qAm,decide_eq_true h1,decide_eq_true h2,decide_eq_true h3,decide_eq_true h4,decide_eq_true this];rfl))
 ·have h5:¬ ((st.map i64).length:Int)=0:=h5
  rw [List.length_map] at h5
  exact qAF _ rfl rfl (qAO (by rw [qAm,decide_eq_false (show ¬ st=[] from fun e=>h5 (by rw [e];rfl)),Bool.and_false]))
set_option maxHeartbeats 40000000
def lfO (l:Int):AObj:=⟨qSl,false, .bx [.p (i64 l)]⟩
abbrev lfH (l:Nat):Hp:=⟨1,[(0,lfO l)]⟩
def cvQ (r:Option Nat) (e:AE) (H':Hp):Prop:=match r with
 | some l=>e=.returned (vB true)/\H'=lfH l
 | none=>e=.returned (vB false)/\H'=⟨1,[]⟩
theorem qCq {l:List Cd} {k:Nat} (h:k<l.length):(l.map Cd.cells)[k]?=some (l.getD k cd0).cells:=qCw cd0 h
def qWY (d:Nat):Prop:=∀ (c:Cd) (left p:Nat),qC8 c->left<=1000->p+d=9->HoldsG cx 108 [.p c.pv, .p (i64 p), .ptr 0 0 0] (lfH left) (cvQ (qAg d c left))
theorem qTo (d:Nat) (ih:qWY d):qWY (d+1):=by
 rintro⟨op,n,rel,val,r,st,ar⟩ left p hb hl hp9
 simp only [qC8] at hb
 obtain⟨hb1,hb2,hb3,hb4⟩:=hb
 have hP:=qPZ op n rel val r st ar hb2
 have epv:(Cd.mk op n rel val r st ar).pv=.agg [i64 op,i64 n,i64 rel,i64 val, .str r.name,i64 r.mode, .str r.plate,i64 r.n,ints st,cds ar]:=by
  show PV.agg [i64 op,i64 n,i64 rel,i64 val, .str r.name,i64 r.mode, .str r.plate,i64 r.n,ints st, .lsts 10 (qBG ar)]=_
  rw [qBN]
 rw [epv] at hP ⊢
 generalize hR:qAg (d+1) (.mk op n rel val r st ar) left=R
 rw [qAg] at hR
 have hRf:=qG1 r hb1
 have hNn:=qD4 n
 have hNv:=qD4 val
 have hS:=qV0 st hb2
 refine qAC Tryz.func108 rfl rfl rfl ?_
 rcases Nat.eq_zero_or_pos left with h0 | h0
 ·subst h0
  rw [if_pos rfl] at hR
  refine⟨-1,by decide,?_⟩
  refine And.intro (fun _=>?_) (fun h=>absurd (show(-1:Int)<0 by decide) h)
  exact⟨[],[],[], .returned (vB false),⟨1,[]⟩,rfl,sk,trivial,by rw [<- hR];exact⟨rfl,rfl⟩⟩
 obtain⟨m,rfl⟩:∃ m,left=m+1:=⟨left - 1,by omega⟩
 rw [if_neg (by omega),Nat.add_sub_cancel] at hR
 have hno:qAW op n rel val r st ar.length=false->R=none:=fun h=>by rw [<- hR,if_neg (by rw [h];decide)]
 have hyes:qAW op n rel val r st ar.length=true->ar.foldlM (fun l c=>qAg d c l) m=R:=fun h=>by rw [<- hR,if_pos h]
 clear hR
 refine⟨(m:Int),by rw [show((m+1:Nat):Int) - 1=(m:Int) by omega];exact w6z,?_⟩
 refine And.intro (fun h=>absurd (show(m:Int)<0 from h) (by omega)) (fun _=>?_)
 refine And.intro (fun h=>absurd (show(8:Int)<(p:Nat) from h) (by omega)) (fun _=>?_)
 refine QAD (fun o1=>?_) (fun o1=>?_)
 ·have o1:op=1:=o1
  by_cases r1:qBg r=true
  rotate_left
  ·rw [Bool.not_eq_true] at r1
   rw [r1] at hRf
   refine hRf.eq rfl ?_
   exact⟨[],[],[], .returned (vB false),⟨1,[]⟩,rfl,sk,trivial,by rw [hno (by simp [qAW,qAX,qAT, *])];exact⟨rfl,rfl⟩⟩
  rw [r1] at hRf
  refine hRf.eq rfl ?_
  by_cases r2:qB0 n=true
  rotate_left
  ·rw [Bool.not_eq_true] at r2
   rw [r2] at hNn
   refine hNn.eq rfl ?_
   exact⟨[],[],[], .returned (vB false),⟨1,[]⟩,rfl,sk,trivial,by rw [hno (by simp [qAW,qAX,qAT, *])];exact⟨rfl,rfl⟩⟩
  rw [r2] at hNn
  refine hNn.eq rfl ?_
  refine And.intro (fun r3=>?_) (fun r3=>?_)
  rotate_left
  ·have r3:¬ rel=0:=r3
   exact⟨[],[],[], .returned (vB false),⟨1,[]⟩,rfl,sk,trivial,by rw [hno (by simp [qAW,qAX,qAT, *])];exact⟨rfl,rfl⟩⟩
  have r3:rel=0:=r3
  refine And.intro (fun r4=>?_) (fun r4=>?_)
  rotate_left
  ·have r4:¬ val=0:=r4
   exact⟨[],[],[], .returned (vB false),⟨1,[]⟩,rfl,sk,trivial,by rw [hno (by simp [qAW,qAX,qAT, *])];exact⟨rfl,rfl⟩⟩
  have r4:val=0:=r4
  refine And.intro (fun r5=>?_) (fun r5=>?_)
  rotate_left
  ·have r5:¬ ((st.map i64).length:Int)=0:=r5
   have r5:¬ st=[]:=fun e=>r5 (by rw [e];rfl)
   exact⟨[],[],[], .returned (vB false),⟨1,[]⟩,rfl,sk,trivial,by rw [hno (by simp [qAW,qAX,qAT, *])];exact⟨rfl,rfl⟩⟩
  have r5:((st.map i64).length:Int)=0:=r5
  have r5:st=[]:=by rw [List.length_map] at r5;exact List.length_eq_zero_iff.1 (by omega)
  by_cases hk:ar.length=0
  rotate_left
  ·refine And.intro (fun h=>absurd (show((ar.map Cd.cells).length:Int)=0 from h) (by rw [List.length_map];omega)) (fun _=>?_)
   exact⟨[],[],[], .returned (vB false),⟨1,[]⟩,rfl,sk,trivial,by rw [hno (by simp [qAW,qAX, *])];exact⟨rfl,rfl⟩⟩
  refine And.intro (fun _=>?_) (fun h=>absurd (show((ar.map Cd.cells).length:Int)=0 by rw [List.length_map];omega) h)
  refine And.intro (fun h=>absurd (show(0:Int)<0 from h) (by decide)) (fun _=>?_)
  refine⟨Nat × Nat,fun x=>[(1, .p (i64 p)),(2, .ptr 0 0 0),(143, .p (cds ar)),(144, .p (i64 ar.length)),(145, .p (i64 x.1))],fun x=>lfH x.2,fun x=>x.1<=ar.length/\x.2<=1000/\(ar.drop x.1).foldlM (fun l c=>qAg d c l) x.2=R,fun x=>ar.length - x.1,?_,?_⟩
  ·exact⟨(0,m),⟨Nat.zero_le _,by simp only [];omega,hyes (by first | (simp [qAW,qAX, *];done) | simp [qAW,qAX,qAT, *])⟩,qAA [] [] [] rfl ⟨rfl,⟨rfl,rfl⟩,rfl,congrArg (fun n:Nat=>i64 n) (List.length_map ..).symm,rfl,trivial⟩ ⟨⟨_,rfl,rfl,rfl,_,rfl,_,_,rfl,congrArg i64 (by omega),rfl⟩,trivial⟩ rfl⟩
  rintro⟨i,l⟩ ⟨i1,i2,i3⟩
  simp only [] at i1 i2 i3
  refine QAD (fun j1=>?_) (fun j1=>?_)
  rotate_left
  ·have j1:¬ (i:Int)<(ar.length:Nat):=j1
   rw [List.drop_eq_nil_of_le (by omega),List.foldlM_nil] at i3
   exact⟨[],[],[], .returned (vB true),lfH l,rfl,sk,sk,by rw [<- i3];exact⟨rfl,rfl⟩⟩
  have j1:(i:Int)<(ar.length:Nat):=j1
  have hi:i<ar.length:=by omega
  rw [qBt cd0 hi,List.foldlM_cons] at i3
  have hbx:=qBO hb4 (qAI cd0 hi)
  have hcell:=qCq hi
  rcases hx:ar.getD i cd0 with ⟨o',n',rl',vl',rf',st',ar'⟩
  rw [hx] at i3 hbx hcell
  refine⟨_,⟨by omega,(Cd.mk o' n' rl' vl' rf' st' ar').cells,hcell,rfl⟩,?_⟩
  refine⟨((p+1:Nat):Int),w6z,?_⟩
  have hrec:=ih (.mk o' n' rl' vl' rf' st' ar') l (p+1) hbx (by omega) (by omega)
  rcases hv:qAg d (.mk o' n' rl' vl' rf' st' ar') l with _ | l2
  ·rw [hv] at hrec i3
   refine hrec.holds.useT [] [] rfl (sk) (sk) fun e0 H0 hq=>?_
   obtain⟨rfl,rfl⟩:=hq
   refine⟨rfl,_,_,rfl,rfl,?_⟩
   exact⟨[],[],[], .returned (vB false),⟨1,[]⟩,rfl,sk,trivial,by rw [<- i3];exact⟨rfl,rfl⟩⟩
  ·have hle:=qBf _ _ _ _ hv
   rw [hv] at hrec i3
   refine hrec.holds.useT [] [] rfl (sk) (sk) fun e0 H0 hq=>?_
   obtain⟨rfl,rfl⟩:=hq
   refine⟨rfl,_,⟨2,[(0,lfO l2),(1,cO ((Cd.mk o' n' rl' vl' rf' st' ar').cells.map .p))]⟩,rfl,rfl,?_⟩
   refine⟨_,w6z,?_⟩
   exact⟨(i+1,l2),⟨by simp only [];omega,by simp only [];omega,i3⟩,qAA [] [] [] rfl (sk) (sk) rfl,by show ar.length - (i+1)<ar.length - i;omega⟩
 have o1:¬ op=1:=o1
 refine QAD (fun o2=>?_) (fun o2=>?_)
 ·have o2:op=2:=o2
  by_cases r1:qBg r=true
  rotate_left
  ·rw [Bool.not_eq_true] at r1
   rw [r1] at hRf
   refine hRf.eq rfl ?_
   exact⟨[],[],[], .returned (vB false),⟨1,[]⟩,rfl,sk,trivial,by rw [hno (by simp [qAW,qAX,qAT, *])];exact⟨rfl,rfl⟩⟩
  rw [r1] at hRf
  refine hRf.eq rfl ?_
  by_cases r2:qB0 n=true
  rotate_left
  ·rw [Bool.not_eq_true] at r2
   rw [r2] at hNn
   refine hNn.eq rfl ?_
   exact⟨[],[],[], .returned (vB false),⟨1,[]⟩,rfl,sk,trivial,by rw [hno (by simp [qAW,qAX,qAT, *])];exact⟨rfl,rfl⟩⟩
  rw [r2] at hNn
  refine hNn.eq rfl ?_
  refine And.intro (fun r3=>?_) (fun r3=>?_)
  rotate_left
  ·have r3:¬ rel=0:=r3
   exact⟨[],[],[], .returned (vB false),⟨1,[]⟩,rfl,sk,trivial,by rw [hno (by simp [qAW,qAX,qAT, *])];exact⟨rfl,rfl⟩⟩
  have r3:rel=0:=r3
  refine And.intro (fun r4=>?_) (fun r4=>?_)
  rotate_left
  ·have r4:¬ val=0:=r4
   exact⟨[],[],[], .returned (vB false),⟨1,[]⟩,rfl,sk,trivial,by rw [hno (by simp [qAW,qAX,qAT, *])];exact⟨rfl,rfl⟩⟩
  have r4:val=0:=r4
  refine And.intro (fun r5=>?_) (fun r5=>?_)
  rotate_left
  ·have r5:¬ ((st.map i64).length:Int)=0:=r5
   have r5:¬ st=[]:=fun e=>r5 (by rw [e];rfl)
   exact⟨[],[],[], .returned (vB false),⟨1,[]⟩,rfl,sk,trivial,by rw [hno (by simp [qAW,qAX,qAT, *])];exact⟨rfl,rfl⟩⟩
  have r5:((st.map i64).length:Int)=0:=r5
  have r5:st=[]:=by rw [List.length_map] at r5;exact List.length_eq_zero_iff.1 (by omega)
  by_cases hk:ar.length=0
  rotate_left
  ·refine And.intro (fun h=>absurd (show((ar.map Cd.cells).length:Int)=0 from h) (by rw [List.length_map];omega)) (fun _=>?_)
   exact⟨[],[],[], .returned (vB false),⟨1,[]⟩,rfl,sk,trivial,by rw [hno (by simp [qAW,qAX, *])];exact⟨rfl,rfl⟩⟩
  refine And.intro (fun _=>?_) (fun h=>absurd (show((ar.map Cd.cells).length:Int)=0 by rw [List.length_map];omega) h)
  refine And.intro (fun h=>absurd (show(0:Int)<0 from h) (by decide)) (fun _=>?_)
  refine⟨Nat × Nat,fun x=>[(1, .p (i64 p)),(2, .ptr 0 0 0),(143, .p (cds ar)),(144, .p (i64 ar.length)),(145, .p (i64 x.1))],fun x=>lfH x.2,fun x=>x.1<=ar.length/\x.2<=1000/\(ar.drop x.1).foldlM (fun l c=>qAg d c l) x.2=R,fun x=>ar.length - x.1,?_,?_⟩
  ·exact⟨(0,m),⟨Nat.zero_le _,by simp only [];omega,hyes (by first | (simp [qAW,qAX, *];done) | simp [qAW,qAX,qAT, *])⟩,qAA [] [] [] rfl ⟨rfl,⟨rfl,rfl⟩,rfl,congrArg (fun n:Nat=>i64 n) (List.length_map ..).symm,rfl,trivial⟩ ⟨⟨_,rfl,rfl,rfl,_,rfl,_,_,rfl,congrArg i64 (by omega),rfl⟩,trivial⟩ rfl⟩
  rintro⟨i,l⟩ ⟨i1,i2,i3⟩
  simp only [] at i1 i2 i3
  refine QAD (fun j1=>?_) (fun j1=>?_)
  rotate_left
  ·have j1:¬ (i:Int)<(ar.length:Nat):=j1
   rw [List.drop_eq_nil_of_le (by omega),List.foldlM_nil] at i3
   exact⟨[],[],[], .returned (vB true),lfH l,rfl,sk,sk,by rw [<- i3];exact⟨rfl,rfl⟩⟩
  have j1:(i:Int)<(ar.length:Nat):=j1
  have hi:i<ar.length:=by omega
  rw [qBt cd0 hi,List.foldlM_cons] at i3
  have hbx:=qBO hb4 (qAI cd0 hi)
  have hcell:=qCq hi
  rcases hx:ar.getD i cd0 with ⟨o',n',rl',vl',rf',st',ar'⟩
  rw [hx] at i3 hbx hcell
  refine⟨_,⟨by omega,(Cd.mk o' n' rl' vl' rf' st' ar').cells,hcell,rfl⟩,?_⟩
  refine⟨((p+1:Nat):Int),w6z,?_⟩
  have hrec:=ih (.mk o' n' rl' vl' rf' st' ar') l (p+1) hbx (by omega) (by omega)
  rcases hv:qAg d (.mk o' n' rl' vl' rf' st' ar') l with _ | l2
  ·rw [hv] at hrec i3
   refine hrec.holds.useT [] [] rfl (sk) (sk) fun e0 H0 hq=>?_
   obtain⟨rfl,rfl⟩:=hq
   refine⟨rfl,_,_,rfl,rfl,?_⟩
   exact⟨[],[],[], .returned (vB false),⟨1,[]⟩,rfl,sk,trivial,by rw [<- i3];exact⟨rfl,rfl⟩⟩
  ·have hle:=qBf _ _ _ _ hv
   rw [hv] at hrec i3
   refine hrec.holds.useT [] [] rfl (sk) (sk) fun e0 H0 hq=>?_
   obtain⟨rfl,rfl⟩:=hq
   refine⟨rfl,_,⟨2,[(0,lfO l2),(1,cO ((Cd.mk o' n' rl' vl' rf' st' ar').cells.map .p))]⟩,rfl,rfl,?_⟩
   refine⟨_,w6z,?_⟩
   exact⟨(i+1,l2),⟨by simp only [];omega,by simp only [];omega,i3⟩,qAA [] [] [] rfl (sk) (sk) rfl,by show ar.length - (i+1)<ar.length - i;omega⟩
 have o2:¬ op=2:=o2
 refine QAD (fun o3=>?_) (fun o3=>?_)
 ·have o3:op=3:=o3
  by_cases r1:qBg r=true
  rotate_left
  ·rw [Bool.not_eq_true] at r1
   rw [r1] at hRf
   refine hRf.eq rfl ?_
   exact⟨[],[],[], .returned (vB false),⟨1,[]⟩,rfl,sk,trivial,by rw [hno (by simp [qAW,qAX,qAT, *])];exact⟨rfl,rfl⟩⟩
  rw [r1] at hRf
  refine hRf.eq rfl ?_
  by_cases r2:qB0 n=true
  rotate_left
  ·rw [Bool.not_eq_true] at r2
   rw [r2] at hNn
   refine hNn.eq rfl ?_
   exact⟨[],[],[], .returned (vB false),⟨1,[]⟩,rfl,sk,trivial,by rw [hno (by simp [qAW,qAX,qAT, *])];exact⟨rfl,rfl⟩⟩
  rw [r2] at hNn
  refine hNn.eq rfl ?_
  refine And.intro (fun r3=>?_) (fun r3=>?_)
  rotate_left
  ·have r3:¬ rel=0:=r3
   exact⟨[],[],[], .returned (vB false),⟨1,[]⟩,rfl,sk,trivial,by rw [hno (by simp [qAW,qAX,qAT, *])];exact⟨rfl,rfl⟩⟩
  have r3:rel=0:=r3
  refine And.intro (fun r4=>?_) (fun r4=>?_)
  rotate_left
  ·have r4:¬ val=0:=r4
   exact⟨[],[],[], .returned (vB false),⟨1,[]⟩,rfl,sk,trivial,by rw [hno (by simp [qAW,qAX,qAT, *])];exact⟨rfl,rfl⟩⟩
  have r4:val=0:=r4
  refine And.intro (fun r5=>?_) (fun r5=>?_)
  rotate_left
  ·have r5:¬ ((st.map i64).length:Int)=0:=r5
   have r5:¬ st=[]:=fun e=>r5 (by rw [e];rfl)
   exact⟨[],[],[], .returned (vB false),⟨1,[]⟩,rfl,sk,trivial,by rw [hno (by simp [qAW,qAX,qAT, *])];exact⟨rfl,rfl⟩⟩
  have r5:((st.map i64).length:Int)=0:=r5
  have r5:st=[]:=by rw [List.length_map] at r5;exact List.length_eq_zero_iff.1 (by omega)
  by_cases hk:ar.length=0
  rotate_left
  ·refine And.intro (fun h=>absurd (show((ar.map Cd.cells).length:Int)=0 from h) (by rw [List.length_map];omega)) (fun _=>?_)
   exact⟨[],[],[], .returned (vB false),⟨1,[]⟩,rfl,sk,trivial,by rw [hno (by simp [qAW,qAX, *])];exact⟨rfl,rfl⟩⟩
  refine And.intro (fun _=>?_) (fun h=>absurd (show((ar.map Cd.cells).length:Int)=0 by rw [List.length_map];omega) h)
  refine And.intro (fun h=>absurd (show(0:Int)<0 from h) (by decide)) (fun _=>?_)
  refine⟨Nat × Nat,fun x=>[(1, .p (i64 p)),(2, .ptr 0 0 0),(143, .p (cds ar)),(144, .p (i64 ar.length)),(145, .p (i64 x.1))],fun x=>lfH x.2,fun x=>x.1<=ar.length/\x.2<=1000/\(ar.drop x.1).foldlM (fun l c=>qAg d c l) x.2=R,fun x=>ar.length - x.1,?_,?_⟩
  ·exact⟨(0,m),⟨Nat.zero_le _,by simp only [];omega,hyes (by first | (simp [qAW,qAX, *];done) | simp [qAW,qAX,qAT, *])⟩,qAA [] [] [] rfl ⟨rfl,⟨rfl,rfl⟩,rfl,congrArg (fun n:Nat=>i64 n) (List.length_map ..).symm,rfl,trivial⟩ ⟨⟨_,rfl,rfl,rfl,_,rfl,_,_,rfl,congrArg i64 (by omega),rfl⟩,trivial⟩ rfl⟩
  rintro⟨i,l⟩ ⟨i1,i2,i3⟩
  simp only [] at i1 i2 i3
  refine QAD (fun j1=>?_) (fun j1=>?_)
  rotate_left
  ·have j1:¬ (i:Int)<(ar.length:Nat):=j1
   rw [List.drop_eq_nil_of_le (by omega),List.foldlM_nil] at i3
   exact⟨[],[],[], .returned (vB true),lfH l,rfl,sk,sk,by rw [<- i3];exact⟨rfl,rfl⟩⟩
  have j1:(i:Int)<(ar.length:Nat):=j1
  have hi:i<ar.length:=by omega
  rw [qBt cd0 hi,List.foldlM_cons] at i3
  have hbx:=qBO hb4 (qAI cd0 hi)
  have hcell:=qCq hi
  rcases hx:ar.getD i cd0 with ⟨o',n',rl',vl',rf',st',ar'⟩
  rw [hx] at i3 hbx hcell
  refine⟨_,⟨by omega,(Cd.mk o' n' rl' vl' rf' st' ar').cells,hcell,rfl⟩,?_⟩
  refine⟨((p+1:Nat):Int),w6z,?_⟩
  have hrec:=ih (.mk o' n' rl' vl' rf' st' ar') l (p+1) hbx (by omega) (by omega)
  rcases hv:qAg d (.mk o' n' rl' vl' rf' st' ar') l with _ | l2
  ·rw [hv] at hrec i3
   refine hrec.holds.useT [] [] rfl (sk) (sk) fun e0 H0 hq=>?_
   obtain⟨rfl,rfl⟩:=hq
   refine⟨rfl,_,_,rfl,rfl,?_⟩
   exact⟨[],[],[], .returned (vB false),⟨1,[]⟩,rfl,sk,trivial,by rw [<- i3];exact⟨rfl,rfl⟩⟩
  ·have hle:=qBf _ _ _ _ hv
   rw [hv] at hrec i3
   refine hrec.holds.useT [] [] rfl (sk) (sk) fun e0 H0 hq=>?_
   obtain⟨rfl,rfl⟩:=hq
   refine⟨rfl,_,⟨2,[(0,lfO l2),(1,cO ((Cd.mk o' n' rl' vl' rf' st' ar').cells.map .p))]⟩,rfl,rfl,?_⟩
   refine⟨_,w6z,?_⟩
   exact⟨(i+1,l2),⟨by simp only [];omega,by simp only [];omega,i3⟩,qAA [] [] [] rfl (sk) (sk) rfl,by show ar.length - (i+1)<ar.length - i;omega⟩
 have o3:¬ op=3:=o3
 refine QAD (fun o4=>?_) (fun o4=>?_)
 ·have o4:op=4:=o4
  by_cases r1:qBg r=true
  rotate_left
  ·rw [Bool.not_eq_true] at r1
   rw [r1] at hRf
   refine hRf.eq rfl ?_
   exact⟨[],[],[], .returned (vB false),⟨1,[]⟩,rfl,sk,trivial,by rw [hno (by simp [qAW,qAX,qAT, *])];exact⟨rfl,rfl⟩⟩
  rw [r1] at hRf
  refine hRf.eq rfl ?_
  by_cases r2:qB0 n=true
  rotate_left
  ·rw [Bool.not_eq_true] at r2
   rw [r2] at hNn
   refine hNn.eq rfl ?_
   exact⟨[],[],[], .returned (vB false),⟨1,[]⟩,rfl,sk,trivial,by rw [hno (by simp [qAW,qAX,qAT, *])];exact⟨rfl,rfl⟩⟩
  rw [r2] at hNn
  refine hNn.eq rfl ?_
  refine And.intro (fun r3=>?_) (fun r3=>?_)
  rotate_left
  ·have r3:¬ rel=0:=r3
   exact⟨[],[],[], .returned (vB false),⟨1,[]⟩,rfl,sk,trivial,by rw [hno (by simp [qAW,qAX,qAT, *])];exact⟨rfl,rfl⟩⟩
  have r3:rel=0:=r3
  refine And.intro (fun r4=>?_) (fun r4=>?_)
  rotate_left
  ·have r4:¬ val=0:=r4
   exact⟨[],[],[], .returned (vB false),⟨1,[]⟩,rfl,sk,trivial,by rw [hno (by simp [qAW,qAX,qAT, *])];exact⟨rfl,rfl⟩⟩
  have r4:val=0:=r4
  refine And.intro (fun r5=>?_) (fun r5=>?_)
  rotate_left
  ·have r5:¬ ((st.map i64).length:Int)=0:=r5
   have r5:¬ st=[]:=fun e=>r5 (by rw [e];rfl)
   exact⟨[],[],[], .returned (vB false),⟨1,[]⟩,rfl,sk,trivial,by rw [hno (by simp [qAW,qAX,qAT, *])];exact⟨rfl,rfl⟩⟩
  have r5:((st.map i64).length:Int)=0:=r5
  have r5:st=[]:=by rw [List.length_map] at r5;exact List.length_eq_zero_iff.1 (by omega)
  by_cases hk:ar.length=0
  rotate_left
  ·refine And.intro (fun h=>absurd (show((ar.map Cd.cells).length:Int)=0 from h) (by rw [List.length_map];omega)) (fun _=>?_)
   exact⟨[],[],[], .returned (vB false),⟨1,[]⟩,rfl,sk,trivial,by rw [hno (by simp [qAW,qAX, *])];exact⟨rfl,rfl⟩⟩
  refine And.intro (fun _=>?_) (fun h=>absurd (show((ar.map Cd.cells).length:Int)=0 by rw [List.length_map];omega) h)
  refine And.intro (fun h=>absurd (show(0:Int)<0 from h) (by decide)) (fun _=>?_)
  refine⟨Nat × Nat,fun x=>[(1, .p (i64 p)),(2, .ptr 0 0 0),(143, .p (cds ar)),(144, .p (i64 ar.length)),(145, .p (i64 x.1))],fun x=>lfH x.2,fun x=>x.1<=ar.length/\x.2<=1000/\(ar.drop x.1).foldlM (fun l c=>qAg d c l) x.2=R,fun x=>ar.length - x.1,?_,?_⟩
  ·exact⟨(0,m),⟨Nat.zero_le _,by simp only [];omega,hyes (by first | (simp [qAW,qAX, *];done) | simp [qAW,qAX,qAT, *])⟩,qAA [] [] [] rfl ⟨rfl,⟨rfl,rfl⟩,rfl,congrArg (fun n:Nat=>i64 n) (List.length_map ..).symm,rfl,trivial⟩ ⟨⟨_,rfl,rfl,rfl,_,rfl,_,_,rfl,congrArg i64 (by omega),rfl⟩,trivial⟩ rfl⟩
  rintro⟨i,l⟩ ⟨i1,i2,i3⟩
  simp only [] at i1 i2 i3
  refine QAD (fun j1=>?_) (fun j1=>?_)
  rotate_left
  ·have j1:¬ (i:Int)<(ar.length:Nat):=j1
   rw [List.drop_eq_nil_of_le (by omega),List.foldlM_nil] at i3
   exact⟨[],[],[], .returned (vB true),lfH l,rfl,sk,sk,by rw [<- i3];exact⟨rfl,rfl⟩⟩
  have j1:(i:Int)<(ar.length:Nat):=j1
  have hi:i<ar.length:=by omega
  rw [qBt cd0 hi,List.foldlM_cons] at i3
  have hbx:=qBO hb4 (qAI cd0 hi)
  have hcell:=qCq hi
  rcases hx:ar.getD i cd0 with ⟨o',n',rl',vl',rf',st',ar'⟩
  rw [hx] at i3 hbx hcell
  refine⟨_,⟨by omega,(Cd.mk o' n' rl' vl' rf' st' ar').cells,hcell,rfl⟩,?_⟩
  refine⟨((p+1:Nat):Int),w6z,?_⟩
  have hrec:=ih (.mk o' n' rl' vl' rf' st' ar') l (p+1) hbx (by omega) (by omega)
  rcases hv:qAg d (.mk o' n' rl' vl' rf' st' ar') l with _ | l2
  ·rw [hv] at hrec i3
   refine hrec.holds.useT [] [] rfl (sk) (sk) fun e0 H0 hq=>?_
   obtain⟨rfl,rfl⟩:=hq
   refine⟨rfl,_,_,rfl,rfl,?_⟩
   exact⟨[],[],[], .returned (vB false),⟨1,[]⟩,rfl,sk,trivial,by rw [<- i3];exact⟨rfl,rfl⟩⟩
  ·have hle:=qBf _ _ _ _ hv
   rw [hv] at hrec i3
   refine hrec.holds.useT [] [] rfl (sk) (sk) fun e0 H0 hq=>?_
   obtain⟨rfl,rfl⟩:=hq
   refine⟨rfl,_,⟨2,[(0,lfO l2),(1,cO ((Cd.mk o' n' rl' vl' rf' st' ar').cells.map .p))]⟩,rfl,rfl,?_⟩
   refine⟨_,w6z,?_⟩
   exact⟨(i+1,l2),⟨by simp only [];omega,by simp only [];omega,i3⟩,qAA [] [] [] rfl (sk) (sk) rfl,by show ar.length - (i+1)<ar.length - i;omega⟩
 have o4:¬ op=4:=o4
 refine QAD (fun o5=>?_) (fun o5=>?_)
 ·have o5:op=5:=o5
  by_cases r1:qBg r=true
  rotate_left
  ·rw [Bool.not_eq_true] at r1
   rw [r1] at hRf
   refine hRf.eq rfl ?_
   exact⟨[],[],[], .returned (vB false),⟨1,[]⟩,rfl,sk,trivial,by rw [hno (by simp [qAW,qAX,qAT, *])];exact⟨rfl,rfl⟩⟩
  rw [r1] at hRf
  refine hRf.eq rfl ?_
  refine And.intro (fun r2=>?_) (fun r2=>?_)
  rotate_left
  ·have r2:¬ n=0:=r2
   exact⟨[],[],[], .returned (vB false),⟨1,[]⟩,rfl,sk,trivial,by rw [hno (by simp [qAW,qAX,qAT, *])];exact⟨rfl,rfl⟩⟩
  have r2:n=0:=r2
  refine And.intro (fun r3=>?_) (fun r3=>?_)
  rotate_left
  ·have r3:¬ rel=0:=r3
   exact⟨[],[],[], .returned (vB false),⟨1,[]⟩,rfl,sk,trivial,by rw [hno (by simp [qAW,qAX,qAT, *])];exact⟨rfl,rfl⟩⟩
  have r3:rel=0:=r3
  refine And.intro (fun r4=>?_) (fun r4=>?_)
  rotate_left
  ·have r4:¬ val=0:=r4
   exact⟨[],[],[], .returned (vB false),⟨1,[]⟩,rfl,sk,trivial,by rw [hno (by simp [qAW,qAX,qAT, *])];exact⟨rfl,rfl⟩⟩
  have r4:val=0:=r4
  by_cases r5:qGp st=true
  rotate_left
  ·rw [Bool.not_eq_true] at r5
   rw [r5] at hS
   refine hS.eq rfl ?_
   exact⟨[],[],[], .returned (vB false),⟨1,[]⟩,rfl,sk,trivial,by rw [hno (by simp [qAW,qAX,qAT, *])];exact⟨rfl,rfl⟩⟩
  rw [r5] at hS
  refine hS.eq rfl ?_
  by_cases hk:ar.length=0
  rotate_left
  ·refine And.intro (fun h=>absurd (show((ar.map Cd.cells).length:Int)=0 from h) (by rw [List.length_map];omega)) (fun _=>?_)
   exact⟨[],[],[], .returned (vB false),⟨1,[]⟩,rfl,sk,trivial,by rw [hno (by simp [qAW,qAX, *])];exact⟨rfl,rfl⟩⟩
  refine And.intro (fun _=>?_) (fun h=>absurd (show((ar.map Cd.cells).length:Int)=0 by rw [List.length_map];omega) h)
  refine And.intro (fun h=>absurd (show(0:Int)<0 from h) (by decide)) (fun _=>?_)
  refine⟨Nat × Nat,fun x=>[(1, .p (i64 p)),(2, .ptr 0 0 0),(143, .p (cds ar)),(144, .p (i64 ar.length)),(145, .p (i64 x.1))],fun x=>lfH x.2,fun x=>x.1<=ar.length/\x.2<=1000/\(ar.drop x.1).foldlM (fun l c=>qAg d c l) x.2=R,fun x=>ar.length - x.1,?_,?_⟩
  ·exact⟨(0,m),⟨Nat.zero_le _,by simp only [];omega,hyes (by first | (simp [qAW,qAX, *];done) | simp [qAW,qAX,qAT, *])⟩,qAA [] [] [] rfl ⟨rfl,⟨rfl,rfl⟩,rfl,congrArg (fun n:Nat=>i64 n) (List.length_map ..).symm,rfl,trivial⟩ ⟨⟨_,rfl,rfl,rfl,_,rfl,_,_,rfl,congrArg i64 (by omega),rfl⟩,trivial⟩ rfl⟩
  rintro⟨i,l⟩ ⟨i1,i2,i3⟩
  simp only [] at i1 i2 i3
  refine QAD (fun j1=>?_) (fun j1=>?_)
  rotate_left
  ·have j1:¬ (i:Int)<(ar.length:Nat):=j1
   rw [List.drop_eq_nil_of_le (by omega),List.foldlM_nil] at i3
   exact⟨[],[],[], .returned (vB true),lfH l,rfl,sk,sk,by rw [<- i3];exact⟨rfl,rfl⟩⟩
  have j1:(i:Int)<(ar.length:Nat):=j1
  have hi:i<ar.length:=by omega
  rw [qBt cd0 hi,List.foldlM_cons] at i3
  have hbx:=qBO hb4 (qAI cd0 hi)
  have hcell:=qCq hi
  rcases hx:ar.getD i cd0 with ⟨o',n',rl',vl',rf',st',ar'⟩
  rw [hx] at i3 hbx hcell
  refine⟨_,⟨by omega,(Cd.mk o' n' rl' vl' rf' st' ar').cells,hcell,rfl⟩,?_⟩
  refine⟨((p+1:Nat):Int),w6z,?_⟩
  have hrec:=ih (.mk o' n' rl' vl' rf' st' ar') l (p+1) hbx (by omega) (by omega)
  rcases hv:qAg d (.mk o' n' rl' vl' rf' st' ar') l with _ | l2
  ·rw [hv] at hrec i3
   refine hrec.holds.useT [] [] rfl (sk) (sk) fun e0 H0 hq=>?_
   obtain⟨rfl,rfl⟩:=hq
   refine⟨rfl,_,_,rfl,rfl,?_⟩
   exact⟨[],[],[], .returned (vB false),⟨1,[]⟩,rfl,sk,trivial,by rw [<- i3];exact⟨rfl,rfl⟩⟩
  ·have hle:=qBf _ _ _ _ hv
   rw [hv] at hrec i3
   refine hrec.holds.useT [] [] rfl (sk) (sk) fun e0 H0 hq=>?_
   obtain⟨rfl,rfl⟩:=hq
   refine⟨rfl,_,⟨2,[(0,lfO l2),(1,cO ((Cd.mk o' n' rl' vl' rf' st' ar').cells.map .p))]⟩,rfl,rfl,?_⟩
   refine⟨_,w6z,?_⟩
   exact⟨(i+1,l2),⟨by simp only [];omega,by simp only [];omega,i3⟩,qAA [] [] [] rfl (sk) (sk) rfl,by show ar.length - (i+1)<ar.length - i;omega⟩
 have o5:¬ op=5:=o5
 refine QAD (fun o6=>?_) (fun o6=>?_)
 ·have o6:op=6:=o6
  by_cases r1:qBg r=true
  rotate_left
  ·rw [Bool.not_eq_true] at r1
   rw [r1] at hRf
   refine hRf.eq rfl ?_
   exact⟨[],[],[], .returned (vB false),⟨1,[]⟩,rfl,sk,trivial,by rw [hno (by simp [qAW,qAX,qAT, *])];exact⟨rfl,rfl⟩⟩
  rw [r1] at hRf
  refine hRf.eq rfl ?_
  refine And.intro (fun r2=>?_) (fun r2=>?_)
  rotate_left
  ·have r2:¬ r.mode=3:=r2
   exact⟨[],[],[], .returned (vB false),⟨1,[]⟩,rfl,sk,trivial,by rw [hno (by simp [qAW,qAX,qAT, *])];exact⟨rfl,rfl⟩⟩
  have r2:r.mode=3:=r2
  by_cases r3:qB0 n=true
  rotate_left
  ·rw [Bool.not_eq_true] at r3
   rw [r3] at hNn
   refine hNn.eq rfl ?_
   exact⟨[],[],[], .returned (vB false),⟨1,[]⟩,rfl,sk,trivial,by rw [hno (by simp [qAW,qAX,qAT, *])];exact⟨rfl,rfl⟩⟩
  rw [r3] at hNn
  refine hNn.eq rfl ?_
  by_cases r4:qB0 val=true
  rotate_left
  ·rw [Bool.not_eq_true] at r4
   rw [r4] at hNv
   refine hNv.eq rfl ?_
   exact⟨[],[],[], .returned (vB false),⟨1,[]⟩,rfl,sk,trivial,by rw [hno (by simp [qAW,qAX,qAT, *])];exact⟨rfl,rfl⟩⟩
  rw [r4] at hNv
  refine hNv.eq rfl ?_
  refine And.intro (fun r5=>?_) (fun r5=>?_)
  ·have r5:rel<1:=r5
   have r5:¬ 1<=rel:=by omega
   exact⟨[],[],[], .returned (vB false),⟨1,[]⟩,rfl,sk,trivial,by rw [hno (by simp [qAW,qAX,qAT, *])];exact⟨rfl,rfl⟩⟩
  have r5:¬ rel<1:=r5
  have r5:1<=rel:=by omega
  refine And.intro (fun r6=>?_) (fun r6=>?_)
  ·have r6:(4:Int)<rel:=r6
   have r6:¬ rel<=4:=by omega
   exact⟨[],[],[], .returned (vB false),⟨1,[]⟩,rfl,sk,trivial,by rw [hno (by simp [qAW,qAX,qAT, *])];exact⟨rfl,rfl⟩⟩
  have r6:¬ (4:Int)<rel:=r6
  have r6:rel<=4:=by omega
  refine And.intro (fun r9=>?_) (fun r9=>?_)
  rotate_left
  ·have r9:¬ ((st.map i64).length:Int)=0:=r9
   have r9:¬ st=[]:=fun e=>r9 (by rw [e];rfl)
   exact⟨[],[],[], .returned (vB false),⟨1,[]⟩,rfl,sk,trivial,by rw [hno (by simp [qAW,qAX,qAT, *])];exact⟨rfl,rfl⟩⟩
  have r9:((st.map i64).length:Int)=0:=r9
  have r9:st=[]:=by rw [List.length_map] at r9;exact List.length_eq_zero_iff.1 (by omega)
  by_cases hk:ar.length=0
  rotate_left
  ·refine And.intro (fun h=>absurd (show((ar.map Cd.cells).length:Int)=0 from h) (by rw [List.length_map];omega)) (fun _=>?_)
   exact⟨[],[],[], .returned (vB false),⟨1,[]⟩,rfl,sk,trivial,by rw [hno (by simp [qAW,qAX, *])];exact⟨rfl,rfl⟩⟩
  refine And.intro (fun _=>?_) (fun h=>absurd (show((ar.map Cd.cells).length:Int)=0 by rw [List.length_map];omega) h)
  refine And.intro (fun h=>absurd (show(0:Int)<0 from h) (by decide)) (fun _=>?_)
  refine⟨Nat × Nat,fun x=>[(1, .p (i64 p)),(2, .ptr 0 0 0),(143, .p (cds ar)),(144, .p (i64 ar.length)),(145, .p (i64 x.1))],fun x=>lfH x.2,fun x=>x.1<=ar.length/\x.2<=1000/\(ar.drop x.1).foldlM (fun l c=>qAg d c l) x.2=R,fun x=>ar.length - x.1,?_,?_⟩
  ·exact⟨(0,m),⟨Nat.zero_le _,by simp only [];omega,hyes (by first | (simp [qAW,qAX, *];done) | simp [qAW,qAX,qAT, *])⟩,qAA [] [] [] rfl ⟨rfl,⟨rfl,rfl⟩,rfl,congrArg (fun n:Nat=>i64 n) (List.length_map ..).symm,rfl,trivial⟩ ⟨⟨_,rfl,rfl,rfl,_,rfl,_,_,rfl,congrArg i64 (by omega),rfl⟩,trivial⟩ rfl⟩
  rintro⟨i,l⟩ ⟨i1,i2,i3⟩
  simp only [] at i1 i2 i3
  refine QAD (fun j1=>?_) (fun j1=>?_)
  rotate_left
  ·have j1:¬ (i:Int)<(ar.length:Nat):=j1
   rw [List.drop_eq_nil_of_le (by omega),List.foldlM_nil] at i3
   exact⟨[],[],[], .returned (vB true),lfH l,rfl,sk,sk,by rw [<- i3];exact⟨rfl,rfl⟩⟩
  have j1:(i:Int)<(ar.length:Nat):=j1
  have hi:i<ar.length:=by omega
  rw [qBt cd0 hi,List.foldlM_cons] at i3
  have hbx:=qBO hb4 (qAI cd0 hi)
  have hcell:=qCq hi
  rcases hx:ar.getD i cd0 with ⟨o',n',rl',vl',rf',st',ar'⟩
  rw [hx] at i3 hbx hcell
  refine⟨_,⟨by omega,(Cd.mk o' n' rl' vl' rf' st' ar').cells,hcell,rfl⟩,?_⟩
  refine⟨((p+1:Nat):Int),w6z,?_⟩
  have hrec:=ih (.mk o' n' rl' vl' rf' st' ar') l (p+1) hbx (by omega) (by omega)
  rcases hv:qAg d (.mk o' n' rl' vl' rf' st' ar') l with _ | l2
  ·rw [hv] at hrec i3
   refine hrec.holds.useT [] [] rfl (sk) (sk) fun e0 H0 hq=>?_
   obtain⟨rfl,rfl⟩:=hq
   refine⟨rfl,_,_,rfl,rfl,?_⟩
   exact⟨[],[],[], .returned (vB false),⟨1,[]⟩,rfl,sk,trivial,by rw [<- i3];exact⟨rfl,rfl⟩⟩
  ·have hle:=qBf _ _ _ _ hv
   rw [hv] at hrec i3
   refine hrec.holds.useT [] [] rfl (sk) (sk) fun e0 H0 hq=>?_
   obtain⟨rfl,rfl⟩:=hq
   refine⟨rfl,_,⟨2,[(0,lfO l2),(1,cO ((Cd.mk o' n' rl' vl' rf' st' ar').cells.map .p))]⟩,rfl,rfl,?_⟩
   refine⟨_,w6z,?_⟩
   exact⟨(i+1,l2),⟨by simp only [];omega,by simp only [];omega,i3⟩,qAA [] [] [] rfl (sk) (sk) rfl,by show ar.length - (i+1)<ar.length - i;omega⟩
 have o6:¬ op=6:=o6
 refine QAD (fun o7=>?_) (fun o7=>?_)
 ·have o7:op=7:=o7
  by_cases hk:ar.length=1
  rotate_left
  ·refine And.intro (fun h=>absurd (show((ar.map Cd.cells).length:Int)=1 from h) (by rw [List.length_map];omega)) (fun _=>?_)
   exact⟨[],[],[], .returned (vB false),⟨1,[]⟩,rfl,sk,trivial,by rw [hno (by simp [qAW,qAX, *])];exact⟨rfl,rfl⟩⟩
  refine And.intro (fun _=>?_) (fun h=>absurd (show((ar.map Cd.cells).length:Int)=1 by rw [List.length_map];omega) h)
  refine And.intro (fun _=>?_) (fun h=>absurd (show(0:Int)<1 by decide) h)
  by_cases hp:qAm n rel val r st=true
  rotate_left
  ·rw [Bool.not_eq_true] at hp
   rw [hp] at hP
   refine hP.eq rfl ?_
   exact⟨[],[],[], .returned (vB false),⟨1,[]⟩,rfl,sk,trivial,by rw [hno (by simp [qAW,qAX, *])];exact⟨rfl,rfl⟩⟩
  rw [hp] at hP
  refine hP.eq rfl ?_
  refine⟨Nat × Nat,fun x=>[(1, .p (i64 p)),(2, .ptr 0 0 0),(143, .p (cds ar)),(144, .p (i64 ar.length)),(145, .p (i64 x.1))],fun x=>lfH x.2,fun x=>x.1<=ar.length/\x.2<=1000/\(ar.drop x.1).foldlM (fun l c=>qAg d c l) x.2=R,fun x=>ar.length - x.1,?_,?_⟩
  ·exact⟨(0,m),⟨Nat.zero_le _,by simp only [];omega,hyes (by first | (simp [qAW,qAX, *];done) | simp [qAW,qAX,qAT, *])⟩,qAA [] [] [] rfl ⟨rfl,⟨rfl,rfl⟩,rfl,congrArg (fun n:Nat=>i64 n) (List.length_map ..).symm,rfl,trivial⟩ ⟨⟨_,rfl,rfl,rfl,_,rfl,_,_,rfl,congrArg i64 (by omega),rfl⟩,trivial⟩ rfl⟩
  rintro⟨i,l⟩ ⟨i1,i2,i3⟩
  simp only [] at i1 i2 i3
  refine QAD (fun j1=>?_) (fun j1=>?_)
  rotate_left
  ·have j1:¬ (i:Int)<(ar.length:Nat):=j1
   rw [List.drop_eq_nil_of_le (by omega),List.foldlM_nil] at i3
   exact⟨[],[],[], .returned (vB true),lfH l,rfl,sk,sk,by rw [<- i3];exact⟨rfl,rfl⟩⟩
  have j1:(i:Int)<(ar.length:Nat):=j1
  have hi:i<ar.length:=by omega
  rw [qBt cd0 hi,List.foldlM_cons] at i3
  have hbx:=qBO hb4 (qAI cd0 hi)
  have hcell:=qCq hi
  rcases hx:ar.getD i cd0 with ⟨o',n',rl',vl',rf',st',ar'⟩
  rw [hx] at i3 hbx hcell
  refine⟨_,⟨by omega,(Cd.mk o' n' rl' vl' rf' st' ar').cells,hcell,rfl⟩,?_⟩
  refine⟨((p+1:Nat):Int),w6z,?_⟩
  have hrec:=ih (.mk o' n' rl' vl' rf' st' ar') l (p+1) hbx (by omega) (by omega)
  rcases hv:qAg d (.mk o' n' rl' vl' rf' st' ar') l with _ | l2
  ·rw [hv] at hrec i3
   refine hrec.holds.useT [] [] rfl (sk) (sk) fun e0 H0 hq=>?_
   obtain⟨rfl,rfl⟩:=hq
   refine⟨rfl,_,_,rfl,rfl,?_⟩
   exact⟨[],[],[], .returned (vB false),⟨1,[]⟩,rfl,sk,trivial,by rw [<- i3];exact⟨rfl,rfl⟩⟩
  ·have hle:=qBf _ _ _ _ hv
   rw [hv] at hrec i3
   refine hrec.holds.useT [] [] rfl (sk) (sk) fun e0 H0 hq=>?_
   obtain⟨rfl,rfl⟩:=hq
   refine⟨rfl,_,⟨2,[(0,lfO l2),(1,cO ((Cd.mk o' n' rl' vl' rf' st' ar').cells.map .p))]⟩,rfl,rfl,?_⟩
   refine⟨_,w6z,?_⟩
   exact⟨(i+1,l2),⟨by simp only [];omega,by simp only [];omega,i3⟩,qAA [] [] [] rfl (sk) (sk) rfl,by show ar.length - (i+1)<ar.length - i;omega⟩
 have o7:¬ op=7:=o7
 refine QAD (fun o8=>?_) (fun o8=>?_)
 ·have o8:op=8:=o8
  by_cases hk:ar.length=2
  rotate_left
  ·refine And.intro (fun h=>absurd (show((ar.map Cd.cells).length:Int)=2 from h) (by rw [List.length_map];omega)) (fun _=>?_)
   exact⟨[],[],[], .returned (vB false),⟨1,[]⟩,rfl,sk,trivial,by rw [hno (by simp [qAW,qAX, *])];exact⟨rfl,rfl⟩⟩
  refine And.intro (fun _=>?_) (fun h=>absurd (show((ar.map Cd.cells).length:Int)=2 by rw [List.length_map];omega) h)
  refine And.intro (fun _=>?_) (fun h=>absurd (show(0:Int)<2 by decide) h)
  by_cases hp:qAm n rel val r st=true
  rotate_left
  ·rw [Bool.not_eq_true] at hp
   rw [hp] at hP
   refine hP.eq rfl ?_
   exact⟨[],[],[], .returned (vB false),⟨1,[]⟩,rfl,sk,trivial,by rw [hno (by simp [qAW,qAX, *])];exact⟨rfl,rfl⟩⟩
  rw [hp] at hP
  refine hP.eq rfl ?_
  refine⟨Nat × Nat,fun x=>[(1, .p (i64 p)),(2, .ptr 0 0 0),(143, .p (cds ar)),(144, .p (i64 ar.length)),(145, .p (i64 x.1))],fun x=>lfH x.2,fun x=>x.1<=ar.length/\x.2<=1000/\(ar.drop x.1).foldlM (fun l c=>qAg d c l) x.2=R,fun x=>ar.length - x.1,?_,?_⟩
  ·exact⟨(0,m),⟨Nat.zero_le _,by simp only [];omega,hyes (by first | (simp [qAW,qAX, *];done) | simp [qAW,qAX,qAT, *])⟩,qAA [] [] [] rfl ⟨rfl,⟨rfl,rfl⟩,rfl,congrArg (fun n:Nat=>i64 n) (List.length_map ..).symm,rfl,trivial⟩ ⟨⟨_,rfl,rfl,rfl,_,rfl,_,_,rfl,congrArg i64 (by omega),rfl⟩,trivial⟩ rfl⟩
  rintro⟨i,l⟩ ⟨i1,i2,i3⟩
  simp only [] at i1 i2 i3
  refine QAD (fun j1=>?_) (fun j1=>?_)
  rotate_left
  ·have j1:¬ (i:Int)<(ar.length:Nat):=j1
   rw [List.drop_eq_nil_of_le (by omega),List.foldlM_nil] at i3
   exact⟨[],[],[], .returned (vB true),lfH l,rfl,sk,sk,by rw [<- i3];exact⟨rfl,rfl⟩⟩
  have j1:(i:Int)<(ar.length:Nat):=j1
  have hi:i<ar.length:=by omega
  rw [qBt cd0 hi,List.foldlM_cons] at i3
  have hbx:=qBO hb4 (qAI cd0 hi)
  have hcell:=qCq hi
  rcases hx:ar.getD i cd0 with ⟨o',n',rl',vl',rf',st',ar'⟩
  rw [hx] at i3 hbx hcell
  refine⟨_,⟨by omega,(Cd.mk o' n' rl' vl' rf' st' ar').cells,hcell,rfl⟩,?_⟩
  refine⟨((p+1:Nat):Int),w6z,?_⟩
  have hrec:=ih (.mk o' n' rl' vl' rf' st' ar') l (p+1) hbx (by omega) (by omega)
  rcases hv:qAg d (.mk o' n' rl' vl' rf' st' ar') l with _ | l2
  ·rw [hv] at hrec i3
   refine hrec.holds.useT [] [] rfl (sk) (sk) fun e0 H0 hq=>?_
   obtain⟨rfl,rfl⟩:=hq
   refine⟨rfl,_,_,rfl,rfl,?_⟩
   exact⟨[],[],[], .returned (vB false),⟨1,[]⟩,rfl,sk,trivial,by rw [<- i3];exact⟨rfl,rfl⟩⟩
  ·have hle:=qBf _ _ _ _ hv
   rw [hv] at hrec i3
   refine hrec.holds.useT [] [] rfl (sk) (sk) fun e0 H0 hq=>?_
   obtain⟨rfl,rfl⟩:=hq
   refine⟨rfl,_,⟨2,[(0,lfO l2),(1,cO ((Cd.mk o' n' rl' vl' rf' st' ar').cells.map .p))]⟩,rfl,rfl,?_⟩
   refine⟨_,w6z,?_⟩
   exact⟨(i+1,l2),⟨by simp only [];omega,by simp only [];omega,i3⟩,qAA [] [] [] rfl (sk) (sk) rfl,by show ar.length - (i+1)<ar.length - i;omega⟩
 have o8:¬ op=8:=o8
 refine QAD (fun o9=>?_) (fun o9=>?_)
 ·have o9:op=9:=o9
  by_cases hk:ar.length=2
  rotate_left
  ·refine And.intro (fun h=>absurd (show((ar.map Cd.cells).length:Int)=2 from h) (by rw [List.length_map];omega)) (fun _=>?_)
   exact⟨[],[],[], .returned (vB false),⟨1,[]⟩,rfl,sk,trivial,by rw [hno (by simp [qAW,qAX, *])];exact⟨rfl,rfl⟩⟩
  refine And.intro (fun _=>?_) (fun h=>absurd (show((ar.map Cd.cells).length:Int)=2 by rw [List.length_map];omega) h)
  refine And.intro (fun _=>?_) (fun h=>absurd (show(0:Int)<2 by decide) h)
  by_cases hp:qAm n rel val r st=true
  rotate_left
  ·rw [Bool.not_eq_true] at hp
   rw [hp] at hP
   refine hP.eq rfl ?_
   exact⟨[],[],[], .returned (vB false),⟨1,[]⟩,rfl,sk,trivial,by rw [hno (by simp [qAW,qAX, *])];exact⟨rfl,rfl⟩⟩
  rw [hp] at hP
  refine hP.eq rfl ?_
  refine⟨Nat × Nat,fun x=>[(1, .p (i64 p)),(2, .ptr 0 0 0),(143, .p (cds ar)),(144, .p (i64 ar.length)),(145, .p (i64 x.1))],fun x=>lfH x.2,fun x=>x.1<=ar.length/\x.2<=1000/\(ar.drop x.1).foldlM (fun l c=>qAg d c l) x.2=R,fun x=>ar.length - x.1,?_,?_⟩
  ·exact⟨(0,m),⟨Nat.zero_le _,by simp only [];omega,hyes (by first | (simp [qAW,qAX, *];done) | simp [qAW,qAX,qAT, *])⟩,qAA [] [] [] rfl ⟨rfl,⟨rfl,rfl⟩,rfl,congrArg (fun n:Nat=>i64 n) (List.length_map ..).symm,rfl,trivial⟩ ⟨⟨_,rfl,rfl,rfl,_,rfl,_,_,rfl,congrArg i64 (by omega),rfl⟩,trivial⟩ rfl⟩
  rintro⟨i,l⟩ ⟨i1,i2,i3⟩
  simp only [] at i1 i2 i3
  refine QAD (fun j1=>?_) (fun j1=>?_)
  rotate_left
  ·have j1:¬ (i:Int)<(ar.length:Nat):=j1
   rw [List.drop_eq_nil_of_le (by omega),List.foldlM_nil] at i3
   exact⟨[],[],[], .returned (vB true),lfH l,rfl,sk,sk,by rw [<- i3];exact⟨rfl,rfl⟩⟩
  have j1:(i:Int)<(ar.length:Nat):=j1
  have hi:i<ar.length:=by omega
  rw [qBt cd0 hi,List.foldlM_cons] at i3
  have hbx:=qBO hb4 (qAI cd0 hi)
  have hcell:=qCq hi
  rcases hx:ar.getD i cd0 with ⟨o',n',rl',vl',rf',st',ar'⟩
  rw [hx] at i3 hbx hcell
  refine⟨_,⟨by omega,(Cd.mk o' n' rl' vl' rf' st' ar').cells,hcell,rfl⟩,?_⟩
  refine⟨((p+1:Nat):Int),w6z,?_⟩
  have hrec:=ih (.mk o' n' rl' vl' rf' st' ar') l (p+1) hbx (by omega) (by omega)
  rcases hv:qAg d (.mk o' n' rl' vl' rf' st' ar') l with _ | l2
  ·rw [hv] at hrec i3
   refine hrec.holds.useT [] [] rfl (sk) (sk) fun e0 H0 hq=>?_
   obtain⟨rfl,rfl⟩:=hq
   refine⟨rfl,_,_,rfl,rfl,?_⟩
   exact⟨[],[],[], .returned (vB false),⟨1,[]⟩,rfl,sk,trivial,by rw [<- i3];exact⟨rfl,rfl⟩⟩
  ·have hle:=qBf _ _ _ _ hv
   rw [hv] at hrec i3
   refine hrec.holds.useT [] [] rfl (sk) (sk) fun e0 H0 hq=>?_
   obtain⟨rfl,rfl⟩:=hq
   refine⟨rfl,_,⟨2,[(0,lfO l2),(1,cO ((Cd.mk o' n' rl' vl' rf' st' ar').cells.map .p))]⟩,rfl,rfl,?_⟩
   refine⟨_,w6z,?_⟩
   exact⟨(i+1,l2),⟨by simp only [];omega,by simp only [];omega,i3⟩,qAA [] [] [] rfl (sk) (sk) rfl,by show ar.length - (i+1)<ar.length - i;omega⟩
 have o9:¬ op=9:=o9
 exact⟨[],[],[], .returned (vB false),⟨1,[]⟩,rfl,sk,trivial,by rw [hno (by simp [qAW,qAX,qAT, *])];exact⟨rfl,rfl⟩⟩
theorem qKn:∀ d,d<=8->qWY d
 | 0,_=>by
  rintro⟨op,n,rel,val,r,st,ar⟩ left p hb hl hp9
  generalize hR:qAg 0 (.mk op n rel val r st ar) left=R
  rw [qAg] at hR
  refine qAC Tryz.func108 rfl rfl rfl ?_
  refine⟨(left:Int) - 1,w6z,?_⟩
  refine QAD (fun h1=>?_) (fun h1=>?_)
  ·exact⟨[],[],[], .returned (vB false),⟨1,[]⟩,rfl,sk,trivial,by rw [<- hR];exact⟨rfl,rfl⟩⟩
  ·refine And.intro (fun _=>?_) (fun h=>absurd (show(8:Int)<(p:Nat) by omega) h)
   exact⟨[],[],[], .returned (vB false),⟨1,[]⟩,rfl,sk,trivial,by rw [<- hR];exact⟨rfl,rfl⟩⟩
 | d+1,h=>qTo d (qKn d (by omega))
set_option maxHeartbeats 4000000
def qHi (n:Int):Bool:=decide (-9999<=n) && decide (n<=9999)
def qCD (l:List Int):Bool:=decide (1<=l.length) && decide (l.length<=8) && l.all qHi
def qDr:Cd->Bool
 | .mk op n rel val r st ar=>decide (op=0) && qAm n rel val r st && decide (ar.length=0)
def qBd:List Cs->Bool
 | []=>true
 | [c]=>qCD c.nums && qDr c.cond
 | c::d::r=>qCD c.nums && (qAg 8 c.cond 30).isSome && qBd (d::r)
def qBH (l:List Cs):Bool:=decide (1<=l.length) && decide (l.length<=12) && qBd l
structure BigL (l:List Cs):Prop where
 len:l.length<=9223372036854775807
 cond:∀ c∈l,qC8 c.cond
 nums:∀ c∈l,c.nums.length<=9223372036854775807
def cs0:Cs:=⟨cd0,[]⟩
theorem qHm {l:List Cs} {k:Nat} (h:k<l.length):(l.map Cs.cells)[k]?=some (l.getD k cs0).cells:=qCw cs0 h
theorem qHW {l:List Cs} {i:Nat} (h:i+1<l.length):qBd (l.drop i)=(qCD (l.getD i cs0).nums && (qAg 8 (l.getD i cs0).cond 30).isSome && qBd (l.drop (i+1))):=by
 rw [qBt cs0 (by omega:i<l.length),qBt cs0 h,qBd]
theorem qHY {l:List Cs} {i:Nat} (h:i+1=l.length):qBd (l.drop i)=(qCD (l.getD i cs0).nums && qDr (l.getD i cs0).cond):=by
 rw [qBt cs0 (by omega:i<l.length),List.drop_eq_nil_of_le (by omega),qBd]
def kO (c:Cs):AObj:=⟨qHe,false, .bx (c.cells.map .p)⟩
theorem qTu (l:List Cs) (hb:BigL l):Pure cx 80 [css l] (·=.ret [.bool (qBH l)]):=by
 refine qAB Tryz.func80 rfl rfl rfl ?_
 have hll:=hb.len
 have hm:(l.map Cs.cells).length=l.length:=List.length_map ..
 refine QAD (fun h1=>?_) (fun h1=>?_)
 ·have h1:((l.map Cs.cells).length:Int)<1:=h1
  rw [hm] at h1
  exact qAF _ rfl rfl (qAO (by rw [qBH,decide_eq_false (by omega)];rfl))
 have h1:¬ ((l.map Cs.cells).length:Int)<1:=h1
 rw [hm] at h1
 refine QAD (fun h2=>?_) (fun h2=>?_)
 ·have h2:(12:Int)<((l.map Cs.cells).length:Nat):=h2
  rw [hm] at h2
  exact qAF _ rfl rfl (qAO (by rw [qBH,decide_eq_false (show ¬ l.length<=12 by omega),Bool.and_false];rfl))
 have h2:¬ (12:Int)<((l.map Cs.cells).length:Nat):=h2
 rw [hm] at h2
 have hB0:qBH l=qBd (l.drop 0):=by rw [qBH,decide_eq_true (show 1<=l.length by omega),decide_eq_true (show l.length<=12 by omega)];rfl
 refine⟨Nat,fun i=>[(0, .p (css l)),(16, .p (css l)),(17, .p (i64 l.length)),(18, .p (i64 i))],fun _=>⟨0,[]⟩,fun i=>i<l.length/\qBH l=qBd (l.drop i),fun i=>l.length - i,?_,?_⟩
 ·exact⟨0,⟨by omega,hB0⟩,qDu rfl ⟨rfl,rfl,congrArg (fun n:Nat=>i64 n) hm.symm,rfl,trivial⟩ trivial rfl⟩
 rintro i ⟨i1,i2⟩
 refine QAD (fun j1=>?_) (fun j1=>?_)
 rotate_left
 ·exact absurd (show(i:Int)<(l.length:Nat) by omega) j1
 have hmem:=qAI cs0 i1
 have hbc:=hb.cond _ hmem
 have hbn:=hb.nums _ hmem
 have hcell:=qHm i1
 have hstep:=fun h=>qHW (l:=l) (i:=i) h
 have hlast:=fun h=>qHY (l:=l) (i:=i) h
 rcases hx:l.getD i cs0 with ⟨⟨op,n,rel,val,r,st,ar⟩,nums⟩
 rw [hx] at hbc hbn hcell hstep hlast
 simp only [] at hbc hbn hstep hlast
 have hno:qCD nums=false->qBH l=false:=fun h=>by
  rw [i2]
  rcases Nat.lt_or_ge (i+1) l.length with h3 | h3
  ·rw [hstep h3,h];rfl
  ·rw [hlast (by omega),h];rfl
 have hnm:(nums.map i64).length=nums.length:=List.length_map ..
 refine⟨_,⟨by omega,(⟨.mk op n rel val r st ar,nums⟩:Cs).cells,hcell,rfl⟩,?_⟩
 refine QAD (fun j2=>?_) (fun j2=>?_)
 ·have j2:((nums.map i64).length:Int)<1:=j2
  rw [hnm] at j2
  exact qAF _ rfl rfl (qAO (hno (by rw [qCD,decide_eq_false (by omega)];rfl)).symm)
 have j2:¬ ((nums.map i64).length:Int)<1:=j2
 rw [hnm] at j2
 refine QAD (fun j3=>?_) (fun j3=>?_)
 ·have j3:(8:Int)<((nums.map i64).length:Nat):=j3
  rw [hnm] at j3
  exact qAF _ rfl rfl (qAO (hno (by rw [qCD,decide_eq_false (show ¬ nums.length<=8 by omega),Bool.and_false];rfl)).symm)
 have j3:¬ (8:Int)<((nums.map i64).length:Nat):=j3
 rw [hnm] at j3
 refine⟨Nat,fun k=>[(0, .p (css l)),(16, .p (css l)),(17, .p (i64 l.length)),(18, .p (i64 i)),(3, .p (i64 i)),(4, .ptr 0 0 0),(34, .p (ints nums)),(35, .p (i64 nums.length)),(36, .p (i64 k))],fun _=>⟨1,[(0,kO ⟨.mk op n rel val r st ar,nums⟩)]⟩,fun k=>k<=nums.length/\∀ x∈nums.take k,qHi x=true,fun k=>nums.length - k,?_,?_⟩
 ·exact⟨0,⟨Nat.zero_le _,by simp⟩,qAA [] [] [] rfl ⟨rfl,rfl,rfl,rfl,rfl,⟨rfl,rfl⟩,rfl,congrArg (fun n:Nat=>i64 n) hnm.symm,rfl,trivial⟩ (sk) rfl⟩
 rintro k ⟨k1,k2⟩
 refine QAD (fun m1=>?_) (fun m1=>?_)
 ·have m1:(k:Int)<(nums.length:Nat):=m1
  have hk:k<nums.length:=by omega
  refine⟨_,⟨by omega,i64 (nums.getD k 0),qCQ hk,rfl⟩,?_⟩
  have bad:qHi (nums.getD k 0)=false->qBH l=false:=fun h=>hno (by
   have:nums.all qHi=false:=by
    rw [Bool.eq_false_iff]
    intro ha
    have:=List.all_eq_true.1 ha _ (qAI 0 hk)
    rw [h] at this;cases this
   rw [qCD,this,Bool.and_false])
  refine QAD (fun m2=>?_) (fun m2=>?_)
  ·have m2:nums.getD k 0 < -9999:=m2
   exact qAF _ rfl rfl (qAO (bad (by rw [qHi,decide_eq_false (by omega)];rfl)).symm)
  have m2:¬ nums.getD k 0 < -9999:=m2
  refine QAD (fun m3=>?_) (fun m3=>?_)
  ·have m3:(9999:Int)<nums.getD k 0:=m3
   exact qAF _ rfl rfl (qAO (bad (by rw [qHi,decide_eq_false (show ¬ nums.getD k 0<=9999 by omega),Bool.and_false])).symm)
  have m3:¬ (9999:Int)<nums.getD k 0:=m3
  refine⟨_,w6z,?_⟩
  refine⟨k+1,⟨by omega,fun x hx=>?_⟩,qAA [] [] [] rfl (sk) (sk) rfl,by show nums.length - (k+1)<nums.length - k;omega⟩
  rw [qAE 0 hk] at hx
  rcases List.mem_append.1 hx with hx | hx
  ·exact k2 x hx
  ·rw [List.mem_singleton.1 hx,qHi,decide_eq_true (by omega),decide_eq_true (by omega)];rfl
 have m1:¬ (k:Int)<(nums.length:Nat):=m1
 have hnums:qCD nums=true:=by
  have:nums.all qHi=true:=by
   rw [List.all_eq_true]
   rw [qAc (by omega)] at k2
   exact k2
  rw [qCD,this,decide_eq_true (by omega),decide_eq_true (by omega)];rfl
 refine⟨((l.length - 1:Nat):Int),by show _=IntKind.i64.wrap (((l.map Cs.cells).length:Int) - 1);rw [hm,show(l.length:Int) - 1=((l.length - 1:Nat):Int) by omega];exact w6z,?_⟩
 refine QAD (fun m4=>?_) (fun m4=>?_)
 ·have m4:(i:Int)=((l.length - 1:Nat):Int):=m4
  have hT:=hlast (by omega)
  rw [<- i2,hnums,Bool.true_and] at hT
  have hP:=qPZ op n rel val r st ar (by simp only [qC8] at hbc;exact hbc.2.1)
  refine QAD (fun p1=>?_) (fun p1=>?_)
  rotate_left
  ·have p1:¬ op=0:=p1
   exact qAF _ rfl rfl (qAO (by rw [hT,qDr,decide_eq_false p1];rfl))
  have p1:op=0:=p1
  by_cases p2:qAm n rel val r st=true
  rotate_left
  ·rw [Bool.not_eq_true] at p2
   rw [p2] at hP
   refine hP.eq rfl ?_
   exact qAF _ rfl rfl (qAO (by rw [hT,qDr,p2,Bool.and_false];rfl))
  rw [p2] at hP
  refine hP.eq rfl ?_
  refine QAD (fun p3=>?_) (fun p3=>?_)
  ·have p3:((qBG ar).length:Int)=0:=p3
   rw [qBN,List.length_map] at p3
   exact qAF _ rfl rfl (qAO (by rw [hT,qDr,p2,decide_eq_true p1,decide_eq_true (show ar.length=0 by omega)];rfl))
  ·have p3:¬ ((qBG ar).length:Int)=0:=p3
   rw [qBN,List.length_map] at p3
   exact qAF _ rfl rfl (qAO (by rw [hT,qDr,decide_eq_false (show ¬ ar.length=0 by omega),Bool.and_false]))
 have m4:¬ (i:Int)=((l.length - 1:Nat):Int):=m4
 have hT:=hstep (by omega)
 rw [<- i2,hnums,Bool.true_and] at hT
 have hC:=qKn 8 (Nat.le_refl _) (.mk op n rel val r st ar) 30 1 hbc (by omega) (by omega)
 rcases hv:qAg 8 (.mk op n rel val r st ar) 30 with _ | k2
 ·rw [hv] at hC hT
  refine hC.holds.useT [] [(0,1)] rfl (sk) (sk) fun e0 H0 hq=>?_
  obtain⟨rfl,rfl⟩:=hq
  refine⟨rfl,_,⟨2,[(0,kO ⟨.mk op n rel val r st ar,nums⟩)]⟩,rfl,rfl,?_⟩
  exact qAF _ rfl rfl (qAO (by rw [hT];rfl))
 ·rw [hv] at hC hT
  refine hC.holds.useT [] [(0,1)] rfl (sk) (sk) fun e0 H0 hq=>?_
  obtain⟨rfl,rfl⟩:=hq
  refine⟨rfl,_,⟨2,[(1,lfO k2),(0,kO ⟨.mk op n rel val r st ar,nums⟩)]⟩,rfl,rfl,?_⟩
  refine⟨_,w6z,?_⟩
  exact⟨i+1,⟨by omega,by rw [hT];rfl⟩,qAA [] [] [] rfl (sk) (sk) rfl,by show l.length - (i+1)<l.length - i;omega⟩
def qAj (d:De):Bool:=
 if d.kind=1 then decide (d.name=[]) && decide (d.plate=[]) && decide (d.refs.length=0) && decide (d.cases.length=0)
 else if d.kind=2 then qAk d.name && decide (d.plate=[]) && decide (d.refs.length=0) && decide (d.cases.length=0)
 else if d.kind=3 then qAk d.name && (decide (d.plate=[]) || qAk d.plate) && qBH d.cases
 else if d.kind=4 then qAk d.name && decide (d.plate=[]) && decide (d.cases.length=0)
 else if d.kind=5 then decide (d.n=0) && decide (d.name=[]) && decide (d.plate=[]) && qBH d.cases else false
def qBi (d:De):Bool:=qB0 d.n && decide (d.refs.length<=8) && d.refs.all qBg && qAj d
def qAt (ds:List De):Bool:=decide (ds.length<=30) && ds.all qBi
def qTr (ds:List De):Int:=if qAt ds then 0 else 380
structure BigD (d:De):Prop where
 name:qLD d.name
 plate:qLD d.plate
 len:d.refs.length<=9223372036854775807
 refs:∀ r∈d.refs,BigR r
 cases:BigL d.cases
structure BigP (ds:List De):Prop where
 len:ds.length<=9223372036854775807
 decl:∀ d∈ds,BigD d
def de0:De:=⟨0,0,[],[],[],[]⟩
theorem qC6 {l:List Rf} {k:Nat} (h:k<l.length):(l.map Rf.cells)[k]?=some (l.getD k rf0).cells:=qCw rf0 h
theorem qDm {l:List De} {k:Nat} (h:k<l.length):(l.map De.cells)[k]?=some (l.getD k de0).cells:=qCw de0 h
theorem qK1 {α:Type} {l:List α} {f:α->Bool} {k:Nat} (d:α) (h:k<l.length) (hf:f (l.getD k d)=false):l.all f=false:=by
 rw [Bool.eq_false_iff]
 intro ha
 have:=List.all_eq_true.1 ha _ (qAI d h)
 rw [hf] at this;cases this
theorem qJe (d:De) (hb:BigD d):Pure cx 47 [d.pv] (·=.ret [.bool (qBi d)]):=by
 refine qAB Tryz.func47 rfl rfl rfl ?_
 have hN:=qD4 d.n
 have hI:=qGV d.name hb.name
 have hJ:=qGV d.plate hb.plate
 have hC:=qTu d.cases hb.cases
 have hrl:=hb.len
 have hcl:=hb.cases.len
 have hm:(d.refs.map Rf.cells).length=d.refs.length:=List.length_map ..
 by_cases n1:qB0 d.n=true
 rotate_left
 ·rw [Bool.not_eq_true] at n1
  rw [n1] at hN
  refine hN.eq rfl ?_
  exact qAF _ rfl rfl (qAO (by rw [qBi,n1];rfl))
 rw [n1] at hN
 refine hN.eq rfl ?_
 refine QAD (fun h2=>?_) (fun h2=>?_)
 ·have h2:(8:Int)<((d.refs.map Rf.cells).length:Nat):=h2
  rw [hm] at h2
  exact qAF _ rfl rfl (qAO (by rw [qBi,decide_eq_false (show ¬ d.refs.length<=8 by omega),Bool.and_false];rfl))
 have h2:¬ (8:Int)<((d.refs.map Rf.cells).length:Nat):=h2
 rw [hm] at h2
 refine⟨Nat,fun k=>[(1, .ptr 0 0 0),(16, .p (qBy d.refs)),(17, .p (i64 d.refs.length)),(18, .p (i64 k))],fun _=>⟨1,[(0,deO d)]⟩,fun k=>k<=d.refs.length/\∀ x∈d.refs.take k,qBg x=true,fun k=>d.refs.length - k,?_,?_⟩
 ·exact⟨0,⟨Nat.zero_le _,by simp⟩,qAA [] [] [] rfl ⟨⟨rfl,rfl⟩,rfl,congrArg (fun n:Nat=>i64 n) hm.symm,rfl,trivial⟩ (sk) rfl⟩
 rintro k ⟨k1,k2⟩
 refine QAD (fun m1=>?_) (fun m1=>?_)
 ·have m1:(k:Int)<(d.refs.length:Nat):=m1
  have hk:k<d.refs.length:=by omega
  refine⟨_,⟨by omega,(d.refs.getD k rf0).cells,qC6 hk,rfl⟩,?_⟩
  have hR:=qG1 (d.refs.getD k rf0) (hb.refs _ (qAI rf0 hk))
  by_cases r1:qBg (d.refs.getD k rf0)=true
  rotate_left
  ·rw [Bool.not_eq_true] at r1
   rw [r1] at hR
   refine hR.eq rfl ?_
   exact qAF _ rfl rfl (qAO (by rw [qBi,qK1 rf0 hk r1,Bool.and_false];rfl))
  rw [r1] at hR
  refine hR.eq rfl ?_
  refine⟨_,w6z,?_⟩
  refine⟨k+1,⟨by omega,fun x hx=>?_⟩,qAA [] [] [] rfl (sk) (sk) rfl,by show d.refs.length - (k+1)<d.refs.length - k;omega⟩
  rw [qAE rf0 hk] at hx
  rcases List.mem_append.1 hx with hx | hx
  ·exact k2 x hx
  ·rw [List.mem_singleton.1 hx];exact r1
 have m1:¬ (k:Int)<(d.refs.length:Nat):=m1
 rw [qAc (by omega)] at k2
 have hfin:qBi d=qAj d:=by rw [qBi,n1,decide_eq_true (show d.refs.length<=8 by omega),List.all_eq_true.2 k2];rfl
 clear k1 k2 m1
 refine QAD (fun o1=>?_) (fun o1=>?_)
 ·have o1:d.kind=1:=o1
  refine QAD (fun p1=>?_) (fun p1=>?_)
  rotate_left
  ·have p1:¬ d.name=[]:=p1
   exact qAF _ rfl rfl (qAO (by rw [hfin];simp [qAj, *]))
  have p1:d.name=[]:=p1
  refine QAD (fun p2=>?_) (fun p2=>?_)
  rotate_left
  ·have p2:¬ d.plate=[]:=p2
   exact qAF _ rfl rfl (qAO (by rw [hfin];simp [qAj, *]))
  have p2:d.plate=[]:=p2
  refine QAD (fun p3=>?_) (fun p3=>?_)
  rotate_left
  ·have p3:¬ ((d.refs.map Rf.cells).length:Int)=0:=p3
   rw [List.length_map] at p3
   have p3:¬ d.refs=[]:=fun e=>p3 (by rw [e];rfl)
   exact qAF _ rfl rfl (qAO (by rw [hfin];simp [qAj, *]))
  have p3:((d.refs.map Rf.cells).length:Int)=0:=p3
  rw [List.length_map] at p3
  have p3:d.refs=[]:=List.length_eq_zero_iff.1 (by omega)
  refine QAD (fun p4=>?_) (fun p4=>?_)
  rotate_left
  ·have p4:¬ ((d.cases.map Cs.cells).length:Int)=0:=p4
   rw [List.length_map] at p4
   have p4:¬ d.cases=[]:=fun e=>p4 (by rw [e];rfl)
   exact qAF _ rfl rfl (qAO (by rw [hfin];simp [qAj, *]))
  have p4:((d.cases.map Cs.cells).length:Int)=0:=p4
  rw [List.length_map] at p4
  have p4:d.cases=[]:=List.length_eq_zero_iff.1 (by omega)
  exact qAF _ rfl rfl (qAO (by rw [hfin];simp [qAj, *]))
 have o1:¬ d.kind=1:=o1
 refine QAD (fun o2=>?_) (fun o2=>?_)
 ·have o2:d.kind=2:=o2
  by_cases p1:qAk d.name=true
  rotate_left
  ·rw [Bool.not_eq_true] at p1
   rw [p1] at hI
   refine hI.eq rfl ?_
   exact qAF _ rfl rfl (qAO (by rw [hfin];simp [qAj, *]))
  rw [p1] at hI
  refine hI.eq rfl ?_
  refine QAD (fun p2=>?_) (fun p2=>?_)
  rotate_left
  ·have p2:¬ d.plate=[]:=p2
   exact qAF _ rfl rfl (qAO (by rw [hfin];simp [qAj, *]))
  have p2:d.plate=[]:=p2
  refine QAD (fun p3=>?_) (fun p3=>?_)
  rotate_left
  ·have p3:¬ ((d.refs.map Rf.cells).length:Int)=0:=p3
   rw [List.length_map] at p3
   have p3:¬ d.refs=[]:=fun e=>p3 (by rw [e];rfl)
   exact qAF _ rfl rfl (qAO (by rw [hfin];simp [qAj, *]))
  have p3:((d.refs.map Rf.cells).length:Int)=0:=p3
  rw [List.length_map] at p3
  have p3:d.refs=[]:=List.length_eq_zero_iff.1 (by omega)
  refine QAD (fun p4=>?_) (fun p4=>?_)
  rotate_left
  ·have p4:¬ ((d.cases.map Cs.cells).length:Int)=0:=p4
   rw [List.length_map] at p4
   have p4:¬ d.cases=[]:=fun e=>p4 (by rw [e];rfl)
   exact qAF _ rfl rfl (qAO (by rw [hfin];simp [qAj, *]))
  have p4:((d.cases.map Cs.cells).length:Int)=0:=p4
  rw [List.length_map] at p4
  have p4:d.cases=[]:=List.length_eq_zero_iff.1 (by omega)
  exact qAF _ rfl rfl (qAO (by rw [hfin];simp [qAj, *]))
 have o2:¬ d.kind=2:=o2
 refine QAD (fun o3=>?_) (fun o3=>?_)
 ·have o3:d.kind=3:=o3
  by_cases p1:qAk d.name=true
  rotate_left
  ·rw [Bool.not_eq_true] at p1
   rw [p1] at hI
   refine hI.eq rfl ?_
   exact qAF _ rfl rfl (qAO (by rw [hfin];simp [qAj, *]))
  rw [p1] at hI
  refine hI.eq rfl ?_
  refine QAD (fun p2=>?_) (fun p2=>?_)
  ·have p2:d.plate=[]:=p2
   refine hC.eq rfl ?_
   exact qAF _ rfl rfl (qAO (by rw [hfin];simp [qAj, *]))
  have p2:¬ d.plate=[]:=p2
  by_cases p3:qAk d.plate=true
  rotate_left
  ·rw [Bool.not_eq_true] at p3
   rw [p3] at hJ
   refine hJ.eq rfl ?_
   exact qAF _ rfl rfl (qAO (by rw [hfin];simp [qAj, *]))
  rw [p3] at hJ
  refine hJ.eq rfl ?_
  refine hC.eq rfl ?_
  exact qAF _ rfl rfl (qAO (by rw [hfin];simp [qAj, *]))
 have o3:¬ d.kind=3:=o3
 refine QAD (fun o4=>?_) (fun o4=>?_)
 ·have o4:d.kind=4:=o4
  by_cases p1:qAk d.name=true
  rotate_left
  ·rw [Bool.not_eq_true] at p1
   rw [p1] at hI
   refine hI.eq rfl ?_
   exact qAF _ rfl rfl (qAO (by rw [hfin];simp [qAj, *]))
  rw [p1] at hI
  refine hI.eq rfl ?_
  refine QAD (fun p2=>?_) (fun p2=>?_)
  rotate_left
  ·have p2:¬ d.plate=[]:=p2
   exact qAF _ rfl rfl (qAO (by rw [hfin];simp [qAj, *]))
  have p2:d.plate=[]:=p2
  refine QAD (fun p4=>?_) (fun p4=>?_)
  rotate_left
  ·have p4:¬ ((d.cases.map Cs.cells).length:Int)=0:=p4
   rw [List.length_map] at p4
   have p4:¬ d.cases=[]:=fun e=>p4 (by rw [e];rfl)
   exact qAF _ rfl rfl (qAO (by rw [hfin];simp [qAj, *]))
  have p4:((d.cases.map Cs.cells).length:Int)=0:=p4
  rw [List.length_map] at p4
  have p4:d.cases=[]:=List.length_eq_zero_iff.1 (by omega)
  exact qAF _ rfl rfl (qAO (by rw [hfin];simp [qAj, *]))
 have o4:¬ d.kind=4:=o4
 refine QAD (fun o5=>?_) (fun o5=>?_)
 ·have o5:d.kind=5:=o5
  refine QAD (fun p1=>?_) (fun p1=>?_)
  rotate_left
  ·have p1:¬ d.n=0:=p1
   exact qAF _ rfl rfl (qAO (by rw [hfin];simp [qAj, *]))
  have p1:d.n=0:=p1
  refine QAD (fun p2=>?_) (fun p2=>?_)
  rotate_left
  ·have p2:¬ d.name=[]:=p2
   exact qAF _ rfl rfl (qAO (by rw [hfin];simp [qAj, *]))
  have p2:d.name=[]:=p2
  refine QAD (fun p3=>?_) (fun p3=>?_)
  rotate_left
  ·have p3:¬ d.plate=[]:=p3
   exact qAF _ rfl rfl (qAO (by rw [hfin];simp [qAj, *]))
  have p3:d.plate=[]:=p3
  refine hC.eq rfl ?_
  exact qAF _ rfl rfl (qAO (by rw [hfin];simp [qAj, *]))
 have o5:¬ d.kind=5:=o5
 exact qAF _ rfl rfl (qAO (by rw [hfin];simp [qAj, *]))
theorem qMp (ds:List De) (hb:BigP ds):Pure cx 27 [qCs ds] (·=.ret [i64 (qTr ds)]):=by
 refine qAB Tryz.func27 rfl rfl rfl ?_
 have hl:=hb.len
 have hm:(ds.map De.cells).length=ds.length:=List.length_map ..
 have bad:qAt ds=false->qTr ds=380:=fun h=>by rw [qTr,h];rfl
 refine QAD (fun h2=>?_) (fun h2=>?_)
 ·have h2:(30:Int)<((ds.map De.cells).length:Nat):=h2
  rw [hm] at h2
  exact qAF _ rfl rfl (qBD (bad (by rw [qAt,decide_eq_false (show ¬ ds.length<=30 by omega)];rfl)).symm)
 have h2:¬ (30:Int)<((ds.map De.cells).length:Nat):=h2
 rw [hm] at h2
 refine⟨Nat,fun k=>[(10, .p (des ds)),(11, .p (i64 ds.length)),(12, .p (i64 k))],fun _=>⟨0,[]⟩,fun k=>k<=ds.length/\∀ x∈ds.take k,qBi x=true,fun k=>ds.length - k,?_,?_⟩
 ·exact⟨0,⟨Nat.zero_le _,by simp⟩,qAA [] [] [] rfl ⟨rfl,congrArg (fun n:Nat=>i64 n) hm.symm,rfl,trivial⟩ trivial rfl⟩
 rintro k ⟨k1,k2⟩
 refine QAD (fun m1=>?_) (fun m1=>?_)
 ·have m1:(k:Int)<(ds.length:Nat):=m1
  have hk:k<ds.length:=by omega
  refine⟨_,⟨by omega,(ds.getD k de0).cells,qDm hk,rfl⟩,?_⟩
  have hR:=qJe (ds.getD k de0) (hb.decl _ (qAI de0 hk))
  by_cases r1:qBi (ds.getD k de0)=true
  rotate_left
  ·rw [Bool.not_eq_true] at r1
   rw [r1] at hR
   refine hR.eq rfl ?_
   exact qAF _ rfl rfl (qBD (bad (by rw [qAt,qK1 de0 hk r1,Bool.and_false])).symm)
  rw [r1] at hR
  refine hR.eq rfl ?_
  refine⟨_,w6z,?_⟩
  refine⟨k+1,⟨by omega,fun x hx=>?_⟩,qAA [] [] [] rfl (sk) trivial rfl,by show ds.length - (k+1)<ds.length - k;omega⟩
  rw [qAE de0 hk] at hx
  rcases List.mem_append.1 hx with hx | hx
  ·exact k2 x hx
  ·rw [List.mem_singleton.1 hx];exact r1
 have m1:¬ (k:Int)<(ds.length:Nat):=m1
 rw [qAc (by omega)] at k2
 exact qAF _ rfl rfl (qBD (by rw [qTr,qAt,decide_eq_true (show ds.length<=30 by omega),List.all_eq_true.2 k2];rfl))
structure Iss where
 kind:Int
 decl:Int
 name:List UInt8
deriving DecidableEq
abbrev Iss.cells (i:Iss):List PV:=[i64 i.kind,i64 i.decl, .str i.name]
abbrev isl (l:List Iss):PV:=.lsts 3 (l.map Iss.cells)
def qBz:List De->List UInt8->Option Nat
 | [],_=>none
 | d::r,nm=>if d.name=nm then some 0 else(qBz r nm).map (·+1)
def qCR (l:List De) (nm:List UInt8):Option De:=(qBz l nm).map fun i=>l.getD i de0
def qBT (l:List De) (nm:List UInt8):Int:=match qCR l nm with
 | some d=>if d.kind=2 then d.n else 0
 | none=>0
def ownB (d:De) (r:Rf):Bool:=decide (d.kind=3) && (decide (¬ d.plate=[]) && (decide (r.name=d.name) && (decide (r.mode=1) && (decide (r.plate=d.plate) && decide (1<=r.n)))))
def qPa (l:List De) (d t:De) (r:Rf):Bool:=
 if t.kind=2 then true
 else if t.plate=[] then decide (¬ r.mode=0)
 else if r.mode=0 then true
 else if r.mode=2 then decide (qBT l t.plate<=r.n)
 else if r.mode=1 then decide (¬ (d.kind=3/\d.plate=t.plate/\r.plate=t.plate))
 else false
def qF9 (l:List De) (d:De) (r:Rf):Int:=match qCR l r.name with
 | none=>if ownB d r then 0 else 3
 | some t=>if qPa l d t r then 4 else 0
def qSv (l:List De) (d:De) (r:Rf):Option Int:=match qCR l r.name with
 | some t=>if t.kind=2 then none else some t.n
 | none=>if ownB d r then some d.n else none
def qDs (op n val:Int) (st:List Int):Int:=if op=5 then st.getD (st.length - 1) 0 else if op=6 then val else n
def qDQ (l:List De) (d:De) (op n val:Int) (r:Rf) (st:List Int):Int:=
 if r ∉ d.refs then 7
 else if r.mode=3/\¬ op=6 then 4
 else match qSv l d r with
  | some k=>if k<=qDs op n val st then 8 else 0
  | none=>0
def qBb (k a:Int) (nm:List UInt8):List Iss:=if k=0 then [] else [⟨k,a,nm⟩]
mutual
def qBC (l:List De) (d:De):Cd->List Iss
 | .mk op n _ val r st ar=>match ar with
  | []=>if op=0 then [] else qBb (qDQ l d op n val r st) l.length r.name
  | a::az=>qBC l d a++qBM l d az
def qBM (l:List De) (d:De):List Cd->List Iss
 | []=>[]
 | a::az=>qBC l d a++qBM l d az
end
def qI2 (d:De) (nums:List Int) (grain:Int):Bool:=
 if d.kind=5 then decide (nums.length=1) && (decide (-100<=nums.getD 0 0) && decide (nums.getD 0 0<=100))
 else nums.all (fun w=>decide (0<=w)) && (decide ((nums.length:Int)=d.n) && decide (nums.sum=grain))
def qAo (l:List De) (d:De) (grain:Int) (cs:List Cs):List Iss:=cs.flatMap fun c=>qBC l d c.cond++(if qI2 d c.nums grain then [] else [⟨9,l.length,[]⟩])
def qAQ (l:List De) (d:De):List Rf->List Rf->List Iss
 | _,[]=>[]
 | done,r::rs=>(if r∈done then [⟨2,l.length,r.name⟩] else [])++(qBb (qF9 l d r) l.length r.name++qAQ l d (done++[r]) rs)
def qA7 (l:List De) (d:De):List Iss:=if (qBz l d.name).isSome then [⟨2,l.length,d.name⟩] else []
def qAd (l:List De) (d:De):List Iss:=if d.n<2∨4<d.n then [⟨6,l.length,d.name⟩] else []
def qB2 (l:List De) (d:De):List Iss:=if d.plate=[] then [] else match qCR l d.plate with
 | none=>[⟨3,l.length,d.plate⟩]
 | some t=>if t.kind=2 then [] else [⟨4,l.length,d.plate⟩]
def qCW (l:List De) (d:De) (grain:Int):List Iss:=
 if d.kind=1 then(if l.length > 0∨d.n<1∨60<d.n then [⟨1,l.length,[]⟩] else [])
 else if d.kind=2 then qA7 l d++(if d.n<1∨6<d.n then [⟨5,l.length,d.name⟩] else [])
 else if d.kind=3 then qA7 l d++(qB2 l d++(qAd l d++(qAQ l d [] d.refs++qAo l d grain d.cases)))
 else if d.kind=4 then qA7 l d++(qAd l d++qAQ l d [] d.refs)
 else qAQ l d [] d.refs++qAo l d grain d.cases
def qAb (ds:List De):Int:=match ds with
 | []=>0
 | d::_=>if d.kind=1 then d.n else 0
def qCk (ds:List De):List Iss:=match ds with
 | []=>[⟨1,0,[]⟩]
 | d::_=>if d.kind=1 then [] else [⟨1,0,[]⟩]
def qBm (grain:Int):List De->List De->List Iss
 | _,[]=>[]
 | l,d::r=>qCW l d grain++qBm grain (l++[d]) r
def qSS (l:List De) (d:De):Nat:=if d.kind=3 then(if d.plate=[] then 1 else(qBT l d.plate).toNat) else if d.kind=4 then 1 else 0
def qAP:List De->List De->Nat
 | _,[]=>0
 | l,d::r=>qSS l d+qAP (l++[d]) r
def qAs (ds:List De):Nat:=(ds.filter fun d=>decide (d.kind=5)).length
def qAZ:List De->List De->Nat
 | _,[]=>1
 | l,d::r=>d.n.toNat ^ qSS l d * qAZ (l++[d]) r
def qHZ (ds:List De):Bool:=decide (qAP [] ds<1) || (decide (8<qAP [] ds) || (decide (4<qAs ds) || decide (1024<qAZ [] ds)))
def qKx (ds:List De):List Iss:=qCk ds++qBm (qAb ds) [] ds
def qFP (ds:List De):List Iss:=if qKx ds=[] then(if qHZ ds then [⟨10,ds.length,[]⟩] else []) else qKx ds
def qNB (ds:List De):List PV:=if qAt ds=true then [isl (qFP ds),i64 0] else [isl [],i64 380]
def qBK (ds:List De):Int:=if qAt ds=true then(if qFP ds=[] then 0 else 390) else 380
structure Sy where
 name:List UInt8
 kind:Int
 plate:List UInt8
 card:Int
 size:Int
abbrev Sy.cells (s:Sy):List PV:=[.str s.name,i64 s.kind, .str s.plate,i64 s.card,i64 s.size]
abbrev syl (l:List Sy):PV:=.lsts 5 (l.map Sy.cells)
def qCH (l:List De) (d:De):Sy:=if d.kind=2 then ⟨d.name,2,[],0,d.n⟩ else ⟨d.name,d.kind,d.plate,d.n,if d.plate=[] then 1 else qBT l d.plate⟩
def qEb:List De->List De->List Sy
 | _,[]=>[]
 | l,d::r=>(if d.kind=2∨d.kind=3∨d.kind=4 then [qCH l d] else [])++qEb (l++[d]) r
def qUC (ds:List De):List PV:=if qBK ds=0 then [syl (qEb [] ds),i64 0] else [syl [],i64 (qBK ds)]
theorem qJW:∀ {l:List De} {nm:List UInt8} {i:Nat},qBz l nm=some i->i<l.length/\(l.getD i de0).name=nm
 | [],_,_,h=>by cases h
 | d::r,nm,i,h=>by
  rw [qBz] at h
  split at h
  ·rename_i hd
   injection h with h;subst h
   exact⟨by simp,hd⟩
  ·cases hr:qBz r nm with
   | none=>rw [hr] at h;cases h
   | some j=>
    rw [hr] at h
    injection h with h
    have h:j+1=i:=h
    subst h
    have h2:=qJW hr
    exact⟨by rw [List.length_cons];omega,h2.2⟩
theorem qGW (m:List De) (nm:List UInt8):∀ l:List De,qBz (l++m) nm=match qBz l nm with
  | some i=>some i
  | none=>(qBz m nm).map (·+l.length)
 | []=>by
  show qBz m nm=(qBz m nm).map (·+0)
  cases qBz m nm <;> rfl
 | d::r=>by
  rw [List.cons_append,qBz,qBz,qGW m nm r]
  split
  ·rfl
  ·cases qBz r nm with
   | some i=>rfl
   | none=>cases qBz m nm with
    | none=>rfl
    | some j=>show some (j+r.length+1)=some (j+(r.length+1));rw [Nat.add_assoc]
theorem qKb (l:List De) (d:De) (nm:List UInt8):qBz (l++[d]) nm=match qBz l nm with
  | some i=>some i
  | none=>if d.name=nm then some l.length else none:=by
 rw [qGW]
 cases qBz l nm with
 | some i=>rfl
 | none=>
  show(qBz [d] nm).map (·+l.length)=_
  rw [qBz]
  split
  ·show some (0+l.length)=some l.length;rw [Nat.zero_add]
  ·rfl
theorem qKc {l:List De} {nm:List UInt8}:qBz l nm=none ↔ ∀ d∈l,d.name ≠ nm:=by
 induction l with
 | nil=>simp [qBz]
 | cons d r ih=>
  rw [qBz]
  split
  ·rename_i h
   constructor
   ·intro e;cases e
   ·intro e;exact absurd h (e d (List.mem_cons_self ..))
  ·rename_i h
   rw [Option.map_eq_none_iff,ih]
   constructor
   ·intro e x hx
    rcases List.mem_cons.1 hx with rfl | hx
    ·exact h
    ·exact e x hx
   ·intro e x hx;exact e x (List.mem_cons_of_mem _ hx)
theorem qKa {l:List De} {nm:List UInt8} {i:Nat} (h:qBz l nm=some i):qCR l nm=some (l.getD i de0):=by rw [qCR,h];rfl
theorem qQF {l:List De} {nm:List UInt8} (h:qBz l nm=none):qCR l nm=none:=by rw [qCR,h];rfl
theorem qJV {l:List De} {nm:List UInt8} {d:De} (h:qCR l nm=some d):d∈l/\d.name=nm:=by
 rw [qCR] at h
 cases hi:qBz l nm with
 | none=>rw [hi] at h;cases h
 | some i=>
  rw [hi] at h
  injection h with h;subst h
  have:=qJW hi
  exact⟨qAI de0 this.1,this.2⟩
theorem qNK {l m:List De} {nm:List UInt8} {d:De} (h:qCR l nm=some d):qCR (l++m) nm=some d:=by
 rw [qCR] at h ⊢
 cases hi:qBz l nm with
 | none=>rw [hi] at h;cases h
 | some i=>
  rw [hi] at h
  injection h with h
  have h:l.getD i de0=d:=h
  have hl:=(qJW hi).1
  rw [qGW,hi]
  show some ((l++m).getD i de0)=some d
  rw [<- h,List.getD_eq_getElem?_getD,List.getD_eq_getElem?_getD,List.getElem?_append_left hl]
theorem qOv {α:Type} {l:List α} {k i:Nat} (d:α) (h:i<k):(l.take k).getD i d=l.getD i d:=by
 rw [List.getD_eq_getElem?_getD,List.getD_eq_getElem?_getD,List.getElem?_take,if_pos h]
theorem qVL {ds:List De} {a i:Nat} {nm:List UInt8} (h:qBz (ds.take a) nm=some i):i<ds.length/\qCR (ds.take a) nm=some (ds.getD i de0):=by
 have h1:=(qJW h).1
 rw [List.length_take] at h1
 exact⟨by omega,by rw [qKa h,qOv de0 (by omega)]⟩
def qUL (l:List De):List De->List (List UInt8 × PV)
 | []=>[]
 | d::r=>(if d.name=[]∨(qBz l d.name).isSome then [] else [(d.name,i64 l.length)])++qUL (l++[d]) r
def qCE (ds:List De):List (List UInt8 × PV):=qUL [] ds
theorem qKT (d:De):∀ (r l:List De),qUL l (r++[d])=qUL l r++(if d.name=[]∨(qBz (l++r) d.name).isSome then [] else [(d.name,i64 (l++r).length)])
 | [],l=>by rw [List.append_nil];show _++[]=[]++_;rw [List.append_nil,List.nil_append]
 | x::r,l=>by
  have e:l++[x]++r=l++x::r:=by rw [List.append_assoc];rfl
  rw [List.cons_append,qUL,qUL,qKT d r (l++[x]),e,List.append_assoc]
theorem qKS (ds:List De) (d:De):qCE (ds++[d])=qCE ds++(if d.name=[]∨(qBz ds d.name).isSome then [] else [(d.name,i64 ds.length)]):=by
 rw [qCE,qKT];rfl
theorem qKi (a:List UInt8):∀ l m:List (List UInt8 × PV),qBF (l++m) a=match qBF l a with
  | some x=>some x
  | none=>qBF m a
 | [],m=>rfl
 | (k,y)::r,m=>by
  rw [List.cons_append,qBF,qBF]
  by_cases h:a=k
  ·rw [decide_eq_true h]
  ·rw [decide_eq_false h];exact qKi a r m
theorem qGQ {a:List UInt8} {x:PV}:∀ {l:List (List UInt8 × PV)},qBF l a=none->qJA l a x=l++[(a,x)]
 | [],_=>rfl
 | (k,y)::r,h=>by
  rw [qBF] at h
  rw [qJA]
  by_cases hk:a=k
  ·rw [decide_eq_true hk] at h;cases h
  ·rw [decide_eq_false hk] at h ⊢
   show(k,y)::qJA r a x=(k,y)::(r++[(a,x)])
   rw [qGQ h]
theorem qJa (nm:List UInt8):∀ n (ds:List De),ds.length=n->qBF (qCE ds) nm=if nm=[] then none else(qBz ds nm).map fun i=>i64 (i:Nat)
 | 0,ds,h=>by
  rw [List.eq_nil_of_length_eq_zero h]
  split <;> rfl
 | n+1,ds,h=>by
  have hne:ds ≠ []:=fun e=>by rw [e] at h;cases h
  obtain⟨l,d,rfl⟩:∃ l d,ds=l++[d]:=⟨ds.dropLast,ds.getLast hne,(List.dropLast_concat_getLast hne).symm⟩
  have ih:=qJa nm n l (by rw [List.length_append] at h;simpa using h)
  rw [qKS,qKi,ih,qKb]
  by_cases h0:nm=[]
  ·subst h0
   rw [if_pos rfl,if_pos rfl]
   show qBF (if d.name=[]∨(qBz l d.name).isSome then [] else [(d.name,i64 l.length)]) []=none
   split
   ·rfl
   ·rename_i hn
    show(match decide ([]=d.name) with | true=>some (i64 (l.length:Nat)) | false=>none)=none
    rw [decide_eq_false fun e=>hn (.inl e.symm)]
  ·rw [if_neg h0,if_neg h0]
   cases hf:qBz l nm with
   | some i=>rfl
   | none=>
    show qBF (if d.name=[]∨(qBz l d.name).isSome then [] else [(d.name,i64 l.length)]) nm=_
    by_cases hd:d.name=nm
    ·rw [hd,hf,if_neg (by intro h;rcases h with h | h;exact h0 h;cases h)]
     show _=(if nm=nm then some l.length else none).map _
     rw [if_pos rfl]
     show(match decide (nm=nm) with | true=>some (i64 (l.length:Nat)) | false=>none)=_
     rw [decide_eq_true rfl];rfl
    ·show qBF _ nm=(if d.name=nm then some l.length else none).map _
     rw [if_neg hd]
     split
     ·rfl
     ·show(match decide (nm=d.name) with | true=>some (i64 (l.length:Nat)) | false=>none)=none
      rw [decide_eq_false fun e=>hd e.symm]
theorem qL2 (ds:List De) {nm:List UInt8} (h:nm ≠ []):qBF (qCE ds) nm=(qBz ds nm).map fun i=>i64 (i:Nat):=by
 rw [qJa nm _ ds rfl,if_neg h]
theorem qRt (ds:List De):qBF (qCE ds) []=none:=by rw [qJa [] _ ds rfl,if_pos rfl]
theorem qIA (s:List UInt8):∀ (f k:Nat) (acc ws:List Wd),GoodW acc->qFf f s k acc=.ok ws->GoodW ws
 | 0,k,acc,ws,h,e=>by
  rw [qFf] at e
  injection e with e
  subst e;exact h
 | f+1,k,acc,ws,h,e=>by
  rw [qFf] at e
  split at e
  ·cases e
  ·rename_i n _
   rw [qKB] at e
   split at e
   ·injection e with e
    subst e;exact h
   ·split at e
    ·cases e
    ·rename_i hr
     split at e
     ·cases e
     ·rename_i hn
      refine qIA s f _ _ ws ⟨fun w hw=>?_,?_⟩ e
      ·rcases List.mem_append.1 hw with hw | hw
       ·exact h.right w hw
       ·rw [List.mem_singleton.1 hw];exact hr
      ·have:=h.len
       rw [qAN];omega
theorem qKA {s:List UInt8} {ws:List Wd} (h:qG2 s=.ok ws):GoodW ws:=
 qIA s _ _ [] ws ⟨fun w hw=>by simp at hw,by simp⟩ h
theorem qDW {ws:List Wd} (hg:GoodW ws) {q q':Nat} {t:List UInt8} (h:qCp ws q=.inr (t,q')):qLD t:=by
 rw [qCp] at h
 split at h
 ·rename_i hk
  injection h with h;injection h with h1 h2
  have:=hg.at (qKX (ws:=ws) (q:=q) (by rw [hk];decide))
  rw [hk] at this
  have:qAk (txt ws q)=true:=this
  simp only [qAk,Bool.and_eq_true,decide_eq_true_eq] at this
  rw [qLD,<- h1]
  have:=this.1.1.1.2
  omega
 ·cases h
theorem qBY:qLD []:=by rw [qLD];simp
theorem qGO {ws:List Wd} {nm pl:List UInt8} {m n:Int} {q q':Nat} {r:Rf} (h1:qLD nm) (h2:qLD pl) (h:qC5 ws nm m pl n q=.inr (r,q')):BigR r:=by
 obtain⟨u,p,_,h⟩:=then_ok h
 injection h with h;injection h with h3 h4
 rw [<- h3];exact⟨h1,h2⟩
theorem qPQ {ws:List Wd} (hg:GoodW ws) {q q':Nat} {r:Rf} (h:qJ8 ws q=.inr (r,q')):BigR r:=by
 rw [qJ8] at h
 obtain⟨nm,q1,h1,h⟩:=then_ok h
 have b1:=qDW hg h1
 try simp only [] at h
 split at h
 ·split at h
  ·exact qGO b1 qBY h
  ·split at h
   ·obtain⟨n,q2,h2,h⟩:=then_ok h
    exact qGO b1 qBY h
   ·obtain⟨pl,q2,h2,h⟩:=then_ok h
    have b2:=qDW hg h2
    try simp only [] at h
    split at h
    ·obtain⟨n,q3,h3,h⟩:=then_ok h
     exact qGO b1 b2 h
    ·exact qGO b1 b2 h
 ·injection h with h;injection h with h3 h4
  rw [<- h3];exact⟨b1,qBY⟩
theorem qM1 {α:Type} {ws:List Wd} {rd:Nat->Rd α} {P:α->Prop} (hrd:∀ q a q',rd q=.inr (a,q')->P a):∀ (f:Nat) {acc l:List α} {q q':Nat},(∀ a∈acc,P a)->qFD ws rd f acc q=.inr (l,q')->(∀ a∈l,P a)/\l.length<=acc.length+f
 | 0,_,_,_,_,_,h=>by cases h
 | f+1,acc,l,q,q',ha,h=>by
  rw [qFD] at h
  split at h
  ·obtain⟨a,q1,h1,h⟩:=then_ok h
   have h2:=qM1 hrd f (acc:=acc++[a]) (fun b hb=>by
    rcases List.mem_append.1 hb with hb | hb
    ·exact ha b hb
    ·rw [List.mem_singleton.1 hb];exact hrd _ _ _ h1) h
   rw [qAN] at h2
   exact⟨h2.1,by omega⟩
  ·injection h with h;injection h with h1 h2
   rw [<- h1];exact⟨ha,by omega⟩
theorem qM4 {α:Type} {ws:List Wd} {rd:Nat->Rd α} {P:α->Prop} (hrd:∀ q a q',rd q=.inr (a,q')->P a) {F q q':Nat} {l:List α} (h:qFp ws rd F q=.inr (l,q')):(∀ a∈l,P a)/\l.length<=F+1:=by
 rw [qFp] at h
 obtain⟨a,q1,h1,h⟩:=then_ok h
 have:=qM1 hrd F (acc:=[a]) (fun b hb=>by rw [List.mem_singleton.1 hb];exact hrd _ _ _ h1) h
 simp only [List.length_singleton] at this
 exact⟨this.1,by omega⟩
theorem qI6 {ws:List Wd} (hg:GoodW ws) {F:Nat} {key:List UInt8} {q q':Nat} {l:List Rf} (h:qE9 ws F key q=.inr (l,q')):(∀ r∈l,BigR r)/\l.length<=F+1:=by
 rw [qE9] at h
 split at h
 ·exact qM4 (fun q a q' h=>qPQ hg h) h
 ·injection h with h;injection h with h1 h2
  rw [<- h1];exact⟨fun r hr=>by simp at hr,by simp⟩
theorem qNE {ws:List Wd}:∀ (f:Nat) {acc l:List Int} {q q':Nat},qGM ws f acc q=.inr (l,q')->l.length<=acc.length+f
 | 0,_,_,_,_,h=>by cases h
 | f+1,acc,l,q,q',h=>by
  rw [qGM] at h
  split at h
  ·obtain⟨a,q1,h1,h⟩:=then_ok h
   have:=qNE f h
   rw [qAN] at this;omega
  ·injection h with h;injection h with h1 h2
   rw [<- h1];omega
theorem qMs {ws:List Wd} {F q q':Nat} {l:List Int} (h:qEk ws F q=.inr (l,q')):l.length<=F+1:=by
 rw [qEk] at h
 obtain⟨a,q1,h1,h⟩:=then_ok h
 have:=qNE F h
 simp only [List.length_singleton] at this;omega
theorem qTV (l:List Int) (n:Int):(qLt l n).length<=l.length+1:=by
 induction l with
 | nil=>simp [qLt]
 | cons x l ih=>
  rw [qLt]
  split
  ·simp
  ·split
   ·simp
   ·simp only [List.length_cons];omega
theorem qO9:∀ (l acc:List Int),(l.foldl qLt acc).length<=acc.length+l.length
 | [],acc=>by simp
 | x::l,acc=>by
  have:=qO9 l (qLt acc x)
  have:=qTV acc x
  simp only [List.foldl_cons,List.length_cons];omega
structure CBig (ws:List Wd) (F:Nat):Prop where
 cond:∀ {q c q'},qDc ws F q=.inr (c,q')->qC8 c
 orr:∀ {d q c q'},qC8 d->orR ws F d q=.inr (c,q')->qC8 c
 conj:∀ {q c q'},qDL ws F q=.inr (c,q')->qC8 c
 andr:∀ {d q c q'},qC8 d->qOc ws F d q=.inr (c,q')->qC8 c
 neg:∀ {q c q'},qIQ ws F q=.inr (c,q')->qC8 c
 test:∀ {q c q'},qGJ ws F q=.inr (c,q')->qC8 c
theorem qMD {op:Int} {a b:Cd} (ha:qC8 a) (hb:qC8 b):qC8 (.mk op 0 0 0 rf0 [] [a,b]):=by
 simp only [qC8,qHu]
 exact⟨⟨qBY,qBY⟩,by simp,by simp,ha,hb,trivial⟩
theorem qQg {op:Int} {a:Cd} (ha:qC8 a):qC8 (.mk op 0 0 0 rf0 [] [a]):=by
 simp only [qC8,qHu]
 exact⟨⟨qBY,qBY⟩,by simp,by simp,ha,trivial⟩
theorem qEN {o n r v:Int} {rf:Rf} {st:List Int} (hr:BigR rf) (hs:st.length<=9223372036854775807):qC8 (.mk o n r v rf st []):=by
 simp only [qC8,qHu]
 exact⟨hr,hs,by simp,trivial⟩
theorem qVY (ws:List Wd) (hg:GoodW ws):∀ F,F<=100000->CBig ws F
 | 0,_=>by
  constructor
  ·intro q c q' h;rw [qDc] at h;cases h
  ·intro d q c q' _ h;rw [orR] at h;cases h
  ·intro q c q' h;rw [qDL] at h;cases h
  ·intro d q c q' _ h;rw [qOc] at h;cases h
  ·intro q c q' h;rw [qIQ] at h;cases h
  ·intro q c q' h;rw [qGJ] at h;cases h
 | F+1,hF=>by
  have ih:=qVY ws hg F (by omega)
  constructor
  ·intro q c q' h
   rw [qDc] at h
   obtain⟨a,p,h1,h⟩:=then_ok h
   exact ih.orr (ih.conj h1) h
  ·intro d q c q' hd h
   rw [orR] at h
   split at h
   ·obtain⟨a,p,h1,h⟩:=then_ok h
    exact ih.orr (qMD hd (ih.conj h1)) h
   ·injection h with h;injection h with h1 h2
    rw [<- h1];exact hd
  ·intro q c q' h
   rw [qDL] at h
   obtain⟨a,p,h1,h⟩:=then_ok h
   exact ih.andr (ih.neg h1) h
  ·intro d q c q' hd h
   rw [qOc] at h
   split at h
   ·obtain⟨a,p,h1,h⟩:=then_ok h
    exact ih.andr (qMD hd (ih.neg h1)) h
   ·injection h with h;injection h with h1 h2
    rw [<- h1];exact hd
  ·intro q c q' h
   rw [qIQ] at h
   split at h
   ·obtain⟨a,p,h1,h⟩:=then_ok h
    injection h with h;injection h with h2 h3
    rw [<- h2];exact qQg (ih.neg h1)
   ·exact ih.test h
  ·intro q c q' h
   rw [qGJ] at h
   split at h
   ·obtain⟨a,p,h1,h⟩:=then_ok h
    obtain⟨u,p2,h2,h⟩:=then_ok h
    injection h with h;injection h with h3 h4
    rw [<- h3];exact ih.cond h1
   ·split at h
    ·obtain⟨u,p1,h1,h⟩:=then_ok h
     obtain⟨nm,p2,h2,h⟩:=then_ok h
     obtain⟨u3,p3,h3,h⟩:=then_ok h
     obtain⟨v,p4,h4,h⟩:=then_ok h
     obtain⟨u5,p5,h5,h⟩:=then_ok h
     obtain⟨r,p6,h6,h⟩:=then_ok h
     obtain⟨n,p7,h7,h⟩:=then_ok h
     injection h with h;injection h with h8 h9
     rw [<- h8];exact qEN ⟨qDW hg h2,qBY⟩ (by simp)
    ·obtain⟨r,p1,h1,h⟩:=then_ok h
     have hr:=qPQ hg h1
     try simp only [] at h
     split at h
     ·obtain⟨u,p2,h2,h⟩:=then_ok h
      obtain⟨l,p3,h3,h⟩:=then_ok h
      obtain⟨u4,p4,h4,h⟩:=then_ok h
      have hl:=(qM4 (P:=fun _=>True) (fun _ _ _ _=>trivial) h3).2
      have hs:=qO9 l []
      injection h with h;injection h with h8 h9
      rw [<- h8];exact qEN hr (by rw [qUF];simp only [List.length_nil] at hs;omega)
     ·obtain⟨o,p2,h2,h⟩:=then_ok h
      obtain⟨n,p3,h3,h⟩:=then_ok h
      injection h with h;injection h with h8 h9
      rw [<- h8];exact qEN hr (by simp)
structure BigK (F:Nat) (c:Cs):Prop where
 cond:qC8 c.cond
 nums:c.nums.length<=F+1
theorem qKs {ws:List Wd} (hg:GoodW ws) {F:Nat} (hF:F<=100000):∀ (f:Nat) {acc l:List Cs} {q q':Nat},(∀ c∈acc,BigK F c)->qFL ws F f acc q=.inr (l,q')->(∀ c∈l,BigK F c)/\l.length<=acc.length+f
 | 0,_,_,_,_,_,h=>by cases h
 | f+1,acc,l,q,q',ha,h=>by
  rw [qFL] at h
  split at h
  ·rw [qGv] at h
   obtain⟨u,q1,h1,h⟩:=then_ok h
   obtain⟨l1,q2,h2,h⟩:=then_ok h
   obtain⟨u3,q3,h3,h⟩:=then_ok h
   injection h with h;injection h with h8 h9
   rw [<- h8]
   refine⟨fun c hc=>?_,by rw [qAN];omega⟩
   rcases List.mem_append.1 hc with hc | hc
   ·exact ha c hc
   ·rw [List.mem_singleton.1 hc]
    exact⟨qEN ⟨qBY,qBY⟩ (by simp),qMs h2⟩
  ·obtain⟨c,q1,h1,h⟩:=then_ok h
   obtain⟨u2,q2,h2,h⟩:=then_ok h
   obtain⟨l3,q3,h3,h⟩:=then_ok h
   obtain⟨u4,q4,h4,h⟩:=then_ok h
   have:=qKs hg hF f (acc:=acc++[⟨c,l3⟩]) (fun x hx=>by
    rcases List.mem_append.1 hx with hx | hx
    ·exact ha x hx
    ·rw [List.mem_singleton.1 hx]
     exact⟨(qVY ws hg F hF).cond h1,qMs h3⟩) h
   rw [qAN] at this
   exact⟨this.1,by omega⟩
theorem qMf {ws:List Wd} (hg:GoodW ws) {F:Nat} (hF:F<=100000) {q q':Nat} {l:List Cs} (h:qGL ws F q=.inr (l,q')):BigL l:=by
 rw [qGL] at h
 obtain⟨u,q1,h1,h⟩:=then_ok h
 obtain⟨h2,h3⟩:=qKs hg hF F (acc:=[]) (fun c hc=>by simp at hc) h
 simp only [List.length_nil] at h3
 exact⟨by omega,fun c hc=>(h2 c hc).cond,fun c hc=>by have:=(h2 c hc).nums;omega⟩
theorem qFm:BigL []:=⟨by simp,fun c hc=>by simp at hc,fun c hc=>by simp at hc⟩
theorem qKM {ws:List Wd} (hg:GoodW ws) {F:Nat} (hF:F<=100000) {q q':Nat} {nm pl:List UInt8} {d:De} (b1:qLD nm) (b2:qLD pl) (h:qCu ws F nm pl q=.inr (d,q')):BigD d:=by
 rw [qCu] at h
 obtain⟨u1,q1,h1,h⟩:=then_ok h
 obtain⟨n,q2,h2,h⟩:=then_ok h
 obtain⟨l,q3,h3,h⟩:=then_ok h
 obtain⟨u4,q4,h4,h⟩:=then_ok h
 obtain⟨cs,q5,h5,h⟩:=then_ok h
 have hr:=qI6 hg h3
 injection h with h;injection h with h8 h9
 rw [<- h8]
 exact⟨b1,b2,by have:=hr.2;simp only [];omega,hr.1,qMf hg hF h5⟩
theorem qRz {ws:List Wd} (hg:GoodW ws) {F:Nat} (hF:F<=100000) {q q':Nat} {d:De} (h:qD7 ws F q=.inr (d,q')):BigD d:=by
 rw [qD7] at h
 split at h
 ·rw [qFG] at h
  obtain⟨n,q1,h1,h⟩:=then_ok h
  injection h with h;injection h with h8 h9
  rw [<- h8]
  exact⟨qBY,qBY,by simp,fun r hr=>by simp at hr,qFm⟩
 split at h
 ·rw [qFB] at h
  obtain⟨nm,q1,h1,h⟩:=then_ok h
  obtain⟨u,q2,h2,h⟩:=then_ok h
  obtain⟨n,q3,h3,h⟩:=then_ok h
  injection h with h;injection h with h8 h9
  rw [<- h8]
  exact⟨qDW hg h1,qBY,by simp,fun r hr=>by simp at hr,qFm⟩
 split at h
 ·rw [qJJ] at h
  obtain⟨nm,q1,h1,h⟩:=then_ok h
  have b1:=qDW hg h1
  try simp only [] at h
  split at h
  ·obtain⟨pl,q2,h2,h⟩:=then_ok h
   obtain⟨u,q3,h3,h⟩:=then_ok h
   exact qKM hg hF b1 (qDW hg h2) h
  ·exact qKM hg hF b1 qBY h
 split at h
 ·rw [qDe] at h
  obtain⟨nm,q1,h1,h⟩:=then_ok h
  obtain⟨u,q2,h2,h⟩:=then_ok h
  obtain⟨n,q3,h3,h⟩:=then_ok h
  obtain⟨l,q4,h4,h⟩:=then_ok h
  have hr:=qI6 hg h4
  injection h with h;injection h with h8 h9
  rw [<- h8]
  exact⟨qDW hg h1,qBY,by have:=hr.2;simp only [];omega,hr.1,qFm⟩
 split at h
 ·rw [qJS] at h
  obtain⟨l,q1,h1,h⟩:=then_ok h
  obtain⟨u,q2,h2,h⟩:=then_ok h
  obtain⟨cs,q3,h3,h⟩:=then_ok h
  have hr:=qI6 hg h1
  injection h with h;injection h with h8 h9
  rw [<- h8]
  exact⟨qBY,qBY,by have:=hr.2;simp only [];omega,hr.1,qMf hg hF h3⟩
 ·cases h
theorem qMm {ws:List Wd} (hg:GoodW ws) {F:Nat} (hF:F<=100000):∀ (f:Nat) {acc l:List De} {q q':Nat},(∀ d∈acc,BigD d)->qFg ws F f acc q=.inr (l,q')->(∀ d∈l,BigD d)/\l.length<=acc.length+f
 | 0,_,_,_,_,_,h=>by cases h
 | f+1,acc,l,q,q',ha,h=>by
  rw [qFg] at h
  split at h
  ·obtain⟨d,q1,h1,h⟩:=then_ok h
   obtain⟨u,q2,h2,h⟩:=then_ok h
   have:=qMm hg hF f (acc:=acc++[d]) (fun x hx=>by
    rcases List.mem_append.1 hx with hx | hx
    ·exact ha x hx
    ·rw [List.mem_singleton.1 hx];exact qRz hg hF h1) h
   rw [qAN] at this
   exact⟨this.1,by omega⟩
  ·injection h with h;injection h with h8 h9
   rw [<- h8];exact⟨ha,by omega⟩
theorem qKE {ws:List Wd} (hg:GoodW ws) {F:Nat} (hF:F<=100000) {l:List De} {q':Nat} (h:qFg ws F F [] 0=.inr (l,q')):BigP l:=by
 have:=qMm hg hF F (acc:=[]) (fun d hd=>by simp at hd) h
 simp only [List.length_nil] at this
 exact⟨by omega,this.1⟩
def qJU (ws:List Wd):Nat:=4 * ws.length+8
def qLd (s:List UInt8):Sum ((Int × Int) × Int) (List De):=
 if 8000<s.length then .inl ((0,0),3) else match qG2 s with
 | .err p c=>.inl ((p.1,p.2),c)
 | .ok ws=>match qFg ws (qJU ws) (qJU ws) [] 0 with
  | .inl q=>.inl (((wat ws q).line,(wat ws q).col),381)
  | .inr (ds,_)=>if qAt ds=true then .inr ds else .inl ((0,0),3)
def qW9:Sum ((Int × Int) × Int) (List De)->List PV
 | .inl (p,e)=>[qCs [],i64 p.1,i64 p.2,i64 e]
 | .inr ds=>[qCs ds,i64 0,i64 0,i64 0]
def iO1 (n:Int):AObj:=⟨qSl,false, .bx [.p (i64 n)]⟩
def eO1 (n:Int):AObj:=⟨43,false, .bx [.p (i64 n)]⟩
theorem qIB (s:List UInt8):∀ (f k:Nat) (acc:List Wd) (p:Nat × Nat) (c:Int),qFf f s k acc=.err p c->c=370∨c=3
 | 0,k,acc,p,c,e=>by
  rw [qFf] at e
  cases e
 | f+1,k,acc,p,c,e=>by
  rw [qFf] at e
  split at e
  ·injection e with _ e;exact .inl e.symm
  ·rw [qKB] at e
   split at e
   ·cases e
   ·split at e
    ·injection e with _ e;exact .inl e.symm
    ·split at e
     ·injection e with _ e;exact .inr e.symm
     ·exact qIB s f _ _ p c e
abbrev qWh (N:Nat):Hp:=⟨N,[(3,eO1 0),(2,iO1 0),(1,iO1 0),(0,srO (.p .nils))]⟩
theorem qTE (s:List UInt8):Pure cx 26 [.str s] (·=.ret (qW9 (qLd s))):=by
 have hRd:=qUn s
 refine qAB Tryz.func26 rfl rfl rfl ?_
 by_cases h0:8000<s.length
 ·rw [qHn,if_pos h0] at hRd
  refine hRd.eq rfl ?_
  have e:qLd s=.inl ((0,0),3):=by rw [qLd,if_pos h0]
  refine And.intro (fun h=>absurd (show(3:Int)=0 from h) (by decide)) (fun _=>?_)
  refine VDraw.seq rfl ?_
  refine⟨sk,?_⟩
  refine⟨sk,?_⟩
  refine⟨sk,?_⟩
  exact qSe (qCs []) (i64 0) (i64 0) (i64 3) rfl ⟨_,rfl,_,_,rfl, .inr (.inr ⟨6,rfl⟩),rfl⟩ rfl rfl rfl (by rw [e];rfl)
 cases hr:qG2 s with
 | err p c=>
  rw [qHn,if_neg h0,hr] at hRd
  refine hRd.eq rfl ?_
  have e:qLd s=.inl ((p.1,p.2),c):=by rw [qLd,if_neg h0,hr]
  have hc:¬ c=0:=by
   have:=qIB s _ _ _ _ _ hr
   omega
  refine And.intro (fun h=>absurd (show c=0 from h) hc) (fun _=>?_)
  refine VDraw.seq rfl ?_
  refine⟨sk,?_⟩
  refine⟨sk,?_⟩
  refine⟨sk,?_⟩
  exact qSe (qCs []) (i64 p.1) (i64 p.2) (i64 c) rfl ⟨_,rfl,_,_,rfl, .inr (.inr ⟨6,rfl⟩),rfl⟩ rfl rfl rfl (by rw [e];rfl)
 | ok ws=>
  have hg:=qKA hr
  have hl:=hg.len
  rw [qHn,if_neg h0,hr] at hRd
  refine hRd.eq rfl ?_
  refine And.intro (fun _=>?_) (fun h=>absurd rfl h)
  obtain⟨F,hF⟩:∃ F,F=qJU ws:=⟨_,rfl⟩
  have hF8:4 * ws.length+8<=F:=by rw [hF];exact Nat.le_refl _
  have hFb:F<=100000:=by rw [hF,qJU];omega
  have e:qLd s=match qFg ws F F [] 0 with
    | .inl q=>.inl (((wat ws q).line,(wat ws q).col),381)
    | .inr (ds,_)=>if qAt ds=true then .inr ds else .inl ((0,0),3):=by rw [qLd,if_neg h0,hr,hF]
  clear hF
  refine(qPT ws F 0 hF8 hg (Nat.zero_le _)).holds.useT [] [(0,4)] rfl (sk) (sk) fun e0 H0 hq=>?_
  rcases hp:qFg ws F F [] 0 with q | ⟨ds,q⟩
  ·rw [hp] at hq e
   obtain⟨rfl,rfl⟩:=hq
   refine⟨rfl,_,qWh 5,rfl,rfl,?_⟩
   refine qDH Tryz.func45 rfl rfl rfl ?_
   refine VDraw.seq rfl ?_
   refine⟨sk,?_⟩
   refine⟨sk,?_⟩
   refine⟨[],[],[], .returned und,⟨5,[(3,eO1 381),(2,iO1 (wat ws q).col),(1,iO1 (wat ws q).line),(0,srO (.p .nils))]⟩,rfl,sk,sk,?_⟩
   exact qSe (qCs []) (i64 (wat ws q).line) (i64 (wat ws q).col) (i64 381) rfl ⟨_,rfl,_,_,rfl, .inr (.inr ⟨6,rfl⟩),rfl⟩ rfl rfl rfl (by rw [e];rfl)
  ·rw [hp] at hq e
   obtain⟨hql,rfl,rfl⟩:=hq
   refine⟨rfl,_,⟨5,(4,psO ws q)::(qWh 5).l⟩,rfl,rfl,?_⟩
   have hC:=qMp ds (qKE hg hFb hp)
   by_cases hv:qAt ds=true
   ·rw [qTr,if_pos hv] at hC
    refine hC.eq rfl ?_
    refine And.intro (fun _=>?_) (fun h=>absurd rfl h)
    have e:qLd s=.inr ds:=e.trans (if_pos hv)
    refine qDH Tryz.func45 rfl rfl rfl ?_
    refine⟨[],[],[], .returned und,⟨5,[(3,eO1 0),(2,iO1 0),(1,iO1 0),(0,srO (.p (des ds)))]⟩,rfl,sk,sk,?_⟩
    exact qSe (qCs ds) (i64 0) (i64 0) (i64 0) rfl rfl rfl rfl rfl (by rw [e];rfl)
   ·rw [qTr,if_neg hv] at hC
    refine hC.eq rfl ?_
    refine And.intro (fun h=>absurd (show(380:Int)=0 from h) (by decide)) (fun _=>?_)
    have e:qLd s=.inl ((0,0),3):=e.trans (if_neg hv)
    refine qDH Tryz.func45 rfl rfl rfl ?_
    refine⟨[],[],[], .returned und,⟨5,[(3,eO1 3),(2,iO1 0),(1,iO1 0),(0,srO (.p .nils))]⟩,rfl,sk,sk,?_⟩
    exact qSe (qCs []) (i64 0) (i64 0) (i64 3) rfl ⟨_,rfl,_,_,rfl, .inr (.inr ⟨6,rfl⟩),rfl⟩ rfl rfl rfl (by rw [e];rfl)
end Go.Proofs.YtmepdfingcmkmaaGreatDoor

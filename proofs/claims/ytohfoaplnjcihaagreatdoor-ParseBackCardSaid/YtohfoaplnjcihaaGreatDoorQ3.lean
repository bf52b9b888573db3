/- Part 3 of the proof: Lg Lh Li Lj Lk Ll Lm Ka Kb Kc Kd Ke Kf Kg Kh Sq Ki Kj Kk Kl Km Kn Ba Ln Ko Kp Kq Kr -/
import Derived.Shelf.Strings.Builder1
import Derived.Shelf.Strings.Builder2
import Derived.Shelf.Small.Bits
import Derived.Shelf.Strings.BuilderF
import Derived.Shelf.Utf8.RuneCount
import Derived.Shelf.Strconv.Itoa0
import Derived.Shelf.Strconv.Itoa1
import Derived.Shelf.LaysM
import Derived.Shelf.Strconv.Itoa2
import Derived.Shelf.Strconv.Itoa3
import Derived.Shelf.Strings.Search1
import Derived.Shelf.Strings.Search2
import Derived.Shelf.Strings.Search3
import Derived.Shelf.Strings.Count
import Derived.Shelf.Strings.Shaped
import Derived.Shelf.Sort.Plain
import Derived.Shelf.Strings.Prefix
import Derived.Shelf.Strings.Split
import Derived.Shelf.Strings.Replace
import Derived.Shelf.Strings.SplitShaped
import Derived.Shelf.Unicode.Decode
import Derived.Shelf.Strings.RuneCount
import Derived.Shelf.Bits.Mul64
import Derived.Shelf.Strings.Repeat
import Derived.Shelf.Unicode.DecodeSlow
import Derived.Shelf.Unicode.DecodeAny
import Derived.Ground.Names2Prog
import Derived.Shelf.Slices.CompactI
import Derived.Shelf.Slices.SearchI
import Derived.Shelf.Slices.Cells
import Derived.Shelf.Slices.In.SortNone
import Derived.Test.YtohfoaplnjcihaaGreatDoorProg
import Derived.Lib.MakeNoZero
import Derived.Laws.Externs
import Derived.Test.YtohfoaplnjcihaaGreatDoorQ2
namespace Go.Proofs.YtohfoaplnjcihaaGreatDoor
open Go Y
set_option maxRecDepth 100000
set_option maxHeartbeats 4000000
inductive RdR where
 | ok (ws:List Wd)
 | err (p:Nat × Nat) (c:Int)
def qGm (rec:Nat->List Wd->RdR) (s:List UInt8) (k:Nat) (acc:List Wd):RdR:=
 if s.length<=k then .ok acc
 else match qAo (qBO (s.drop k)).1 (qBO (s.drop k)).2 with
  | false=>.err (at_ s k) 370
  | true=>if acc.length=1500 then .err (at_ s k) 3
   else rec (k+(qBO (s.drop k)).2.length) (acc++[⟨(qBO (s.drop k)).1,(qBO (s.drop k)).2,(at_ s k).1,(at_ s k).2⟩])
def qEB:Nat->List UInt8->Nat->List Wd->RdR
 | 0,_,_,acc=>.ok acc
 | f+1,s,k,acc=>match qBG s.length (s.drop k) with
  | .inr n=>.err (at_ s (k+n)) 370
  | .inl n=>qGm (qEB f s) s (k+n) acc
def qFf (s:List UInt8):RdR:=qEB (s.length+1) s 0 []
theorem one_pos {r:List UInt8} (h:r ≠ []):1<=(qBO r).2.length:=by
 have h1:1<=r.length:=by cases r <;> simp at h ⊢
 have h2:=qCi qAR r
 unfold qBO
 split
 ·split
  ·simp;omega
  ·split <;> simp <;> omega
 ·split <;> simp <;> omega
theorem qUT (o:AObj) (_ho:isCells o.c=true) :
  HoldsG cx 60 [.ptr 0 0 0] ⟨1,[(0,o)]⟩ fun e H'=>e=.returned (.fn (.func 102) [] [.ptr 1 0 0])/\H'=⟨2,[(1,⟨138,false, .bx [.ptr 0 0 0]⟩),(0,o)]⟩:=by
 refine qAz Tryz.func60 rfl rfl rfl ?_
 exact⟨rfl,rfl⟩
def qC2 (s:List UInt8):List PV:=
 if 8000<s.length then [.lsts 4 [],i64 0,i64 0,i64 3]
 else match qFf s with
  | .ok ws=>[.lsts 4 (ws.map Wd.cells),i64 0,i64 0,i64 0]
  | .err p c=>[.lsts 4 [],i64 p.1,i64 p.2,i64 c]
def rdL (s:List UInt8) (st:LoopState) (N:Nat) (σ:Sg) (ps:List Tmp) (ac bd:Code) (k:Nat) (out:AV):List (Nat × AObj):=
 [(7,⟨0,false, .lp st none 6 N σ ps ac bd 6⟩),(6,⟨0,false, .df⟩),(5,⟨138,false, .bx [.ptr 4 0 0]⟩),(4,⟨140,false, .bx (rdr (at_ s k) s k)⟩),(3,⟨45,false, .bx [.p (i64 0)]⟩),(2,⟨3,false, .bx [.p (i64 0)]⟩),(1,⟨3,false, .bx [.p (i64 0)]⟩),(0,⟨56,false, .bx [out]⟩)]
def rdA (acc:List Wd):AObj:=⟨72,false, .pus (acc.map Wd.cells)⟩
def rdM (s:List UInt8) (st:LoopState) (N:Nat) (σ:Sg) (ps:List Tmp) (ac bd:Code) (k:Nat) (acc:List Wd) (out:AV):List (Nat × AObj):=
 [(4,⟨140,false, .bx (rdr (at_ s k) s k)⟩),(8,rdA acc),(7,⟨0,false, .lp st none 6 N σ ps ac bd 6⟩),(6,⟨0,false, .df⟩),(5,⟨138,false, .bx [.ptr 4 0 0]⟩),(3,⟨45,false, .bx [.p (i64 0)]⟩),(2,⟨3,false, .bx [.p (i64 0)]⟩),(1,⟨3,false, .bx [.p (i64 0)]⟩),(0,⟨56,false, .bx [out]⟩)]
def rdN (s:List UInt8) (N:Nat) (σ:Sg) (ps:List Tmp) (ac bd:Code) (k:Nat) (acc:List Wd) (w:Wd):List (Nat × AObj):=
 [(11,rdA (acc++[w])),(10,rdA [w]),(9,⟨72,false, .bx (w.cells.map .p)⟩),(4,⟨140,false, .bx (rdr (at_ s k) s k)⟩),(7,⟨0,false, .lp .ready none 6 N σ ps ac bd 6⟩),(6,⟨0,false, .df⟩),(5,⟨138,false, .bx [.ptr 4 0 0]⟩),(3,⟨45,false, .bx [.p (i64 0)]⟩),(2,⟨3,false, .bx [.p (i64 0)]⟩),(1,⟨3,false, .bx [.p (i64 0)]⟩),(0,⟨56,false, .bx [.sl 11 4 0 (acc.length+1)]⟩)]
theorem qXe (x:Nat ⊕ Nat):(∃ n,x=.inl n)∨∃ n,x=.inr n:=by
 cases x with
 | inl n=>exact .inl ⟨n,rfl⟩
 | inr n=>exact .inr ⟨n,rfl⟩
theorem qWt (s:List UInt8) (hs:s.length<=8000) (N:Nat) (σ σ1:Sg) (ds:List AD) (ps:List Tmp) (ac bd:Code) (Q:KQ)
  (hok:∀ k acc,qFf s=.ok acc->Q .normal σ1 ds ⟨9,(8,rdA acc)::rdL s .exhausted N σ ps ac bd k (.sl 8 4 0 acc.length)⟩)
  (hp1:∀ p c k acc st,qFf s=.err p c->Q (.panic [⟨.p (err p c),false⟩]) σ1 ds ⟨9,(8,rdA acc)::rdL s st N σ ps ac bd k (.sl 8 4 0 acc.length)⟩)
  (hrd:∀ k acc (w:Wd) (K:AE->Hp->Prop),acc.length<=1500 ->
    (acc.length=1500->K (.panicked [⟨.p (.iface 136 (.agg [i64 w.line,i64 w.col,i64 3])),false⟩]) ⟨10,(9,⟨72,false, .bx (w.cells.map .p)⟩)::rdM s .busy N σ ps ac bd k acc (.sl 8 4 0 acc.length)⟩) ->
    (acc.length<1500->K (.returned (vB true)) ⟨12,rdN s N σ ps ac bd k acc w⟩) ->
    qOm cx 7 [.p (.agg w.cells)] ⟨9,rdM s .ready N σ ps ac bd k acc (.sl 8 4 0 acc.length)⟩ K) :
  HoldsG cx 102 [.fn (.yield 7) [] [], .ptr 5 0 0] ⟨8,rdL s .ready N σ ps ac bd 0 (.p .nils)⟩ (qSF 7 σ1 ds Q):=by
 refine qAA Tryz.func102 rfl rfl rfl ?_
 have hB:=qRy s hs 0 s.length (by omega) (by omega)
 have hR:qFf s=match qBG s.length (s.drop 0) with
  | .inr n=>.err (at_ s (0+n)) 370
  | .inl n=>qGm (qEB s.length s) s (0+n) []:=rfl
 refine Or.elim (qXe (qBG s.length (s.drop 0))) (fun hn=>Exists.elim hn fun n hsk=>?_) (fun hn=>Exists.elim hn fun n hsk=>?_)
 ·simp only [hsk] at hB hR
  refine hB.holds.useN [] [(0,4)] rfl ⟨⟨_,rfl,rfl,rfl,_,rfl,_,_,rfl,rfl,_,_,rfl,rfl,_,_,rfl,rfl,_,_,rfl,rfl,rfl⟩,trivial⟩ ⟨_,_,rfl,⟨rfl,rfl⟩,rfl⟩ fun e0 H0' hq=>?_
  obtain⟨k1,rfl,rfl⟩:=hq
  refine⟨rfl,?_⟩
  refine⟨Nat × Nat × List Wd,fun x=>[(0, .fn (.yield 7) [] []),(1, .ptr 5 0 0)],fun x=>⟨9,(8,rdA x.2.2)::rdL s .ready N σ ps ac bd x.1 (.sl 8 4 0 x.2.2.length)⟩,
   fun x=>x.1<=s.length/\s.length - x.1<=x.2.1/\x.2.2.length<=1500/\qFf s=qGm (qEB x.2.1 s) s x.1 x.2.2,fun x=>s.length - x.1,?_,?_⟩
  ·refine⟨(0+n,s.length,[]),⟨k1,by simp,by simp,hR⟩,?_⟩
   exact qAB [] [] [(8,4)] rfl (sk) (sk) rfl
  ·rintro⟨k,f,acc⟩ ⟨g1,g2,g3,g4⟩
   simp only [] at g1 g2 g3 g4
   refine VDraw.seq rfl ?_
   refine And.intro (fun h1=>?_) (fun h1=>?_)
   ·have h1:(k:Int)<(s.length:Int):=h1
    have hlt:k<s.length:=by omega
    have hW:=qWB s hs k hlt
    have hne:s.drop k ≠ []:=by intro e;have:=congrArg List.length e;rw [List.length_drop] at this;simp only [List.length_nil] at this;omega
    have hpos:=one_pos hne
    have hb:qGm (qEB f s) s k acc=match qAo (qBO (s.drop k)).1 (qBO (s.drop k)).2 with
      | false=>.err (at_ s k) 370
      | true=>if acc.length=1500 then .err (at_ s k) 3
       else qEB f s (k+(qBO (s.drop k)).2.length) (acc++[⟨(qBO (s.drop k)).1,(qBO (s.drop k)).2,(at_ s k).1,(at_ s k).2⟩]):=by
     rw [qGm,if_neg (by omega)]
    by_cases hr:qAo (qBO (s.drop k)).1 (qBO (s.drop k)).2=true
    rotate_left
    ·rw [Bool.not_eq_true] at hr
     simp only [hr] at hW hb
     refine hW.holds.useN [] [(0,4)] rfl ⟨⟨_,rfl,rfl,rfl,_,rfl,_,_,rfl,rfl,_,_,rfl,rfl,_,_,rfl,rfl,_,_,rfl,rfl,rfl⟩,trivial⟩ ⟨_,_,rfl,⟨rfl,rfl⟩,rfl⟩ fun e0 H0' hq=>?_
     obtain⟨rfl,rfl⟩:=hq
     refine⟨rfl,?_⟩
     exact⟨[],[(8,8)],[], .panicked [⟨.p (err (at_ s k) 370),false⟩],⟨9,(8,rdA acc)::rdL s .ready N σ ps ac bd k (.sl 8 4 0 acc.length)⟩,rfl,sk,sk,hp1 _ _ k acc .ready (g4.trans hb)⟩
    ·simp only [hr] at hW hb
     refine hW.holds.useN [] [(0,4)] rfl ⟨⟨_,rfl,rfl,rfl,_,rfl,_,_,rfl,rfl,_,_,rfl,rfl,_,_,rfl,rfl,_,_,rfl,rfl,rfl⟩,trivial⟩ ⟨_,_,rfl,⟨rfl,rfl⟩,rfl⟩ fun e0 H0' hq=>?_
     obtain⟨k1,rfl,rfl⟩:=hq
     refine⟨rfl,?_⟩
     refine hrd _ acc ⟨(qBO (s.drop k)).1,(qBO (s.drop k)).2,(at_ s k).1,(at_ s k).2⟩ _ g3 (fun h2=>?_) (fun h2=>?_)
     ·rw [if_pos h2] at hb
      exact⟨[],[(8,8)],[], .panicked [⟨.p (err (at_ s k) 3),false⟩],⟨9,(8,rdA acc)::rdL s .busy N σ ps ac bd (k+(qBO (s.drop k)).2.length) (.sl 8 4 0 acc.length)⟩,rfl,sk,sk,hp1 _ _ _ acc .busy (g4.trans hb)⟩
     ·rw [if_neg (by omega)] at hb
      have hw0:∀ w:Wd,AV.sl 11 4 0 (acc.length+1)=AV.sl 11 4 0 (acc++[w]).length:=fun w=>by rw [List.length_append];rfl
      obtain⟨f',rfl⟩:∃ n,f=n+1:=⟨f - 1,by omega⟩
      have hB:=qRy s hs (k+(qBO (s.drop k)).2.length) s.length k1 (by omega)
      rw [qEB] at hb
      refine Or.elim (qXe (qBG s.length (s.drop (k+(qBO (s.drop k)).2.length)))) (fun hn=>Exists.elim hn fun n hsk=>?_) (fun hn=>Exists.elim hn fun n hsk=>?_)
      ·simp only [hsk] at hB hb
       refine hB.holds.useN [] [(0,4)] rfl ⟨⟨_,rfl,rfl,rfl,_,rfl,_,_,rfl,rfl,_,_,rfl,rfl,_,_,rfl,rfl,_,_,rfl,rfl,rfl⟩,trivial⟩ ⟨_,_,rfl,⟨rfl,rfl⟩,rfl⟩ fun e0 H0' hq=>?_
       obtain⟨k2,rfl,rfl⟩:=hq
       refine⟨rfl,?_⟩
       refine⟨(k+(qBO (s.drop k)).2.length+n,f',acc++[⟨(qBO (s.drop k)).1,(qBO (s.drop k)).2,(at_ s k).1,(at_ s k).2⟩]),⟨k2,by simp only [];omega,by simp;omega,g4.trans hb⟩,?_,by simp only [];omega⟩
       exact qAB [] [(8,11)] [] rfl ⟨⟨rfl,_,_,rfl,rfl,rfl⟩,⟨rfl,rfl⟩,trivial⟩ ⟨⟨_,rfl,rfl,rfl,rfl⟩,⟨_,rfl,rfl,rfl,rfl,rfl,rfl⟩,⟨_,rfl,rfl,rfl,rfl⟩,⟨_,rfl,rfl,rfl,_,rfl,_,_,rfl,⟨rfl,rfl⟩,rfl⟩,⟨_,rfl,rfl,rfl,_,rfl,_,_,rfl,rfl,_,_,rfl,rfl,_,_,rfl,rfl,_,_,rfl,rfl,rfl⟩,⟨_,rfl,rfl,rfl,_,rfl,_,_,rfl,rfl,rfl⟩,⟨_,rfl,rfl,rfl,_,rfl,_,_,rfl,rfl,rfl⟩,⟨_,rfl,rfl,rfl,_,rfl,_,_,rfl,rfl,rfl⟩,⟨_,rfl,rfl,rfl,_,rfl,_,_,rfl,hw0 _,rfl⟩,trivial⟩ rfl
      ·simp only [hsk] at hB hb
       refine hB.holds.useN [] [(0,4)] rfl ⟨⟨_,rfl,rfl,rfl,_,rfl,_,_,rfl,rfl,_,_,rfl,rfl,_,_,rfl,rfl,_,_,rfl,rfl,rfl⟩,trivial⟩ ⟨_,_,rfl,⟨rfl,rfl⟩,rfl⟩ fun e0 H0' hq=>?_
       obtain⟨k2,rfl,k',k3,rfl⟩:=hq
       refine⟨rfl,?_⟩
       exact⟨[],[(8,11)],[], .panicked [⟨.p (err (at_ s (k+(qBO (s.drop k)).2.length+n)) 370),false⟩],⟨9,(8,rdA (acc++[(⟨(qBO (s.drop k)).1,(qBO (s.drop k)).2,(at_ s k).1,(at_ s k).2⟩:Wd)]))::rdL s .ready N σ ps ac bd k' (.sl 8 4 0 (acc++[(⟨(qBO (s.drop k)).1,(qBO (s.drop k)).2,(at_ s k).1,(at_ s k).2⟩:Wd)]).length)⟩,rfl,⟨_,rfl,_,_,rfl,rfl,rfl⟩,⟨⟨_,rfl,rfl,rfl,rfl⟩,⟨_,rfl,rfl,rfl,rfl,rfl,rfl⟩,⟨_,rfl,rfl,rfl,rfl⟩,⟨_,rfl,rfl,rfl,_,rfl,_,_,rfl,⟨rfl,rfl⟩,rfl⟩,⟨_,rfl,rfl,rfl,_,rfl,_,_,rfl,rfl,_,_,rfl,rfl,_,_,rfl,rfl,_,_,rfl,rfl,rfl⟩,⟨_,rfl,rfl,rfl,_,rfl,_,_,rfl,rfl,rfl⟩,⟨_,rfl,rfl,rfl,_,rfl,_,_,rfl,rfl,rfl⟩,⟨_,rfl,rfl,rfl,_,rfl,_,_,rfl,rfl,rfl⟩,⟨_,rfl,rfl,rfl,_,rfl,_,_,rfl,hw0 _,rfl⟩,trivial⟩,hp1 _ _ k' _ .ready (g4.trans hb)⟩
   ·have h1:¬ (k:Int)<(s.length:Int):=h1
    have e:qFf s=.ok acc:=by rw [g4,qGm,if_pos (by omega)]
    exact⟨[],[(8,8)],[], .returned und,⟨9,(8,rdA acc)::rdL s .ready N σ ps ac bd k (.sl 8 4 0 acc.length)⟩,rfl,sk,sk,hok k acc e⟩
 ·simp only [hsk] at hB hR
  refine hB.holds.useN [] [(0,4)] rfl ⟨⟨_,rfl,rfl,rfl,_,rfl,_,_,rfl,rfl,_,_,rfl,rfl,_,_,rfl,rfl,_,_,rfl,rfl,rfl⟩,trivial⟩ ⟨_,_,rfl,⟨rfl,rfl⟩,rfl⟩ fun e0 H0' hq=>?_
  obtain⟨k1,rfl,k',k2,rfl⟩:=hq
  refine⟨rfl,?_⟩
  exact⟨[],[],[(8,4)], .panicked [⟨.p (err (at_ s (0+n)) 370),false⟩],⟨9,(8,rdA [])::rdL s .ready N σ ps ac bd k' (.sl 8 4 0 0)⟩,rfl,sk,sk,hp1 _ _ k' [] .ready hR⟩
theorem qWV (s:List UInt8):Pure cx 27 [.str s] (·=.ret (qC2 s)):=by
 refine qAC Tryz.func27 rfl rfl rfl ?_
 refine And.intro (fun h1=>?_) (fun h1=>?_)
 ·have h1:(8000:Int)<s.length:=h1
  have e:qC2 s=[.lsts 4 [],i64 0,i64 0,i64 3]:=by rw [qC2,if_pos (by omega)]
  rw [e]
  exact qKZ (.lsts 4 []) (i64 0) (i64 0) (i64 3) rfl (.inr (.inr ⟨4,rfl⟩)) rfl rfl rfl rfl
 ·have hs:s.length<=8000:=by have h1:¬ (8000:Int)<s.length:=h1;omega
  have hw:=qUT ⟨140,false, .bx (rdr (at_ s 0) s 0)⟩ rfl
  refine hw.useE [] [(0,4)] rfl ⟨⟨_,rfl,rfl,rfl,_,rfl,_,_,rfl,rfl,_,_,rfl,rfl,_,_,rfl,rfl,_,_,rfl,rfl,rfl⟩,trivial⟩ ⟨_,_,rfl,⟨rfl,rfl⟩,rfl⟩ ?_
  refine qSp ?_
  intro σ' ps ac bd e1 e2 e3 e4
  have hrd:∀ k acc (w:Wd) (K:AE->Hp->Prop),acc.length<=1500 ->
    (acc.length=1500->K (.panicked [⟨.p (.iface 136 (.agg [i64 w.line,i64 w.col,i64 3])),false⟩]) ⟨10,(9,⟨72,false, .bx (w.cells.map .p)⟩)::rdM s .busy Tryz.f27.ntmps σ' ps ac bd k acc (.sl 8 4 0 acc.length)⟩) ->
    (acc.length<1500->K (.returned (vB true)) ⟨12,rdN s Tryz.f27.ntmps σ' ps ac bd k acc w⟩) ->
    qOm cx 7 [.p (.agg w.cells)] ⟨9,rdM s .ready Tryz.f27.ntmps σ' ps ac bd k acc (.sl 8 4 0 acc.length)⟩ K:=by
   intro k acc w K hacc hK1 hK2
   subst e1 e2 e3 e4
   refine qMJ rfl rfl rfl ?_
   refine And.intro (fun h2=>?_) (fun h2=>?_)
   ·have h2:(acc.length:Int)=1500:=h2
    exact hK1 (by omega)
   ·have h2:¬ (acc.length:Int)=1500:=h2
    refine⟨by show 0+1<=1;omega,[w.cells],rfl,?_⟩
    refine⟨by show 0+acc.length<=(acc.map Wd.cells).length;simp,acc.map Wd.cells,?_,?_⟩
    ·show acc.map Wd.cells=((acc.map Wd.cells).drop 0).take acc.length
     rw [List.drop_zero,List.take_of_length_le (by simp)]
    refine⟨by show(acc.length+1) * 40<=140737488355328;omega,(acc++[w]).map Wd.cells,by simp,?_⟩
    exact hK2 (by omega)
  refine qWt s hs _ σ' _ _ ps ac bd _ ?_ ?_ hrd
  ·intro k acc hr
   have e:qC2 s=[.lsts 4 (acc.map Wd.cells),i64 0,i64 0,i64 0]:=by rw [qC2,if_neg (by omega),hr]
   rw [e]
   refine qD0 Tryz.func59 rfl rfl rfl ?_
   refine⟨[],[(0,0),(1,1),(2,2),(3,3),(8,8)],[], .returned und,⟨9,[(8,rdA acc),(3,⟨45,false, .bx [.p (i64 0)]⟩),(2,⟨3,false, .bx [.p (i64 0)]⟩),(1,⟨3,false, .bx [.p (i64 0)]⟩),(0,⟨56,false, .bx [.sl 8 4 0 acc.length]⟩)]⟩,rfl,sk,sk,?_⟩
   refine qKZ (.lsts 4 (acc.map Wd.cells)) (i64 0) (i64 0) (i64 0) rfl ?_ rfl rfl rfl rfl
   exact⟨_,rfl,by simp,by rw [List.drop_zero,List.take_of_length_le (by simp)]⟩
  ·intro p c k acc st hr
   have e:qC2 s=[.lsts 4 [],i64 p.1,i64 p.2,i64 c]:=by rw [qC2,if_neg (by omega),hr]
   rw [e]
   refine qD0 Tryz.func59 rfl rfl rfl ?_
   refine VDraw.seq rfl ?_
   refine⟨sk,?_⟩
   refine⟨sk,?_⟩
   refine⟨sk,?_⟩
   refine⟨[],[(0,0),(1,1),(2,2),(3,3)],[], .returned und,⟨9,[(3,⟨45,false, .bx [.p (i64 c)]⟩),(2,⟨3,false, .bx [.p (i64 p.2)]⟩),(1,⟨3,false, .bx [.p (i64 p.1)]⟩),(0,⟨56,false, .bx [.p .nils]⟩)]⟩,rfl,sk,sk,?_⟩
   exact qKZ (.lsts 4 []) (i64 p.1) (i64 p.2) (i64 c) rfl (.inr (.inr ⟨4,rfl⟩)) rfl rfl rfl rfl
theorem qHX (b:UInt8):Pure cx 124 [u8 b] (·=.ret [.bool (qBZ b)]):=by
 refine qAC Tryz.func124 rfl rfl rfl ?_
 refine And.intro (fun h1=>?_) (fun h1=>?_)
 ·refine And.intro (fun h2=>?_) (fun h2=>?_)
  ·exact qAG _ rfl rfl (qAO (by simp [qBZ];omega))
  ·exact qAG _ rfl rfl (qAO (by simp [qBZ];omega))
 ·exact qAG _ rfl rfl (qAO (by simp [qBZ];omega))
theorem qLA (b:UInt8):Pure cx 160 [u8 b] (·=.ret [.bool (isLet b)]):=by
 refine qAC Tryz.func160 rfl rfl rfl ?_
 refine And.intro (fun h1=>?_) (fun h1=>?_)
 ·refine And.intro (fun h2=>?_) (fun h2=>?_)
  ·exact qAG _ rfl rfl (qAO (by simp [isLet];omega))
  ·refine And.intro (fun h3=>?_) (fun h3=>?_)
   ·refine And.intro (fun h4=>?_) (fun h4=>?_)
    ·exact qAG _ rfl rfl (qAO (by simp [isLet];omega))
    ·exact qAG _ rfl rfl (qAO (by simp [isLet];omega))
   ·exact qAG _ rfl rfl (qAO (by simp [isLet];omega))
 ·refine And.intro (fun h3=>?_) (fun h3=>?_)
  ·refine And.intro (fun h4=>?_) (fun h4=>?_)
   ·exact qAG _ rfl rfl (qAO (by simp [isLet];omega))
   ·exact qAG _ rfl rfl (qAO (by simp [isLet];omega))
  ·exact qAG _ rfl rfl (qAO (by simp [isLet];omega))
theorem qMR (l:List (List UInt8)) (hl:l.length<=9223372036854775807) (s:List UInt8):Pure cx 123 [.lst (l.map .str), .str s] (·=.ret [.bool (inL l s)]):=by
 refine qAC Tryz.func123 rfl rfl rfl ?_
 refine⟨Nat,fun k=>[(5, .p (i64 k)),(0, .p (.lst (l.map .str))),(1,vS s)],fun _=>⟨0,[]⟩,fun k=>k<=l.length/\inL l s=inL (l.drop k) s,fun k=>l.length - k,?_,?_⟩
 ·exact⟨0,⟨by omega,rfl⟩,qCh rfl ⟨rfl,rfl,rfl,trivial⟩ trivial rfl⟩
 ·rintro k ⟨hk,he⟩
  refine And.intro (fun h1=>?_) (fun h1=>?_)
  ·have h1:(k:Int)<((l.map PV.str).length:Nat):=h1
   rw [List.length_map] at h1
   have hk':k<l.length:=by omega
   have hc:l.drop k=l[k]::l.drop (k+1):=List.drop_eq_getElem_cons hk'
   refine⟨_,⟨by omega, .str l[k],by show(l.map PV.str)[k]?=_;rw [List.getElem?_map,List.getElem?_eq_getElem hk'];rfl,rfl⟩,?_⟩
   refine And.intro (fun h2=>?_) (fun h2=>?_)
   ·have h2:l[k]=s:=h2
    exact qAG _ rfl rfl (qAO (by rw [he,hc,inL,h2];simp))
   ·have h2:¬ l[k]=s:=h2
    refine⟨(k:Int)+1,w6z,k+1,⟨by omega,?_⟩,qCh rfl ⟨rfl,rfl,rfl,trivial⟩ trivial rfl,?_⟩
    ·rw [he,hc,inL,decide_eq_false (fun e=>h2 e.symm)]
     rfl
    ·show l.length - (k+1)<l.length - k
     omega
  ·have h1:¬ (k:Int)<((l.map PV.str).length:Nat):=h1
   rw [List.length_map] at h1
   have:k=l.length:=by omega
   subst this
   exact qAG _ rfl rfl (qAO (by rw [he,List.drop_length];rfl))
theorem rKeys_c:Pure cx 83 [] (·=.ret [.lst (keysL.map .str)]):=by
 refine qAC Tryz.func83 rfl rfl rfl ?_
 exact qAG (.lst (keysL.map .str)) rfl ⟨_,rfl,by decide,rfl⟩ rfl
theorem rMarks_c:Pure cx 84 [] (·=.ret [.lst (marksL.map .str)]):=by
 refine qAC Tryz.func84 rfl rfl rfl ?_
 exact qAG (.lst (marksL.map .str)) rfl ⟨_,rfl,by decide,rfl⟩ rfl
def runN (s:List UInt8):Bool:=decide (s ≠ []) && decide (qAM qAR s=s.length)
theorem qTx (s:List UInt8) (hs:s.length<=9223372036854775807):Pure cx 122 [.str s] (·=.ret [.bool (runN s)]):=by
 refine qAC Tryz.func122 rfl rfl rfl ?_
 refine⟨Nat,fun k=>[(3, .p (i64 k)),(0,vS s)],fun _=>⟨0,[]⟩,fun k=>k<=s.length/\qAM qAR s=k+qAM qAR (s.drop k),fun k=>s.length - k,?_,?_⟩
 ·exact⟨0,⟨by omega,by simp⟩,qCh rfl ⟨rfl,rfl,trivial⟩ trivial rfl⟩
 ·rintro k ⟨hk,he⟩
  refine And.intro (fun h1=>?_) (fun h1=>?_)
  ·have hk':k<s.length:=by have h1:(k:Int)<(s.length:Nat):=h1;omega
   have hc:s.drop k=s[k]::s.drop (k+1):=List.drop_eq_getElem_cons hk'
   refine⟨_,⟨by omega,s[k],List.getElem?_eq_getElem hk',rfl⟩,?_⟩
   have hL:=qLA s[k]
   have next:qAR s[k]=true->qAM qAR s=k+1+qAM qAR (s.drop (k+1)):=by
    intro h
    rw [he,hc,qAM,if_pos h]
    omega
   by_cases hl:isLet s[k]=true
   ·rw [hl] at hL
    refine hL.eq rfl ?_
    refine⟨(k:Int)+1,w6z,k+1,⟨by omega,next (by simp [qAR,hl])⟩,qCh rfl ⟨rfl,rfl,trivial⟩ trivial rfl,?_⟩
    show s.length - (k+1)<s.length - k
    omega
   ·rw [Bool.not_eq_true] at hl
    rw [hl] at hL
    refine hL.eq rfl ?_
    refine⟨_,⟨by omega,s[k],List.getElem?_eq_getElem hk',rfl⟩,?_⟩
    have hD:=qHX s[k]
    by_cases hd:qBZ s[k]=true
    ·rw [hd] at hD
     refine hD.eq rfl ?_
     refine⟨(k:Int)+1,w6z,k+1,⟨by omega,next (by simp [qAR,hd])⟩,qCh rfl ⟨rfl,rfl,trivial⟩ trivial rfl,?_⟩
     show s.length - (k+1)<s.length - k
     omega
    ·rw [Bool.not_eq_true] at hd
     rw [hd] at hD
     refine hD.eq rfl ?_
     refine qAG _ rfl rfl (qAO ?_)
     have:qAM qAR s=k:=by rw [he,hc,qAM,if_neg (by simp [qAR,hl,hd])];omega
     simp only [runN,decide_eq_false (show ¬ qAM qAR s=s.length by omega),Bool.and_false]
  ·have:k=s.length:=by have h1:¬ (k:Int)<(s.length:Nat):=h1;omega
   have hsp:qAM qAR s=s.length:=by rw [he,this];simp [qAM]
   refine And.intro (fun h2=>?_) (fun h2=>?_)
   ·have h2:s=[]:=h2
    exact qAG _ rfl rfl (qAO (by simp [runN,h2]))
   ·have h2:¬ s=[]:=h2
    exact qAG _ rfl rfl (qAO (by simp [runN,h2,hsp]))
theorem qH1 (t:List UInt8) (ht:t.length<=9223372036854775807):Pure cx 118 [.str t] (·=.ret [.bool (qAj t)]):=by
 refine qAC Tryz.func118 rfl rfl rfl ?_
 have hR:=qTx t ht
 by_cases hr:runN t=true
 ·rw [hr] at hR
  refine hR.eq rfl ?_
  have hr2:=hr
  simp only [runN,Bool.and_eq_true,decide_eq_true_eq] at hr2
  obtain⟨c,r,rfl⟩:∃ c r,t=c::r:=by cases t with | nil=>exact(hr2.1 rfl).elim | cons c r=>exact⟨c,r,rfl⟩
  refine⟨_,⟨by omega,c,rfl,rfl⟩,?_⟩
  have hL:=qLA c
  by_cases hl:isLet c=true
  ·rw [hl] at hL
   refine hL.eq rfl ?_
   refine And.intro (fun h1=>?_) (fun h1=>?_)
   ·have h1:((c::r).length:Int)<=10:=h1
    refine rKeys_c.eq rfl ?_
    refine(qMR keysL (by decide) (c::r)).eq rfl ?_
    exact qAG _ rfl rfl (qAO (by simp only [qAj,List.headD_cons,hl,decide_eq_true hr2.1,decide_eq_true hr2.2,decide_eq_true (show(c::r).length<=10 by omega),Bool.true_and]))
   ·have h1:¬ ((c::r).length:Int)<=10:=h1
    exact qAG _ rfl rfl (qAO (by simp only [qAj,decide_eq_false (show ¬ (c::r).length<=10 by omega),Bool.and_false,Bool.false_and]))
  ·rw [Bool.not_eq_true] at hl
   rw [hl] at hL
   refine hL.eq rfl ?_
   exact qAG _ rfl rfl (qAO (by simp only [qAj,List.headD_cons,hl,Bool.and_false,Bool.false_and]))
 ·rw [Bool.not_eq_true] at hr
  rw [hr] at hR
  refine hR.eq rfl ?_
  refine qAG _ rfl rfl (qAO ?_)
  simp only [runN,Bool.and_eq_false_iff,decide_eq_false_iff_not] at hr
  rcases hr with hr | hr
  ·simp only [qAj,decide_eq_false hr,Bool.false_and]
  ·simp only [qAj,decide_eq_false hr,Bool.and_false,Bool.false_and]
theorem qQY (t:List UInt8) (ht:t.length<=9223372036854775807):Pure cx 125 [.str t] (·=.ret [.bool (qHL t)]):=by
 refine qAC Tryz.func125 rfl rfl rfl ?_
 refine⟨Nat,fun k=>[(3, .p (i64 k)),(0,vS t)],fun _=>⟨0,[]⟩,fun k=>k<=t.length/\qAM qBZ t=k+qAM qBZ (t.drop k),fun k=>t.length - k,?_,?_⟩
 ·exact⟨0,⟨by omega,by simp⟩,qCh rfl ⟨rfl,rfl,trivial⟩ trivial rfl⟩
 ·rintro k ⟨hk,he⟩
  refine And.intro (fun h1=>?_) (fun h1=>?_)
  ·have hk':k<t.length:=by have h1:(k:Int)<(t.length:Nat):=h1;omega
   have hc:t.drop k=t[k]::t.drop (k+1):=List.drop_eq_getElem_cons hk'
   refine⟨_,⟨by omega,t[k],List.getElem?_eq_getElem hk',rfl⟩,?_⟩
   have hD:=qHX t[k]
   by_cases hd:qBZ t[k]=true
   ·rw [hd] at hD
    refine hD.eq rfl ?_
    refine⟨(k:Int)+1,w6z,k+1,⟨by omega,?_⟩,qCh rfl ⟨rfl,rfl,trivial⟩ trivial rfl,?_⟩
    ·rw [he,hc,qAM,if_pos hd];omega
    ·show t.length - (k+1)<t.length - k
     omega
   ·rw [Bool.not_eq_true] at hd
    rw [hd] at hD
    refine hD.eq rfl ?_
    refine qAG _ rfl rfl (qAO ?_)
    have:qAM qBZ t=k:=by rw [he,hc,qAM,if_neg (by simp [hd])];omega
    simp only [qHL,decide_eq_false (show ¬ qAM qBZ t=t.length by omega),Bool.and_false,Bool.false_and]
  ·have hkk:k=t.length:=by have h1:¬ (k:Int)<(t.length:Nat):=h1;omega
   have hsp:qAM qBZ t=t.length:=by rw [he,hkk];simp [qAM]
   refine And.intro (fun h2=>?_) (fun h2=>?_)
   ·have h2:t=[48]:=h2
    exact qAG _ rfl rfl (qAO (by rw [h2];decide))
   ·have h2:¬ t=[48]:=h2
    refine And.intro (fun h3=>?_) (fun h3=>?_)
    ·have h3:t=[]:=h3
     exact qAG _ rfl rfl (qAO (by rw [h3];decide))
    ·have h3:¬ t=[]:=h3
     have hn:qHL t=(decide (t.length<=4) && decide ((t.headD 0).toNat ≠ 48)):=by
      simp only [qHL,decide_eq_true hsp,decide_eq_true h3,decide_eq_false h2,Bool.true_and,Bool.and_true,Bool.false_or]
     rw [hn]
     obtain⟨c,r,rfl⟩:∃ c r,t=c::r:=by cases t with | nil=>exact(h3 rfl).elim | cons c r=>exact⟨c,r,rfl⟩
     refine⟨_,⟨by omega,c,rfl,rfl⟩,?_⟩
     refine And.intro (fun h4=>?_) (fun h4=>?_)
     ·have h4:((c.toNat:Nat):Int)=48:=h4
      exact qAG _ rfl rfl (qAO (by rw [List.headD_cons,decide_eq_false (show ¬ c.toNat ≠ 48 by omega),Bool.and_false]))
     ·have h4:¬ ((c.toNat:Nat):Int)=48:=h4
      refine And.intro (fun h5=>?_) (fun h5=>?_)
      ·have h5:((c::r).length:Int)<=4:=h5
       exact qAG _ rfl rfl (qAO (by rw [List.headD_cons,decide_eq_true (show c.toNat ≠ 48 by omega),decide_eq_true (show(c::r).length<=4 by omega)];rfl))
      ·have h5:¬ ((c::r).length:Int)<=4:=h5
       exact qAG _ rfl rfl (qAO (by rw [decide_eq_false (show ¬ (c::r).length<=4 by omega)];rfl))
theorem qSq (k:Int) (t:List UInt8) (ht:t.length<=9223372036854775807):Pure cx 78 [i64 k, .str t] (·=.ret [.bool (qAo k t)]):=by
 refine qAC Tryz.func78 rfl rfl rfl ?_
 refine And.intro (fun h1=>?_) (fun h1=>?_)
 ·have h1:k=1:=h1
  subst h1
  refine(qH1 t ht).eq rfl ?_
  exact qAG _ rfl rfl rfl
 ·have h1:¬ k=1:=h1
  refine And.intro (fun h2=>?_) (fun h2=>?_)
  ·have h2:k=2:=h2
   subst h2
   refine rKeys_c.eq rfl ?_
   refine(qMR keysL (by decide) t).eq rfl ?_
   exact qAG _ rfl rfl rfl
  ·have h2:¬ k=2:=h2
   refine And.intro (fun h3=>?_) (fun h3=>?_)
   ·have h3:k=3:=h3
    subst h3
    refine(qQY t ht).eq rfl ?_
    exact qAG _ rfl rfl rfl
   ·have h3:¬ k=3:=h3
    refine And.intro (fun h4=>?_) (fun h4=>?_)
    ·have h4:k=4:=h4
     subst h4
     refine rMarks_c.eq rfl ?_
     refine(qMR marksL (by decide) t).eq rfl ?_
     exact qAG _ rfl rfl rfl
    ·have h4:¬ k=4:=h4
     exact qAG _ rfl rfl (qAO (by simp [qAo,h1,h2,h3,h4]))
theorem qNp (s:List UInt8) (hs:s.length<=8000) (k:Nat) (hk:k<=s.length) (a b:UInt8):Pure cx 120 [.str s,i64 k, .str [a,b]] (·=.ret [.bool (List.isPrefixOf [a,b] (s.drop k))]):=by
 refine qAC Tryz.func120 rfl rfl rfl ?_
 refine⟨(k:Int)+2,w6z,?_⟩
 refine And.intro (fun h1=>?_) (fun h1=>?_)
 ·have h1:(k:Int)+2<=(s.length:Nat):=h1
  refine⟨(k:Int)+2,w6z,?_⟩
  refine⟨⟨by omega,by omega,by omega⟩,?_⟩
  have e:sub s (some (k:Int)) (some ((k:Int)+2))=(s.drop k).take 2:=by
   show(s.drop ((k:Int)).toNat).take (((k:Int)+2).toNat - ((k:Int)).toNat)=_
   rw [show((k:Int)+2).toNat - ((k:Int)).toNat=2 by omega]
   rfl
  refine And.intro (fun h2=>?_) (fun h2=>?_)
  ·have h2:sub s (some (k:Int)) (some ((k:Int)+2))=[a,b]:=h2
   rw [e] at h2
   refine qAG _ rfl rfl (qAO ?_)
   rw [eq_comm,List.isPrefixOf_iff_prefix]
   exact⟨(s.drop k).drop 2,by rw [<- h2,List.take_append_drop]⟩
  ·have h2:¬ sub s (some (k:Int)) (some ((k:Int)+2))=[a,b]:=h2
   rw [e] at h2
   refine qAG _ rfl rfl (qAO ?_)
   rw [eq_comm,Bool.eq_false_iff]
   intro h
   rw [List.isPrefixOf_iff_prefix] at h
   obtain⟨r,hr⟩:=h
   exact h2 (by rw [<- hr];rfl)
 ·have h1:¬ (k:Int)+2<=(s.length:Nat):=h1
  refine qAG _ rfl rfl (qAO ?_)
  rw [eq_comm,Bool.eq_false_iff]
  intro h
  have:=(qCJ h).resolve_right (by simp)
  simp at this
  omega
theorem qNq (s:List UInt8) (hs:s.length<=8000) (k:Nat) (hk:k<=s.length):Pure cx 76 [.str s,i64 k] (·=.ret [i64 (at_ s k).1,i64 (at_ s k).2]):=by
 refine qAC Tryz.func76 rfl rfl rfl ?_
 refine⟨Nat,fun j=>[(6, .p (i64 (at_ s j).1)),(7, .p (i64 (at_ s j).2)),(8, .p (i64 j)),(0,vS s),(1, .p (i64 k))],fun _=>⟨0,[]⟩,fun j=>j<=k,fun j=>k - j,?_,?_⟩
 ·exact⟨0,by omega,qCh rfl ⟨rfl,rfl,rfl,rfl,rfl,trivial⟩ trivial rfl⟩
 ·intro j hj
  have hle:=qVl s j
  refine And.intro (fun h1=>?_) (fun h1=>?_)
  ·have hlt:j<s.length:=by have h1:(j:Int)<(k:Int):=h1;omega
   have hk2:j<k:=by have h1:(j:Int)<(k:Int):=h1;omega
   refine⟨((at_ s j).2:Int)+1,w6z,?_⟩
   refine⟨_,⟨by omega,s[j],List.getElem?_eq_getElem hlt,rfl⟩,?_⟩
   have ha:=qR0 hlt
   refine And.intro (fun h2=>?_) (fun h2=>?_)
   ·have h2:((s[j].toNat:Nat):Int)=10:=h2
    refine⟨((at_ s j).1:Int)+1,w6z,?_⟩
    refine⟨(j:Int)+1,w6z,j+1,hk2,?_,?_⟩
    ·have e:at_ s (j+1)=((at_ s j).1+1,1):=by rw [ha,adv,if_pos (by omega)]
     show Ent _ _ _ _ _ _ (sets (fun _=>.junk) [(6, .p (i64 (at_ s (j+1)).1)),(7, .p (i64 (at_ s (j+1)).2)),(8, .p (i64 ((j+1:Nat):Int))),(0,vS s),(1, .p (i64 k))]) _ _
     rw [e]
     exact qCh rfl ⟨rfl,rfl,rfl,rfl,rfl,trivial⟩ trivial rfl
    ·show k - (j+1)<k - j
     omega
   ·have h2:¬ ((s[j].toNat:Nat):Int)=10:=h2
    refine⟨(j:Int)+1,w6z,j+1,hk2,?_,?_⟩
    ·have e:at_ s (j+1)=((at_ s j).1,(at_ s j).2+1):=by rw [ha,adv,if_neg (by omega)]
     show Ent _ _ _ _ _ _ (sets (fun _=>.junk) [(6, .p (i64 (at_ s (j+1)).1)),(7, .p (i64 (at_ s (j+1)).2)),(8, .p (i64 ((j+1:Nat):Int))),(0,vS s),(1, .p (i64 k))]) _ _
     rw [e]
     exact qCh rfl ⟨rfl,rfl,rfl,rfl,rfl,trivial⟩ trivial rfl
    ·show k - (j+1)<k - j
     omega
  ·have:j=k:=by have h1:¬ (j:Int)<(k:Int):=h1;omega
   subst this
   exact qEc _ _ rfl rfl rfl rfl
def qRv (k:Nat):Option Nat->Int
 | some n=>((k+2+n:Nat):Int)
 | none=>-1
theorem qQa (s:List UInt8) (hs:s.length<=8000) (k f:Nat) (hk2:k+2<=s.length) (hf:s.length - (k+2)<=f) :
  Pure cx 121 [.str s,i64 k] (fun r=>r=.ret [i64 (qRv k (qBW f 1 (s.drop (k+2))))]/\∀ n,qBW f 1 (s.drop (k+2))=some n->k+2+n<=s.length):=by
 refine qAC Tryz.func121 rfl rfl rfl ?_
 refine⟨(k:Int)+2,w6z,?_⟩
 refine⟨Nat × Nat × Nat,fun x=>[(0,vS s),(5, .p (i64 x.2.1)),(6, .p (i64 x.1))],fun _=>⟨0,[]⟩,
  fun x=>x.1<=s.length/\k+2<=x.1/\x.2.1<=x.1/\((x.2.1=0/\qBW f 1 (s.drop (k+2))=some (x.1 - (k+2)))∨(1<=x.2.1/\s.length - x.1<=x.2.2/\qBW f 1 (s.drop (k+2))=(qBW x.2.2 x.2.1 (s.drop x.1)).map (·+(x.1 - (k+2))))),fun x=>2 * (s.length - x.1)+(if x.2.1=0 then 0 else 1),?_,?_⟩
 ·exact⟨(k+2,1,f),⟨hk2,by simp,by simp, .inr ⟨by simp,hf,by simp⟩⟩,qCh rfl ⟨rfl,rfl,rfl,trivial⟩ trivial rfl⟩
 ·rintro⟨i,d,f'⟩ ⟨g1,g2,g3,hx⟩
  simp only [] at g1 g2 g3 hx
  refine And.intro (fun h0=>?_) (fun h0=>?_)
  ·have h0:(0:Int)<(d:Int):=h0
   obtain⟨q1,q2,hc⟩:=hx.resolve_left (by omega)
   refine And.intro (fun h1=>?_) (fun h1=>?_)
   ·have h1:((s.length:Nat):Int)<=(i:Int):=h1
    have hn:qBW f 1 (s.drop (k+2))=none:=by
     rw [hc,show i=s.length by omega,List.drop_length]
     cases f' <;> rfl
    rw [hn]
    exact qAG _ rfl rfl ⟨rfl,by intro n h;cases h⟩
   ·have h1:¬ ((s.length:Nat):Int)<=(i:Int):=h1
    have hlt:i<s.length:=by omega
    obtain⟨c,r,hr⟩:∃ c r,s.drop i=c::r:=⟨_,_,List.drop_eq_getElem_cons hlt⟩
    obtain⟨f'',rfl⟩:∃ n,f'=n+1:=⟨f' - 1,by omega⟩
    have hT:=qNp s hs i g1 40 42
    by_cases hb:List.isPrefixOf [40,42] (s.drop i)=true
    ·rw [hb] at hT
     refine hT.eq rfl ?_
     have hk3:i+2<=s.length:=(qCJ hb).resolve_right (by simp)
     refine⟨(d:Int)+1,w6z,?_⟩
     refine⟨(i:Int)+2,w6z,?_⟩
     refine⟨(i+2,d+1,f''),⟨hk3,by simp only [];omega,by simp only [];omega, .inr ⟨by simp,by simp only [];omega,?_⟩⟩,qCh rfl ⟨rfl,rfl,rfl,trivial⟩ trivial rfl,?_⟩
     ·rw [hc,hr,qBW,<- hr,if_pos hb,List.drop_drop,Option.map_map]
      congr 1
      funext n
      simp only [Function.comp]
      omega
     ·simp only []
      split <;> split <;> omega
    ·rw [Bool.not_eq_true] at hb
     rw [hb] at hT
     refine hT.eq rfl ?_
     have hT2:=qNp s hs i g1 42 41
     by_cases hb2:List.isPrefixOf [42,41] (s.drop i)=true
     ·rw [hb2] at hT2
      refine hT2.eq rfl ?_
      have hk3:i+2<=s.length:=(qCJ hb2).resolve_right (by simp)
      refine⟨((d - 1:Nat):Int),by rw [show((d - 1:Nat):Int)=(d:Int) - 1 by omega];exact w6z,?_⟩
      refine⟨(i:Int)+2,w6z,?_⟩
      refine⟨(i+2,d - 1,f''),⟨hk3,by simp only [];omega,by simp only [];omega,?_⟩,qCh rfl ⟨rfl,rfl,rfl,trivial⟩ trivial rfl,?_⟩
      ·simp only []
       by_cases hd:d=1
       ·refine .inl ⟨by omega,?_⟩
        rw [hc,hr,qBW,<- hr,if_neg (by rw [hb];simp),if_pos hb2,if_pos hd]
        simp only [Option.map_some]
        congr 1
        omega
       ·refine .inr ⟨by omega,by omega,?_⟩
        rw [hc,hr,qBW,<- hr,if_neg (by rw [hb];simp),if_pos hb2,if_neg hd,List.drop_drop,Option.map_map]
        congr 1
        funext n
        simp only [Function.comp]
        omega
      ·simp only []
       split <;> split <;> omega
     ·rw [Bool.not_eq_true] at hb2
      rw [hb2] at hT2
      refine hT2.eq rfl ?_
      refine⟨(i:Int)+1,w6z,?_⟩
      refine⟨(i+1,d,f''),⟨by simp only [];omega,by simp only [];omega,by simp only [];omega, .inr ⟨by simp only [];omega,by simp only [];omega,?_⟩⟩,qCh rfl ⟨rfl,rfl,rfl,trivial⟩ trivial rfl,?_⟩
      ·rw [hc,hr,qBW,<- hr,if_neg (by rw [hb];simp),if_neg (by rw [hb2];simp),List.drop_drop,Option.map_map]
       congr 1
       funext n
       simp only [Function.comp]
       omega
      ·simp only []
       split <;> omega
  ·have h0:¬ (0:Int)<(d:Int):=h0
   rcases hx with ⟨-,hx⟩ | ⟨q1,-⟩
   ·rw [hx]
    refine qAG (i64 i) rfl rfl ⟨?_,by intro n h;injection h with h;omega⟩
    show PEnd.ret [i64 i]=.ret [i64 ((k+2+(i - (k+2)):Nat):Int)]
    rw [show k+2+(i - (k+2))=i by omega]
   ·omega
theorem qEw:∀ (f d:Nat) (r:List UInt8) (n:Nat),qBW f d r=some n->n<=r.length
 | 0,_,_,_,h=>by simp [qBW] at h
 | f+1,d,[],n,h=>by simp [qBW] at h
 | f+1,d,c::r,n,h=>by
  rw [qBW] at h
  split at h
  ·rename_i hp
   rw [List.isPrefixOf_iff_prefix] at hp
   have:=hp.length_le
   simp only [Option.map_eq_some_iff] at h
   obtain⟨m,hm,rfl⟩:=h
   have:=qEw f _ _ _ hm
   simp at *
   omega
  ·split at h
   ·rename_i hp
    rw [List.isPrefixOf_iff_prefix] at hp
    have:=hp.length_le
    split at h
    ·injection h with h
     simp at *
     omega
    ·simp only [Option.map_eq_some_iff] at h
     obtain⟨m,hm,rfl⟩:=h
     have:=qEw f _ _ _ hm
     simp at *
     omega
   ·simp only [Option.map_eq_some_iff] at h
    obtain⟨m,hm,rfl⟩:=h
    have:=qEw f _ _ _ hm
    simp at *
    omega
theorem qQZ (s:List UInt8) (hs:s.length<=8000) (k f:Nat) (hk2:k+2<=s.length) (hf:s.length - (k+2)<=f) :
  Pure cx 121 [.str s,i64 k] (·=.ret [i64 (qRv k (qBW f 1 (s.drop (k+2))))]):=
 (qQa s hs k f hk2 hf).mono fun _ h=>h.1
def qXf (k:Nat):Nat ⊕ Nat->List PV
 | .inl n=>[i64 ((k+n:Nat):Int), .bool true]
 | .inr n=>[i64 ((k+n:Nat):Int), .bool false]
theorem qUs (s:List UInt8) (hs:s.length<=8000) (k f:Nat) (hk:k<=s.length) (hf:s.length - k<=f) :
  Pure cx 75 [.str s,i64 k] (·=.ret (qXf k (qBG f (s.drop k)))):=by
 refine qAC Tryz.func75 rfl rfl rfl ?_
 refine⟨Nat × Nat,fun x=>[(0,vS s),(1, .p (i64 x.1))],fun _=>⟨0,[]⟩,
  fun x=>k<=x.1/\x.1<=s.length/\s.length - x.1<=x.2/\qBG f (s.drop k)=shift (x.1 - k) (qBG x.2 (s.drop x.1)),fun x=>s.length - x.1,?_,?_⟩
 ·exact⟨(k,f),⟨by simp,hk,hf,by simp [qI4]⟩,qCh rfl ⟨rfl,rfl,trivial⟩ trivial rfl⟩
 ·rintro⟨k',f'⟩ ⟨g1,g2,g3,hc⟩
  simp only [] at g1 g2 g3 hc
  refine And.intro (fun h1=>?_) (fun h1=>?_)
  ·have hlt:k'<s.length:=by have h1:(k':Int)<(s.length:Int):=h1;omega
   have hr:s.drop k'=s[k']::s.drop (k'+1):=List.drop_eq_getElem_cons hlt
   obtain⟨f'',rfl⟩:∃ n,f'=n+1:=⟨f' - 1,by omega⟩
   refine⟨_,⟨by omega,s[k'],List.getElem?_eq_getElem hlt,rfl⟩,?_⟩
   have one:(s[k'].toNat=32∨s[k'].toNat=10)->qBG f (s.drop k)=shift (k'+1 - k) (qBG f'' (s.drop (k'+1))):=by
    intro h
    rw [hc,hr,qBG,if_pos h,qCe]
    congr 1
    omega
   refine And.intro (fun h2=>?_) (fun h2=>?_)
   ·have h2:((s[k'].toNat:Nat):Int)=32:=h2
    refine⟨(k':Int)+1,w6z,?_⟩
    exact⟨(k'+1,f''),⟨by simp only [];omega,by simp only [];omega,by simp only [];omega,one (by omega)⟩,qCh rfl ⟨rfl,rfl,trivial⟩ trivial rfl,by simp only [];omega⟩
   ·have h2:¬ ((s[k'].toNat:Nat):Int)=32:=h2
    refine⟨_,⟨by omega,s[k'],List.getElem?_eq_getElem hlt,rfl⟩,?_⟩
    refine And.intro (fun h3=>?_) (fun h3=>?_)
    ·have h3:((s[k'].toNat:Nat):Int)=10:=h3
     refine⟨(k':Int)+1,w6z,?_⟩
     exact⟨(k'+1,f''),⟨by simp only [];omega,by simp only [];omega,by simp only [];omega,one (by omega)⟩,qCh rfl ⟨rfl,rfl,trivial⟩ trivial rfl,by simp only [];omega⟩
    ·have h3:¬ ((s[k'].toNat:Nat):Int)=10:=h3
     have hno:¬ (s[k'].toNat=32∨s[k'].toNat=10):=by omega
     have hB:=qNp s hs k' g2 45 45
     by_cases hb:List.isPrefixOf [45,45] (s.drop k')=true
     ·rw [hb] at hB
      refine hB.eq rfl ?_
      have hsp:=qWL hb
      have hle:=qCi qFH (s.drop k')
      rw [List.length_drop] at hle
      refine⟨Nat,fun j=>[(0,vS s),(1, .p (i64 j))],fun _=>⟨0,[]⟩,fun j=>k'<=j/\j<=s.length/\qAM qFH (s.drop k')=(j - k')+qAM qFH (s.drop j),fun j=>s.length - j,?_,?_⟩
      ·exact⟨k',⟨by omega,g2,by omega⟩,qCh rfl ⟨rfl,rfl,trivial⟩ trivial rfl⟩
      ·rintro j ⟨j1,j2,j3⟩
       have fin:qAM qFH (s.drop j)=0->∃ x:Nat × Nat,(k<=x.1/\x.1<=s.length/\s.length - x.1<=x.2/\qBG f (s.drop k)=shift (x.1 - k) (qBG x.2 (s.drop x.1)))/\x.1=j/\s.length - x.1<s.length - k':=by
        intro h0
        have ej:qAM qFH (s.drop k')=j - k':=by omega
        refine⟨(j,f''),⟨by simp only [];omega,by simp only [];omega,by simp only [];omega,?_⟩,rfl,by simp only [];omega⟩
        rw [hc]
        conv=>lhs;rw [hr,qBG,if_neg hno,<- hr,if_pos hb]
        rw [qCe,List.drop_drop,ej,show k'+(j - k')=j by omega]
        congr 1
        omega
       refine And.intro (fun m1=>?_) (fun m1=>?_)
       ·have hjl:j<s.length:=by have m1:(j:Int)<(s.length:Int):=m1;omega
        have hrj:s.drop j=s[j]::s.drop (j+1):=List.drop_eq_getElem_cons hjl
        refine⟨_,⟨by omega,s[j],List.getElem?_eq_getElem hjl,rfl⟩,?_⟩
        refine And.intro (fun m2=>?_) (fun m2=>?_)
        ·have m2:((s[j].toNat:Nat):Int)=10:=m2
         obtain⟨⟨x1,x2⟩,hx,rfl,hxm⟩:=fin (by rw [hrj,qAM,if_neg (by simp [qFH];omega)])
         exact⟨(x1,x2),hx,qCh rfl ⟨rfl,rfl,trivial⟩ trivial rfl,hxm⟩
        ·have m2:¬ ((s[j].toNat:Nat):Int)=10:=m2
         clear fin
         refine⟨(j:Int)+1,w6z,?_⟩
         refine⟨j+1,⟨by omega,by omega,?_⟩,qCh rfl ⟨rfl,rfl,trivial⟩ trivial rfl,?_⟩
         ·rw [j3,hrj,qAM,if_pos (by simp [qFH];omega)]
          omega
         ·show s.length - (j+1)<s.length - j
          omega
       ·have ej:j=s.length:=by have m1:¬ (j:Int)<(s.length:Int):=m1;omega
        obtain⟨⟨x1,x2⟩,hx,rfl,hxm⟩:=fin (by rw [ej,List.drop_length];rfl)
        exact⟨(x1,x2),hx,qCh rfl ⟨rfl,rfl,trivial⟩ trivial rfl,hxm⟩
     ·rw [Bool.not_eq_true] at hb
      rw [hb] at hB
      refine hB.eq rfl ?_
      have hB2:=qNp s hs k' g2 40 42
      by_cases hb2:List.isPrefixOf [40,42] (s.drop k')=true
      ·rw [hb2] at hB2
       refine hB2.eq rfl ?_
       have hk2:k'+2<=s.length:=(qCJ hb2).resolve_right (by simp)
       have hcm:=qQZ s hs k' f'' hk2 (by omega)
       refine Or.elim (Option.eq_none_or_eq_some (qBW f'' 1 (s.drop (k'+2)))) (fun hcl=>?_) (fun hn=>Exists.elim hn (fun n hcl=>?_))
       ·rw [hcl] at hcm
        refine hcm.eq rfl ?_
        have e:qBG f (s.drop k)=.inr (k' - k):=by
         rw [hc,hr,qBG,if_neg hno,<- hr,if_neg (by rw [hb];simp),if_pos hb2,List.drop_drop,hcl]
         simp [shift]
        have e2:k+(k' - k)=k':=by omega
        refine And.intro (fun m1=>?_) (fun m1=>?_)
        ·refine qEc (i64 k') (.bool false) rfl rfl rfl ?_
         rw [e]
         show PEnd.ret [i64 k', .bool false]=.ret [i64 ((k+(k' - k):Nat):Int), .bool false]
         rw [e2]
        ·have m1:¬ (-1:Int)<0:=m1
         omega
       ·rw [hcl] at hcm
        refine hcm.eq rfl ?_
        have hln:=qEw _ _ _ _ hcl
        rw [List.length_drop] at hln
        refine And.intro (fun m1=>?_) (fun m1=>?_)
        ·have m1:((k'+2+n:Nat):Int)<0:=m1
         omega
        ·refine⟨(k'+2+n,f''),⟨by simp only [];omega,by simp only [];omega,by simp only [];omega,?_⟩,qCh rfl ⟨rfl,rfl,trivial⟩ trivial rfl,by simp only [];omega⟩
         rw [hc,hr,qBG,if_neg hno,<- hr,if_neg (by rw [hb];simp),if_pos hb2,List.drop_drop,hcl]
         simp only []
         rw [qCe,List.drop_drop,show k'+(2+n)=k'+2+n by omega]
         congr 1
         omega
      ·rw [Bool.not_eq_true] at hb2
       rw [hb2] at hB2
       refine hB2.eq rfl ?_
       have e:qBG f (s.drop k)=.inl (k' - k):=by
        rw [hc,hr,qBG,if_neg hno,<- hr,if_neg (by rw [hb];simp),if_neg (by rw [hb2];simp)]
        simp [shift]
       refine qEc (i64 k') (.bool true) rfl rfl rfl ?_
       rw [e]
       show PEnd.ret [i64 k', .bool true]=.ret [i64 ((k+(k' - k):Nat):Int), .bool true]
       rw [show k+(k' - k)=k' by omega]
  ·have hk':k'=s.length:=by have h1:¬ (k':Int)<(s.length:Int):=h1;omega
   have e:qBG f (s.drop k)=.inl (k' - k):=by
    rw [hc,hk',List.drop_length]
    cases f' <;> simp [qBG,shift]
   refine qEc (i64 k') (.bool true) rfl rfl rfl ?_
   rw [e]
   show PEnd.ret [i64 k', .bool true]=.ret [i64 ((k+(k' - k):Nat):Int), .bool true]
   rw [show k+(k' - k)=k' by omega]
theorem qFL (_g:UInt8->Bool) (s:List UInt8) (k:Nat) (h:k<s.length):sub s (some (k:Int)) (some ((k:Int)+1))=[s[k]]:=by
 show(s.drop ((k:Int)).toNat).take (((k:Int)+1).toNat - ((k:Int)).toNat)=_
 rw [show((k:Int)+1).toNat - ((k:Int)).toNat=1 by omega]
 show(s.drop k).take 1=_
 rw [List.drop_eq_getElem_cons h]
 rfl
theorem qDW (s:List UInt8) (k m:Nat):sub s (some (k:Int)) (some ((k+m:Nat):Int))=(s.drop k).take m:=by
 show(s.drop ((k:Int)).toNat).take (((k+m:Nat):Int).toNat - ((k:Int)).toNat)=_
 rw [show((k+m:Nat):Int).toNat - ((k:Int)).toNat=m by omega]
 rfl
theorem qSb (c:UInt8):runN [c]=qAR c:=by
 cases h:qAR c <;> simp [runN,qAM,h]
theorem qWW (s:List UInt8) (hs:s.length<=8000) (k:Nat) (hk:k<s.length) :
  Pure cx 77 [.str s,i64 k] (·=.ret [i64 (qBO (s.drop k)).1, .str (qBO (s.drop k)).2]):=by
 refine qAC Tryz.func77 rfl rfl rfl ?_
 have hlen:(s.drop k).length=s.length - k:=List.length_drop
 refine⟨Nat,fun j=>[(0,vS s),(1, .p (i64 k)),(6, .p (i64 ((k+j:Nat):Int)))],fun _=>⟨0,[]⟩,fun j=>k+j<=s.length/\qAM qAR (s.drop k)=j+qAM qAR (s.drop (k+j)),fun j=>s.length - j,?_,?_⟩
 ·exact⟨0,⟨by omega,by simp⟩,qCh rfl ⟨rfl,rfl,rfl,trivial⟩ trivial rfl⟩
 ·rintro j ⟨j1,j2⟩
  refine And.intro (fun h1=>?_) (fun h1=>?_)
  ·have h1:((k+j:Nat):Int)<((s.length:Nat):Int):=h1
   have hlt:k+j<s.length:=by omega
   refine⟨((k+j:Nat):Int)+1,w6z,?_⟩
   refine⟨⟨by omega,by omega,by omega⟩,?_⟩
   have hR:=qTx (sub s (some ((k+j:Nat):Int)) (some (((k+j:Nat):Int)+1))) (by rw [qFL qAR s (k+j) hlt];simp)
   have hrn:runN (sub s (some ((k+j:Nat):Int)) (some (((k+j:Nat):Int)+1)))=qAR s[k+j]:=by rw [qFL qAR s (k+j) hlt,qSb]
   rw [hrn] at hR
   have hc:s.drop (k+j)=s[k+j]::s.drop (k+j+1):=List.drop_eq_getElem_cons hlt
   by_cases ha:qAR s[k+j]=true
   ·rw [ha] at hR
    refine hR.eq rfl ?_
    refine⟨((k+j:Nat):Int)+1,w6z,j+1,⟨by omega,?_⟩,qCh rfl ⟨rfl,rfl,rfl,trivial⟩ trivial rfl,?_⟩
    ·rw [j2,hc,qAM,if_pos ha]
     show j+(qAM qAR (s.drop (k+j+1))+1)=j+1+qAM qAR (s.drop (k+(j+1)))
     rw [show k+(j+1)=k+j+1 by omega]
     omega
    ·show s.length - (j+1)<s.length - j
     omega
   ·rw [Bool.not_eq_true] at ha
    rw [ha] at hR
    refine hR.eq rfl ?_
    have hz:qAM qAR (s.drop (k+j))=0:=by rw [hc,qAM,if_neg (by rw [ha];simp)]
    have hsp:qAM qAR (s.drop k)=j:=by omega
    refine And.intro (fun h2=>?_) (fun h2=>?_)
    ·have h2:(k:Int)<((k+j:Nat):Int):=h2
     have hpos:0<qAM qAR (s.drop k):=by omega
     refine⟨⟨by omega,by omega,by omega⟩,?_⟩
     have e:=qDW s k j
     have htl:(sub s (some (k:Int)) (some ((k+j:Nat):Int))).length=j:=by rw [e,List.length_take];omega
     refine rKeys_c.eq rfl ?_
     have hK:=qMR keysL (by decide) (sub s (some (k:Int)) (some ((k+j:Nat):Int)))
     by_cases hkey:inL keysL (sub s (some (k:Int)) (some ((k+j:Nat):Int)))=true
     ·rw [hkey] at hK
      refine hK.eq rfl ?_
      refine qEc (i64 2) (.str (sub s (some (k:Int)) (some ((k+j:Nat):Int)))) rfl rfl rfl ?_
      rw [e] at hkey ⊢
      rw [show qBO (s.drop k)=(2,(s.drop k).take j) by rw [qBO,if_pos hpos,hsp,if_pos hkey]]
     ·rw [Bool.not_eq_true] at hkey
      rw [hkey] at hK
      refine hK.eq rfl ?_
      obtain⟨c,r,hcr⟩:∃ c r,sub s (some (k:Int)) (some ((k+j:Nat):Int))=c::r:=by
       cases ht:sub s (some (k:Int)) (some ((k+j:Nat):Int)) with
       | nil=>rw [ht] at htl;simp at htl;omega
       | cons c r=>exact⟨c,r,rfl⟩
      refine⟨_,⟨by omega,c,by show(sub s (some (k:Int)) (some ((k+j:Nat):Int)))[0]?=_;rw [hcr];rfl,rfl⟩,?_⟩
      have hD:=qHX c
      have hh:((s.drop k).take j).headD 0=c:=by rw [<- e,hcr];rfl
      by_cases hd:qBZ c=true
      ·rw [hd] at hD
       refine hD.eq rfl ?_
       refine qEc (i64 3) (.str (sub s (some (k:Int)) (some ((k+j:Nat):Int)))) rfl rfl rfl ?_
       rw [e] at hkey ⊢
       rw [show qBO (s.drop k)=(3,(s.drop k).take j) by rw [qBO,if_pos hpos,hsp,if_neg (by rw [hkey];simp),if_pos (by rw [hh];exact hd)]]
      ·rw [Bool.not_eq_true] at hd
       rw [hd] at hD
       refine hD.eq rfl ?_
       refine qEc (i64 1) (.str (sub s (some (k:Int)) (some ((k+j:Nat):Int)))) rfl rfl rfl ?_
       rw [e] at hkey ⊢
       rw [show qBO (s.drop k)=(1,(s.drop k).take j) by rw [qBO,if_pos hpos,hsp,if_neg (by rw [hkey];simp),if_neg (by rw [hh,hd];simp)]]
    ·have h2:¬ (k:Int)<((k+j:Nat):Int):=h2
     have hpos:¬ 0<qAM qAR (s.drop k):=by omega
     refine VDraw.seq rfl ?_
     refine⟨((k+2:Nat):Int),by rw [show((k+2:Nat):Int)=(k:Int)+2 by omega];exact w6z,?_⟩
     refine And.intro (fun h3=>?_) (fun h3=>?_)
     ·have h3:((k+2:Nat):Int)<=((s.length:Nat):Int):=h3
      refine⟨((k+2:Nat):Int),by rw [show((k+2:Nat):Int)=(k:Int)+2 by omega];exact w6z,?_⟩
      refine⟨⟨by omega,by omega,by omega⟩,?_⟩
      refine rMarks_c.eq rfl ?_
      have e:=qDW s k 2
      have hM:=qMR marksL (by decide) (sub s (some (k:Int)) (some ((k+2:Nat):Int)))
      by_cases hm:inL marksL (sub s (some (k:Int)) (some ((k+2:Nat):Int)))=true
      ·rw [hm] at hM
       refine hM.eq rfl ?_
       refine VDraw.seq rfl ?_
       refine⟨((k+2:Nat):Int),by rw [show((k+2:Nat):Int)=(k:Int)+2 by omega];exact w6z,?_⟩
       refine⟨⟨by omega,by omega,by omega⟩,?_⟩
       refine qEc (i64 4) (.str (sub s (some (k:Int)) (some ((k+2:Nat):Int)))) rfl rfl rfl ?_
       rw [e] at hm ⊢
       rw [show qBO (s.drop k)=(4,(s.drop k).take 2) by rw [qBO,if_neg hpos,if_pos (by rw [hm,decide_eq_true (by omega)];rfl)]]
      ·rw [Bool.not_eq_true] at hm
       rw [hm] at hM
       refine hM.eq rfl ?_
       refine VDraw.seq rfl ?_
       refine⟨((k+1:Nat):Int),by rw [show((k+1:Nat):Int)=(k:Int)+1 by omega];exact w6z,?_⟩
       refine⟨⟨by omega,by omega,by omega⟩,?_⟩
       refine qEc (i64 4) (.str (sub s (some (k:Int)) (some ((k+1:Nat):Int)))) rfl rfl rfl ?_
       rw [e] at hm
       rw [qDW,show qBO (s.drop k)=(4,(s.drop k).take 1) by rw [qBO,if_neg hpos,if_neg (by rw [hm];simp)]]
     ·have h3:¬ ((k+2:Nat):Int)<=((s.length:Nat):Int):=h3
      refine VDraw.seq rfl ?_
      refine⟨((k+1:Nat):Int),by rw [show((k+1:Nat):Int)=(k:Int)+1 by omega];exact w6z,?_⟩
      refine⟨⟨by omega,by omega,by omega⟩,?_⟩
      refine qEc (i64 4) (.str (sub s (some (k:Int)) (some ((k+1:Nat):Int)))) rfl rfl rfl ?_
      rw [qDW,show qBO (s.drop k)=(4,(s.drop k).take 1) by rw [qBO,if_neg hpos,if_neg (by rw [decide_eq_false (by omega)];simp)]]
  ·have h1:¬ ((k+j:Nat):Int)<((s.length:Nat):Int):=h1
   have hz:qAM qAR (s.drop (k+j))=0:=by rw [show k+j=s.length by omega,List.drop_length];rfl
   have hsp:qAM qAR (s.drop k)=j:=by omega
   refine And.intro (fun h2=>?_) (fun h2=>?_)
   ·have h2:(k:Int)<((k+j:Nat):Int):=h2
    have hpos:0<qAM qAR (s.drop k):=by omega
    refine⟨⟨by omega,by omega,by omega⟩,?_⟩
    have e:=qDW s k j
    have htl:(sub s (some (k:Int)) (some ((k+j:Nat):Int))).length=j:=by rw [e,List.length_take];omega
    refine rKeys_c.eq rfl ?_
    have hK:=qMR keysL (by decide) (sub s (some (k:Int)) (some ((k+j:Nat):Int)))
    by_cases hkey:inL keysL (sub s (some (k:Int)) (some ((k+j:Nat):Int)))=true
    ·rw [hkey] at hK
     refine hK.eq rfl ?_
     refine qEc (i64 2) (.str (sub s (some (k:Int)) (some ((k+j:Nat):Int)))) rfl rfl rfl ?_
     rw [e] at hkey ⊢
     rw [show qBO (s.drop k)=(2,(s.drop k).take j) by rw [qBO,if_pos hpos,hsp,if_pos hkey]]
    ·rw [Bool.not_eq_true] at hkey
     rw [hkey] at hK
     refine hK.eq rfl ?_
     obtain⟨c,r,hcr⟩:∃ c r,sub s (some (k:Int)) (some ((k+j:Nat):Int))=c::r:=by
      cases ht:sub s (some (k:Int)) (some ((k+j:Nat):Int)) with
      | nil=>rw [ht] at htl;simp at htl;omega
      | cons c r=>exact⟨c,r,rfl⟩
     refine⟨_,⟨by omega,c,by show(sub s (some (k:Int)) (some ((k+j:Nat):Int)))[0]?=_;rw [hcr];rfl,rfl⟩,?_⟩
     have hD:=qHX c
     have hh:((s.drop k).take j).headD 0=c:=by rw [<- e,hcr];rfl
     by_cases hd:qBZ c=true
     ·rw [hd] at hD
      refine hD.eq rfl ?_
      refine qEc (i64 3) (.str (sub s (some (k:Int)) (some ((k+j:Nat):Int)))) rfl rfl rfl ?_
      rw [e] at hkey ⊢
      rw [show qBO (s.drop k)=(3,(s.drop k).take j) by rw [qBO,if_pos hpos,hsp,if_neg (by rw [hkey];simp),if_pos (by rw [hh];exact hd)]]
     ·rw [Bool.not_eq_true] at hd
      rw [hd] at hD
      refine hD.eq rfl ?_
      refine qEc (i64 1) (.str (sub s (some (k:Int)) (some ((k+j:Nat):Int)))) rfl rfl rfl ?_
      rw [e] at hkey ⊢
      rw [show qBO (s.drop k)=(1,(s.drop k).take j) by rw [qBO,if_pos hpos,hsp,if_neg (by rw [hkey];simp),if_neg (by rw [hh,hd];simp)]]
   ·have h2:¬ (k:Int)<((k+j:Nat):Int):=h2
    have hpos:¬ 0<qAM qAR (s.drop k):=by omega
    refine VDraw.seq rfl ?_
    refine⟨((k+2:Nat):Int),by rw [show((k+2:Nat):Int)=(k:Int)+2 by omega];exact w6z,?_⟩
    refine And.intro (fun h3=>?_) (fun h3=>?_)
    ·have h3:((k+2:Nat):Int)<=((s.length:Nat):Int):=h3
     refine⟨((k+2:Nat):Int),by rw [show((k+2:Nat):Int)=(k:Int)+2 by omega];exact w6z,?_⟩
     refine⟨⟨by omega,by omega,by omega⟩,?_⟩
     refine rMarks_c.eq rfl ?_
     have e:=qDW s k 2
     have hM:=qMR marksL (by decide) (sub s (some (k:Int)) (some ((k+2:Nat):Int)))
     by_cases hm:inL marksL (sub s (some (k:Int)) (some ((k+2:Nat):Int)))=true
     ·rw [hm] at hM
      refine hM.eq rfl ?_
      refine VDraw.seq rfl ?_
      refine⟨((k+2:Nat):Int),by rw [show((k+2:Nat):Int)=(k:Int)+2 by omega];exact w6z,?_⟩
      refine⟨⟨by omega,by omega,by omega⟩,?_⟩
      refine qEc (i64 4) (.str (sub s (some (k:Int)) (some ((k+2:Nat):Int)))) rfl rfl rfl ?_
      rw [e] at hm ⊢
      rw [show qBO (s.drop k)=(4,(s.drop k).take 2) by rw [qBO,if_neg hpos,if_pos (by rw [hm,decide_eq_true (by omega)];rfl)]]
     ·rw [Bool.not_eq_true] at hm
      rw [hm] at hM
      refine hM.eq rfl ?_
      refine VDraw.seq rfl ?_
      refine⟨((k+1:Nat):Int),by rw [show((k+1:Nat):Int)=(k:Int)+1 by omega];exact w6z,?_⟩
      refine⟨⟨by omega,by omega,by omega⟩,?_⟩
      refine qEc (i64 4) (.str (sub s (some (k:Int)) (some ((k+1:Nat):Int)))) rfl rfl rfl ?_
      rw [e] at hm
      rw [qDW,show qBO (s.drop k)=(4,(s.drop k).take 1) by rw [qBO,if_neg hpos,if_neg (by rw [hm];simp)]]
    ·have h3:¬ ((k+2:Nat):Int)<=((s.length:Nat):Int):=h3
     refine VDraw.seq rfl ?_
     refine⟨((k+1:Nat):Int),by rw [show((k+1:Nat):Int)=(k:Int)+1 by omega];exact w6z,?_⟩
     refine⟨⟨by omega,by omega,by omega⟩,?_⟩
     refine qEc (i64 4) (.str (sub s (some (k:Int)) (some ((k+1:Nat):Int)))) rfl rfl rfl ?_
     rw [qDW,show qBO (s.drop k)=(4,(s.drop k).take 1) by rw [qBO,if_neg hpos,if_neg (by rw [decide_eq_false (by omega)];simp)]]
theorem qF8:∀ (f:Nat) (r:List UInt8) (n:Nat),(qBG f r=.inl n∨qBG f r=.inr n)->n<=r.length
 | 0,r,n,h=>by simp [qBG] at h;omega
 | f+1,[],n,h=>by simp [qBG] at h;omega
 | f+1,c::r,n,h=>by
  have sh:∀ (m:Nat) (x:Nat ⊕ Nat),(shift m x=.inl n∨shift m x=.inr n)->∃ n',(x=.inl n'∨x=.inr n')/\n=n'+m:=by
   intro m x h
   cases x with
   | inl y=>simp [shift] at h;exact⟨y, .inl rfl,h.symm⟩
   | inr y=>simp [shift] at h;exact⟨y, .inr rfl,h.symm⟩
  rw [qBG] at h
  split at h
  ·obtain⟨n',h',rfl⟩:=sh _ _ h
   have:=qF8 f _ _ h'
   simp at *
   omega
  ·split at h
   ·obtain⟨n',h',rfl⟩:=sh _ _ h
    have:=qF8 f _ _ h'
    have h2:=qCi qFH (c::r)
    rw [List.length_drop] at this
    omega
   ·split at h
    ·split at h
     ·simp at h
      omega
     ·rename_i hcl
      obtain⟨n',h',rfl⟩:=sh _ _ h
      have h1:=qEw _ _ _ _ hcl
      have:=qF8 f _ _ h'
      rename_i hp _ _
      rw [List.isPrefixOf_iff_prefix] at hp
      have h3:=hp.length_le
      rw [List.length_drop] at this h1
      simp only [List.length_cons,List.length_nil] at *
      omega
    ·simp at h
     omega
theorem qUt (s:List UInt8):Pure cx 47 [.str s] (·=.ret (qC2 s)):=by
 refine qAC Tryz.func47 rfl rfl rfl ?_
 refine And.intro (fun h1=>?_) (fun h1=>?_)
 ·have h1:(8000:Int)<s.length:=h1
  have e:qC2 s=[.lsts 4 [],i64 0,i64 0,i64 3]:=by rw [qC2,if_pos (by omega)]
  exact qKZ (.lsts 4 []) (i64 0) (i64 0) (i64 3) rfl (.inr (.inr ⟨4,rfl⟩)) rfl rfl rfl (congrArg PEnd.ret e.symm)
 ·have hs:s.length<=8000:=by have h1:¬ (8000:Int)<s.length:=h1;omega
  have hno:¬ 8000<s.length:=by omega
  refine⟨Nat × Nat × List Wd,fun x=>[(0,vS s),(6, .sl 0 4 0 x.2.2.length),(7, .p (i64 x.1))],fun x=>⟨1,[(0,rdA x.2.2)]⟩,
   fun x=>x.1<=s.length/\s.length - x.1<=x.2.1/\x.2.2.length<=1500/\qFf s=qEB (x.2.1+1) s x.1 x.2.2,fun x=>s.length - x.1,?_,?_⟩
  ·refine⟨(0,s.length,[]),⟨by simp,by simp,by simp,rfl⟩,?_⟩
   exact qAB [] [] [(0,4)] rfl (sk) (sk) rfl
  ·rintro⟨k,f,acc⟩ ⟨g1,g2,g3,g4⟩
   simp only [] at g1 g2 g3 g4
   have hS:=qUs s hs k s.length g1 (by omega)
   rw [qEB] at g4
   refine Or.elim (qXe (qBG s.length (s.drop k))) (fun hn=>Exists.elim hn fun n hsk=>?_) (fun hn=>Exists.elim hn fun n hsk=>?_)
   ·have hle:=qF8 _ _ _ (.inl hsk)
    rw [List.length_drop] at hle
    rw [hsk] at hS
    simp only [hsk] at g4
    refine hS.eq rfl ?_
    refine(qNq s hs (k+n) (by omega)).eq rfl ?_
    have hat:=qVl s (k+n)
    refine And.intro (fun h2=>?_) (fun h2=>?_)
    ·have h2:((k+n:Nat):Int)=((s.length:Nat):Int):=h2
     have e:qC2 s=[.lsts 4 (acc.map Wd.cells),i64 0,i64 0,i64 0]:=by rw [qC2,if_neg hno,g4,qGm,if_pos (by omega)]
     refine qKZ (.lsts 4 (acc.map Wd.cells)) (i64 0) (i64 0) (i64 0) rfl ?_ rfl rfl rfl (congrArg PEnd.ret e.symm)
     exact⟨_,rfl,by simp,by rw [List.drop_zero,List.take_of_length_le (by simp)]⟩
    ·have h2:¬ ((k+n:Nat):Int)=((s.length:Nat):Int):=h2
     have hlt:k+n<s.length:=by omega
     have hne:s.drop (k+n) ≠ []:=by intro e;have:=congrArg List.length e;rw [List.length_drop] at this;simp only [List.length_nil] at this;omega
     have hpos:=one_pos hne
     have htl:(qBO (s.drop (k+n))).2.length<=s.length - (k+n):=by
      have:=qCi qAR (s.drop (k+n))
      have h4:(s.drop (k+n)).length=s.length - (k+n):=List.length_drop
      unfold qBO
      split
      ·split
       ·simp;omega
       ·split <;> simp <;> omega
      ·split <;> simp <;> omega
     rw [qGm,if_neg (by omega)] at g4
     refine(qWW s hs (k+n) hlt).eq rfl ?_
     have hR:=qSq (qBO (s.drop (k+n))).1 (qBO (s.drop (k+n))).2 (by omega)
     by_cases hr:qAo (qBO (s.drop (k+n))).1 (qBO (s.drop (k+n))).2=true
     ·rw [hr] at hR
      refine hR.eq rfl ?_
      simp only [hr] at g4
      refine And.intro (fun h3=>?_) (fun h3=>?_)
      ·have h3:((acc.length:Nat):Int)=1500:=h3
       rw [if_pos (by omega)] at g4
       have e:qC2 s=[.lsts 4 [],i64 (at_ s (k+n)).1,i64 (at_ s (k+n)).2,i64 3]:=by rw [qC2,if_neg hno,g4]
       exact qKZ (.lsts 4 []) (i64 (at_ s (k+n)).1) (i64 (at_ s (k+n)).2) (i64 3) rfl (.inr (.inr ⟨4,rfl⟩)) rfl rfl rfl (congrArg PEnd.ret e.symm)
      ·have h3:¬ ((acc.length:Nat):Int)=1500:=h3
       rw [if_neg (by omega)] at g4
       refine⟨by show 0+1<=1;omega,[Wd.cells ⟨(qBO (s.drop (k+n))).1,(qBO (s.drop (k+n))).2,(at_ s (k+n)).1,(at_ s (k+n)).2⟩],rfl,?_⟩
       refine⟨by show 0+acc.length<=(acc.map Wd.cells).length;simp,acc.map Wd.cells,?_,?_⟩
       ·show acc.map Wd.cells=((acc.map Wd.cells).drop 0).take acc.length
        rw [List.drop_zero,List.take_of_length_le (by simp)]
       refine⟨by show(acc.length+1) * 40<=140737488355328;omega,(acc++[(⟨(qBO (s.drop (k+n))).1,(qBO (s.drop (k+n))).2,(at_ s (k+n)).1,(at_ s (k+n)).2⟩:Wd)]).map Wd.cells,by simp,?_⟩
       refine⟨((k+n+(qBO (s.drop (k+n))).2.length:Nat):Int),by rw [show((k+n+(qBO (s.drop (k+n))).2.length:Nat):Int)=((k+n:Nat):Int)+((qBO (s.drop (k+n))).2.length:Nat) by omega];exact w6z,?_⟩
       obtain⟨f',rfl⟩:∃ n,f=n+1:=⟨f - 1,by omega⟩
       refine⟨(k+n+(qBO (s.drop (k+n))).2.length,f',acc++[⟨(qBO (s.drop (k+n))).1,(qBO (s.drop (k+n))).2,(at_ s (k+n)).1,(at_ s (k+n)).2⟩]),⟨by simp only [];omega,by simp only [];omega,by simp;omega,g4⟩,?_,by simp only [];omega⟩
       have hw0:∀ w:Wd,AV.sl 3 4 0 (acc.length+1)=AV.sl 3 4 0 (acc++[w]).length:=fun w=>by rw [List.length_append];rfl
       exact qAB [] [(0,3)] [] rfl ⟨rfl,hw0 _,rfl,trivial⟩ ⟨⟨_,rfl,rfl,rfl,rfl⟩,trivial⟩ rfl
     ·rw [Bool.not_eq_true] at hr
      rw [hr] at hR
      refine hR.eq rfl ?_
      simp only [hr] at g4
      have e:qC2 s=[.lsts 4 [],i64 (at_ s (k+n)).1,i64 (at_ s (k+n)).2,i64 370]:=by rw [qC2,if_neg hno,g4]
      exact qKZ (.lsts 4 []) (i64 (at_ s (k+n)).1) (i64 (at_ s (k+n)).2) (i64 370) rfl (.inr (.inr ⟨4,rfl⟩)) rfl rfl rfl (congrArg PEnd.ret e.symm)
   ·have hle:=qF8 _ _ _ (.inr hsk)
    rw [List.length_drop] at hle
    rw [hsk] at hS
    simp only [hsk] at g4
    refine hS.eq rfl ?_
    refine(qNq s hs (k+n) (by omega)).eq rfl ?_
    have e:qC2 s=[.lsts 4 [],i64 (at_ s (k+n)).1,i64 (at_ s (k+n)).2,i64 370]:=by rw [qC2,if_neg hno,g4]
    exact qKZ (.lsts 4 []) (i64 (at_ s (k+n)).1) (i64 (at_ s (k+n)).2) (i64 370) rfl (.inr (.inr ⟨4,rfl⟩)) rfl rfl rfl (congrArg PEnd.ret e.symm)
end Go.Proofs.YtohfoaplnjcihaaGreatDoor
namespace Go.Proofs.YtohfoaplnjcihaaGreatDoor
open Go Y
set_option maxRecDepth 100000
set_option maxHeartbeats 4000000
abbrev qCP:List UInt8:=[103,114,97,105,110]
abbrev qCO:List UInt8:=[112,108,97,116,101]
abbrev qAx:List UInt8:=[110,111,100,101]
abbrev qBS:List UInt8:=[99,104,111,111,115,101]
abbrev qB4:List UInt8:=[103,97,105,110]
abbrev qAg:List UInt8:=[102,114,111,109]
abbrev qBd:List UInt8:=[115,101,101,105,110,103]
abbrev qCQ:List UInt8:=[101,108,115,101]
abbrev qDA:List UInt8:=[97,110,100]
abbrev tOr:List UInt8:=[111,114]
abbrev qGX:List UInt8:=[110,111,116]
abbrev tIn:List UInt8:=[105,110]
abbrev qGg:List UInt8:=[97,108,108]
abbrev qBo:List UInt8:=[99,111,117,110,116]
abbrev qAu:List UInt8:=[58]
abbrev qAZ:List UInt8:=[59]
abbrev qAi:List UInt8:=[44]
abbrev tLP:List UInt8:=[40]
abbrev tRP:List UInt8:=[41]
abbrev tLB:List UInt8:=[91]
abbrev tRB:List UInt8:=[93]
abbrev tLC:List UInt8:=[123]
abbrev tRC:List UInt8:=[125]
abbrev tEq:List UInt8:=[61]
abbrev tLt:List UInt8:=[60]
abbrev qDj:List UInt8:=[43]
abbrev qAn:List UInt8:=[45]
abbrev tNe:List UInt8:=[47,61]
abbrev tLe:List UInt8:=[60,61]
abbrev qYB:TypeId:=72
abbrev qPc:TypeId:=37
abbrev qHB:TypeId:=89
abbrev qNL:TypeId:=80
abbrev qTV:TypeId:=33
abbrev qVr:TypeId:=3
abbrev qYC:TypeId:=9
structure Rf where
 name:List UInt8
 mode:Int
 plate:List UInt8
 n:Int
deriving DecidableEq
inductive Cd where
 | mk (op n rel val:Int) (ref:Rf) (set:List Int) (args:List Cd)
structure Cs where
 cond:Cd
 nums:List Int
structure De where
 kind:Int
 n:Int
 name:List UInt8
 plate:List UInt8
 refs:List Rf
 cases:List Cs
abbrev ints (l:List Int):PV:=.lst (l.map i64)
abbrev strs (l:List (List UInt8)):PV:=.lst (l.map .str)
abbrev Rf.cells (r:Rf):List PV:=[.str r.name,i64 r.mode, .str r.plate,i64 r.n]
abbrev Rf.pv (r:Rf):PV:=.agg r.cells
abbrev qB5 (l:List Rf):PV:=.lsts 4 (l.map Rf.cells)
mutual
def Cd.cells:Cd->List PV
 | .mk op n rel val r set args=>[i64 op,i64 n,i64 rel,i64 val, .str r.name,i64 r.mode, .str r.plate,i64 r.n,ints set, .lsts 10 (qBX args)]
def qBX:List Cd->List (List PV)
 | []=>[]
 | c::r=>c.cells::qBX r
end
theorem qBw:∀ l:List Cd,qBX l=l.map Cd.cells
 | []=>rfl
 | c::r=>by rw [qBX,qBw r];rfl
abbrev Cd.pv (c:Cd):PV:=.agg c.cells
abbrev cds (l:List Cd):PV:=.lsts 10 (l.map Cd.cells)
def Cs.cells (c:Cs):List PV:=c.cond.cells++[ints c.nums]
abbrev Cs.pv (c:Cs):PV:=.agg c.cells
abbrev css (l:List Cs):PV:=.lsts 11 (l.map Cs.cells)
def De.cells (d:De):List PV:=[i64 d.kind,i64 d.n, .str d.name, .str d.plate,qB5 d.refs,css d.cases]
abbrev De.pv (d:De):PV:=.agg d.cells
abbrev des (l:List De):PV:=.lsts 6 (l.map De.cells)
abbrev qCn (l:List De):PV:=.agg [des l]
def rf0:Rf:=⟨[],0,[],0⟩
def cd0:Cd:=.mk 0 0 0 0 rf0 [] []
def wd0:Wd:=⟨0,[],0,0⟩
def wat (ws:List Wd) (q:Nat):Wd:=ws.getD q wd0
abbrev txt (ws:List Wd) (q:Nat):List UInt8:=(wat ws q).text
abbrev knd (ws:List Wd) (q:Nat):Int:=(wat ws q).kind
theorem qGc {ws:List Wd} {q:Nat} (h:ws.length<=q):wat ws q=wd0:=by
 rw [wat,List.getD_eq_getElem?_getD,List.getElem?_eq_none h];rfl
structure GoodW (ws:List Wd):Prop where
 right:∀ w∈ws,qAo w.kind w.text=true
 len:ws.length<=1500
theorem GoodW.at {ws:List Wd} (h:GoodW ws) {q:Nat} (hq:q<ws.length):qAo (knd ws q) (txt ws q)=true:=
 h.right _ (by rw [wat,List.getD_eq_getElem?_getD,List.getElem?_eq_getElem hq];exact List.getElem_mem hq)
theorem qAh {ws:List Wd} {q:Nat} (h:txt ws q ≠ []):q<ws.length:=by
 rcases Nat.lt_or_ge q ws.length with h1 | h1
 ·exact h1
 ·exact absurd (by rw [txt,qGc h1];rfl) h
theorem qGK {ws:List Wd} {q:Nat} (h:knd ws q ≠ 0):q<ws.length:=by
 rcases Nat.lt_or_ge q ws.length with h1 | h1
 ·exact h1
 ·exact absurd (by rw [knd,qGc h1];rfl) h
def qJv (t:List UInt8):Int:=t.foldl (fun n b=>10 * n+((b.toNat:Int) - 48)) 0
abbrev Rd (α:Type):=Sum Nat (α × Nat)
def Rd.then {α β:Type} (r:Rd α) (k:α->Nat->Rd β):Rd β:=match r with
 | .inl e=>.inl e
 | .inr (a,p)=>k a p
section
variable (ws:List Wd)
def qBP (s:List UInt8) (q:Nat):Rd Unit:=if txt ws q=s then .inr ((),q+1) else .inl q
def qAp:List (List UInt8)->Nat->Rd Unit
 | [],q=>.inr ((),q)
 | s::r,q=>(qBP ws s q).then fun _ q=>qAp r q
def qCU (q:Nat):Rd (List UInt8):=if knd ws q=1 then .inr (txt ws q,q+1) else .inl q
def qCT (q:Nat):Rd Int:=if knd ws q=3 then .inr (qJv (txt ws q),q+1) else .inl q
def qBp (nm:List UInt8) (mode:Int) (pl:List UInt8) (n:Int) (q:Nat):Rd Rf:=(qBP ws tRB q).then fun _ q=>.inr (⟨nm,mode,pl,n⟩,q)
def qHz (q : Nat) : Rd Rf := (qCU ws q).then fun nm q =>
  if txt ws q = tLB then
    (if txt ws (q + 1) = qGg then qBp ws nm 3 [] 0 (q + 2)
     else if knd ws (q + 1) = 3 then (qCT ws (q + 1)).then fun n q => qBp ws nm 2 [] n q
     else (qCU ws (q + 1)).then fun pl q => if txt ws q = qDj then (qCT ws (q + 1)).then fun n q => qBp ws nm 1 pl n q else qBp ws nm 1 pl 0 q)
  else .inr (⟨nm, 0, [], 0⟩, q)
def qCt {α:Type} (rd:Nat->Rd α):Nat->List α->Nat->Rd (List α)
 | 0,_,q=>.inl q
 | f+1,acc,q=>if txt ws q=qAi then(rd (q+1)).then fun a q=>qCt rd f (acc++[a]) q else .inr (acc,q)
def qEa {α:Type} (rd:Nat->Rd α) (F:Nat) (q:Nat):Rd (List α):=(rd q).then fun a q=>qCt ws rd F [a] q
def qDm (F:Nat) (key:List UInt8) (q:Nat):Rd (List Rf):=if txt ws q=key then qEa ws (qHz ws) F (q+1) else .inr ([],q)
def qHR (q:Nat):Rd Int:=
 if txt ws q=tEq then .inr (1,q+1) else if txt ws q=tNe then .inr (2,q+1) else if txt ws q=tLt then .inr (3,q+1) else if txt ws q=tLe then .inr (4,q+1) else .inl q
def qIN:List Int->Int->List Int
 | [],n=>[n]
 | x::l,n=>if n<x then n::x::l else if x=n then x::l else x::qIN l n
def qOy (l:List Int):List Int:=l.foldl qIN []
def qIM (q:Nat):Rd Int:=if txt ws q=qAn then(qCT ws (q+1)).then fun n q=>.inr (-n,q) else qCT ws q
def qC4:Nat->List Int->Nat->Rd (List Int)
 | 0,_,q=>.inl q
 | f+1,acc,q=>if txt ws q=qAn∨knd ws q=3 then(qIM ws q).then fun n q=>qC4 f (acc++[n]) q else .inr (acc,q)
def qDL (F:Nat) (q:Nat):Rd (List Int):=(qIM ws q).then fun n q=>qC4 ws F [n] q
mutual
def qCa:Nat->Nat->Rd Cd
 | 0,q=>.inl q
 | F+1,q=>(qCZ F q).then fun c q=>orR F c q
def orR:Nat->Cd->Nat->Rd Cd
 | 0,_,q=>.inl q
 | F+1,c,q=>if txt ws q=tOr then(qCZ F (q+1)).then fun d q=>orR F (.mk 9 0 0 0 rf0 [] [c,d]) q else .inr (c,q)
def qCZ:Nat->Nat->Rd Cd
 | 0,q=>.inl q
 | F+1,q=>(qFk F q).then fun c q=>qIh F c q
def qIh:Nat->Cd->Nat->Rd Cd
 | 0,_,q=>.inl q
 | F+1,c,q=>if txt ws q=qDA then(qFk F (q+1)).then fun d q=>qIh F (.mk 8 0 0 0 rf0 [] [c,d]) q else .inr (c,q)
def qFk:Nat->Nat->Rd Cd
 | 0,q=>.inl q
 | F+1,q=>if txt ws q=qGX then(qFk F (q+1)).then fun c q=>.inr (.mk 7 0 0 0 rf0 [] [c],q) else qDF F q
def qDF:Nat->Nat->Rd Cd
 | 0,q=>.inl q
 | F+1,q=>
  if txt ws q=tLP then(qCa F (q+1)).then fun c q=>(qBP ws tRP q).then fun _ q=>.inr (c,q)
  else if txt ws q=qBo then(qBP ws tLP (q+1)).then fun _ q=>(qCU ws q).then fun nm q=>(qAp ws [tLB,qGg,tRB,tEq] q).then fun _ q=>(qCT ws q).then fun v q=>
   (qBP ws tRP q).then fun _ q=>(qHR ws q).then fun r q=>(qCT ws q).then fun n q=>.inr (.mk 6 n r v ⟨nm,3,[],0⟩ [] [],q)
  else(qHz ws q).then fun r q=>if txt ws q=tIn then(qBP ws tLC (q+1)).then fun _ q=>(qEa ws (qCT ws) F q).then fun l q=>(qBP ws tRC q).then fun _ q=>.inr (.mk 5 0 0 0 r (qOy l) [],q)
   else(qHR ws q).then fun o q=>(qCT ws q).then fun n q=>.inr (.mk o n 0 0 r [] [],q)
end
def qFb (F:Nat) (acc:List Cs) (q:Nat):Rd (List Cs):=(qBP ws qAu q).then fun _ q=>(qDL ws F q).then fun l q=>(qBP ws tRC q).then fun _ q=>.inr (acc++[⟨cd0,l⟩],q)
def qCV (F:Nat):Nat->List Cs->Nat->Rd (List Cs)
 | 0,_,q=>.inl q
 | f+1,acc,q=>if txt ws q=qCQ then qFb ws F acc (q+1)
  else(qCa ws F q).then fun c q=>(qBP ws qAu q).then fun _ q=>(qDL ws F q).then fun l q=>(qBP ws qAZ q).then fun _ q=>qCV F f (acc++[⟨c,l⟩]) q
def qEi (F:Nat) (q:Nat):Rd (List Cs):=(qBP ws tLC q).then fun _ q=>qCV ws F F [] q
def qFQ (q:Nat):Rd De:=(qCT ws q).then fun n q=>.inr (⟨1,n,[],[],[],[]⟩,q)
def qFO (q:Nat):Rd De:=(qCU ws q).then fun nm q=>(qBP ws tEq q).then fun _ q=>(qCT ws q).then fun n q=>.inr (⟨2,n,nm,[],[],[]⟩,q)
def qBs (F:Nat) (nm pl:List UInt8) (q:Nat):Rd De:=(qBP ws qAu q).then fun _ q=>(qCT ws q).then fun n q=>(qDm ws F qAg q).then fun l q=>(qBP ws tEq q).then fun _ q=>(qEi ws F q).then fun cs q=>.inr (⟨3,n,nm,pl,l,cs⟩,q)
def qIn (F:Nat) (q:Nat):Rd De:=(qCU ws q).then fun nm q=>
 if txt ws q=tLB then(qCU ws (q+1)).then fun pl q=>(qBP ws tRB q).then fun _ q=>qBs ws F nm pl q else qBs ws F nm [] q
def qDp (F:Nat) (q:Nat):Rd De:=(qCU ws q).then fun nm q=>(qBP ws qAu q).then fun _ q=>(qCT ws q).then fun n q=>(qDm ws F qBd q).then fun l q=>.inr (⟨4,n,nm,[],l,[]⟩,q)
def qIr (F:Nat) (q:Nat):Rd De:=(qDm ws F qAg q).then fun l q=>(qBP ws tEq q).then fun _ q=>(qEi ws F q).then fun cs q=>.inr (⟨5,0,[],[],l,cs⟩,q)
def qB3 (F:Nat) (q:Nat):Rd De:=
 if txt ws q=qCP then qFQ ws (q+1) else if txt ws q=qCO then qFO ws (q+1) else if txt ws q=qAx then qIn ws F (q+1)
 else if txt ws q=qBS then qDp ws F (q+1) else if txt ws q=qB4 then qIr ws F (q+1) else .inl q
def qCq (F:Nat):Nat->List De->Nat->Rd (List De)
 | 0,_,q=>.inl q
 | f+1,acc,q=>if q<ws.length then(qB3 ws F q).then fun d q=>(qBP ws qAZ q).then fun _ q=>qCq F f (acc++[d]) q else .inr (acc,q)
end
theorem qI1 {α β γ:Type} (r:Rd α) (k:α->Nat->Rd β) (m:β->Nat->Rd γ):(r.then k).then m=r.then fun a q=>(k a q).then m:=by
 cases r <;> rfl
end Go.Proofs.YtohfoaplnjcihaaGreatDoor
namespace Go.Proofs.YtohfoaplnjcihaaGreatDoor
open Go Y
set_option maxRecDepth 100000
set_option maxHeartbeats 4000000
theorem qDz {α β:Type} {f:α->β} {l:List α} {k:Nat} (d:α) (h:k<l.length):(l.map f)[k]?=some (f (l.getD k d)):=by
 rw [List.getElem?_map,List.getD_eq_getElem?_getD,List.getElem?_eq_getElem h];rfl
theorem qGM {l:List Int} {k:Nat} (h:k<l.length):(l.map i64)[k]?=some (i64 (l.getD k 0)):=qDz 0 h
theorem qUY {l:List (List UInt8)} {k:Nat} (h:k<l.length):(l.map PV.str)[k]?=some (.str (l.getD k [])):=qDz [] h
theorem qCl {ws:List Wd} {k:Nat} (h:k<ws.length):(ws.map Wd.cells)[k]?=some (wat ws k).cells:=qDz wd0 h
theorem qAY {α:Type} {l:List α} {k:Nat} (d:α) (h:k<l.length):l.take (k+1)=l.take k++[l.getD k d]:=by
 rw [List.take_add_one,List.getD_eq_getElem?_getD,List.getElem?_eq_getElem h];rfl
theorem qAL {α:Type} {l:List α} {k:Nat} (d:α) (h:k<l.length):l.getD k d∈l:=by
 rw [List.getD_eq_getElem?_getD,List.getElem?_eq_getElem h];exact List.getElem_mem h
theorem qBg {α:Type} {l:List α} {k:Nat} (h:l.length<=k):l.take k=l:=List.take_of_length_le h
theorem qAK {α:Type} (l:List α) (x:α):(l++[x]).length=l.length+1:=by simp
theorem qEu {α:Type} {l:List α} {k:Nat} (d:α) (h:k<l.length):l.drop k=l.getD k d::l.drop (k+1):=by
 rw [List.drop_eq_getElem_cons h,List.getD_eq_getElem?_getD,List.getElem?_eq_getElem h];rfl
def psO (ws:List Wd) (q:Nat):AObj:=⟨126,false, .bx [.p (.lsts 4 (ws.map Wd.cells)), .p (i64 q)]⟩
abbrev psH (ws:List Wd) (q:Nat):Hp:=⟨1,[(0,psO ws q)]⟩
def qWz (ws:List Wd) (q:Nat):AV:=.p (.iface qYB (.agg (wat ws q).cells))
abbrev qAa (ws:List Wd) (q:Nat):AE:=.panicked [⟨qWz ws q,false⟩]
theorem qNW (ws:List Wd) (q:Nat) (hl:ws.length<=1500) (hq:q<=ws.length):HoldsG cx 93 [.ptr 0 0 0] (psH ws q) fun e H'=>e=.returned (.p (.str (txt ws q)))/\H'=psH ws q:=by
 refine qAz Tryz.func93 rfl rfl rfl ?_
 have hl':(ws.map Wd.cells).length=ws.length:=List.length_map ..
 refine VDraw.seq rfl ?_
 refine QAD (fun h1=>?_) (fun h1=>?_)
 ·have h1:(q:Int)<((ws.map Wd.cells).length:Nat):=h1
  rw [hl'] at h1
  refine VDraw.seq rfl ?_
  refine⟨_,⟨by omega,(wat ws q).cells,qCl (by omega),rfl⟩,?_⟩
  exact⟨rfl,rfl⟩
 ·have h1:¬ (q:Int)<((ws.map Wd.cells).length:Nat):=h1
  rw [hl'] at h1
  exact⟨by rw [txt,qGc (by omega)];rfl,rfl⟩
theorem qOH (ws:List Wd) (q:Nat) (hl:ws.length<=1500) (hq:q<=ws.length):HoldsG cx 166 [.ptr 0 0 0] (psH ws q) fun e H'=>e=.returned (.p (i64 (knd ws q)))/\H'=psH ws q:=by
 refine qAz Tryz.func166 rfl rfl rfl ?_
 have hl':(ws.map Wd.cells).length=ws.length:=List.length_map ..
 refine VDraw.seq rfl ?_
 refine QAD (fun h1=>?_) (fun h1=>?_)
 ·have h1:(q:Int)<((ws.map Wd.cells).length:Nat):=h1
  rw [hl'] at h1
  refine VDraw.seq rfl ?_
  refine⟨_,⟨by omega,(wat ws q).cells,qCl (by omega),rfl⟩,?_⟩
  exact⟨rfl,rfl⟩
 ·have h1:¬ (q:Int)<((ws.map Wd.cells).length:Nat):=h1
  rw [hl'] at h1
  exact⟨by rw [knd,qGc (by omega)];rfl,rfl⟩
theorem qLd (ws:List Wd) (q:Nat) (hl:ws.length<=1500) (hq:q<=ws.length):HoldsG cx 94 [.ptr 0 0 0] (psH ws q) fun e H'=>e=qAa ws q/\H'=psH ws q:=by
 refine qAz Tryz.func94 rfl rfl rfl ?_
 have hl':(ws.map Wd.cells).length=ws.length:=List.length_map ..
 refine VDraw.seq rfl ?_
 refine QAD (fun h1=>?_) (fun h1=>?_)
 ·have h1:(q:Int)<((ws.map Wd.cells).length:Nat):=h1
  rw [hl'] at h1
  refine VDraw.seq rfl ?_
  refine⟨_,⟨by omega,(wat ws q).cells,qCl (by omega),rfl⟩,?_⟩
  exact⟨rfl,rfl⟩
 ·have h1:¬ (q:Int)<((ws.map Wd.cells).length:Nat):=h1
  rw [hl'] at h1
  exact⟨by rw [qAa,qWz,qGc (by omega)];rfl,rfl⟩
def skQ (ws:List Wd) (q:Nat) (s:List UInt8) (e:AE) (H':Hp):Prop:=(txt ws q=s->e=.returned (vB true)/\H'=psH ws (q+1))/\(¬ txt ws q=s->e=.returned (vB false)/\H'=psH ws q)
theorem qA7 (ws:List Wd) (q:Nat) (s:List UInt8) (hl:ws.length<=1500) (hq:q<=ws.length):HoldsG cx 133 [.ptr 0 0 0, .p (.str s)] (psH ws q) (skQ ws q s):=by
 refine qAz Tryz.func133 rfl rfl rfl ?_
 refine(qNW ws q hl hq).holds.mono fun e H' h=>?_
 obtain⟨rfl,rfl⟩:=h
 refine QAD (fun h1=>?_) (fun h1=>?_)
 ·have h1:txt ws q=s:=h1
  refine⟨_,w6z,?_⟩
  exact⟨fun _=>⟨rfl,rfl⟩,fun h=>absurd h1 h⟩
 ·have h1:¬ txt ws q=s:=h1
  exact⟨fun h=>absurd h h1,fun _=>⟨rfl,rfl⟩⟩
theorem qKg (ws:List Wd) (q:Nat) (hl:ws.length<=1500) (hq:q<=ws.length):HoldsG cx 168 [.ptr 0 0 0] (psH ws q) (skQ ws q qAi):=by
 refine qAz Tryz.func168 rfl rfl rfl ?_
 refine(qA7 ws q qAi hl hq).holds.mono fun e H' h=>?_
 by_cases h1:txt ws q=qAi
 ·obtain⟨rfl,rfl⟩:=h.1 h1
  exact⟨fun _=>⟨rfl,rfl⟩,fun h=>absurd h1 h⟩
 ·obtain⟨rfl,rfl⟩:=h.2 h1
  exact⟨fun h=>absurd h h1,fun _=>⟨rfl,rfl⟩⟩
def rdQ {α:Type} (ws:List Wd) (r:Rd α) (val:α->AV) (e:AE) (H':Hp):Prop:=match r with
 | .inl p=>e=qAa ws p/\H'=⟨1,[]⟩
 | .inr (a,q)=>q<=ws.length/\e=.returned (val a)/\H'=psH ws q
theorem qIE (ws:List Wd) (q:Nat) (hl:ws.length<=1500) (hq:q<=ws.length):HoldsG cx 132 [.ptr 0 0 0] (psH ws q) (rdQ ws (qCU ws q) fun t=>.p (.str t)):=by
 refine qAA Tryz.func132 rfl rfl rfl ?_
 have hl':(ws.map Wd.cells).length=ws.length:=List.length_map ..
 refine(qOH ws q hl hq).holds.mono fun e H' h=>?_
 obtain⟨rfl,rfl⟩:=h
 refine QAD (fun h1=>?_) (fun h1=>?_)
 ·have h1:knd ws q=1:=h1
  have hlt:q<ws.length:=qGK (by rw [h1];decide)
  refine⟨_,w6z,?_⟩
  refine VDraw.seq rfl ?_
  refine⟨(q:Int),by rw [show(q:Int)+1 - 1=(q:Int) by omega];exact w6z,?_⟩
  refine⟨_,⟨by omega,(wat ws q).cells,qCl hlt,rfl⟩,?_⟩
  exact⟨[],[],[], .returned (.p (.str (txt ws q))),psH ws (q+1),rfl,sk,sk,by rw [qCU,if_pos h1];exact⟨hlt,rfl,rfl⟩⟩
 ·have h1:¬ knd ws q=1:=h1
  refine(qLd ws q hl hq).holds.mono fun e H' h=>?_
  obtain⟨rfl,rfl⟩:=h
  exact⟨[],[],[],qAa ws q,⟨1,[]⟩,rfl,⟨_,rfl,_,_,rfl,rfl,rfl⟩,trivial,by rw [(show qCU ws q=.inl q by rw [qCU,if_neg h1])];exact⟨rfl,rfl⟩⟩
theorem decode_at {s:List UInt8} {i:Nat} (h:i<s.length) (hb:(s.getD i 0).toNat<128):Utf8.decode ⟨⟨s⟩⟩ i=((s.getD i 0).toNat,1):=by
 have e:(ByteArray.get! ⟨⟨s⟩⟩ (i+0))=s.getD i 0:=by
  rw [Nat.add_zero,List.getD_eq_getElem?_getD]
  show(⟨s⟩:Array UInt8)[i]! = _
  rw [getElem!_def,List.getElem?_toArray,List.getElem?_eq_getElem h];rfl
 unfold Utf8.decode
 simp only [e]
 rw [if_pos hb]
theorem qF1 (t:List UInt8) (b:UInt8):qJv (t++[b])=10 * qJv t+((b.toNat:Int) - 48):=by rw [qJv,qJv,List.foldl_append];rfl
theorem qF0 {t:List UInt8} (h:∀ b∈t,48<=b.toNat/\b.toNat<=57):∀ k,k<=t.length->0<=qJv (t.take k)/\qJv (t.take k)<10 ^ k
 | 0,_=>by rw [List.take_zero];exact⟨Int.le_refl 0,by decide⟩
 | k+1,hk=>by
  have ih:=qF0 h k (by omega)
  have hb:=h _ (qAL 0 (show k<t.length by omega))
  rw [qAY 0 (by omega),qF1,Int.pow_succ]
  omega
theorem qIA {t:List UInt8} (h:qHL t=true):t.length<=4/\∀ b∈t,48<=b.toNat/\b.toNat<=57:=by
 unfold qHL at h
 simp only [Bool.and_eq_true,decide_eq_true_eq] at h
 obtain⟨⟨⟨h1,h2⟩,h3⟩,h4⟩:=h
 refine⟨h2,?_⟩
 have key:∀ l:List UInt8,qAM qBZ l=l.length->∀ b∈l,48<=b.toNat/\b.toNat<=57:=by
  intro l
  induction l with
  | nil=>intro _ b hb;simp at hb
  | cons c r ih=>
   intro he b hb
   simp only [qAM] at he
   split at he
   ·rename_i hc
    simp only [qBZ,Bool.and_eq_true,decide_eq_true_eq] at hc
    rcases List.mem_cons.1 hb with rfl | hb
    ·exact hc
    ·exact ih (by simpa using he) b hb
   ·simp at he
 exact key t h3
theorem qQq {ws:List Wd} (hg:GoodW ws) {q:Nat} (h:knd ws q=3):qHL (txt ws q)=true:=by
 have:=hg.at (qGK (by rw [h];decide))
 rw [h] at this
 exact this
theorem wrap_i32 {n:Int} (h0:-2147483648<=n) (h1:n<=2147483647):n=IntKind.i32.wrap n:=by
 simp [IntKind.wrap,IntKind.bits,IntKind.signed]
 omega
theorem qB0 (ws:List Wd) (q:Nat) (hg:GoodW ws) (hq:q<=ws.length):HoldsG cx 131 [.ptr 0 0 0] (psH ws q) (rdQ ws (qCT ws q) fun n=>.p (i64 n)):=by
 refine qAA Tryz.func131 rfl rfl rfl ?_
 have hl:=hg.len
 refine(qOH ws q hl hq).holds.mono fun e H' h=>?_
 obtain⟨rfl,rfl⟩:=h
 refine QAD (fun h1=>?_) (fun h1=>?_)
 rotate_left
 ·have h1:¬ knd ws q=3:=h1
  refine(qLd ws q hl hq).holds.mono fun e H' h=>?_
  obtain⟨rfl,rfl⟩:=h
  exact⟨[],[],[],qAa ws q,⟨1,[]⟩,rfl,⟨_,rfl,_,_,rfl,rfl,rfl⟩,trivial,by rw [(show qCT ws q=.inl q by rw [qCT,if_neg h1])];exact⟨rfl,rfl⟩⟩
 have h1:knd ws q=3:=h1
 have hlt:q<ws.length:=qGK (by rw [h1];decide)
 obtain⟨ht4,hdg⟩:=qIA (qQq hg h1)
 obtain⟨t,ht⟩:∃ t,t=txt ws q:=⟨_,rfl⟩
 rw [<- ht] at ht4 hdg
 refine(qNW ws q hl hq).holds.mono fun e H' h=>?_
 obtain⟨rfl,rfl⟩:=h
 refine⟨Nat,fun k=>[(0, .ptr 0 0 0),(3, .p (i64 (qJv (t.take k)))),(19, .ptr 1 0 0)],fun k=>⟨2,[(1,⟨qYC,false, .it t k⟩),(0,psO ws q)]⟩,fun k=>k<=t.length,fun k=>t.length - k,?_,?_⟩
 ·exact⟨0,Nat.zero_le _,qAB [] [] [] rfl ⟨⟨rfl,rfl⟩,rfl,⟨rfl,rfl⟩,trivial⟩ ⟨⟨_,rfl,rfl,rfl,congrArg (fun t=>Cn.it t 0) ht.symm⟩,⟨_,rfl,rfl,rfl,_,rfl,_,_,rfl,rfl,_,_,rfl,rfl,rfl⟩,trivial⟩ rfl⟩
 intro k hk
 refine And.intro (fun h2=>?_) (fun h2=>?_)
 ·have hke:k=t.length:=by omega
  subst hke
  refine⟨_,w6z,?_⟩
  exact⟨[],[],[], .returned (.p (i64 (qJv t))),psH ws (q+1),rfl,⟨_,rfl,by rw [qBg (Nat.le_refl _)];rfl⟩,sk,by rw [qCT,if_pos h1,<- ht];exact⟨hlt,rfl,rfl⟩⟩
 ·obtain⟨b,hb⟩:∃ b,b=t.getD k 0:=⟨_,rfl⟩
  have hbd:=hdg b (by rw [hb];exact qAL 0 h2)
  have hv:=qF0 hdg k hk
  have hp:(10:Int) ^ k<=10 ^ 4:=by
   rcases (show k=0∨k=1∨k=2∨k=3∨k=4 by omega) with rfl | rfl | rfl | rfl | rfl <;> decide
  have hp4:(10:Int) ^ 4=10000:=by decide
  refine⟨b.toNat,1,by rw [decode_at h2 (by rw [<- hb];omega),<- hb],?_⟩
  refine⟨10 * qJv (t.take k),w6z,?_⟩
  refine⟨(b.toNat:Int) - 48,wrap_i32 (by omega) (by omega),?_⟩
  refine⟨(b.toNat:Int) - 48,w6z,?_⟩
  refine⟨qJv (t.take (k+1)),by rw [qAY 0 h2,<- hb,qF1];exact w6z,?_⟩
  exact⟨k+1,h2,qAB [] [] [] rfl ⟨⟨rfl,rfl⟩,rfl,⟨rfl,rfl⟩,trivial⟩ ⟨⟨_,rfl,rfl,rfl,rfl⟩,⟨_,rfl,rfl,rfl,_,rfl,_,_,rfl,rfl,_,_,rfl,rfl,rfl⟩,trivial⟩ rfl,by show t.length - (k+1)<t.length - k;omega⟩
theorem qAq (ws:List Wd) (q0:Nat) (l:List (List UInt8)) (hl:ws.length<=1500) (hq:q0<=ws.length) (hn:∀ s∈l,s ≠ []) (hw:l.length<=1000) :
  HoldsG cx 95 [.ptr 0 0 0, .p (strs l)] (psH ws q0) (rdQ ws (qAp ws l q0) fun _=>und):=by
 refine qAA Tryz.func95 rfl rfl rfl ?_
 refine⟨Nat × Nat,fun x=>[(0, .ptr 0 0 0),(6, .p (strs l)),(7, .p (i64 l.length)),(8, .p (i64 x.1))],fun x=>psH ws x.2,fun x=>x.1<=l.length/\x.2<=ws.length/\qAp ws (l.drop x.1) x.2=qAp ws l q0,fun x=>l.length - x.1,?_,?_⟩
 ·exact⟨(0,q0),⟨by simp,hq,rfl⟩,qAB [] [] [] rfl ⟨⟨rfl,rfl⟩,rfl,congrArg (fun n:Nat=>i64 n) (List.length_map ..).symm,rfl,trivial⟩ (sk) rfl⟩
 rintro⟨k,q⟩ ⟨k1,k2,k3⟩
 simp only [] at k1 k2 k3
 refine QAD (fun h1=>?_) (fun h1=>?_)
 ·have h1:(k:Int)<(l.length:Nat):=h1
  have hk:k<l.length:=by omega
  obtain⟨s,hs⟩:∃ s,s=l.getD k []:=⟨_,rfl⟩
  rw [qEu [] hk,<- hs,qAp,qBP] at k3
  refine⟨_,⟨by omega, .str s,by rw [hs];exact qUY hk,rfl⟩,?_⟩
  by_cases h2:txt ws q=s
  ·rw [if_pos h2] at k3
   have hlt:q<ws.length:=qAh (by rw [h2,hs];exact hn _ (qAL [] hk))
   refine(qA7 ws q s hl k2).holds.mono fun e H' hq=>?_
   obtain⟨rfl,rfl⟩:=hq.1 h2
   refine⟨_,w6z,?_⟩
   exact⟨(k+1,q+1),⟨by simp only [];omega,hlt,k3⟩,qAB [] [] [] rfl (sk) (sk) rfl,by show l.length - (k+1)<l.length - k;omega⟩
  ·rw [if_neg h2] at k3
   refine(qA7 ws q s hl k2).holds.mono fun e H' hq=>?_
   obtain⟨rfl,rfl⟩:=hq.2 h2
   refine(qLd ws q hl k2).holds.mono fun e H' hq=>?_
   obtain⟨rfl,rfl⟩:=hq
   exact⟨[],[],[],qAa ws q,⟨1,[]⟩,rfl,⟨_,rfl,_,_,rfl,rfl,rfl⟩,trivial,by rw [k3.symm];exact⟨rfl,rfl⟩⟩
 ·have h1:¬ (k:Int)<(l.length:Nat):=h1
  rw [show l.drop k=[] from List.drop_eq_nil_of_le (by omega),qAp] at k3
  exact⟨[],[],[], .returned und,psH ws q,rfl,sk,sk,by rw [<- k3];exact⟨k2,rfl,rfl⟩⟩
theorem qAH {α β:Type} (a:α) (q:Nat) (k:α->Nat->Rd β):Rd.then (.inr (a,q)) k=k a q:=rfl
theorem qBA (ws:List Wd) (s:List UInt8) (q:Nat):qAp ws [s] q=qBP ws s q:=by
 rw [qAp]
 cases h:qBP ws s q with
 | inl e=>rfl
 | inr x=>rfl
def rO (r:Rf):AObj:=⟨qTV,false, .bx (r.cells.map .p)⟩
def sO (l:List (List UInt8)):AObj:=⟨qYC,true, .pu (l.map .str)⟩
theorem qWT (ws:List Wd) (q0:Nat) (hg:GoodW ws) (hq0:q0<=ws.length):HoldsG cx 170 [.ptr 0 0 0] (psH ws q0) (rdQ ws (qHz ws q0) fun r=>.p r.pv):=by
 generalize hR:qHz ws q0=R
 rw [qHz] at hR
 refine qAA Tryz.func170 rfl rfl rfl ?_
 have hl:=hg.len
 refine(qIE ws q0 hl hq0).holds.useT [] [] rfl (sk) (sk) fun e0 H0 hq=>?_
 rcases h1:qCU ws q0 with p | ⟨nm,q1⟩
 ·rw [h1] at hq hR
  obtain⟨rfl,rfl⟩:=hq
  refine⟨rfl,_,_,rfl,rfl,?_⟩
  exact⟨[],[],[],qAa ws p,⟨1,[]⟩,rfl,⟨_,rfl,_,_,rfl,rfl,rfl⟩,trivial,by rw [<- hR];exact⟨rfl,rfl⟩⟩
 rw [h1] at hq hR
 obtain⟨q1l,rfl,rfl⟩:=hq
 refine⟨rfl,_,⟨2,(0,psO ws q1)::[(1,rO rf0)]⟩,rfl,rfl,?_⟩
 simp only [qAH] at hR
 by_cases c1:txt ws q1=tLB
 rotate_left
 ·refine(qA7 ws q1 tLB hl q1l).holds.useT [] [] rfl (sk) (sk) fun e0 H0 hq=>?_
  obtain⟨rfl,rfl⟩:=hq.2 c1
  refine⟨rfl,_,⟨3,(0,psO ws q1)::[(2,rO ⟨nm,0,[],0⟩),(1,rO rf0)]⟩,rfl,rfl,?_⟩
  rw [if_neg c1] at hR
  exact⟨[],[],[], .returned (.p (⟨nm,0,[],0⟩:Rf).pv),psH ws q1,rfl,sk,sk,by rw [<- hR];exact⟨q1l,rfl,rfl⟩⟩
 have q2l:q1+1<=ws.length:=qAh (by rw [c1];decide)
 refine(qA7 ws q1 tLB hl q1l).holds.useT [] [] rfl (sk) (sk) fun e0 H0 hq=>?_
 obtain⟨rfl,rfl⟩:=hq.1 c1
 refine⟨rfl,_,⟨3,(0,psO ws (q1+1))::[(2,rO ⟨nm,0,[],0⟩),(1,rO rf0)]⟩,rfl,rfl,?_⟩
 rw [if_pos c1] at hR
 by_cases c2:txt ws (q1+1)=qGg
 ·rw [if_pos c2] at hR
  have q2l':q1+2<=ws.length:=qAh (by rw [c2];decide)
  refine(qA7 ws (q1+1) qGg hl q2l).holds.useT [] [] rfl (sk) (sk) fun e0 H0 hq=>?_
  obtain⟨rfl,rfl⟩:=hq.1 c2
  refine⟨rfl,_,⟨3,(0,psO ws (q1+2))::[(2,rO ⟨nm,0,[],0⟩),(1,rO rf0)]⟩,rfl,rfl,?_⟩
  rw [qBp,<- qBA] at hR
  refine(qAq ws (q1+2) [tRB] hl q2l' (by simp) (by simp)).holds.useT [3] [] rfl (sk) ⟨_,_,rfl,⟨rfl,rfl⟩,_,_,rfl,⟨_,rfl,by decide,rfl⟩,rfl⟩ fun e0 H0 hq=>?_
  rcases hm:qAp ws [tRB] (q1+2) with p | ⟨u,q9⟩
  ·rw [hm] at hq hR
   obtain⟨rfl,rfl⟩:=hq
   refine⟨rfl,_,_,rfl,rfl,?_⟩
   exact⟨[],[],[],qAa ws p,⟨1,[]⟩,rfl,⟨_,rfl,_,_,rfl,rfl,rfl⟩,trivial,by rw [<- hR];exact⟨rfl,rfl⟩⟩
  rw [hm] at hq hR
  obtain⟨q9l,rfl,rfl⟩:=hq
  refine⟨rfl,_,⟨4,(0,psO ws q9)::[(3,sO [tRB]),(2,rO ⟨nm,3,[],0⟩),(1,rO rf0)]⟩,rfl,rfl,?_⟩
  simp only [qAH] at hR
  exact⟨[],[],[], .returned (.p (⟨nm,3,[],0⟩:Rf).pv),psH ws q9,rfl,sk,sk,by rw [<- hR];exact⟨q9l,rfl,rfl⟩⟩
 rw [if_neg c2] at hR
 refine(qA7 ws (q1+1) qGg hl q2l).holds.useT [] [] rfl (sk) (sk) fun e0 H0 hq=>?_
 obtain⟨rfl,rfl⟩:=hq.2 c2
 refine⟨rfl,_,⟨3,(0,psO ws (q1+1))::[(2,rO ⟨nm,0,[],0⟩),(1,rO rf0)]⟩,rfl,rfl,?_⟩
 refine(qOH ws (q1+1) hl q2l).holds.useT [] [] rfl (sk) (sk) fun e0 H0 hq=>?_
 obtain⟨rfl,rfl⟩:=hq
 refine⟨rfl,_,⟨3,(0,psO ws (q1+1))::[(2,rO ⟨nm,0,[],0⟩),(1,rO rf0)]⟩,rfl,rfl,?_⟩
 refine QAD (fun c3=>?_) (fun c3=>?_)
 ·have c3:knd ws (q1+1)=3:=c3
  rw [if_pos c3] at hR
  refine(qB0 ws (q1+1) hg q2l).holds.useT [] [] rfl (sk) (sk) fun e0 H0 hq=>?_
  rcases h4:qCT ws (q1+1) with p | ⟨n,q4⟩
  ·rw [h4] at hq hR
   obtain⟨rfl,rfl⟩:=hq
   refine⟨rfl,_,_,rfl,rfl,?_⟩
   exact⟨[],[],[],qAa ws p,⟨1,[]⟩,rfl,⟨_,rfl,_,_,rfl,rfl,rfl⟩,trivial,by rw [<- hR];exact⟨rfl,rfl⟩⟩
  rw [h4] at hq hR
  obtain⟨q4l,rfl,rfl⟩:=hq
  refine⟨rfl,_,⟨3,(0,psO ws q4)::[(2,rO ⟨nm,2,[],0⟩),(1,rO rf0)]⟩,rfl,rfl,?_⟩
  simp only [qAH] at hR
  rw [qBp,<- qBA] at hR
  refine(qAq ws q4 [tRB] hl q4l (by simp) (by simp)).holds.useT [3] [] rfl (sk) ⟨_,_,rfl,⟨rfl,rfl⟩,_,_,rfl,⟨_,rfl,by decide,rfl⟩,rfl⟩ fun e0 H0 hq=>?_
  rcases hm:qAp ws [tRB] q4 with p | ⟨u,q9⟩
  ·rw [hm] at hq hR
   obtain⟨rfl,rfl⟩:=hq
   refine⟨rfl,_,_,rfl,rfl,?_⟩
   exact⟨[],[],[],qAa ws p,⟨1,[]⟩,rfl,⟨_,rfl,_,_,rfl,rfl,rfl⟩,trivial,by rw [<- hR];exact⟨rfl,rfl⟩⟩
  rw [hm] at hq hR
  obtain⟨q9l,rfl,rfl⟩:=hq
  refine⟨rfl,_,⟨4,(0,psO ws q9)::[(3,sO [tRB]),(2,rO ⟨nm,2,[],n⟩),(1,rO rf0)]⟩,rfl,rfl,?_⟩
  simp only [qAH] at hR
  exact⟨[],[],[], .returned (.p (⟨nm,2,[],n⟩:Rf).pv),psH ws q9,rfl,sk,sk,by rw [<- hR];exact⟨q9l,rfl,rfl⟩⟩
 have c3:¬ knd ws (q1+1)=3:=c3
 rw [if_neg c3] at hR
 refine(qIE ws (q1+1) hl q2l).holds.useT [] [] rfl (sk) (sk) fun e0 H0 hq=>?_
 rcases h5:qCU ws (q1+1) with p | ⟨pl,q5⟩
 ·rw [h5] at hq hR
  obtain⟨rfl,rfl⟩:=hq
  refine⟨rfl,_,_,rfl,rfl,?_⟩
  exact⟨[],[],[],qAa ws p,⟨1,[]⟩,rfl,⟨_,rfl,_,_,rfl,rfl,rfl⟩,trivial,by rw [<- hR];exact⟨rfl,rfl⟩⟩
 rw [h5] at hq hR
 obtain⟨q5l,rfl,rfl⟩:=hq
 refine⟨rfl,_,⟨3,(0,psO ws q5)::[(2,rO ⟨nm,1,[],0⟩),(1,rO rf0)]⟩,rfl,rfl,?_⟩
 simp only [qAH] at hR
 by_cases c6:txt ws q5=qDj
 ·rw [if_pos c6] at hR
  have q6l:q5+1<=ws.length:=qAh (by rw [c6];decide)
  refine(qA7 ws q5 qDj hl q5l).holds.useT [] [] rfl (sk) (sk) fun e0 H0 hq=>?_
  obtain⟨rfl,rfl⟩:=hq.1 c6
  refine⟨rfl,_,⟨3,(0,psO ws (q5+1))::[(2,rO ⟨nm,1,pl,0⟩),(1,rO rf0)]⟩,rfl,rfl,?_⟩
  refine(qB0 ws (q5+1) hg q6l).holds.useT [] [] rfl (sk) (sk) fun e0 H0 hq=>?_
  rcases h7:qCT ws (q5+1) with p | ⟨n,q7⟩
  ·rw [h7] at hq hR
   obtain⟨rfl,rfl⟩:=hq
   refine⟨rfl,_,_,rfl,rfl,?_⟩
   exact⟨[],[],[],qAa ws p,⟨1,[]⟩,rfl,⟨_,rfl,_,_,rfl,rfl,rfl⟩,trivial,by rw [<- hR];exact⟨rfl,rfl⟩⟩
  rw [h7] at hq hR
  obtain⟨q7l,rfl,rfl⟩:=hq
  refine⟨rfl,_,⟨3,(0,psO ws q7)::[(2,rO ⟨nm,1,pl,0⟩),(1,rO rf0)]⟩,rfl,rfl,?_⟩
  simp only [qAH] at hR
  rw [qBp,<- qBA] at hR
  refine(qAq ws q7 [tRB] hl q7l (by simp) (by simp)).holds.useT [3] [] rfl (sk) ⟨_,_,rfl,⟨rfl,rfl⟩,_,_,rfl,⟨_,rfl,by decide,rfl⟩,rfl⟩ fun e0 H0 hq=>?_
  rcases hm:qAp ws [tRB] q7 with p | ⟨u,q9⟩
  ·rw [hm] at hq hR
   obtain⟨rfl,rfl⟩:=hq
   refine⟨rfl,_,_,rfl,rfl,?_⟩
   exact⟨[],[],[],qAa ws p,⟨1,[]⟩,rfl,⟨_,rfl,_,_,rfl,rfl,rfl⟩,trivial,by rw [<- hR];exact⟨rfl,rfl⟩⟩
  rw [hm] at hq hR
  obtain⟨q9l,rfl,rfl⟩:=hq
  refine⟨rfl,_,⟨4,(0,psO ws q9)::[(3,sO [tRB]),(2,rO ⟨nm,1,pl,n⟩),(1,rO rf0)]⟩,rfl,rfl,?_⟩
  simp only [qAH] at hR
  exact⟨[],[],[], .returned (.p (⟨nm,1,pl,n⟩:Rf).pv),psH ws q9,rfl,sk,sk,by rw [<- hR];exact⟨q9l,rfl,rfl⟩⟩
 ·rw [if_neg c6] at hR
  refine(qA7 ws q5 qDj hl q5l).holds.useT [] [] rfl (sk) (sk) fun e0 H0 hq=>?_
  obtain⟨rfl,rfl⟩:=hq.2 c6
  refine⟨rfl,_,⟨3,(0,psO ws q5)::[(2,rO ⟨nm,1,pl,0⟩),(1,rO rf0)]⟩,rfl,rfl,?_⟩
  rw [qBp,<- qBA] at hR
  refine(qAq ws q5 [tRB] hl q5l (by simp) (by simp)).holds.useT [3] [] rfl (sk) ⟨_,_,rfl,⟨rfl,rfl⟩,_,_,rfl,⟨_,rfl,by decide,rfl⟩,rfl⟩ fun e0 H0 hq=>?_
  rcases hm:qAp ws [tRB] q5 with p | ⟨u,q9⟩
  ·rw [hm] at hq hR
   obtain⟨rfl,rfl⟩:=hq
   refine⟨rfl,_,_,rfl,rfl,?_⟩
   exact⟨[],[],[],qAa ws p,⟨1,[]⟩,rfl,⟨_,rfl,_,_,rfl,rfl,rfl⟩,trivial,by rw [<- hR];exact⟨rfl,rfl⟩⟩
  rw [hm] at hq hR
  obtain⟨q9l,rfl,rfl⟩:=hq
  refine⟨rfl,_,⟨4,(0,psO ws q9)::[(3,sO [tRB]),(2,rO ⟨nm,1,pl,0⟩),(1,rO rf0)]⟩,rfl,rfl,?_⟩
  simp only [qAH] at hR
  exact⟨[],[],[], .returned (.p (⟨nm,1,pl,0⟩:Rf).pv),psH ws q9,rfl,sk,sk,by rw [<- hR];exact⟨q9l,rfl,rfl⟩⟩
def LI {α:Type} (R:Rd α) (go:Nat->Rd α) (m:Nat):Prop:=∃ f,m<f/\R=go f
theorem LI.is {α:Type} {R x:Rd α} {go:Nat->Rd α} {m:Nat} (h:LI R go m) (hgo:∀ f,go (f+1)=x):R=x:=by
 obtain⟨f,hf,rfl⟩:=h
 obtain⟨f,rfl⟩:∃ g,f=g+1:=⟨f - 1,by omega⟩
 exact hgo f
theorem LI.nxt {α:Type} {R:Rd α} {go go':Nat->Rd α} {m m':Nat} (h:LI R go m) (hgo:∀ f,go (f+1)=go' f) (hm:m'<m):LI R go' m':=by
 obtain⟨f,hf,rfl⟩:=h
 obtain⟨f,rfl⟩:∃ g,f=g+1:=⟨f - 1,by omega⟩
 exact⟨f,by omega,hgo f⟩
theorem qFl {ws:List Wd} {q q':Nat} {t:List UInt8} (h:qCU ws q=.inr (t,q')):q<q':=by
 rw [qCU] at h
 split at h
 ·injection h with h;injection h with h1 h2;omega
 ·cases h
theorem qCb {ws:List Wd} {q q':Nat} {n:Int} (h:qCT ws q=.inr (n,q')):q<q':=by
 rw [qCT] at h
 split at h
 ·injection h with h;injection h with h1 h2;omega
 ·cases h
theorem qAv {ws:List Wd} {s:List UInt8} {q q':Nat} {u:Unit} (h:qBP ws s q=.inr (u,q')):q<q':=by
 rw [qBP] at h
 split at h
 ·injection h with h;injection h with h1 h2;omega
 ·cases h
theorem then_ok {α β:Type} {r:Rd α} {k:α->Nat->Rd β} {b:β} {q:Nat} (h:r.then k=.inr (b,q)):∃ a p,r=.inr (a,p)/\k a p=.inr (b,q):=by
 cases r with
 | inl e=>cases h
 | inr x=>exact⟨x.1,x.2,rfl,h⟩
theorem qJz {ws:List Wd} {nm pl:List UInt8} {m n:Int} {q q':Nat} {r:Rf} (h:qBp ws nm m pl n q=.inr (r,q')):q<q':=by
 obtain⟨u,p,h1,h2⟩:=then_ok h
 have:=qAv h1
 injection h2 with h2;injection h2 with h3 h4;omega
theorem qHJ {ws:List Wd} {q q':Nat} {r:Rf} (h:qHz ws q=.inr (r,q')):q<q':=by
 rw [qHz] at h
 obtain⟨nm,q1,h1,h⟩:=then_ok h
 have:=qFl h1
 try simp only [] at h
 split at h
 ·split at h
  ·have:=qJz h;omega
  ·split at h
   ·obtain⟨n,q2,h2,h⟩:=then_ok h
    have:=qCb h2
    have:=qJz h;omega
   ·obtain⟨pl,q2,h2,h⟩:=then_ok h
    have:=qFl h2
    try simp only [] at h
    split at h
    ·obtain⟨n,q3,h3,h⟩:=then_ok h
     have:=qCb h3
     have:=qJz h;omega
    ·have:=qJz h;omega
 ·injection h with h;injection h with h3 h4;omega
def bxO:AObj:=⟨122,false, .bx [.ptr 0 0 0]⟩
abbrev pbH (ws:List Wd) (q:Nat):Hp:=⟨2,[(0,psO ws q),(1,bxO)]⟩
def qTv {α:Type} (ws:List Wd) (r:Rd α) (val:α->AV) (e:AE) (H':Hp):Prop:=match r with
 | .inl p=>e=qAa ws p/\H'=⟨2,[]⟩
 | .inr (a,q)=>q<=ws.length/\e=.returned (val a)/\H'=pbH ws q
theorem qQT (ws:List Wd) (q0:Nat) (hg:GoodW ws) (hq0:q0<=ws.length):HoldsG cx 169 [.ptr 1 0 0] (pbH ws q0) (qTv ws (qHz ws q0) fun r=>.p r.pv):=by
 generalize hR:qHz ws q0=R
 refine qAA Tryz.func169 rfl rfl rfl ?_
 have hl:=hg.len
 have hc:=qWT ws q0 hg hq0
 rw [hR] at hc
 refine hc.holds.useT [] [] rfl (sk) (sk) fun e0 H0 hq=>?_
 rcases R with p | ⟨r,q1⟩
 ·obtain⟨rfl,rfl⟩:=hq
  refine⟨rfl,_,_,rfl,rfl,?_⟩
  exact⟨[],[],[],qAa ws p,⟨2,[]⟩,rfl,⟨_,rfl,_,_,rfl,rfl,rfl⟩,trivial,rfl,rfl⟩
 obtain⟨q1l,rfl,rfl⟩:=hq
 refine⟨rfl,_,⟨3,(0,psO ws q1)::[(2,rO rf0),(1,bxO)]⟩,rfl,rfl,?_⟩
 exact⟨[],[],[], .returned (.p r.pv),pbH ws q1,rfl,sk,sk,q1l,rfl,rfl⟩
def qK7 (l:List Rf):AObj:=⟨qTV,false, .pus (l.map Rf.cells)⟩
def cmF:AV:=.fn (.func 168) [.ptr 0 0 0] []
def rfF:AV:=.fn (.func 169) [] [.ptr 1 0 0]
theorem qQ8 (ws:List Wd) (F q0:Nat) (hF:ws.length<F) (hg:GoodW ws) (hq0:q0<=ws.length):HoldsG cx 167 [cmF,rfF] (pbH ws q0) (qTv ws (qEa ws (qHz ws) F q0) fun l=>.p (qB5 l)):=by
 generalize hR:qEa ws (qHz ws) F q0=R
 rw [qEa] at hR
 refine qAA Tryz.func167 rfl rfl rfl ?_
 have hl:=hg.len
 refine(qQT ws q0 hg hq0).holds.useT [] [] rfl (sk) (sk) fun e0 H0 hq=>?_
 rcases h1:qHz ws q0 with p | ⟨r0,q1⟩
 ·rw [h1] at hq hR
  obtain⟨rfl,rfl⟩:=hq
  refine⟨rfl,_,_,rfl,rfl,?_⟩
  exact⟨[],[],[],qAa ws p,⟨2,[]⟩,rfl,⟨_,rfl,_,_,rfl,rfl,rfl⟩,trivial,by rw [<- hR];exact⟨rfl,rfl⟩⟩
 rw [h1] at hq hR
 obtain⟨q1l,rfl,rfl⟩:=hq
 refine⟨rfl,_,pbH ws q1,rfl,rfl,?_⟩
 simp only [qAH] at hR
 refine⟨List Rf × Nat,fun x=>[(0,cmF),(1,rfF),(5, .sl 2 4 0 x.1.length)],fun x=>⟨3,[(2,qK7 x.1),(0,psO ws x.2),(1,bxO)]⟩,fun x=>x.2<=ws.length/\x.1.length<=x.2/\LI R (fun f=>qCt ws (qHz ws) f x.1 x.2) (ws.length - x.2),fun x=>ws.length - x.2,?_,?_⟩
 ·exact⟨([r0],q1),⟨q1l,by simp only [List.length_singleton];have:=qHJ h1;omega,⟨F,by omega,hR.symm⟩⟩,qAB [] [] [] rfl ⟨⟨rfl,_,_,rfl,⟨_,_,rfl,⟨rfl,rfl⟩,rfl⟩,rfl⟩,⟨rfl,_,_,rfl,rfl,⟨_,_,rfl,⟨rfl,rfl⟩,rfl⟩⟩,rfl,trivial⟩ (sk) rfl⟩
 rintro⟨acc,q⟩ ⟨k1,k2,k3⟩
 simp only [] at k1 k2 k3
 by_cases c1:txt ws q=qAi
 ·have ql:q+1<=ws.length:=qAh (by rw [c1];decide)
  refine(qKg ws q hl k1).holds.useT [] [] rfl (sk) (sk) fun e0 H0 hq=>?_
  obtain⟨rfl,rfl⟩:=hq.1 c1
  refine⟨rfl,_,⟨3,(0,psO ws (q+1))::[(2,qK7 acc),(1,bxO)]⟩,rfl,rfl,?_⟩
  refine(qQT ws (q+1) hg ql).holds.useT [] [] rfl (sk) (sk) fun e0 H0 hq=>?_
  rcases h2:qHz ws (q+1) with p | ⟨r,q2⟩
  ·rw [h2] at hq
   obtain⟨rfl,rfl⟩:=hq
   refine⟨rfl,_,_,rfl,rfl,?_⟩
   have hR:=k3.is (x:=.inl p) fun f=>by rw [qCt,if_pos c1,h2];rfl
   exact⟨[],[],[],qAa ws p,⟨2,[]⟩,rfl,⟨_,rfl,_,_,rfl,rfl,rfl⟩,trivial,by rw [hR];exact⟨rfl,rfl⟩⟩
  rw [h2] at hq
  obtain⟨q2l,rfl,rfl⟩:=hq
  have hlt:=qHJ h2
  refine⟨rfl,_,⟨3,(0,psO ws q2)::(1,bxO)::[(2,qK7 acc)]⟩,rfl,rfl,?_⟩
  refine⟨by show 0+1<=1;omega,[r.cells],rfl,?_⟩
  refine⟨by show 0+acc.length<=(acc.map Rf.cells).length;simp,acc.map Rf.cells,qAD (by simp),by show(acc.length+1) * 48<=140737488355328;omega,(acc++[r]).map Rf.cells,by simp,?_⟩
  exact⟨(acc++[r],q2),⟨q2l,by simp only [qAK];omega,k3.nxt (fun f=>by rw [qCt,if_pos c1,h2];rfl) (by omega)⟩,qAB [] [(2,4)] [] rfl ⟨⟨rfl,_,_,rfl,⟨_,_,rfl,⟨rfl,rfl⟩,rfl⟩,rfl⟩,⟨rfl,_,_,rfl,rfl,⟨_,_,rfl,⟨rfl,rfl⟩,rfl⟩⟩,congrArg (fun k:Nat=>AV.sl 4 4 0 k) (qAK acc r).symm,trivial⟩ (sk) rfl,by show ws.length - q2<ws.length - q;omega⟩
 ·refine(qKg ws q hl k1).holds.useT [] [] rfl (sk) (sk) fun e0 H0 hq=>?_
  obtain⟨rfl,rfl⟩:=hq.2 c1
  refine⟨rfl,_,⟨3,(0,psO ws q)::[(2,qK7 acc),(1,bxO)]⟩,rfl,rfl,?_⟩
  have hR:=k3.is (x:=.inr (acc,q)) fun f=>by rw [qCt,if_neg c1]
  exact⟨[2],[],[], .returned (.p (qB5 acc)),pbH ws q,rfl,⟨_,rfl,⟨_,rfl,by show 0+acc.length<=(acc.map Rf.cells).length;simp,qAD (by simp)⟩⟩,sk,by rw [hR];exact⟨k1,rfl,rfl⟩⟩
theorem qQt {ws:List Wd} (hg:GoodW ws) {q q':Nat} {n:Int} (h:qCT ws q=.inr (n,q')):0<=n/\n<=9999:=by
 rw [qCT] at h
 split at h
 ·rename_i hk
  injection h with h;injection h with h1 h2
  obtain⟨h4,hd⟩:=qIA (qQq hg hk)
  have hv:=qF0 hd _ (Nat.le_refl _)
  rw [qBg (Nat.le_refl _),h1] at hv
  have hp:(10:Int) ^ (txt ws q).length<=10 ^ 4:=by
   rcases (show(txt ws q).length=0∨(txt ws q).length=1∨(txt ws q).length=2∨(txt ws q).length=3∨(txt ws q).length=4 by omega) with e | e | e | e | e <;> rw [e] <;> decide
  have hp4:(10:Int) ^ 4=10000:=by decide
  omega
 ·cases h
theorem qNn (ws:List Wd) (F q0:Nat) (key:List UInt8) (hk:key ≠ []) (hF:ws.length<F) (hg:GoodW ws) (hq0:q0<=ws.length):HoldsG cx 134 [.ptr 0 0 0, .p (.str key)] (psH ws q0) (rdQ ws (qDm ws F key q0) fun l=>.p (qB5 l)):=by
 generalize hR:qDm ws F key q0=R
 rw [qDm] at hR
 refine qAA Tryz.func134 rfl rfl rfl ?_
 have hl:=hg.len
 by_cases c1:txt ws q0=key
 rotate_left
 ·rw [if_neg c1] at hR
  refine(qA7 ws q0 key hl hq0).holds.useT [] [] rfl (sk) (sk) fun e0 H0 hq=>?_
  obtain⟨rfl,rfl⟩:=hq.2 c1
  refine⟨rfl,_,⟨2,(0,psO ws q0)::[(1,bxO)]⟩,rfl,rfl,?_⟩
  exact⟨[],[],[], .returned (.p (qB5 [])),psH ws q0,rfl,⟨_,rfl, .inr (.inr ⟨4,rfl⟩)⟩,sk,by rw [<- hR];exact⟨hq0,rfl,rfl⟩⟩
 rw [if_pos c1] at hR
 have q1l:q0+1<=ws.length:=qAh (by rw [c1];exact hk)
 refine(qA7 ws q0 key hl hq0).holds.useT [] [] rfl (sk) (sk) fun e0 H0 hq=>?_
 obtain⟨rfl,rfl⟩:=hq.1 c1
 refine⟨rfl,_,⟨2,(0,psO ws (q0+1))::[(1,bxO)]⟩,rfl,rfl,?_⟩
 have hc:=qQ8 ws F (q0+1) hF hg q1l
 rw [hR] at hc
 refine hc.holds.useT [] [] rfl (sk) ⟨_,_,rfl,⟨rfl,_,_,rfl,⟨_,_,rfl,⟨rfl,rfl⟩,rfl⟩,rfl⟩,_,_,rfl,⟨rfl,_,_,rfl,rfl,⟨_,_,rfl,⟨rfl,rfl⟩,rfl⟩⟩,rfl⟩ fun e0 H0 hq=>?_
 rcases R with p | ⟨l,q2⟩
 ·obtain⟨rfl,rfl⟩:=hq
  refine⟨rfl,_,_,rfl,rfl,?_⟩
  exact⟨[],[],[],qAa ws p,⟨1,[]⟩,rfl,⟨_,rfl,_,_,rfl,rfl,rfl⟩,trivial,rfl,rfl⟩
 obtain⟨q2l,rfl,rfl⟩:=hq
 refine⟨rfl,_,⟨2,[(0,psO ws q2),(1,bxO)]⟩,rfl,rfl,?_⟩
 exact⟨[],[],[], .returned (.p (qB5 l)),psH ws q2,rfl,sk,sk,q2l,rfl,rfl⟩
theorem qJB (ws:List Wd) (q0:Nat) (hl:ws.length<=1500) (hq0:q0<=ws.length):HoldsG cx 206 [.ptr 0 0 0] (psH ws q0) (rdQ ws (qHR ws q0) fun n=>.p (i64 n)):=by
 generalize hR:qHR ws q0=R
 rw [qHR] at hR
 refine qAA Tryz.func206 rfl rfl rfl ?_
 by_cases c1:txt ws q0=tEq
 ·have q1l:q0<ws.length:=qAh (by rw [c1];decide)
  rw [if_pos c1] at hR
  refine(qA7 ws q0 tEq hl hq0).holds.useT [] [] rfl (sk) (sk) fun e0 H0 hq=>?_
  obtain⟨rfl,rfl⟩:=hq.1 c1
  refine⟨rfl,_,⟨1,(0,psO ws (q0+1))::[]⟩,rfl,rfl,?_⟩
  exact⟨[],[],[], .returned (.p (i64 1)),psH ws (q0+1),rfl,sk,sk,by rw [<- hR];exact⟨by omega,rfl,rfl⟩⟩
 rw [if_neg c1] at hR
 refine(qA7 ws q0 tEq hl hq0).holds.useT [] [] rfl (sk) (sk) fun e0 H0 hq=>?_
 obtain⟨rfl,rfl⟩:=hq.2 c1
 refine⟨rfl,_,⟨1,(0,psO ws q0)::[]⟩,rfl,rfl,?_⟩
 by_cases c2:txt ws q0=tNe
 ·have q1l:q0<ws.length:=qAh (by rw [c2];decide)
  rw [if_pos c2] at hR
  refine(qA7 ws q0 tNe hl hq0).holds.useT [] [] rfl (sk) (sk) fun e0 H0 hq=>?_
  obtain⟨rfl,rfl⟩:=hq.1 c2
  refine⟨rfl,_,⟨1,(0,psO ws (q0+1))::[]⟩,rfl,rfl,?_⟩
  exact⟨[],[],[], .returned (.p (i64 2)),psH ws (q0+1),rfl,sk,sk,by rw [<- hR];exact⟨by omega,rfl,rfl⟩⟩
 rw [if_neg c2] at hR
 refine(qA7 ws q0 tNe hl hq0).holds.useT [] [] rfl (sk) (sk) fun e0 H0 hq=>?_
 obtain⟨rfl,rfl⟩:=hq.2 c2
 refine⟨rfl,_,⟨1,(0,psO ws q0)::[]⟩,rfl,rfl,?_⟩
 by_cases c3:txt ws q0=tLt
 ·have q1l:q0<ws.length:=qAh (by rw [c3];decide)
  rw [if_pos c3] at hR
  refine(qA7 ws q0 tLt hl hq0).holds.useT [] [] rfl (sk) (sk) fun e0 H0 hq=>?_
  obtain⟨rfl,rfl⟩:=hq.1 c3
  refine⟨rfl,_,⟨1,(0,psO ws (q0+1))::[]⟩,rfl,rfl,?_⟩
  exact⟨[],[],[], .returned (.p (i64 3)),psH ws (q0+1),rfl,sk,sk,by rw [<- hR];exact⟨by omega,rfl,rfl⟩⟩
 rw [if_neg c3] at hR
 refine(qA7 ws q0 tLt hl hq0).holds.useT [] [] rfl (sk) (sk) fun e0 H0 hq=>?_
 obtain⟨rfl,rfl⟩:=hq.2 c3
 refine⟨rfl,_,⟨1,(0,psO ws q0)::[]⟩,rfl,rfl,?_⟩
 by_cases c4:txt ws q0=tLe
 ·have q1l:q0<ws.length:=qAh (by rw [c4];decide)
  rw [if_pos c4] at hR
  refine(qA7 ws q0 tLe hl hq0).holds.useT [] [] rfl (sk) (sk) fun e0 H0 hq=>?_
  obtain⟨rfl,rfl⟩:=hq.1 c4
  refine⟨rfl,_,⟨1,(0,psO ws (q0+1))::[]⟩,rfl,rfl,?_⟩
  exact⟨[],[],[], .returned (.p (i64 4)),psH ws (q0+1),rfl,sk,sk,by rw [<- hR];exact⟨by omega,rfl,rfl⟩⟩
 rw [if_neg c4] at hR
 refine(qA7 ws q0 tLe hl hq0).holds.useT [] [] rfl (sk) (sk) fun e0 H0 hq=>?_
 obtain⟨rfl,rfl⟩:=hq.2 c4
 refine⟨rfl,_,⟨1,(0,psO ws q0)::[]⟩,rfl,rfl,?_⟩
 refine(qLd ws q0 hl hq0).holds.useT [] [] rfl (sk) (sk) fun e0 H0 hq=>?_
 obtain⟨rfl,rfl⟩:=hq
 refine⟨rfl,_,⟨1,(0,psO ws q0)::[]⟩,rfl,rfl,?_⟩
 exact⟨[],[],[],qAa ws q0,⟨1,[]⟩,rfl,⟨_,rfl,_,_,rfl,rfl,rfl⟩,trivial,by rw [<- hR];exact⟨rfl,rfl⟩⟩
def moQ (ws:List Wd) (q:Nat) (e:AE) (H':Hp):Prop:=((txt ws q=qAn∨knd ws q=3)->e=.returned (vB true)/\H'=pbH ws q)/\(¬ (txt ws q=qAn∨knd ws q=3)->e=.returned (vB false)/\H'=pbH ws q)
theorem qJM (ws:List Wd) (q0:Nat) (hl:ws.length<=1500) (hq0:q0<=ws.length):HoldsG cx 191 [.ptr 1 0 0] (pbH ws q0) (moQ ws q0):=by
 refine qAA Tryz.func191 rfl rfl rfl ?_
 refine(qNW ws q0 hl hq0).holds.useT [] [] rfl (sk) (sk) fun e0 H0 hq=>?_
 obtain⟨rfl,rfl⟩:=hq
 refine⟨rfl,_,⟨2,(0,psO ws q0)::[(1,bxO)]⟩,rfl,rfl,?_⟩
 refine QAD (fun c1=>?_) (fun c1=>?_)
 ·have c1:txt ws q0=qAn:=c1
  exact⟨[],[],[], .returned (vB true),pbH ws q0,rfl,sk,sk,fun _=>⟨rfl,rfl⟩,fun h=>absurd (.inl c1) h⟩
 have c1:¬ txt ws q0=qAn:=c1
 refine(qOH ws q0 hl hq0).holds.useT [] [] rfl (sk) (sk) fun e0 H0 hq=>?_
 obtain⟨rfl,rfl⟩:=hq
 refine⟨rfl,_,⟨2,(0,psO ws q0)::[(1,bxO)]⟩,rfl,rfl,?_⟩
 refine QAD (fun c2=>?_) (fun c2=>?_)
 ·have c2:knd ws q0=3:=c2
  exact⟨[],[],[], .returned (vB true),pbH ws q0,rfl,sk,sk,fun _=>⟨rfl,rfl⟩,fun h=>absurd (.inr c2) h⟩
 have c2:¬ knd ws q0=3:=c2
 exact⟨[],[],[], .returned (vB false),pbH ws q0,rfl,sk,sk,fun h=>absurd h (not_or.2 ⟨c1,c2⟩),fun _=>⟨rfl,rfl⟩⟩
theorem qJL (ws:List Wd) (q0:Nat) (hg:GoodW ws) (hq0:q0<=ws.length):HoldsG cx 193 [.ptr 1 0 0] (pbH ws q0) (qTv ws (qIM ws q0) fun n=>.p (i64 n)):=by
 generalize hR:qIM ws q0=R
 rw [qIM] at hR
 have hl:=hg.len
 refine qAA Tryz.func193 rfl rfl rfl ?_
 by_cases c1:txt ws q0=qAn
 ·have q1l:q0+1<=ws.length:=qAh (by rw [c1];decide)
  rw [if_pos c1] at hR
  refine(qA7 ws q0 qAn hl hq0).holds.useT [] [] rfl (sk) (sk) fun e0 H0 hq=>?_
  obtain⟨rfl,rfl⟩:=hq.1 c1
  refine⟨rfl,_,⟨2,(0,psO ws (q0+1))::[(1,bxO)]⟩,rfl,rfl,?_⟩
  refine(qB0 ws (q0+1) hg q1l).holds.useT [] [] rfl (sk) (sk) fun e0 H0 hq=>?_
  rcases h1:qCT ws (q0+1) with p | ⟨n,q2⟩
  ·rw [h1] at hq hR
   obtain⟨rfl,rfl⟩:=hq
   refine⟨rfl,_,_,rfl,rfl,?_⟩
   exact⟨[],[],[],qAa ws p,⟨2,[]⟩,rfl,⟨_,rfl,_,_,rfl,rfl,rfl⟩,trivial,by rw [<- hR];exact⟨rfl,rfl⟩⟩
  have hb:=qQt hg h1
  rw [h1] at hq hR
  obtain⟨q2l,rfl,rfl⟩:=hq
  refine⟨rfl,_,⟨2,(0,psO ws q2)::[(1,bxO)]⟩,rfl,rfl,?_⟩
  refine⟨-n,by show _=IntKind.i64.wrap (0 - n);rw [Int.zero_sub];exact w6z,?_⟩
  exact⟨[],[],[], .returned (.p (i64 (-n))),pbH ws q2,rfl,sk,sk,by rw [<- hR];exact⟨q2l,rfl,rfl⟩⟩
 rw [if_neg c1] at hR
 refine(qA7 ws q0 qAn hl hq0).holds.useT [] [] rfl (sk) (sk) fun e0 H0 hq=>?_
 obtain⟨rfl,rfl⟩:=hq.2 c1
 refine⟨rfl,_,⟨2,(0,psO ws q0)::[(1,bxO)]⟩,rfl,rfl,?_⟩
 refine(qB0 ws q0 hg hq0).holds.useT [] [] rfl (sk) (sk) fun e0 H0 hq=>?_
 rw [hR] at hq
 rcases R with p | ⟨n,q2⟩
 ·obtain⟨rfl,rfl⟩:=hq
  refine⟨rfl,_,_,rfl,rfl,?_⟩
  exact⟨[],[],[],qAa ws p,⟨2,[]⟩,rfl,⟨_,rfl,_,_,rfl,rfl,rfl⟩,trivial,rfl,rfl⟩
 obtain⟨q2l,rfl,rfl⟩:=hq
 refine⟨rfl,_,⟨2,(0,psO ws q2)::[(1,bxO)]⟩,rfl,rfl,?_⟩
 exact⟨[],[],[], .returned (.p (i64 n)),pbH ws q2,rfl,sk,sk,q2l,rfl,rfl⟩
theorem int_lt {ws:List Wd} {q q':Nat} {n:Int} (h:qIM ws q=.inr (n,q')):q<q':=by
 rw [qIM] at h
 split at h
 ·obtain⟨m,q2,h2,h⟩:=then_ok h
  have:=qCb h2
  injection h with h;injection h with h3 h4;omega
 ·exact qCb h
def iO (l:List Int):AObj:=⟨qVr,false, .pu (l.map i64)⟩
def nmF:AV:=.fn (.func 191) [] [.ptr 1 0 0]
def nrF:AV:=.fn (.func 193) [] [.ptr 1 0 0]
def nbF:AV:=.fn (.func 131) [.ptr 0 0 0] []
theorem qPI (ws:List Wd) (F q0:Nat) (hF:ws.length<F) (hg:GoodW ws) (hq0:q0<=ws.length):HoldsG cx 192 [nmF,nrF] (pbH ws q0) (qTv ws (qDL ws F q0) fun l=>.p (ints l)):=by
 generalize hR:qDL ws F q0=R
 rw [qDL] at hR
 refine qAA Tryz.func192 rfl rfl rfl ?_
 have hl:=hg.len
 refine(qJL ws q0 hg hq0).holds.useT [] [] rfl (sk) (sk) fun e0 H0 hq=>?_
 rcases h1:qIM ws q0 with p | ⟨n0,q1⟩
 ·rw [h1] at hq hR
  obtain⟨rfl,rfl⟩:=hq
  refine⟨rfl,_,_,rfl,rfl,?_⟩
  exact⟨[],[],[],qAa ws p,⟨2,[]⟩,rfl,⟨_,rfl,_,_,rfl,rfl,rfl⟩,trivial,by rw [<- hR];exact⟨rfl,rfl⟩⟩
 rw [h1] at hq hR
 obtain⟨q1l,rfl,rfl⟩:=hq
 refine⟨rfl,_,pbH ws q1,rfl,rfl,?_⟩
 simp only [qAH] at hR
 refine⟨List Int × Nat,fun x=>[(0,nmF),(1,nrF),(5, .sl 2 1 0 x.1.length)],fun x=>⟨3,[(2,iO x.1),(0,psO ws x.2),(1,bxO)]⟩,fun x=>x.2<=ws.length/\x.1.length<=x.2/\LI R (fun f=>qC4 ws f x.1 x.2) (ws.length - x.2),fun x=>ws.length - x.2,?_,?_⟩
 ·exact⟨([n0],q1),⟨q1l,by simp only [List.length_singleton];have:=int_lt h1;omega,⟨F,by omega,hR.symm⟩⟩,qAB [] [] [] rfl ⟨⟨rfl,_,_,rfl,rfl,⟨_,_,rfl,⟨rfl,rfl⟩,rfl⟩⟩,⟨rfl,_,_,rfl,rfl,⟨_,_,rfl,⟨rfl,rfl⟩,rfl⟩⟩,rfl,trivial⟩ (sk) rfl⟩
 rintro⟨acc,q⟩ ⟨k1,k2,k3⟩
 simp only [] at k1 k2 k3
 by_cases c1:txt ws q=qAn∨knd ws q=3
 ·have ql:q<=ws.length:=k1
  refine(qJM ws q hl k1).holds.useT [] [] rfl (sk) (sk) fun e0 H0 hq=>?_
  obtain⟨rfl,rfl⟩:=hq.1 c1
  refine⟨rfl,_,⟨3,[(0,psO ws q),(1,bxO),(2,iO acc)]⟩,rfl,rfl,?_⟩
  refine(qJL ws q hg ql).holds.useT [] [] rfl (sk) (sk) fun e0 H0 hq=>?_
  rcases h2:qIM ws q with p | ⟨n,q2⟩
  ·rw [h2] at hq
   obtain⟨rfl,rfl⟩:=hq
   refine⟨rfl,_,_,rfl,rfl,?_⟩
   have hR:=k3.is (x:=.inl p) fun f=>by rw [qC4,if_pos c1,h2];rfl
   exact⟨[],[],[],qAa ws p,⟨2,[]⟩,rfl,⟨_,rfl,_,_,rfl,rfl,rfl⟩,trivial,by rw [hR];exact⟨rfl,rfl⟩⟩
  rw [h2] at hq
  obtain⟨q2l,rfl,rfl⟩:=hq
  have hlt:=int_lt h2
  refine⟨rfl,_,⟨3,(0,psO ws q2)::(1,bxO)::[(2,iO acc)]⟩,rfl,rfl,?_⟩
  refine⟨by show 0+1<=1;omega,[i64 n],rfl,?_⟩
  refine⟨by show 0+acc.length<=(acc.map i64).length;simp,acc.map i64,qAD (by simp),by show(acc.length+1) * 8<=140737488355328;omega,(acc++[n]).map i64,by simp,?_⟩
  exact⟨(acc++[n],q2),⟨q2l,by simp only [qAK];omega,k3.nxt (fun f=>by rw [qC4,if_pos c1,h2];rfl) (by omega)⟩,qAB [] [(2,4)] [] rfl ⟨⟨rfl,_,_,rfl,rfl,⟨_,_,rfl,⟨rfl,rfl⟩,rfl⟩⟩,⟨rfl,_,_,rfl,rfl,⟨_,_,rfl,⟨rfl,rfl⟩,rfl⟩⟩,congrArg (fun k:Nat=>AV.sl 4 1 0 k) (qAK acc n).symm,trivial⟩ (sk) rfl,by show ws.length - q2<ws.length - q;omega⟩
 ·refine(qJM ws q hl k1).holds.useT [] [] rfl (sk) (sk) fun e0 H0 hq=>?_
  obtain⟨rfl,rfl⟩:=hq.2 c1
  refine⟨rfl,_,⟨3,[(0,psO ws q),(1,bxO),(2,iO acc)]⟩,rfl,rfl,?_⟩
  have hR:=k3.is (x:=.inr (acc,q)) fun f=>by rw [qC4,if_neg c1]
  exact⟨[2],[],[], .returned (.p (ints acc)),pbH ws q,rfl,⟨_,rfl,⟨_,rfl,by show 0+acc.length<=(acc.map i64).length;simp,qAD (by simp)⟩⟩,sk,by rw [hR];exact⟨k1,rfl,rfl⟩⟩
def qYa (ws:List Wd) (r:Rd (List Int)) (e:AE) (H':Hp):Prop:=match r with
 | .inl p=>e=qAa ws p/\H'=⟨1,[]⟩
 | .inr (l,q)=>(q<=ws.length/\l.length<=q)/\e=.returned (.sl 1 1 0 l.length)/\H'=⟨2,[(1,iO l),(0,psO ws q)]⟩
theorem qMf (ws:List Wd) (F q0:Nat) (hF:ws.length - q0<F) (hg:GoodW ws) (hq0:q0<=ws.length):HoldsG cx 192 [cmF,nbF] (psH ws q0) (qYa ws (qEa ws (qCT ws) F q0)):=by
 generalize hR:qEa ws (qCT ws) F q0=R
 rw [qEa] at hR
 refine qAA Tryz.func192 rfl rfl rfl ?_
 have hl:=hg.len
 refine(qB0 ws q0 hg hq0).holds.useT [] [] rfl (sk) (sk) fun e0 H0 hq=>?_
 rcases h1:qCT ws q0 with p | ⟨n0,q1⟩
 ·rw [h1] at hq hR
  obtain⟨rfl,rfl⟩:=hq
  refine⟨rfl,_,_,rfl,rfl,?_⟩
  exact⟨[],[],[],qAa ws p,⟨1,[]⟩,rfl,⟨_,rfl,_,_,rfl,rfl,rfl⟩,trivial,by rw [<- hR];exact⟨rfl,rfl⟩⟩
 rw [h1] at hq hR
 obtain⟨q1l,rfl,rfl⟩:=hq
 refine⟨rfl,_,psH ws q1,rfl,rfl,?_⟩
 simp only [qAH] at hR
 refine⟨List Int × Nat,fun x=>[(0,cmF),(1,nbF),(5, .sl 1 1 0 x.1.length)],fun x=>⟨2,[(1,iO x.1),(0,psO ws x.2)]⟩,fun x=>x.2<=ws.length/\x.1.length<=x.2/\LI R (fun f=>qCt ws (qCT ws) f x.1 x.2) (ws.length - x.2),fun x=>ws.length - x.2,?_,?_⟩
 ·exact⟨([n0],q1),⟨q1l,by simp only [List.length_singleton];have:=qCb h1;omega,⟨F,by show ws.length - q1<F;have:=qCb h1;omega,hR.symm⟩⟩,qAB [] [] [] rfl ⟨⟨rfl,_,_,rfl,⟨_,_,rfl,⟨rfl,rfl⟩,rfl⟩,rfl⟩,⟨rfl,_,_,rfl,⟨_,_,rfl,⟨rfl,rfl⟩,rfl⟩,rfl⟩,rfl,trivial⟩ (sk) rfl⟩
 rintro⟨acc,q⟩ ⟨k1,k2,k3⟩
 simp only [] at k1 k2 k3
 by_cases c1:txt ws q=qAi
 ·have ql:q+1<=ws.length:=qAh (by rw [c1];decide)
  refine(qKg ws q hl k1).holds.useT [] [] rfl (sk) (sk) fun e0 H0 hq=>?_
  obtain⟨rfl,rfl⟩:=hq.1 c1
  refine⟨rfl,_,⟨2,(0,psO ws (q+1))::[(1,iO acc)]⟩,rfl,rfl,?_⟩
  refine(qB0 ws (q+1) hg ql).holds.useT [] [] rfl (sk) (sk) fun e0 H0 hq=>?_
  rcases h2:qCT ws (q+1) with p | ⟨n,q2⟩
  ·rw [h2] at hq
   obtain⟨rfl,rfl⟩:=hq
   refine⟨rfl,_,_,rfl,rfl,?_⟩
   have hR:=k3.is (x:=.inl p) fun f=>by rw [qCt,if_pos c1,h2];rfl
   exact⟨[],[],[],qAa ws p,⟨1,[]⟩,rfl,⟨_,rfl,_,_,rfl,rfl,rfl⟩,trivial,by rw [hR];exact⟨rfl,rfl⟩⟩
  rw [h2] at hq
  obtain⟨q2l,rfl,rfl⟩:=hq
  have hlt:=qCb h2
  refine⟨rfl,_,⟨2,(0,psO ws q2)::[(1,iO acc)]⟩,rfl,rfl,?_⟩
  refine⟨by show 0+1<=1;omega,[i64 n],rfl,?_⟩
  refine⟨by show 0+acc.length<=(acc.map i64).length;simp,acc.map i64,qAD (by simp),by show(acc.length+1) * 8<=140737488355328;omega,(acc++[n]).map i64,by simp,?_⟩
  exact⟨(acc++[n],q2),⟨q2l,by simp only [qAK];omega,k3.nxt (fun f=>by rw [qCt,if_pos c1,h2];rfl) (by omega)⟩,qAB [] [(1,3)] [] rfl ⟨⟨rfl,_,_,rfl,⟨_,_,rfl,⟨rfl,rfl⟩,rfl⟩,rfl⟩,⟨rfl,_,_,rfl,⟨_,_,rfl,⟨rfl,rfl⟩,rfl⟩,rfl⟩,congrArg (fun k:Nat=>AV.sl 3 1 0 k) (qAK acc n).symm,trivial⟩ (sk) rfl,by show ws.length - q2<ws.length - q;omega⟩
 ·refine(qKg ws q hl k1).holds.useT [] [] rfl (sk) (sk) fun e0 H0 hq=>?_
  obtain⟨rfl,rfl⟩:=hq.2 c1
  refine⟨rfl,_,⟨2,(0,psO ws q)::[(1,iO acc)]⟩,rfl,rfl,?_⟩
  have hR:=k3.is (x:=.inr (acc,q)) fun f=>by rw [qCt,if_neg c1]
  exact⟨[],[],[], .returned (.sl 1 1 0 acc.length),⟨2,[(1,iO acc),(0,psO ws q)]⟩,rfl,⟨_,rfl,rfl⟩,sk,by rw [hR];exact⟨⟨k1,k2⟩,rfl,rfl⟩⟩
theorem qLG (ws:List Wd) (F q0:Nat) (hF:ws.length<F) (hg:GoodW ws) (hq0:q0<=ws.length):HoldsG cx 172 [.ptr 0 0 0] (psH ws q0) (rdQ ws (qDL ws F q0) fun l=>.p (ints l)):=by
 have hc:=qPI ws F q0 hF hg hq0
 generalize qDL ws F q0=R at hc ⊢
 refine qAA Tryz.func172 rfl rfl rfl ?_
 refine hc.holds.useT [] [] rfl (sk) ⟨_,_,rfl,⟨rfl,_,_,rfl,rfl,⟨_,_,rfl,⟨rfl,rfl⟩,rfl⟩⟩,_,_,rfl,⟨rfl,_,_,rfl,rfl,⟨_,_,rfl,⟨rfl,rfl⟩,rfl⟩⟩,rfl⟩ fun e0 H0 hq=>?_
 rcases R with p | ⟨l,q2⟩
 ·obtain⟨rfl,rfl⟩:=hq
  refine⟨rfl,_,_,rfl,rfl,?_⟩
  exact⟨[],[],[],qAa ws p,⟨1,[]⟩,rfl,⟨_,rfl,_,_,rfl,rfl,rfl⟩,trivial,rfl,rfl⟩
 obtain⟨q2l,rfl,rfl⟩:=hq
 refine⟨rfl,_,⟨2,[(0,psO ws q2),(1,bxO)]⟩,rfl,rfl,?_⟩
 exact⟨[],[],[], .returned (.p (ints l)),psH ws q2,rfl,sk,sk,q2l,rfl,rfl⟩
theorem qF7 {α:Type} {P:List α->Prop} (h0:P []) (h1:∀ l x,P l->P (l++[x])) (l:List α):P l:=by
 rw [<- List.reverse_reverse l]
 induction l.reverse with
 | nil=>exact h0
 | cons x r ih=>rw [List.reverse_cons];exact h1 _ x ih
def qIj (acc:List Int) (x:Int):List Int:=if acc.getLast?=some x then acc else acc++[x]
def qFE (l:List Int):List Int:=l.foldl qIj []
theorem qGP (l:List Int) (x:Int):qFE (l++[x])=qIj (qFE l) x:=by rw [qFE,qFE,List.foldl_append];rfl
theorem qP7 (acc:List Int) (x:Int):(qIj acc x).getLast?=some x:=by
 unfold qIj
 split
 ·assumption
 ·rw [List.getLast?_append];rfl
theorem qSW (acc:List Int) (x y:Int):y∈qIj acc x ↔ y∈acc∨y=x:=by
 unfold qIj
 split
 ·rename_i h
  constructor
  ·exact .inl
  ·rintro (h1 | rfl)
   ·exact h1
   ·exact List.mem_of_getLast? h
 ·rw [List.mem_append,List.mem_singleton]
theorem qOY:∀ l:List Int,l ≠ []->(qFE l).getLast?=l.getLast?:=by
 refine qF7 (fun h=>absurd rfl h) fun l x _ _=>?_
 rw [qGP,qP7,List.getLast?_append];rfl
theorem qM7 (l:List Int) (y:Int):y∈qFE l ↔ y∈l:=by
 refine qF7 (P:=fun l=>y∈qFE l ↔ y∈l) Iff.rfl (fun l x ih=>?_) l
 rw [qGP,qSW,ih,List.mem_append,List.mem_singleton]
def Inc (l:List Int):Prop:=l.Pairwise (· < ·)
theorem qS8 {l:List Int} {x:Int} (h:Inc l) (hx:∀ y∈l,y<x):Inc (l++[x]):=by
 rw [Inc,List.pairwise_append]
 exact⟨h,List.pairwise_singleton _ _,fun a ha b hb=>by rw [List.mem_singleton.1 hb];exact hx a ha⟩
theorem qS9:∀ {l:List Int},Inc l->∀ {z:Int},l.getLast?=some z->∀ y∈l,y<=z:=by
 intro l
 refine qF7 (P:=fun l=>Inc l->∀ {z:Int},l.getLast?=some z->∀ y∈l,y<=z) (fun _ z _ y hy=>by simp at hy) (fun l x _ h z hz y hy=>?_) l
 rw [List.getLast?_append] at hz
 have hz:x=z:=by simpa using hz
 subst hz
 rw [Inc,List.pairwise_append] at h
 rcases List.mem_append.1 hy with hy | hy
 ·have:=h.2.2 y hy x (List.mem_singleton.2 rfl)
  exact Int.le_of_lt this
 ·rw [List.mem_singleton.1 hy];exact Int.le_refl _
theorem qVf (l:List Int):l.Pairwise (·<=·)->Inc (qFE l):=by
 refine qF7 (P:=fun l=>l.Pairwise (·<=·)->Inc (qFE l)) (fun _=>List.Pairwise.nil) (fun l x ih h=>?_) l
 rw [List.pairwise_append] at h
 have ih:=ih h.1
 rw [qGP]
 unfold qIj
 split
 ·exact ih
 ·rename_i hne
  refine qS8 ih fun y hy=>?_
  have hyl:=(qM7 l y).1 hy
  have hyx:=h.2.2 y hyl x (List.mem_singleton.2 rfl)
  rcases Int.lt_or_eq_of_le hyx with h1 | h1
  ·exact h1
  ·exfalso
   have hl:l ≠ []:=fun e=>by rw [e] at hyl;simp at hyl
   obtain⟨z,hz⟩:∃ z,(qFE l).getLast?=some z:=by
    rw [qOY l hl]
    exact⟨_,List.getLast?_eq_some_getLast hl⟩
   have h2:=qS9 ih hz y hy
   have hzl:z∈l:=(qM7 l z).1 (List.mem_of_getLast? hz)
   have h3:=h.2.2 z hzl x (List.mem_singleton.2 rfl)
   exact hne (by rw [hz];congr 1;omega)
theorem qRM (l:List Int) (n y:Int):y∈qIN l n ↔ y=n∨y∈l:=by
 induction l with
 | nil=>simp [qIN]
 | cons x l ih=>
  rw [qIN]
  split
  ·simp
  ·split
   ·rename_i h;subst h;simp
   ·rw [List.mem_cons,ih,List.mem_cons]
    constructor
    ·rintro (h | h | h) <;> simp [h]
    ·rintro (h | h | h) <;> simp [h]
theorem qRO (l:List Int) (n:Int) (h:Inc l):Inc (qIN l n):=by
 induction l with
 | nil=>exact List.pairwise_singleton _ _
 | cons x l ih=>
  rw [Inc,List.pairwise_cons] at h
  rw [qIN]
  split
  ·rename_i hn
   rw [Inc,List.pairwise_cons]
   refine⟨fun y hy=>?_,List.pairwise_cons.2 h⟩
   rcases List.mem_cons.1 hy with rfl | hy
   ·exact hn
   ·have:=h.1 y hy;omega
  ·split
   ·exact List.pairwise_cons.2 h
   ·rw [Inc,List.pairwise_cons]
    refine⟨fun y hy=>?_,ih h.2⟩
    rcases (qRM l n y).1 hy with rfl | hy
    ·omega
    ·exact h.1 y hy
theorem qJ3:∀ (l acc:List Int),Inc acc->Inc (l.foldl qIN acc)/\∀ y,y∈l.foldl qIN acc ↔ y∈acc∨y∈l
 | [],acc,h=>⟨h,fun y=>by simp⟩
 | x::l,acc,h=>by
  obtain⟨h1,h2⟩:=qJ3 l (qIN acc x) (qRO acc x h)
  refine⟨h1,fun y=>?_⟩
  rw [List.foldl_cons,h2,qRM,List.mem_cons]
  constructor
  ·rintro ((h | h) | h) <;> simp [h]
  ·rintro (h | h | h) <;> simp [h]
theorem qMt:∀ {a b:List Int},Inc a->Inc b->(∀ y,y∈a ↔ y∈b)->a=b
 | [],[],_,_,_=>rfl
 | [],y::b,_,_,h=>by have:=(h y).2 (by simp);simp at this
 | x::a,[],_,_,h=>by have:=(h x).1 (by simp);simp at this
 | x::a,y::b,ha,hb,h=>by
  rw [Inc,List.pairwise_cons] at ha hb
  have hxy:x=y:=by
   have h1:=(h x).1 (by simp)
   have h2:=(h y).2 (by simp)
   rcases List.mem_cons.1 h1 with h1 | h1
   ·exact h1
   ·rcases List.mem_cons.1 h2 with h2 | h2
    ·exact h2.symm
    ·have:=hb.1 x h1
     have:=ha.1 y h2
     omega
  subst hxy
  have:a=b:=qMt ha.2 hb.2 fun z=>by
   constructor
   ·intro hz
    have h1:=(h z).1 (by simp [hz])
    rcases List.mem_cons.1 h1 with rfl | h1
    ·exact absurd (ha.1 z hz) (Int.lt_irrefl z)
    ·exact h1
   ·intro hz
    have h1:=(h z).2 (by simp [hz])
    rcases List.mem_cons.1 h1 with rfl | h1
    ·exact absurd (hb.1 z hz) (Int.lt_irrefl z)
    ·exact h1
  rw [this]
theorem qOx {l s:List Int} (hp:s.Perm l) (hs:s.Pairwise (·<=·)):qFE s=qOy l:=by
 have h1:=qJ3 l [] List.Pairwise.nil
 refine qMt (qVf s hs) h1.1 fun y=>?_
 rw [qM7,qOy,h1.2,hp.mem_iff]
 simp
theorem qSX (acc:List Int) (x:Int):(qIj acc x).length<=acc.length+1:=by
 unfold qIj
 split <;> simp
theorem qRu (l:List Int):(qFE l).length<=l.length:=by
 refine qF7 (P:=fun l=>(qFE l).length<=l.length) (Nat.le_refl _) (fun l x ih=>?_) l
 rw [qGP]
 have:=qSX (qFE l) x
 simp only [List.length_append,List.length_singleton];omega
end Go.Proofs.YtohfoaplnjcihaaGreatDoor
namespace Go.Proofs
open Go.Shelf
def Tryz.lays189_ren:Go.Shelf.Ren:=⟨fun | 189=>207 | 125=>212 | 257=>211 | 128=>222 | 129=>198 | 294=>213 | 295=>214 | 296=>215 | 297=>216 | 298=>217 | 299=>218 | 216=>219 | 300=>220 | 301=>221 | 328=>223 | 329=>224 | 330=>225 | 331=>226 | 332=>227 | 215=>228 | 343=>229 | n=>n,fun | 28=>34 | 3=>3 | 46=>144 | 0=>0 | 51=>187 | 53=>190 | 4=>4 | 183=>257 | 182=>256 | 131=>166 | 5=>5 | 9=>9 | 218=>263 | 222=>205 | 228=>268 | 229=>168 | n=>n,fun | n=>n⟩
theorem Tryz.lays189:Go.Proofs.Lays.n189 Tryz.prog Tryz.lays189_ren:={
 mixed:=by kernel_rfl
 f125:=Tryz.func212.trans (congrArg some (by kernel_rfl))
 f128:=Tryz.func222.trans (congrArg some (by kernel_rfl))
 f129:=Tryz.func198.trans (congrArg some (by kernel_rfl))
 f189:=Tryz.func207.trans (congrArg some (by kernel_rfl))
 f215:=Tryz.func228.trans (congrArg some (by kernel_rfl))
 f216:=Tryz.func219.trans (congrArg some (by kernel_rfl))
 f257:=Tryz.func211.trans (congrArg some (by kernel_rfl))
 f294:=Tryz.func213.trans (congrArg some (by kernel_rfl))
 f295:=Tryz.func214.trans (congrArg some (by kernel_rfl))
 f296:=Tryz.func215.trans (congrArg some (by kernel_rfl))
 f297:=Tryz.func216.trans (congrArg some (by kernel_rfl))
 f298:=Tryz.func217.trans (congrArg some (by kernel_rfl))
 f299:=Tryz.func218.trans (congrArg some (by kernel_rfl))
 f300:=Tryz.func220.trans (congrArg some (by kernel_rfl))
 f301:=Tryz.func221.trans (congrArg some (by kernel_rfl))
 f328:=Tryz.func223.trans (congrArg some (by kernel_rfl))
 f329:=Tryz.func224.trans (congrArg some (by kernel_rfl))
 f330:=Tryz.func225.trans (congrArg some (by kernel_rfl))
 f331:=Tryz.func226.trans (congrArg some (by kernel_rfl))
 f332:=Tryz.func227.trans (congrArg some (by kernel_rfl))
 f343:=Tryz.func229.trans (congrArg some (by kernel_rfl))
 t0:=Tryz.underlying0
 a0:=Tryz.isAgg0
 z0:=Tryz.sizeOf0
 v0:=Tryz.zeroValue0
 t3:=Tryz.underlying3
 a3:=Tryz.isAgg3
 z3:=Tryz.sizeOf3
 v3:=Tryz.zeroValue3
 t4:=Tryz.underlying4
 a4:=Tryz.isAgg4
 z4:=Tryz.sizeOf4
 v4:=Tryz.zeroValue4
 t5:=Tryz.underlying5
 a5:=Tryz.isAgg5
 z5:=Tryz.sizeOf5
 v5:=Tryz.zeroValue5
 t9:=Tryz.underlying9
 a9:=Tryz.isAgg9
 z9:=Tryz.sizeOf9
 v9:=Tryz.zeroValue9
 t28:=Tryz.underlying34
 a28:=Tryz.isAgg34
 z28:=Tryz.sizeOf34
 v28:=Tryz.zeroValue34
 t46:=Tryz.underlying144
 a46:=Tryz.isAgg144
 z46:=Tryz.sizeOf144
 v46:=Tryz.zeroValue144
 t51:=Tryz.underlying187
 a51:=Tryz.isAgg187
 z51:=Tryz.sizeOf187
 v51:=Tryz.zeroValue187
 t53:=Tryz.underlying190
 a53:=Tryz.isAgg190
 z53:=Tryz.sizeOf190
 v53:=Tryz.zeroValue190
 t131:=Tryz.underlying166
 a131:=Tryz.isAgg166
 z131:=Tryz.sizeOf166
 v131:=Tryz.zeroValue166
 t182:=Tryz.underlying256
 a182:=Tryz.isAgg256
 z182:=Tryz.sizeOf256
 v182:=Tryz.zeroValue256
 t183:=Tryz.underlying257
 a183:=Tryz.isAgg257
 z183:=Tryz.sizeOf257
 v183:=Tryz.zeroValue257
 t218:=Tryz.underlying263
 a218:=Tryz.isAgg263
 z218:=Tryz.sizeOf263
 v218:=Tryz.zeroValue263
 t222:=Tryz.underlying205
 a222:=Tryz.isAgg205
 z222:=Tryz.sizeOf205
 v222:=Tryz.zeroValue205
 t228:=Tryz.underlying268
 a228:=Tryz.isAgg268
 z228:=Tryz.sizeOf268
 v228:=Tryz.zeroValue268
 t229:=Tryz.underlying168
 a229:=Tryz.isAgg168
 z229:=Tryz.sizeOf168
 v229:=Tryz.zeroValue168 }
open Go.Sort Go.RowKit in
theorem Tryz.slices_Sort_int (blk off cap:Nat) (zs:List Int) (w:World) (hH:Holds (Value.int .i64) w blk off zs.toArray) (hblk:blk<w.heap.size) (hsz:zs.length<4611686018427387904) :
  Calls Tryz.prog 207 #[.slice (some ⟨blk,off,none⟩) zs.length cap] w fun e w'=>
   e=.returned (.tuple #[])/\∃ n os,w'=grow (putRow (Value.int .i64) (Sort.ahead w n) blk off (zs.mergeSort fun x y=>decide (x<=y)).toArray) os:=Any.slices_Sort_int Tryz.lays189 blk off cap zs w hH hblk hsz
def Tryz.laysNm220_ren:Go.Shelf.Ren:=⟨fun | 20=>208 | n=>n,fun | 22=>34 | 3=>3 | 4=>4 | 0=>0 | n=>n,fun | n=>n⟩
theorem Tryz.laysNm220:Go.Proofs.Lays2.n20 Tryz.prog Tryz.laysNm220_ren:={
 mixed:=by kernel_rfl
 f20:=Tryz.func208.trans (congrArg some (by kernel_rfl))
 t0:=Tryz.underlying0
 a0:=Tryz.isAgg0
 z0:=Tryz.sizeOf0
 v0:=Tryz.zeroValue0
 t3:=Tryz.underlying3
 a3:=Tryz.isAgg3
 z3:=Tryz.sizeOf3
 v3:=Tryz.zeroValue3
 t4:=Tryz.underlying4
 a4:=Tryz.isAgg4
 z4:=Tryz.sizeOf4
 v4:=Tryz.zeroValue4
 t22:=Tryz.underlying34
 a22:=Tryz.isAgg34
 z22:=Tryz.sizeOf34
 v22:=Tryz.zeroValue34
 i3:=by kernel_rfl }
open Go.RowKit Go.Lib Go.Sort in
theorem Tryz.slices_Compact_int (blk off cap:Nat) (zs:List Int) (w:World) (hH:Holds (Value.int .i64) w blk off zs.toArray) (hsz:zs.length<=9223372036854775807) (hcap:zs.length<=cap) :
  Calls Tryz.prog 208 #[.slice (some ⟨blk,off,none⟩) zs.length cap] w fun e w'=>e=.returned (.slice (some ⟨blk,off,none⟩) (Lib.compact zs).length cap)/\∃ q,w'=putRow (Value.int .i64) (Sort.ahead w q) blk off (Lib.compact zs++List.replicate (zs.length - (Lib.compact zs).length) 0).toArray:=Any.slices_Compact_int Tryz.laysNm220 blk off cap zs w hH hsz hcap
open Go.RowKit Go.Lib Go.Sort in
theorem Tryz.slices_Compact_int_empty (a:Option Addr) (cap:Nat) (w:World) :
  Calls Tryz.prog 208 #[.slice a 0 cap] w fun e w'=>e=.returned (.slice a 0 cap)/\w'=w:=Any.slices_Compact_int_empty Tryz.laysNm220 a cap w
open Go.RowKit Go.Sort in
theorem Tryz.slices_Sort_int_none (p:Option Addr) (cap:Nat) (w:World) :
  Calls Tryz.prog 207 #[.slice p 0 cap] w fun e w'=>e=.returned (.tuple #[])/\w'=w:=Any.slices_Sort_int_none Tryz.lays189 p cap w
end Go.Proofs
namespace Go.Proofs.YtohfoaplnjcihaaGreatDoor
open Go Y
set_option maxRecDepth 100000
set_option maxHeartbeats 4000000
theorem qIZ {l:List Int} {k:Nat} (h:k<l.length):l.toArray[k]! = l.getD k 0:=by
 rw [getElem!_pos l.toArray k (by simpa using h),List.getD_eq_getElem?_getD,List.getElem?_eq_getElem h];rfl
theorem qRH {l:List Int} {m:Nat} (h:m<l.length):(l.take (m+1)).getLast?=some (l.getD m 0):=by
 rw [qAY 0 h,List.getLast?_append];rfl
theorem qPs (zs:List Int):∀ m,m<=zs.length->Lib.compactUpTo zs.toArray m=qFE (zs.take m)
 | 0,_=>rfl
 | m+1,h=>by
  rw [Lib.compactUpTo_succ,qPs zs m (by omega),qAY 0 (by omega),qGP,qIZ (by omega)]
  cases m with
  | zero=>rfl
  | succ m=>
   have hl:(qFE (zs.take (m+1))).getLast?=some (zs.getD m 0):=by
    rw [qOY _ (fun e=>by have:=congrArg List.length e;simp at this;rw [this] at h;simp at h),qRH (by omega)]
   unfold qIj
   rw [hl]
   by_cases e:zs.getD m 0=zs.getD (m+1) 0
   ·have hk:Lib.keeps zs.toArray (m+1)=false:=Lib.keeps_neg (by omega) (by rw [Nat.add_sub_cancel,qIZ (by omega),qIZ (by omega)];exact e.symm)
    simp only [hk,Bool.false_eq_true,if_false,List.append_nil]
    rw [if_pos (by rw [e])]
   ·have hk:Lib.keeps zs.toArray (m+1)=true:=Lib.keeps_pos (by rw [Nat.add_sub_cancel,qIZ (by omega),qIZ (by omega)];exact fun h=>e h.symm)
    simp only [hk,if_true]
    rw [if_neg (fun h=>e (Option.some.inj h))]
theorem qPX (zs:List Int):Lib.compact zs=qFE zs:=by
 rw [Lib.compact,qPs zs _ (Nat.le_refl _),List.take_length]
theorem qMi {Γ:Gm} {H:Hp} {w w':World} (h:R cx Γ H w) (e1:w'.os=w.os) (e2:w'.tape=w.tape) (e3:w'.output=w.output) (e4:w.heap.size<=w'.heap.size) (e5:∀ k,k<w.heap.size->w'.heap[k]?=w.heap[k]?):Later cx H.next Γ H w Γ H w':=by
 have hlt:∀ {b:Nat} {x:Obj},w.heap[b]?=some x->b<w.heap.size:=fun hx=>(Array.getElem?_eq_some_iff.1 hx).1
 refine⟨⟨h.glob,h.fresh,fun b arr hf=>?_,fun n o hn=>?_,h.own,h.apart⟩,Ext.refl _ _,Nat.le_refl _,⟨e1,e2,e3,e4,fun k hk _=>e5 k hk,fun k hk=>.inr hk,Fzn.le_refl _,fun k a hk=>.inl hk⟩⟩
 ·obtain⟨t,z,e⟩:=h.fzok b arr hf
  exact⟨t,z,by rw [e5 b (hlt e)];exact e⟩
 ·obtain⟨q,h1,h2⟩:=h.objs n o hn
  exact⟨q,h1,h2.ext (Gm.le_refl _) fun hl=>e5 _ (h2.blk_lt hl)⟩
theorem qNQ {fz:Fzn}:∀ {l:List Int} {us:List Value},VPL fz (l.map i64) us->us=l.map (Value.int .i64)
 | [],us,h=>by simpa [VPL] using h
 | x::l,us,h=>by
  simp only [List.map_cons,VPL] at h
  obtain⟨u,us',rfl,h1,h2⟩:=h
  simp only [VP] at h1
  rw [h1,qNQ h2];rfl
theorem qOJ {fz:Fzn}:∀ l:List Int,VPL fz (l.map i64) (l.map (Value.int .i64))
 | []=>by simp [VPL]
 | x::l=>by simp only [List.map_cons,VPL];exact⟨_,_,rfl,by simp only [VP],qOJ l⟩
theorem qSt {ys:List Int} {us rest:List Value} (h:us.length=ys.length):Sort.putCells (Value.int .i64) 0 ys.toArray ⟨us++rest⟩=⟨ys.map (Value.int .i64)++rest⟩:=by
 apply Array.ext
 ·simp [Sort.putCells,h]
 ·intro i h1 h2
  have hi:i<(us++rest).length:=by simpa [Sort.putCells] using h1
  simp only [Sort.putCells,Array.getElem_mapIdx,List.getElem_toArray]
  by_cases hk:i<ys.length
  ·rw [if_pos ⟨Nat.zero_le _,by simpa using hk⟩,List.getElem_append_left (by simpa using hk),List.getElem_map,Nat.sub_zero,getElem!_pos ys.toArray i (by simpa using hk)];rfl
  ·rw [if_neg (by simp;omega),List.getElem_append_right (by omega),List.getElem_append_right (by simp;omega)]
   simp [h]
structure RowW (xs:List Int) (Γ:Gm) (w:World) (q:Pl) where
 us:List Value
 rest:List Value
 z:Nat × Nat
 cells:w.heap[q.blk]?=some (.cells ⟨us++rest⟩ qVr z)
 free:qYG z (us++rest).length
 sz:qDH cx.P qVr=some q.s
 pos:0<q.s
 len:(us++rest).length=q.tc * q.s
 vals:us=xs.map (Value.int .i64)
 one:q.s=1
theorem row_of {xs:List Int} {Γ:Gm} {w:World} {q:Pl} (hR:R cx Γ ⟨1,[(0,iO xs)]⟩ w) (hq1:Γ.nm 0=some q) (hnl:q.nl=false):∃ _:RowW xs Γ w q,q.blk<w.heap.size:=by
 obtain⟨q',hq',hob⟩:=hR.objs 0 (iO xs) rfl
 rw [hq1] at hq'
 injection hq' with hq'
 subst hq'
 rcases (qAP rfl).1 hob with ⟨h,_⟩ | ⟨_,us,rest,z,g1,g2,g3,g4,g5,g6,g7,g8,g9⟩
 ·rw [hnl] at h;cases h
 exact⟨⟨us,rest,z,g1,g2,g3,g4,g5,qNQ (qBN.1 g6),g8⟩,hob.blk_lt hnl⟩
theorem RowW.holds {xs:List Int} {Γ:Gm} {w:World} {q:Pl} (r:RowW xs Γ w q):Sort.Holds (Value.int .i64) w q.blk 0 xs.toArray:=by
 intro j hj
 have hj:j<xs.length:=by simpa using hj
 have hul:r.us.length=xs.length:=by rw [r.vals,List.length_map]
 have hx:(r.us++r.rest)[0+j]?=some (.int .i64 xs.toArray[j]!):=by
  rw [Nat.zero_add,List.getElem?_append_left (by omega),r.vals,List.getElem?_map,List.getElem?_eq_getElem hj,getElem!_pos xs.toArray j (by simpa using hj)];rfl
 refine⟨?_,?_⟩
 ·show(match w.heap[q.blk]? with | some (.cells c _ _)=>(if (none:Option Nat).isSome then none else c[0+j]?) | _=>none)=_
  rw [r.cells]
  show(List.toArray (r.us++r.rest))[0+j]?=_
  rw [List.getElem?_toArray];exact hx
 ·show(match w.heap[q.blk]? with | some (.cells _ _ (lo,hi))=>decide (lo<=0+j) && decide (0+j<hi) | _=>false)=false
  rw [r.cells]
  show(decide (r.z.1<=0+j) && decide (0+j<r.z.2))=false
  have hlen:j<(r.us++r.rest).length:=by rw [List.length_append];omega
  rw [Bool.and_eq_false_iff,decide_eq_false_iff_not,decide_eq_false_iff_not]
  rcases r.free with g2 | g2 <;> omega
theorem RowW.later {xs ys:List Int} {Γ:Gm} {w:World} {q:Pl} (r:RowW xs Γ w q) (hR:R cx Γ ⟨1,[(0,iO xs)]⟩ w) (hq1:Γ.nm 0=some q) (hnl:q.nl=false) (hlt:q.blk<w.heap.size) (hl:ys.length=xs.length) (n:Nat) (os:Array Obj) :
  Later cx 1 Γ ⟨1,[(0,iO xs)]⟩ w Γ ⟨1,[(0,iO ys)]⟩ (Sort.grow (Sort.putRow (Value.int .i64) (Sort.ahead w n) q.blk 0 ys.toArray) os):=by
 have hsz:r.us.length=ys.length:=by rw [r.vals,List.length_map,hl]
 have hput:=qSt (rest:=r.rest) hsz
 have hob':ObjR cx.P Γ (qBI w q.blk (.cells ⟨ys.map (Value.int .i64)++r.rest⟩ qVr r.z)) q (iO ys):=by
  have hlen:(ys.map (Value.int .i64)++r.rest).length=(r.us++r.rest).length:=by rw [List.length_append,List.length_append,hsz,List.length_map]
  exact(qAP rfl).2 (.inr ⟨hnl,_,r.rest,r.z,qBq r.cells,by rw [hlen];exact r.free,r.sz,r.pos,by rw [hlen];exact r.len,qBN.2 (qOJ ys),fun u hu=>by obtain⟨x,_,rfl⟩:=List.mem_map.1 hu;rfl,r.one,fun h=>nomatch h⟩)
 have L1:=hR.repl (n:=0) (o:=iO xs) (o':=iO ys) rfl rfl hq1 hnl rfl hob'
 refine L1.trans (qMi L1.1 rfl rfl rfl ?_ fun k hk=>?_)
 ·show(qBI w q.blk _).heap.size<=_
  simp [qBI,Sort.grow,Sort.putRow,Sort.mapBlock,Sort.ahead]
 ·have hk:k<w.heap.size:=by simpa [qBI] using hk
  show((w.heap.modify q.blk (Sort.onCells (Sort.putCells (Value.int .i64) 0 ys.toArray)))++os)[k]?=(w.heap.setIfInBounds q.blk _)[k]?
  rw [Array.getElem?_append_left (by simpa using hk),Array.getElem?_modify,Array.getElem?_setIfInBounds]
  by_cases e:q.blk=k
  ·subst e
   rw [if_pos rfl,if_pos rfl,if_pos hlt,r.cells]
   show some (Obj.cells (Sort.putCells (Value.int .i64) 0 ys.toArray ⟨r.us++r.rest⟩) qVr r.z)=_
   rw [hput]
  ·rw [if_neg e,if_neg e]
theorem qWN {xs:List Int} {Γ:Gm} {v:Value} (h:VR Γ (.sl 0 1 0 xs.length) v) (h0:xs ≠ []):∃ q,Γ.nm 0=some q/\q.nl=false/\xs.length<=q.tc/\v=.slice (some ⟨q.blk,0,none⟩) xs.length q.tc:=by
 simp only [VR] at h
 obtain⟨q,h1,h2,h3⟩:=h
 have hp:0<xs.length:=List.length_pos_iff.2 h0
 rcases h3 with ⟨_,_,h,_⟩ | ⟨hnl,htc,o,rfl,ho⟩
 ·omega
 ·have ho:o=0:=by rcases ho with h | h <;> omega
  subst ho
  exact⟨q,h1,hnl,by omega,by rw [Nat.sub_zero]⟩
theorem qTl {Γ:Gm} {v:Value} (h:VR Γ (.sl 0 1 0 0) v):∃ p c,v=.slice p 0 c:=by
 simp only [VR] at h
 obtain⟨q,h1,h2,h3⟩:=h
 rcases h3 with ⟨_,_,_,rfl⟩ | ⟨_,_,o,rfl,_⟩
 ·exact⟨_,_,rfl⟩
 ·exact⟨_,_,rfl⟩
theorem qWM (xs:List Int) (hs:xs.length<=100000):HoldsG cx 207 [.sl 0 1 0 xs.length] ⟨1,[(0,iO xs)]⟩ fun e H'=>∃ ys:List Int,ys.Perm xs/\ys.Pairwise (·<=·)/\e=.returned und/\H'=⟨1,[(0,iO ys)]⟩:=by
 intro Γ w args' hR hA
 simp only [VRL] at hA
 obtain⟨a,as',rfl,hq,rfl⟩:=hA
 refine⟨rfl,?_⟩
 by_cases h0:xs=[]
 ·subst h0
  obtain⟨p,c,rfl⟩:=qTl hq
  refine(Tryz.slices_Sort_int_none p c w).mono ?_
  rintro e w' ⟨rfl,rfl⟩
  exact⟨.returned und,_,Γ,⟨[], .refl _,List.Pairwise.nil,rfl,rfl⟩,⟨_,rfl,by simp [VR,VRL]⟩,Later.refl hR _ (Nat.le_refl _)⟩
 obtain⟨q,hq1,hnl,htc,rfl⟩:=qWN hq h0
 obtain⟨r,hlt⟩:=row_of hR hq1 hnl
 refine(Tryz.slices_Sort_int q.blk 0 q.tc xs w r.holds hlt (by omega)).mono ?_
 rintro e w' ⟨rfl,n,os,rfl⟩
 have hperm:=List.mergeSort_perm xs fun x y=>decide (x<=y)
 refine⟨.returned und,_,Γ,⟨_,hperm,?_,rfl,rfl⟩,⟨_,rfl,by simp [VR,VRL]⟩,r.later hR hq1 hnl hlt hperm.length_eq n os⟩
 have:=List.pairwise_mergeSort (le:=fun x y:Int=>decide (x<=y)) (fun a b c h1 h2=>by simp at *;omega) (fun a b=>by simp;omega) xs
 exact this.imp fun h=>by simpa using h
theorem qRr (xs:List Int) (hs:xs.length<=100000):HoldsG cx 208 [.sl 0 1 0 xs.length] ⟨1,[(0,iO xs)]⟩ fun e H'=>e=.returned (.sl 0 1 0 (qFE xs).length)/\H'=⟨1,[(0,iO (qFE xs++List.replicate (xs.length - (qFE xs).length) 0))]⟩:=by
 intro Γ w args' hR hA
 simp only [VRL] at hA
 obtain⟨a,as',rfl,hq,rfl⟩:=hA
 refine⟨rfl,?_⟩
 by_cases h0:xs=[]
 ·subst h0
  have hq':=hq
  obtain⟨p,c,rfl⟩:=qTl hq
  refine(Tryz.slices_Compact_int_empty p c w).mono ?_
  rintro e w' ⟨rfl,rfl⟩
  exact⟨.returned (.sl 0 1 0 0),_,Γ,⟨rfl,rfl⟩,⟨_,rfl,hq'⟩,Later.refl hR _ (Nat.le_refl _)⟩
 have hq':=hq
 obtain⟨q,hq1,hnl,htc,rfl⟩:=qWN hq h0
 obtain⟨r,hlt⟩:=row_of hR hq1 hnl
 refine(Tryz.slices_Compact_int q.blk 0 q.tc xs w r.holds (by omega) htc).mono ?_
 rintro e w' ⟨rfl,n,rfl⟩
 rw [qPX]
 have hcl:=qRu xs
 have hL:=r.later (ys:=qFE xs++List.replicate (xs.length - (qFE xs).length) 0) hR hq1 hnl hlt (by rw [List.length_append,List.length_replicate];omega) n #[]
 rw [Sort.grow_empty] at hL
 refine⟨.returned (.sl 0 1 0 (qFE xs).length),_,Γ,⟨rfl,rfl⟩,⟨_,rfl,?_⟩,hL⟩
 simp only [VR]
 exact⟨q,hq1,r.one, .inr ⟨hnl,by omega,0,by rw [Nat.sub_zero], .inl (by omega)⟩⟩
def qYb (ws:List Wd) (r:Rd Cd) (e:AE) (H':Hp):Prop:=match r with
 | .inl p=>e=qAa ws p/\H'=⟨1,[]⟩
 | .inr (c,q)=>q<=ws.length/\(∃ y,e=.returned (.p y)/\NilD y c.pv)/\H'=psH ws q
abbrev cdQ (ws:List Wd) (r:Rd Cd):AE->Hp->Prop:=rdQ ws r fun c=>.p c.pv
theorem qSn {ws:List Wd} {g:FuncId} {args:List AV} {H:Hp} {r:Rd Cd} (h:HoldsG cx g args H (qYb ws r)):HoldsG cx g args H (cdQ ws r):=
 h.weak fun e H' hq=>by
  rcases r with p | ⟨c,q⟩
  ·obtain⟨rfl,rfl⟩:=hq
   exact⟨_,rfl,rfl,rfl⟩
  ·obtain⟨h1,⟨y,rfl,h2⟩,rfl⟩:=hq
   exact⟨.returned (.p c.pv),⟨_,rfl,by simp only [NilA];exact⟨_,rfl,h2⟩⟩,h1,rfl,rfl⟩
theorem qN2 (o n r v:Int) (rf:Rf) (st:List Int):NilD (.agg [i64 o,i64 n,i64 r,i64 v, .str rf.name,i64 rf.mode, .str rf.plate,i64 rf.n,ints st, .nils]) (Cd.mk o n r v rf st []).pv:=by
 show NilD _ (.agg [i64 o,i64 n,i64 r,i64 v, .str rf.name,i64 rf.mode, .str rf.plate,i64 rf.n,ints st, .lsts 10 []])
 simp only [NilD,NilDL]
 exact⟨_,rfl,_,_,rfl,rfl,_,_,rfl,rfl,_,_,rfl,rfl,_,_,rfl,rfl,_,_,rfl,rfl,_,_,rfl,rfl,_,_,rfl,rfl,_,_,rfl,rfl,_,_,rfl,⟨_,rfl,NilDL.refl _⟩,_,_,rfl, .inr (.inr ⟨10,rfl⟩),rfl⟩
theorem qAr (o n r v:Int) (rf:Rf):NilD (.agg [i64 o,i64 n,i64 r,i64 v, .str rf.name,i64 rf.mode, .str rf.plate,i64 rf.n, .nils, .nils]) (Cd.mk o n r v rf [] []).pv:=by
 show NilD _ (.agg [i64 o,i64 n,i64 r,i64 v, .str rf.name,i64 rf.mode, .str rf.plate,i64 rf.n, .lst [], .lsts 10 []])
 simp only [NilD,NilDL]
 exact⟨_,rfl,_,_,rfl,rfl,_,_,rfl,rfl,_,_,rfl,rfl,_,_,rfl,rfl,_,_,rfl,rfl,_,_,rfl,rfl,_,_,rfl,rfl,_,_,rfl,rfl,_,_,rfl, .inr (.inl rfl),_,_,rfl, .inr (.inr ⟨10,rfl⟩),rfl⟩
def cO (cs:List AV):AObj:=⟨qPc,false, .bx cs⟩
abbrev zc:AObj:=cO [.p (i64 0), .p (i64 0), .p (i64 0), .p (i64 0), .p (.str []), .p (i64 0), .p (.str []), .p (i64 0), .p .nils, .p .nils]
abbrev lfS (rf:Rf) (k:Nat):AObj:=cO [.p (i64 5), .p (i64 0), .p (i64 0), .p (i64 0), .p (.str rf.name), .p (i64 rf.mode), .p (.str rf.plate), .p (i64 rf.n), .sl 4 1 0 k, .p .nils]
abbrev lf (o n r v:Int) (rf:Rf):AObj:=cO [.p (i64 o), .p (i64 n), .p (i64 r), .p (i64 v), .p (.str rf.name), .p (i64 rf.mode), .p (.str rf.plate), .p (i64 rf.n), .p .nils, .p .nils]
abbrev qOq (ws:List Wd) (F:Nat) (q:Nat):Prop:=HoldsG cx 171 [.ptr 0 0 0] (psH ws q) (cdQ ws (qCa ws F q))
theorem qWK (ws:List Wd) (F q0:Nat) (hg:GoodW ws) (hq0:q0<=ws.length) (hF:4 * (ws.length - q0)+1<=F+1) (hC:∀ q,q<=ws.length->4 * (ws.length - q)+4<=F->qOq ws F q) :
  HoldsG cx 202 [.ptr 0 0 0] (psH ws q0) (cdQ ws (qDF ws (F+1) q0)):=by
 refine qSn ?_
 generalize hR:qDF ws (F+1) q0=R
 rw [qDF] at hR
 refine qAA Tryz.func202 rfl rfl rfl ?_
 have hl:=hg.len
 by_cases c1:txt ws q0=tLP
 ·have q1l:q0+1<=ws.length:=qAh (by rw [c1];decide)
  rw [if_pos c1] at hR
  refine(qA7 ws q0 tLP hl hq0).holds.useT [] [] rfl (sk) (sk) fun e0 H0 hq=>?_
  obtain⟨rfl,rfl⟩:=hq.1 c1
  refine⟨rfl,_,⟨2,(0,psO ws (q0+1))::[(1,zc)]⟩,rfl,rfl,?_⟩
  refine(hC (q0+1) q1l (by omega)).holds.useT [] [] rfl (sk) (sk) fun e0 H0 hq=>?_
  rcases h1:qCa ws F (q0+1) with p | ⟨⟨o,n,rl,vl,rf,st,ar⟩,q2⟩
  ·rw [h1] at hq hR
   obtain⟨rfl,rfl⟩:=hq
   refine⟨rfl,_,_,rfl,rfl,?_⟩
   exact⟨[],[],[],qAa ws p,⟨1,[]⟩,rfl,⟨_,rfl,_,_,rfl,rfl,rfl⟩,trivial,by rw [<- hR];exact⟨rfl,rfl⟩⟩
  rw [h1] at hq hR
  obtain⟨q2l,rfl,rfl⟩:=hq
  refine⟨rfl,_,⟨2,(0,psO ws q2)::[(1,zc)]⟩,rfl,rfl,?_⟩
  simp only [qAH] at hR
  rw [<- qBA] at hR
  refine(qAq ws q2 [tRP] hl q2l (by simp) (by simp)).holds.useT [3] [] rfl (sk) ⟨_,_,rfl,⟨rfl,rfl⟩,_,_,rfl,⟨_,rfl,by decide,rfl⟩,rfl⟩ fun e0 H0 hq=>?_
  rcases h2:qAp ws [tRP] q2 with p | ⟨u,q3⟩
  ·rw [h2] at hq hR
   obtain⟨rfl,rfl⟩:=hq
   refine⟨rfl,_,_,rfl,rfl,?_⟩
   exact⟨[],[],[],qAa ws p,⟨1,[]⟩,rfl,⟨_,rfl,_,_,rfl,rfl,rfl⟩,trivial,by rw [<- hR];exact⟨rfl,rfl⟩⟩
  rw [h2] at hq hR
  obtain⟨q3l,rfl,rfl⟩:=hq
  refine⟨rfl,_,⟨4,(0,psO ws q3)::[(3,sO [tRP]),(2,cO ((Cd.mk o n rl vl rf st ar).cells.map .p)),(1,zc)]⟩,rfl,rfl,?_⟩
  simp only [qAH] at hR
  exact⟨[],[],[], .returned (.p (Cd.mk o n rl vl rf st ar).pv),psH ws q3,rfl,sk,sk,by rw [<- hR];exact⟨q3l,⟨_,rfl,NilD.refl _⟩,rfl⟩⟩
 rw [if_neg c1] at hR
 refine(qA7 ws q0 tLP hl hq0).holds.useT [] [] rfl (sk) (sk) fun e0 H0 hq=>?_
 obtain⟨rfl,rfl⟩:=hq.2 c1
 refine⟨rfl,_,⟨2,(0,psO ws q0)::[(1,zc)]⟩,rfl,rfl,?_⟩
 by_cases c2:txt ws q0=qBo
 ·have q1l:q0+1<=ws.length:=qAh (by rw [c2];decide)
  rw [if_pos c2] at hR
  obtain⟨q1,hq1⟩:∃ q1,q1=q0+1:=⟨_,rfl⟩
  have q1l:q1<=ws.length:=by omega
  rw [<- hq1] at hR
  refine(qA7 ws q0 qBo hl hq0).holds.useT [] [] rfl (sk) (sk) fun e0 H0 hq=>?_
  obtain⟨rfl,rfl⟩:=hq.1 c2
  refine⟨rfl,_,⟨2,(0,psO ws (q0+1))::[(1,zc)]⟩,rfl,rfl,?_⟩
  rw [<- hq1]
  rw [<- qBA] at hR
  refine(qAq ws q1 [tLP] hl q1l (by simp) (by simp)).holds.useT [2] [] rfl (sk) ⟨_,_,rfl,⟨rfl,rfl⟩,_,_,rfl,⟨_,rfl,by decide,rfl⟩,rfl⟩ fun e0 H0 hq=>?_
  rcases h1:qAp ws [tLP] q1 with p | ⟨u1,q2⟩
  ·rw [h1] at hq hR
   obtain⟨rfl,rfl⟩:=hq
   refine⟨rfl,_,_,rfl,rfl,?_⟩
   exact⟨[],[],[],qAa ws p,⟨1,[]⟩,rfl,⟨_,rfl,_,_,rfl,rfl,rfl⟩,trivial,by rw [<- hR];exact⟨rfl,rfl⟩⟩
  rw [h1] at hq hR
  obtain⟨q2l,rfl,rfl⟩:=hq
  refine⟨rfl,_,⟨3,(0,psO ws q2)::[(2,sO [tLP]),(1,zc)]⟩,rfl,rfl,?_⟩
  simp only [qAH] at hR
  refine(qIE ws q2 hl q2l).holds.useT [] [] rfl (sk) (sk) fun e0 H0 hq=>?_
  rcases h2:qCU ws q2 with p | ⟨nm,q3⟩
  ·rw [h2] at hq hR
   obtain⟨rfl,rfl⟩:=hq
   refine⟨rfl,_,_,rfl,rfl,?_⟩
   exact⟨[],[],[],qAa ws p,⟨1,[]⟩,rfl,⟨_,rfl,_,_,rfl,rfl,rfl⟩,trivial,by rw [<- hR];exact⟨rfl,rfl⟩⟩
  rw [h2] at hq hR
  obtain⟨q3l,rfl,rfl⟩:=hq
  refine⟨rfl,_,⟨3,(0,psO ws q3)::[(2,sO [tLP]),(1,zc)]⟩,rfl,rfl,?_⟩
  simp only [qAH] at hR
  refine(qAq ws q3 [tLB,qGg,tRB,tEq] hl q3l (by simp) (by simp)).holds.useT [4] [] rfl (sk) ⟨_,_,rfl,⟨rfl,rfl⟩,_,_,rfl,⟨_,rfl,by decide,rfl⟩,rfl⟩ fun e0 H0 hq=>?_
  rcases h3:qAp ws [tLB,qGg,tRB,tEq] q3 with p | ⟨u3,q4⟩
  ·rw [h3] at hq hR
   obtain⟨rfl,rfl⟩:=hq
   refine⟨rfl,_,_,rfl,rfl,?_⟩
   exact⟨[],[],[],qAa ws p,⟨1,[]⟩,rfl,⟨_,rfl,_,_,rfl,rfl,rfl⟩,trivial,by rw [<- hR];exact⟨rfl,rfl⟩⟩
  rw [h3] at hq hR
  obtain⟨q4l,rfl,rfl⟩:=hq
  refine⟨rfl,_,⟨5,(0,psO ws q4)::[(4,sO [tLB,qGg,tRB,tEq]),(3,lf 6 0 0 0 ⟨nm,3,[],0⟩),(2,sO [tLP]),(1,zc)]⟩,rfl,rfl,?_⟩
  simp only [qAH] at hR
  refine(qB0 ws q4 hg q4l).holds.useT [] [] rfl (sk) (sk) fun e0 H0 hq=>?_
  rcases h4:qCT ws q4 with p | ⟨v,q5⟩
  ·rw [h4] at hq hR
   obtain⟨rfl,rfl⟩:=hq
   refine⟨rfl,_,_,rfl,rfl,?_⟩
   exact⟨[],[],[],qAa ws p,⟨1,[]⟩,rfl,⟨_,rfl,_,_,rfl,rfl,rfl⟩,trivial,by rw [<- hR];exact⟨rfl,rfl⟩⟩
  rw [h4] at hq hR
  obtain⟨q5l,rfl,rfl⟩:=hq
  refine⟨rfl,_,⟨5,(0,psO ws q5)::[(4,sO [tLB,qGg,tRB,tEq]),(3,lf 6 0 0 0 ⟨nm,3,[],0⟩),(2,sO [tLP]),(1,zc)]⟩,rfl,rfl,?_⟩
  simp only [qAH] at hR
  rw [<- qBA] at hR
  refine(qAq ws q5 [tRP] hl q5l (by simp) (by simp)).holds.useT [5] [] rfl (sk) ⟨_,_,rfl,⟨rfl,rfl⟩,_,_,rfl,⟨_,rfl,by decide,rfl⟩,rfl⟩ fun e0 H0 hq=>?_
  rcases h5:qAp ws [tRP] q5 with p | ⟨u5,q6⟩
  ·rw [h5] at hq hR
   obtain⟨rfl,rfl⟩:=hq
   refine⟨rfl,_,_,rfl,rfl,?_⟩
   exact⟨[],[],[],qAa ws p,⟨1,[]⟩,rfl,⟨_,rfl,_,_,rfl,rfl,rfl⟩,trivial,by rw [<- hR];exact⟨rfl,rfl⟩⟩
  rw [h5] at hq hR
  obtain⟨q6l,rfl,rfl⟩:=hq
  refine⟨rfl,_,⟨6,(0,psO ws q6)::[(5,sO [tRP]),(4,sO [tLB,qGg,tRB,tEq]),(3,lf 6 0 0 v ⟨nm,3,[],0⟩),(2,sO [tLP]),(1,zc)]⟩,rfl,rfl,?_⟩
  simp only [qAH] at hR
  refine(qJB ws q6 hl q6l).holds.useT [] [] rfl (sk) (sk) fun e0 H0 hq=>?_
  rcases h6:qHR ws q6 with p | ⟨r,q7⟩
  ·rw [h6] at hq hR
   obtain⟨rfl,rfl⟩:=hq
   refine⟨rfl,_,_,rfl,rfl,?_⟩
   exact⟨[],[],[],qAa ws p,⟨1,[]⟩,rfl,⟨_,rfl,_,_,rfl,rfl,rfl⟩,trivial,by rw [<- hR];exact⟨rfl,rfl⟩⟩
  rw [h6] at hq hR
  obtain⟨q7l,rfl,rfl⟩:=hq
  refine⟨rfl,_,⟨6,(0,psO ws q7)::[(5,sO [tRP]),(4,sO [tLB,qGg,tRB,tEq]),(3,lf 6 0 0 v ⟨nm,3,[],0⟩),(2,sO [tLP]),(1,zc)]⟩,rfl,rfl,?_⟩
  simp only [qAH] at hR
  refine(qB0 ws q7 hg q7l).holds.useT [] [] rfl (sk) (sk) fun e0 H0 hq=>?_
  rcases h7:qCT ws q7 with p | ⟨n,q8⟩
  ·rw [h7] at hq hR
   obtain⟨rfl,rfl⟩:=hq
   refine⟨rfl,_,_,rfl,rfl,?_⟩
   exact⟨[],[],[],qAa ws p,⟨1,[]⟩,rfl,⟨_,rfl,_,_,rfl,rfl,rfl⟩,trivial,by rw [<- hR];exact⟨rfl,rfl⟩⟩
  rw [h7] at hq hR
  obtain⟨q8l,rfl,rfl⟩:=hq
  refine⟨rfl,_,⟨6,(0,psO ws q8)::[(5,sO [tRP]),(4,sO [tLB,qGg,tRB,tEq]),(3,lf 6 0 r v ⟨nm,3,[],0⟩),(2,sO [tLP]),(1,zc)]⟩,rfl,rfl,?_⟩
  simp only [qAH] at hR
  exact⟨[],[],[], .returned (.p (.agg [i64 6,i64 n,i64 r,i64 v, .str nm,i64 3, .str [],i64 0, .nils, .nils])),psH ws q8,rfl,sk,sk,by rw [<- hR];exact⟨q8l,⟨_,rfl,qAr 6 n r v ⟨nm,3,[],0⟩⟩,rfl⟩⟩
 rw [if_neg c2] at hR
 refine(qA7 ws q0 qBo hl hq0).holds.useT [] [] rfl (sk) (sk) fun e0 H0 hq=>?_
 obtain⟨rfl,rfl⟩:=hq.2 c2
 refine⟨rfl,_,⟨2,(0,psO ws q0)::[(1,zc)]⟩,rfl,rfl,?_⟩
 refine(qWT ws q0 hg hq0).holds.useT [] [] rfl (sk) (sk) fun e0 H0 hq=>?_
 rcases h1:qHz ws q0 with p | ⟨rf,q1⟩
 ·rw [h1] at hq hR
  obtain⟨rfl,rfl⟩:=hq
  refine⟨rfl,_,_,rfl,rfl,?_⟩
  exact⟨[],[],[],qAa ws p,⟨1,[]⟩,rfl,⟨_,rfl,_,_,rfl,rfl,rfl⟩,trivial,by rw [<- hR];exact⟨rfl,rfl⟩⟩
 rw [h1] at hq hR
 obtain⟨q1l,rfl,rfl⟩:=hq
 refine⟨rfl,_,⟨2,(0,psO ws q1)::[(1,zc)]⟩,rfl,rfl,?_⟩
 simp only [qAH] at hR
 by_cases c3:txt ws q1=tIn
 rotate_left
 ·rw [if_neg c3] at hR
  refine(qA7 ws q1 tIn hl q1l).holds.useT [] [] rfl (sk) (sk) fun e0 H0 hq=>?_
  obtain⟨rfl,rfl⟩:=hq.2 c3
  refine⟨rfl,_,⟨3,(0,psO ws q1)::[(2,lf 0 0 0 0 rf),(1,zc)]⟩,rfl,rfl,?_⟩
  refine(qJB ws q1 hl q1l).holds.useT [] [] rfl (sk) (sk) fun e0 H0 hq=>?_
  rcases h2:qHR ws q1 with p | ⟨o,q2⟩
  ·rw [h2] at hq hR
   obtain⟨rfl,rfl⟩:=hq
   refine⟨rfl,_,_,rfl,rfl,?_⟩
   exact⟨[],[],[],qAa ws p,⟨1,[]⟩,rfl,⟨_,rfl,_,_,rfl,rfl,rfl⟩,trivial,by rw [<- hR];exact⟨rfl,rfl⟩⟩
  rw [h2] at hq hR
  obtain⟨q2l,rfl,rfl⟩:=hq
  refine⟨rfl,_,⟨3,(0,psO ws q2)::[(2,lf 0 0 0 0 rf),(1,zc)]⟩,rfl,rfl,?_⟩
  simp only [qAH] at hR
  refine(qB0 ws q2 hg q2l).holds.useT [] [] rfl (sk) (sk) fun e0 H0 hq=>?_
  rcases h3:qCT ws q2 with p | ⟨n,q3⟩
  ·rw [h3] at hq hR
   obtain⟨rfl,rfl⟩:=hq
   refine⟨rfl,_,_,rfl,rfl,?_⟩
   exact⟨[],[],[],qAa ws p,⟨1,[]⟩,rfl,⟨_,rfl,_,_,rfl,rfl,rfl⟩,trivial,by rw [<- hR];exact⟨rfl,rfl⟩⟩
  rw [h3] at hq hR
  obtain⟨q3l,rfl,rfl⟩:=hq
  refine⟨rfl,_,⟨3,(0,psO ws q3)::[(2,lf o 0 0 0 rf),(1,zc)]⟩,rfl,rfl,?_⟩
  simp only [qAH] at hR
  exact⟨[],[],[], .returned (.p (.agg [i64 o,i64 n,i64 0,i64 0, .str rf.name,i64 rf.mode, .str rf.plate,i64 rf.n, .nils, .nils])),psH ws q3,rfl,sk,sk,by rw [<- hR];exact⟨q3l,⟨_,rfl,qAr o n 0 0 rf⟩,rfl⟩⟩
 have q2l:q1+1<=ws.length:=qAh (by rw [c3];decide)
 rw [if_pos c3] at hR
 refine(qA7 ws q1 tIn hl q1l).holds.useT [] [] rfl (sk) (sk) fun e0 H0 hq=>?_
 obtain⟨rfl,rfl⟩:=hq.1 c3
 refine⟨rfl,_,⟨3,(0,psO ws (q1+1))::[(2,lf 0 0 0 0 rf),(1,zc)]⟩,rfl,rfl,?_⟩
 obtain⟨q2,hq2⟩:∃ q2,q2=q1+1:=⟨_,rfl⟩
 rw [<- hq2] at hR q2l
 rw [<- hq2]
 rw [<- qBA] at hR
 refine(qAq ws q2 [tLC] hl q2l (by simp) (by simp)).holds.useT [3] [] rfl (sk) ⟨_,_,rfl,⟨rfl,rfl⟩,_,_,rfl,⟨_,rfl,by decide,rfl⟩,rfl⟩ fun e0 H0 hq=>?_
 rcases h2:qAp ws [tLC] q2 with p | ⟨u2,q3⟩
 ·rw [h2] at hq hR
  obtain⟨rfl,rfl⟩:=hq
  refine⟨rfl,_,_,rfl,rfl,?_⟩
  exact⟨[],[],[],qAa ws p,⟨1,[]⟩,rfl,⟨_,rfl,_,_,rfl,rfl,rfl⟩,trivial,by rw [<- hR];exact⟨rfl,rfl⟩⟩
 rw [h2] at hq hR
 obtain⟨q3l,rfl,rfl⟩:=hq
 refine⟨rfl,_,⟨4,(0,psO ws q3)::[(3,sO [tLC]),(2,lf 5 0 0 0 rf),(1,zc)]⟩,rfl,rfl,?_⟩
 simp only [qAH] at hR
 have hlt:=qHJ h1
 have hm2:=qAv (ws:=ws) (s:=tLC) (q:=q2) (q':=q3) (u:=u2) (by rw [<- qBA];exact h2)
 refine(qMf ws F q3 (by omega) hg q3l).holds.useT [] [] rfl (sk) ⟨_,_,rfl,⟨rfl,_,_,rfl,⟨_,_,rfl,⟨rfl,rfl⟩,rfl⟩,rfl⟩,_,_,rfl,⟨rfl,_,_,rfl,⟨_,_,rfl,⟨rfl,rfl⟩,rfl⟩,rfl⟩,rfl⟩ fun e0 H0 hq=>?_
 rcases h3:qEa ws (qCT ws) F q3 with p | ⟨l,q4⟩
 ·rw [h3] at hq hR
  obtain⟨rfl,rfl⟩:=hq
  refine⟨rfl,_,_,rfl,rfl,?_⟩
  exact⟨[],[],[],qAa ws p,⟨1,[]⟩,rfl,⟨_,rfl,_,_,rfl,rfl,rfl⟩,trivial,by rw [<- hR];exact⟨rfl,rfl⟩⟩
 rw [h3] at hq hR
 obtain⟨⟨q4l,hll⟩,rfl,rfl⟩:=hq
 refine⟨rfl,_,⟨5,[(4,iO l),(0,psO ws q4),(3,sO [tLC]),(2,lf 5 0 0 0 rf),(1,zc)]⟩,rfl,rfl,?_⟩
 simp only [qAH] at hR
 rw [<- qBA] at hR
 refine(qAq ws q4 [tRC] hl q4l (by simp) (by simp)).holds.useT [5] [] rfl (sk) ⟨_,_,rfl,⟨rfl,rfl⟩,_,_,rfl,⟨_,rfl,by decide,rfl⟩,rfl⟩ fun e0 H0 hq=>?_
 rcases h4:qAp ws [tRC] q4 with p | ⟨u4,q5⟩
 ·rw [h4] at hq hR
  obtain⟨rfl,rfl⟩:=hq
  refine⟨rfl,_,_,rfl,rfl,?_⟩
  exact⟨[],[],[],qAa ws p,⟨1,[]⟩,rfl,⟨_,rfl,_,_,rfl,rfl,rfl⟩,trivial,by rw [<- hR];exact⟨rfl,rfl⟩⟩
 rw [h4] at hq hR
 obtain⟨q5l,rfl,rfl⟩:=hq
 refine⟨rfl,_,⟨6,(0,psO ws q5)::[(5,sO [tRC]),(4,iO l),(3,sO [tLC]),(2,lfS rf l.length),(1,zc)]⟩,rfl,rfl,?_⟩
 simp only [qAH] at hR
 refine(qWM l (by omega)).holds.useT [] [(0,4)] rfl (sk) (sk) fun e0 H0 hq=>?_
 obtain⟨ys,hp,hs,rfl,rfl⟩:=hq
 have hlen:=hp.length_eq
 refine⟨rfl,_,⟨6,[(4,iO ys),(0,psO ws q5),(5,sO [tRC]),(3,sO [tLC]),(2,lfS rf l.length),(1,zc)]⟩,rfl,rfl,?_⟩
 have hCp:=qRr ys (by omega)
 rw [hlen] at hCp
 have hcl:=qRu ys
 refine hCp.holds.useT [] [(0,4)] rfl (sk) (sk) fun e0 H0 hq=>?_
 obtain⟨rfl,rfl⟩:=hq
 refine⟨rfl,_,⟨6,[(4,iO (qFE ys++List.replicate (l.length - (qFE ys).length) 0)),(0,psO ws q5),(5,sO [tRC]),(3,sO [tLC]),(2,lfS rf l.length),(1,zc)]⟩,rfl,rfl,?_⟩
 rw [<- qOx hp hs] at hR
 refine⟨[4],[],[], .returned (.p (Cd.mk 5 0 0 0 rf (qFE ys) []).pv),psH ws q5,rfl,⟨_,rfl,?_⟩,sk,by rw [<- hR];exact⟨q5l,⟨_,rfl,NilD.refl _⟩,rfl⟩⟩
 refine⟨_,rfl,_,_,rfl,rfl,_,_,rfl,rfl,_,_,rfl,rfl,_,_,rfl,rfl,_,_,rfl,rfl,_,_,rfl,rfl,_,_,rfl,rfl,_,_,rfl,rfl,_,_,rfl,⟨(qFE ys).map i64,rfl,by show 0+(qFE ys).length<=((qFE ys++List.replicate (l.length - (qFE ys).length) 0).map i64).length;simp,?_⟩,_,_,rfl, .inr (.inr ⟨10,rfl⟩),rfl⟩
 show(qFE ys).map i64=(((qFE ys++List.replicate (l.length - (qFE ys).length) 0).map i64).drop 0).take (qFE ys).length
 rw [List.drop_zero,List.map_append,List.take_left' (List.length_map ..)]
theorem qTu {ws:List Wd} {q q':Nat} {n:Int} (h:qHR ws q=.inr (n,q')):q<q':=by
 rw [qHR] at h
 split at h
 ·injection h with h;injection h with h1 h2;omega
 ·split at h
  ·injection h with h;injection h with h1 h2;omega
  ·split at h
   ·injection h with h;injection h with h1 h2;omega
   ·split at h
    ·injection h with h;injection h with h1 h2;omega
    ·cases h
theorem qQ1 {α:Type} {ws:List Wd} {rd:Nat->Rd α} (hrd:∀ q a q',rd q=.inr (a,q')->q<q'):∀ (f:Nat) {acc l:List α} {q q':Nat},qCt ws rd f acc q=.inr (l,q')->q<=q'
 | 0,_,_,_,_,h=>by cases h
 | f+1,acc,l,q,q',h=>by
  rw [qCt] at h
  split at h
  ·obtain⟨a,q1,h1,h⟩:=then_ok h
   have:=hrd _ _ _ h1
   have:=qQ1 hrd f h
   omega
  ·injection h with h;injection h with h1 h2;omega
theorem qQ7 {α:Type} {ws:List Wd} {rd:Nat->Rd α} (hrd:∀ q a q',rd q=.inr (a,q')->q<q') {F q q':Nat} {l:List α} (h:qEa ws rd F q=.inr (l,q')):q<q':=by
 rw [qEa] at h
 obtain⟨a,q1,h1,h⟩:=then_ok h
 have:=hrd _ _ _ h1
 have:=qQ1 hrd F h
 omega
structure CLt (ws:List Wd) (F:Nat):Prop where
 cond:∀ {q c q'},qCa ws F q=.inr (c,q')->q<q'
 orr:∀ {d q c q'},orR ws F d q=.inr (c,q')->q<=q'
 conj:∀ {q c q'},qCZ ws F q=.inr (c,q')->q<q'
 andr:∀ {d q c q'},qIh ws F d q=.inr (c,q')->q<=q'
 neg:∀ {q c q'},qFk ws F q=.inr (c,q')->q<q'
 test:∀ {q c q'},qDF ws F q=.inr (c,q')->q<q'
theorem qXb (ws:List Wd):∀ F,CLt ws F
 | 0=>by
  constructor
  ·intro q c q' h;rw [qCa] at h;cases h
  ·intro d q c q' h;rw [orR] at h;cases h
  ·intro q c q' h;rw [qCZ] at h;cases h
  ·intro d q c q' h;rw [qIh] at h;cases h
  ·intro q c q' h;rw [qFk] at h;cases h
  ·intro q c q' h;rw [qDF] at h;cases h
 | F+1=>by
  have ih:=qXb ws F
  constructor
  ·intro q c q' h
   rw [qCa] at h
   obtain⟨a,p,h1,h⟩:=then_ok h
   have:=ih.conj h1
   have:=ih.orr h
   omega
  ·intro d q c q' h
   rw [orR] at h
   split at h
   ·obtain⟨a,p,h1,h⟩:=then_ok h
    have:=ih.conj h1
    have:=ih.orr h
    omega
   ·injection h with h;injection h with h1 h2;omega
  ·intro q c q' h
   rw [qCZ] at h
   obtain⟨a,p,h1,h⟩:=then_ok h
   have:=ih.neg h1
   have:=ih.andr h
   omega
  ·intro d q c q' h
   rw [qIh] at h
   split at h
   ·obtain⟨a,p,h1,h⟩:=then_ok h
    have:=ih.neg h1
    have:=ih.andr h
    omega
   ·injection h with h;injection h with h1 h2;omega
  ·intro q c q' h
   rw [qFk] at h
   split at h
   ·obtain⟨a,p,h1,h⟩:=then_ok h
    have:=ih.neg h1
    injection h with h;injection h with h1 h2;omega
   ·exact ih.test h
  ·intro q c q' h
   rw [qDF] at h
   split at h
   ·obtain⟨a,p,h1,h⟩:=then_ok h
    have:=ih.cond h1
    obtain⟨u,p2,h2,h⟩:=then_ok h
    have:=qAv h2
    injection h with h;injection h with h1 h2;omega
   ·split at h
    ·obtain⟨u,p1,h1,h⟩:=then_ok h
     have:=qAv h1
     obtain⟨nm,p2,h2,h⟩:=then_ok h
     have:=qFl h2
     obtain⟨u3,p3,h3,h⟩:=then_ok h
     obtain⟨v,p4,h4,h⟩:=then_ok h
     have:=qCb h4
     obtain⟨u5,p5,h5,h⟩:=then_ok h
     have:=qAv h5
     obtain⟨r,p6,h6,h⟩:=then_ok h
     have:=qTu h6
     obtain⟨n,p7,h7,h⟩:=then_ok h
     have:=qCb h7
     have h3':p2<=p3:=by
      rw [qAp] at h3
      obtain⟨_,a1,g1,h3⟩:=then_ok h3
      rw [qAp] at h3
      obtain⟨_,a2,g2,h3⟩:=then_ok h3
      rw [qAp] at h3
      obtain⟨_,a3,g3,h3⟩:=then_ok h3
      rw [qAp] at h3
      obtain⟨_,a4,g4,h3⟩:=then_ok h3
      have:=qAv g1
      have:=qAv g2
      have:=qAv g3
      have:=qAv g4
      injection h3 with h3;injection h3 with h3 h3';omega
     injection h with h;injection h with h1 h2;omega
    ·obtain⟨r,p1,h1,h⟩:=then_ok h
     have:=qHJ h1
     try simp only [] at h
     split at h
     ·obtain⟨u,p2,h2,h⟩:=then_ok h
      have:=qAv h2
      obtain⟨l,p3,h3,h⟩:=then_ok h
      have:=qQ7 (fun q a q' h=>qCb h) h3
      obtain⟨u4,p4,h4,h⟩:=then_ok h
      have:=qAv h4
      injection h with h;injection h with h1 h2;omega
     ·obtain⟨o,p2,h2,h⟩:=then_ok h
      have:=qTu h2
      obtain⟨n,p3,h3,h⟩:=then_ok h
      have:=qCb h3
      injection h with h;injection h with h1 h2;omega
theorem qN5 {ws:List Wd} (F:Nat) {q q':Nat} {c:Cd} (h:qFk ws F q=.inr (c,q')):q<q':=(qXb ws F).neg h
theorem qKf {ws:List Wd} (F:Nat) {q q':Nat} {c:Cd} (h:qCZ ws F q=.inr (c,q')):q<q':=(qXb ws F).conj h
def ngF:AV:=.fn (.func 190) [.ptr 0 0 0] []
def cjF:AV:=.fn (.func 189) [] [.ptr 1 0 0]
theorem qX9 (ws:List Wd) (F q0:Nat) (hg:GoodW ws) (hq0:q0<=ws.length) (hF:4 * (ws.length - q0)+3<=F+1) (hC:∀ q,q<=ws.length->∀ f,f<=F->4 * (ws.length - q)+2<=f->HoldsG cx 190 [.ptr 0 0 0] (psH ws q) (cdQ ws (qFk ws f q))) :
  HoldsG cx 188 [.ptr 0 0 0, .p (.str qDA), .p (i64 8),ngF] (psH ws q0) (rdQ ws (qCZ ws (F+1) q0) fun c=>.p c.pv):=by
 generalize hR:qCZ ws (F+1) q0=R
 rw [qCZ] at hR
 refine qAA Tryz.func188 rfl rfl rfl ?_
 have hl:=hg.len
 refine(hC q0 hq0 F (Nat.le_refl _) (by omega)).holds.useT [] [] rfl (sk) (sk) fun e0 H0 hq=>?_
 rcases h1:qFk ws F q0 with p | ⟨⟨o,n,rl,vl,rf,st,ar⟩,q1⟩
 ·rw [h1] at hq hR
  obtain⟨rfl,rfl⟩:=hq
  refine⟨rfl,_,_,rfl,rfl,?_⟩
  exact⟨[],[],[],qAa ws p,⟨1,[]⟩,rfl,⟨_,rfl,_,_,rfl,rfl,rfl⟩,trivial,by rw [<- hR];exact⟨rfl,rfl⟩⟩
 rw [h1] at hq hR
 obtain⟨q1l,rfl,rfl⟩:=hq
 have hlt:=qN5 F h1
 refine⟨rfl,_,⟨2,(0,psO ws q1)::[(1,zc)]⟩,rfl,rfl,?_⟩
 simp only [qAH] at hR
 refine⟨Cd × Nat,fun x=>[(0, .ptr 0 0 0),(1, .p (.str qDA)),(2, .p (i64 8)),(3,ngF),(8, .ptr 1 0 0),(9, .ptr 2 0 0)],fun x=>⟨3,[(2,cO (x.1.cells.map .p)),(0,psO ws x.2),(1,zc)]⟩,fun x=>x.2<=ws.length/\∃ f,f<=F/\4 * (ws.length - x.2)+2<=f/\R=qIh ws f x.1 x.2,fun x=>ws.length - x.2,?_,?_⟩
 ·exact⟨(.mk o n rl vl rf st ar,q1),⟨q1l,F,Nat.le_refl _,by simp only [];omega,hR.symm⟩,qAB [] [] [] rfl ⟨⟨rfl,rfl⟩,rfl,rfl,⟨rfl,_,_,rfl,⟨_,_,rfl,⟨rfl,rfl⟩,rfl⟩,rfl⟩,⟨rfl,rfl⟩,⟨rfl,rfl⟩,trivial⟩ (sk) rfl⟩
 rintro⟨⟨o,n,rl,vl,rf,st,ar⟩,q⟩ ⟨k1,f,k0,k2,k3⟩
 simp only [] at k1 k0 k2 k3
 obtain⟨f,rfl⟩:∃ g,f=g+1:=⟨f - 1,by omega⟩
 rw [qIh] at k3
 by_cases c1:txt ws q=qDA
 ·have ql:q+1<=ws.length:=qAh (by rw [c1];decide)
  rw [if_pos c1] at k3
  refine(qA7 ws q qDA hl k1).holds.useT [] [] rfl (sk) (sk) fun e0 H0 hq=>?_
  obtain⟨rfl,rfl⟩:=hq.1 c1
  refine⟨rfl,_,⟨3,(0,psO ws (q+1))::[(2,cO ((Cd.mk o n rl vl rf st ar).cells.map .p)),(1,zc)]⟩,rfl,rfl,?_⟩
  refine VDraw.seq rfl ?_
  refine(hC (q+1) ql f (by omega) (by omega)).holds.useT [] [] rfl (sk) (sk) fun e0 H0 hq=>?_
  rcases h2:qFk ws f (q+1) with p | ⟨⟨o',n',rl',vl',rf',st',ar'⟩,q2⟩
  ·rw [h2] at hq k3
   obtain⟨rfl,rfl⟩:=hq
   refine⟨rfl,_,_,rfl,rfl,?_⟩
   exact⟨[],[],[],qAa ws p,⟨1,[]⟩,rfl,⟨_,rfl,_,_,rfl,rfl,rfl⟩,trivial,by rw [k3];exact⟨rfl,rfl⟩⟩
  rw [h2] at hq k3
  obtain⟨q2l,rfl,rfl⟩:=hq
  have hlt2:=qN5 f h2
  refine⟨rfl,_,⟨3,(0,psO ws q2)::[(2,cO ((Cd.mk o n rl vl rf st ar).cells.map .p)),(1,zc)]⟩,rfl,rfl,?_⟩
  refine⟨sk,?_⟩
  exact⟨(.mk 8 0 0 0 rf0 [] [.mk o n rl vl rf st ar, .mk o' n' rl' vl' rf' st' ar'],q2),⟨q2l,f,by omega,by simp only [];omega,k3⟩,qAB [3] [] [] rfl ⟨⟨rfl,rfl⟩,rfl,rfl,⟨rfl,_,_,rfl,⟨_,_,rfl,⟨rfl,rfl⟩,rfl⟩,rfl⟩,⟨rfl,rfl⟩,⟨rfl,rfl⟩,trivial⟩
   ⟨⟨_,rfl,rfl,rfl,_,rfl,_,_,rfl,rfl,_,_,rfl,rfl,_,_,rfl,rfl,_,_,rfl,rfl,_,_,rfl,rfl,_,_,rfl,rfl,_,_,rfl,rfl,_,_,rfl,rfl,_,_,rfl, .inr (.inl rfl),_,_,rfl,⟨_,rfl,by show 0+2<=2;omega,rfl⟩,rfl⟩,sk⟩ rfl,by show ws.length - q2<ws.length - q;omega⟩
 ·rw [if_neg c1] at k3
  refine(qA7 ws q qDA hl k1).holds.useT [] [] rfl (sk) (sk) fun e0 H0 hq=>?_
  obtain⟨rfl,rfl⟩:=hq.2 c1
  refine⟨rfl,_,⟨3,(0,psO ws q)::[(2,cO ((Cd.mk o n rl vl rf st ar).cells.map .p)),(1,zc)]⟩,rfl,rfl,?_⟩
  exact⟨[],[],[], .returned (.p (Cd.mk o n rl vl rf st ar).pv),psH ws q,rfl,sk,sk,by rw [k3];exact⟨k1,rfl,rfl⟩⟩
theorem qYi (ws:List Wd) (F q0:Nat) (hg:GoodW ws) (hq0:q0<=ws.length) (hF:4 * (ws.length - q0)+4<=F+1) (hC:∀ q,q<=ws.length->∀ f,f<=F->4 * (ws.length - q)+3<=f->HoldsG cx 189 [.ptr 1 0 0] (pbH ws q) (qTv ws (qCZ ws f q) fun c=>.p c.pv)) :
  HoldsG cx 188 [.ptr 0 0 0, .p (.str tOr), .p (i64 9),cjF] (pbH ws q0) (qTv ws (qCa ws (F+1) q0) fun c=>.p c.pv):=by
 generalize hR:qCa ws (F+1) q0=R
 rw [qCa] at hR
 refine qAA Tryz.func188 rfl rfl rfl ?_
 have hl:=hg.len
 refine(hC q0 hq0 F (Nat.le_refl _) (by omega)).holds.useT [] [] rfl (sk) (sk) fun e0 H0 hq=>?_
 rcases h1:qCZ ws F q0 with p | ⟨⟨o,n,rl,vl,rf,st,ar⟩,q1⟩
 ·rw [h1] at hq hR
  obtain⟨rfl,rfl⟩:=hq
  refine⟨rfl,_,_,rfl,rfl,?_⟩
  exact⟨[],[],[],qAa ws p,⟨2,[]⟩,rfl,⟨_,rfl,_,_,rfl,rfl,rfl⟩,trivial,by rw [<- hR];exact⟨rfl,rfl⟩⟩
 rw [h1] at hq hR
 obtain⟨q1l,rfl,rfl⟩:=hq
 have hlt:=qKf F h1
 refine⟨rfl,_,⟨3,(0,psO ws q1)::[(1,bxO),(2,zc)]⟩,rfl,rfl,?_⟩
 simp only [qAH] at hR
 refine⟨Cd × Nat,fun x=>[(0, .ptr 0 0 0),(1, .p (.str tOr)),(2, .p (i64 9)),(3,cjF),(8, .ptr 2 0 0),(9, .ptr 3 0 0)],fun x=>⟨4,[(3,cO (x.1.cells.map .p)),(0,psO ws x.2),(1,bxO),(2,zc)]⟩,fun x=>x.2<=ws.length/\∃ f,f<=F/\4 * (ws.length - x.2)+3<=f/\R=orR ws f x.1 x.2,fun x=>ws.length - x.2,?_,?_⟩
 ·exact⟨(.mk o n rl vl rf st ar,q1),⟨q1l,F,Nat.le_refl _,by simp only [];omega,hR.symm⟩,qAB [] [] [] rfl ⟨⟨rfl,rfl⟩,rfl,rfl,⟨rfl,_,_,rfl,rfl,⟨_,_,rfl,⟨rfl,rfl⟩,rfl⟩⟩,⟨rfl,rfl⟩,⟨rfl,rfl⟩,trivial⟩ (sk) rfl⟩
 rintro⟨⟨o,n,rl,vl,rf,st,ar⟩,q⟩ ⟨k1,f,k0,k2,k3⟩
 simp only [] at k1 k0 k2 k3
 obtain⟨f,rfl⟩:∃ g,f=g+1:=⟨f - 1,by omega⟩
 rw [orR] at k3
 by_cases c1:txt ws q=tOr
 ·have ql:q+1<=ws.length:=qAh (by rw [c1];decide)
  rw [if_pos c1] at k3
  refine(qA7 ws q tOr hl k1).holds.useT [] [] rfl (sk) (sk) fun e0 H0 hq=>?_
  obtain⟨rfl,rfl⟩:=hq.1 c1
  refine⟨rfl,_,⟨4,(0,psO ws (q+1))::[(3,cO ((Cd.mk o n rl vl rf st ar).cells.map .p)),(1,bxO),(2,zc)]⟩,rfl,rfl,?_⟩
  refine VDraw.seq rfl ?_
  refine(hC (q+1) ql f (by omega) (by omega)).holds.useT [] [] rfl (sk) (sk) fun e0 H0 hq=>?_
  rcases h2:qCZ ws f (q+1) with p | ⟨⟨o',n',rl',vl',rf',st',ar'⟩,q2⟩
  ·rw [h2] at hq k3
   obtain⟨rfl,rfl⟩:=hq
   refine⟨rfl,_,_,rfl,rfl,?_⟩
   exact⟨[],[],[],qAa ws p,⟨2,[]⟩,rfl,⟨_,rfl,_,_,rfl,rfl,rfl⟩,trivial,by rw [k3];exact⟨rfl,rfl⟩⟩
  rw [h2] at hq k3
  obtain⟨q2l,rfl,rfl⟩:=hq
  have hlt2:=qKf f h2
  refine⟨rfl,_,⟨4,(0,psO ws q2)::[(1,bxO),(3,cO ((Cd.mk o n rl vl rf st ar).cells.map .p)),(2,zc)]⟩,rfl,rfl,?_⟩
  refine⟨sk,?_⟩
  exact⟨(.mk 9 0 0 0 rf0 [] [.mk o n rl vl rf st ar, .mk o' n' rl' vl' rf' st' ar'],q2),⟨q2l,f,by omega,by simp only [];omega,k3⟩,qAB [4] [] [] rfl ⟨⟨rfl,rfl⟩,rfl,rfl,⟨rfl,_,_,rfl,rfl,⟨_,_,rfl,⟨rfl,rfl⟩,rfl⟩⟩,⟨rfl,rfl⟩,⟨rfl,rfl⟩,trivial⟩
   ⟨⟨_,rfl,rfl,rfl,_,rfl,_,_,rfl,rfl,_,_,rfl,rfl,_,_,rfl,rfl,_,_,rfl,rfl,_,_,rfl,rfl,_,_,rfl,rfl,_,_,rfl,rfl,_,_,rfl,rfl,_,_,rfl, .inr (.inl rfl),_,_,rfl,⟨_,rfl,by show 0+2<=2;omega,rfl⟩,rfl⟩,sk⟩ rfl,by show ws.length - q2<ws.length - q;omega⟩
 ·rw [if_neg c1] at k3
  refine(qA7 ws q tOr hl k1).holds.useT [] [] rfl (sk) (sk) fun e0 H0 hq=>?_
  obtain⟨rfl,rfl⟩:=hq.2 c1
  refine⟨rfl,_,⟨4,(0,psO ws q)::[(3,cO ((Cd.mk o n rl vl rf st ar).cells.map .p)),(1,bxO),(2,zc)]⟩,rfl,rfl,?_⟩
  exact⟨[],[],[], .returned (.p (Cd.mk o n rl vl rf st ar).pv),pbH ws q,rfl,sk,sk,by rw [k3];exact⟨k1,rfl,rfl⟩⟩
structure CAll (ws:List Wd) (f:Nat):Prop where
 cond:∀ q,q<=ws.length->4 * (ws.length - q)+4<=f->qOq ws f q
 conj:∀ q,q<=ws.length->4 * (ws.length - q)+3<=f->HoldsG cx 189 [.ptr 1 0 0] (pbH ws q) (qTv ws (qCZ ws f q) fun c=>.p c.pv)
 neg:∀ q,q<=ws.length->4 * (ws.length - q)+2<=f->HoldsG cx 190 [.ptr 0 0 0] (psH ws q) (cdQ ws (qFk ws f q))
 test:∀ q,q<=ws.length->4 * (ws.length - q)+1<=f->HoldsG cx 202 [.ptr 0 0 0] (psH ws q) (cdQ ws (qDF ws f q))
theorem qXp (ws:List Wd) (F q0:Nat) (hg:GoodW ws) (hq0:q0<=ws.length) (hF:4 * (ws.length - q0)+2<=F+1) (ih:CAll ws F) :
  HoldsG cx 190 [.ptr 0 0 0] (psH ws q0) (cdQ ws (qFk ws (F+1) q0)):=by
 generalize hR:qFk ws (F+1) q0=R
 rw [qFk] at hR
 refine qAA Tryz.func190 rfl rfl rfl ?_
 have hl:=hg.len
 by_cases c1:txt ws q0=qGX
 ·have q1l:q0+1<=ws.length:=qAh (by rw [c1];decide)
  rw [if_pos c1] at hR
  refine(qA7 ws q0 qGX hl hq0).holds.useT [] [] rfl (sk) (sk) fun e0 H0 hq=>?_
  obtain⟨rfl,rfl⟩:=hq.1 c1
  refine⟨rfl,_,⟨2,(0,psO ws (q0+1))::[(1,zc)]⟩,rfl,rfl,?_⟩
  refine(ih.neg (q0+1) q1l (by omega)).holds.useT [] [] rfl (sk) (sk) fun e0 H0 hq=>?_
  rcases h1:qFk ws F (q0+1) with p | ⟨⟨o,n,rl,vl,rf,st,ar⟩,q2⟩
  ·rw [h1] at hq hR
   obtain⟨rfl,rfl⟩:=hq
   refine⟨rfl,_,_,rfl,rfl,?_⟩
   exact⟨[],[],[],qAa ws p,⟨1,[]⟩,rfl,⟨_,rfl,_,_,rfl,rfl,rfl⟩,trivial,by rw [<- hR];exact⟨rfl,rfl⟩⟩
  rw [h1] at hq hR
  obtain⟨q2l,rfl,rfl⟩:=hq
  refine⟨rfl,_,⟨2,(0,psO ws q2)::[(1,zc)]⟩,rfl,rfl,?_⟩
  simp only [qAH] at hR
  exact⟨[2],[],[], .returned (.p (Cd.mk 7 0 0 0 rf0 [] [.mk o n rl vl rf st ar]).pv),psH ws q2,rfl,⟨_,rfl,⟨_,rfl,_,_,rfl,rfl,_,_,rfl,rfl,_,_,rfl,rfl,_,_,rfl,rfl,_,_,rfl,rfl,_,_,rfl,rfl,_,_,rfl,rfl,_,_,rfl,rfl,_,_,rfl, .inr (.inl rfl),_,_,rfl,⟨_,rfl,by show 0+1<=1;omega,rfl⟩,rfl⟩⟩,sk,by rw [<- hR];exact⟨q2l,rfl,rfl⟩⟩
 rw [if_neg c1] at hR
 refine(qA7 ws q0 qGX hl hq0).holds.useT [] [] rfl (sk) (sk) fun e0 H0 hq=>?_
 obtain⟨rfl,rfl⟩:=hq.2 c1
 refine⟨rfl,_,⟨2,(0,psO ws q0)::[(1,zc)]⟩,rfl,rfl,?_⟩
 have hc:=ih.test q0 hq0 (by omega)
 rw [hR] at hc
 refine hc.holds.useT [] [] rfl (sk) (sk) fun e0 H0 hq=>?_
 rcases R with p | ⟨⟨o,n,rl,vl,rf,st,ar⟩,q2⟩
 ·obtain⟨rfl,rfl⟩:=hq
  refine⟨rfl,_,_,rfl,rfl,?_⟩
  exact⟨[],[],[],qAa ws p,⟨1,[]⟩,rfl,⟨_,rfl,_,_,rfl,rfl,rfl⟩,trivial,rfl,rfl⟩
 obtain⟨q2l,rfl,rfl⟩:=hq
 refine⟨rfl,_,⟨2,(0,psO ws q2)::[(1,zc)]⟩,rfl,rfl,?_⟩
 exact⟨[],[],[], .returned (.p (Cd.mk o n rl vl rf st ar).pv),psH ws q2,rfl,sk,sk,q2l,rfl,rfl⟩
theorem qW8 (ws:List Wd) (F q0:Nat) (hg:GoodW ws) (hq0:q0<=ws.length) (hF:4 * (ws.length - q0)+3<=F+1) (ih:∀ f,f<=F->CAll ws f) :
  HoldsG cx 189 [.ptr 1 0 0] (pbH ws q0) (qTv ws (qCZ ws (F+1) q0) fun c=>.p c.pv):=by
 have hc:=qX9 ws F q0 hg hq0 hF fun q hq f hf hb=>(ih f hf).neg q hq hb
 generalize qCZ ws (F+1) q0=R at hc ⊢
 refine qAA Tryz.func189 rfl rfl rfl ?_
 refine hc.holds.useT [] [] rfl (sk) ⟨_,_,rfl,⟨rfl,rfl⟩,_,_,rfl,rfl,_,_,rfl,rfl,_,_,rfl,⟨rfl,_,_,rfl,⟨_,_,rfl,⟨rfl,rfl⟩,rfl⟩,rfl⟩,rfl⟩ fun e0 H0 hq=>?_
 rcases R with p | ⟨⟨o,n,rl,vl,rf,st,ar⟩,q2⟩
 ·obtain⟨rfl,rfl⟩:=hq
  refine⟨rfl,_,_,rfl,rfl,?_⟩
  exact⟨[],[],[],qAa ws p,⟨2,[]⟩,rfl,⟨_,rfl,_,_,rfl,rfl,rfl⟩,trivial,rfl,rfl⟩
 obtain⟨q2l,rfl,rfl⟩:=hq
 refine⟨rfl,_,⟨3,(0,psO ws q2)::[(2,zc),(1,bxO)]⟩,rfl,rfl,?_⟩
 exact⟨[],[],[], .returned (.p (Cd.mk o n rl vl rf st ar).pv),pbH ws q2,rfl,sk,sk,q2l,rfl,rfl⟩
theorem qW9 (ws:List Wd) (F q0:Nat) (hg:GoodW ws) (hq0:q0<=ws.length) (hF:4 * (ws.length - q0)+4<=F+1) (ih:∀ f,f<=F->CAll ws f):qOq ws (F+1) q0:=by
 have hc:=qYi ws F q0 hg hq0 hF fun q hq f hf hb=>(ih f hf).conj q hq hb
 show HoldsG cx _ _ _ (rdQ ws (qCa ws (F+1) q0) fun c=>.p c.pv)
 generalize qCa ws (F+1) q0=R at hc ⊢
 refine qAA Tryz.func171 rfl rfl rfl ?_
 refine hc.holds.useT [] [] rfl (sk) ⟨_,_,rfl,⟨rfl,rfl⟩,_,_,rfl,rfl,_,_,rfl,rfl,_,_,rfl,⟨rfl,_,_,rfl,rfl,⟨_,_,rfl,⟨rfl,rfl⟩,rfl⟩⟩,rfl⟩ fun e0 H0 hq=>?_
 rcases R with p | ⟨⟨o,n,rl,vl,rf,st,ar⟩,q2⟩
 ·obtain⟨rfl,rfl⟩:=hq
  refine⟨rfl,_,_,rfl,rfl,?_⟩
  exact⟨[],[],[],qAa ws p,⟨1,[]⟩,rfl,⟨_,rfl,_,_,rfl,rfl,rfl⟩,trivial,rfl,rfl⟩
 obtain⟨q2l,rfl,rfl⟩:=hq
 refine⟨rfl,_,⟨3,(0,psO ws q2)::[(1,bxO),(2,zc)]⟩,rfl,rfl,?_⟩
 exact⟨[],[],[], .returned (.p (Cd.mk o n rl vl rf st ar).pv),psH ws q2,rfl,sk,sk,q2l,rfl,rfl⟩
theorem qXE (ws:List Wd) (hg:GoodW ws):∀ F f,f<=F->CAll ws f
 | 0,f,hf=>by
  have:f=0:=by omega
  subst this
  exact⟨fun q _ h=>absurd h (by omega),fun q _ h=>absurd h (by omega),fun q _ h=>absurd h (by omega),fun q _ h=>absurd h (by omega)⟩
 | F+1,f,hf=>by
  have ih:=qXE ws hg F
  by_cases h:f<=F
  ·exact ih f h
  have:f=F+1:=by omega
  subst this
  exact⟨fun q hq hb=>qW9 ws F q hg hq hb ih,fun q hq hb=>qW8 ws F q hg hq hb ih,fun q hq hb=>qXp ws F q hg hq hb (ih F (Nat.le_refl _)),fun q hq hb=>qWK ws F q hg hq hb fun q hq hb=>(ih F (Nat.le_refl _)).cond q hq hb⟩
theorem qM3 (ws:List Wd) (F q:Nat) (hg:GoodW ws) (hq:q<=ws.length) (hF:4 * (ws.length - q)+4<=F):qOq ws F q:=(qXE ws hg F F (Nat.le_refl _)).cond q hq hF
def qYc {α:Type} (ws:List Wd) (r:Rd α) (val:α->PV) (e:AE) (H':Hp):Prop:=match r with
 | .inl p=>e=qAa ws p/\H'=⟨1,[]⟩
 | .inr (a,q)=>q<=ws.length/\(∃ y,e=.returned (.p y)/\NilD y (val a))/\H'=psH ws q
theorem qE6 {α:Type} {ws:List Wd} {g:FuncId} {args:List AV} {H:Hp} {r:Rd α} {val:α->PV} (h:HoldsG cx g args H (qYc ws r val)):HoldsG cx g args H (rdQ ws r fun a=>.p (val a)):=
 h.weak fun e H' hq=>by
  rcases r with p | ⟨c,q⟩
  ·obtain⟨rfl,rfl⟩:=hq
   exact⟨_,rfl,rfl,rfl⟩
  ·obtain⟨h1,⟨y,rfl,h2⟩,rfl⟩:=hq
   exact⟨.returned (.p (val c)),⟨_,rfl,by simp only [NilA];exact⟨_,rfl,h2⟩⟩,h1,rfl,rfl⟩
theorem qRJ {ws:List Wd}:∀ (f:Nat) {acc l:List Int} {q q':Nat},qC4 ws f acc q=.inr (l,q')->q<=q'
 | 0,_,_,_,_,h=>by cases h
 | f+1,acc,l,q,q',h=>by
  rw [qC4] at h
  split at h
  ·obtain⟨a,q1,h1,h⟩:=then_ok h
   have:=int_lt h1
   have:=qRJ f h
   omega
  ·injection h with h;injection h with h1 h2;omega
theorem qKM {ws:List Wd} {F q q':Nat} {l:List Int} (h:qDL ws F q=.inr (l,q')):q<q':=by
 rw [qDL] at h
 obtain⟨a,q1,h1,h⟩:=then_ok h
 have:=int_lt h1
 have:=qRJ F h
 omega
theorem qQs {ws:List Wd} {q q':Nat} {n:Int} (h:qCT ws q=.inr (n,q')):q'<=ws.length:=by
 rw [qCT] at h
 split at h
 ·rename_i hk
  have:=qGK (ws:=ws) (q:=q) (by rw [hk];decide)
  injection h with h;injection h with h1 h2;omega
 ·cases h
theorem qRL {ws:List Wd} {q q':Nat} {n:Int} (h:qIM ws q=.inr (n,q')):q'<=ws.length:=by
 rw [qIM] at h
 split at h
 ·obtain⟨m,q2,h2,h⟩:=then_ok h
  have:=qQs h2
  injection h with h;injection h with h3 h4;omega
 ·exact qQs h
theorem qOL {ws:List Wd}:∀ (f:Nat) {acc l:List Int} {q q':Nat},q<=ws.length->qC4 ws f acc q=.inr (l,q')->q'<=ws.length
 | 0,_,_,_,_,_,h=>by cases h
 | f+1,acc,l,q,q',hq,h=>by
  rw [qC4] at h
  split at h
  ·obtain⟨a,q1,h1,h⟩:=then_ok h
   exact qOL f (qRL h1) h
  ·injection h with h;injection h with h1 h2;omega
theorem qSz {ws:List Wd} {F q q':Nat} {l:List Int} (h:qDL ws F q=.inr (l,q')):q'<=ws.length:=by
 rw [qDL] at h
 obtain⟨a,q1,h1,h⟩:=then_ok h
 exact qOL F (qRL h1) h
theorem qM5 {ws:List Wd} (F:Nat) {q q':Nat} {c:Cd} (h:qCa ws F q=.inr (c,q')):q<q':=(qXb ws F).cond h
def csO (l:List Cs):AObj:=⟨qHB,false, .pus (l.map Cs.cells)⟩
abbrev qJg (l:List Int):List PV:=[i64 0,i64 0,i64 0,i64 0, .str [],i64 0, .str [],i64 0, .nils, .nils,ints l]
theorem qU3 (l:List Int):NilDL (qJg l) (Cs.cells ⟨cd0,l⟩):=by
 show NilDL _ [i64 0,i64 0,i64 0,i64 0, .str [],i64 0, .str [],i64 0, .lst [], .lsts 10 [],ints l]
 simp only [NilDL,NilD]
 exact⟨_,_,rfl,rfl,_,_,rfl,rfl,_,_,rfl,rfl,_,_,rfl,rfl,_,_,rfl,rfl,_,_,rfl,rfl,_,_,rfl,rfl,_,_,rfl,rfl,_,_,rfl, .inr (.inl rfl),_,_,rfl, .inr (.inr ⟨10,rfl⟩),_,_,rfl,⟨_,rfl,NilDL.refl _⟩,rfl⟩
theorem qJS {y z:List PV} (h:NilDL y z):∀ xs:List (List PV),NilDLL (xs++[y]) (xs++[z])
 | []=>by
  show NilDLL [y] [z]
  simp only [NilDLL]
  exact⟨_,_,rfl,h,rfl⟩
 | x::xs=>by
  show NilDLL (x::(xs++[y])) (x::(xs++[z]))
  simp only [NilDLL]
  exact⟨_,_,rfl,NilDL.refl x,qJS h xs⟩
theorem qMZ (acc:List Cs) (l:List Int):NilD (.lsts 11 (acc.map Cs.cells++[qJg l])) (css (acc++[⟨cd0,l⟩])):=by
 show NilD _ (.lsts 11 ((acc++[(⟨cd0,l⟩:Cs)]).map Cs.cells))
 rw [List.map_append]
 simp only [NilD]
 exact⟨_,rfl,qJS (qU3 l) _⟩
theorem qQK (ws:List Wd) (F q0:Nat) (hF:4 * ws.length+8<=F) (hg:GoodW ws) (hq0:q0<=ws.length):HoldsG cx 135 [.ptr 0 0 0] (psH ws q0) (rdQ ws (qEi ws F q0) fun l=>.p (css l)):=by
 refine qE6 ?_
 generalize hR:qEi ws F q0=R
 rw [qEi] at hR
 refine qAA Tryz.func135 rfl rfl rfl ?_
 have hl:=hg.len
 rw [<- qBA] at hR
 refine(qAq ws q0 [tLC] hl hq0 (by simp) (by simp)).holds.useT [1] [] rfl (sk) ⟨_,_,rfl,⟨rfl,rfl⟩,_,_,rfl,⟨_,rfl,by decide,rfl⟩,rfl⟩ fun e0 H0 hq=>?_
 rcases h1:qAp ws [tLC] q0 with p | ⟨u1,q1⟩
 ·rw [h1] at hq hR
  obtain⟨rfl,rfl⟩:=hq
  refine⟨rfl,_,_,rfl,rfl,?_⟩
  exact⟨[],[],[],qAa ws p,⟨1,[]⟩,rfl,⟨_,rfl,_,_,rfl,rfl,rfl⟩,trivial,by rw [<- hR];exact⟨rfl,rfl⟩⟩
 rw [h1] at hq hR
 obtain⟨q1l,rfl,rfl⟩:=hq
 refine⟨rfl,_,⟨2,(0,psO ws q1)::[(1,sO [tLC])]⟩,rfl,rfl,?_⟩
 simp only [qAH] at hR
 refine⟨List Cs × Nat,fun x=>[(0, .ptr 0 0 0),(3, .sl 1 11 0 x.1.length)],fun x=>⟨2,[(1,csO x.1),(0,psO ws x.2)]⟩,fun x=>x.2<=ws.length/\x.1.length<=x.2/\LI R (fun f=>qCV ws F f x.1 x.2) (ws.length - x.2),fun x=>ws.length - x.2,?_,?_⟩
 ·exact⟨([],q1),⟨q1l,by simp,⟨F,by simp only [];omega,hR.symm⟩⟩,qAB [] [] [(1,11)] rfl (sk) (sk) rfl⟩
 rintro⟨acc,q⟩ ⟨k1,k2,k3⟩
 simp only [] at k1 k2 k3
 by_cases c1:txt ws q=qCQ
 ·have ql:q+1<=ws.length:=qAh (by rw [c1];decide)
  have hR:qFb ws F acc (q+1)=R:=(k3.is fun f=>by rw [qCV,if_pos c1]).symm
  clear k3
  rw [qFb] at hR
  refine(qA7 ws q qCQ hl k1).holds.useT [] [] rfl (sk) (sk) fun e0 H0 hq=>?_
  obtain⟨rfl,rfl⟩:=hq.1 c1
  refine⟨rfl,_,⟨2,(0,psO ws (q+1))::[(1,csO acc)]⟩,rfl,rfl,?_⟩
  rw [<- qBA] at hR
  refine(qAq ws (q+1) [qAu] hl ql (by simp) (by simp)).holds.useT [2] [] rfl (sk) ⟨_,_,rfl,⟨rfl,rfl⟩,_,_,rfl,⟨_,rfl,by decide,rfl⟩,rfl⟩ fun e0 H0 hq=>?_
  rcases h2:qAp ws [qAu] (q+1) with p | ⟨u2,q2⟩
  ·rw [h2] at hq hR
   obtain⟨rfl,rfl⟩:=hq
   refine⟨rfl,_,_,rfl,rfl,?_⟩
   exact⟨[],[],[],qAa ws p,⟨1,[]⟩,rfl,⟨_,rfl,_,_,rfl,rfl,rfl⟩,trivial,by rw [<- hR];exact⟨rfl,rfl⟩⟩
  rw [h2] at hq hR
  obtain⟨q2l,rfl,rfl⟩:=hq
  refine⟨rfl,_,⟨3,(0,psO ws q2)::[(2,sO [qAu]),(1,csO acc)]⟩,rfl,rfl,?_⟩
  simp only [qAH] at hR
  refine(qLG ws F q2 (by omega) hg q2l).holds.useT [] [] rfl (sk) (sk) fun e0 H0 hq=>?_
  rcases h3:qDL ws F q2 with p | ⟨l,q3⟩
  ·rw [h3] at hq hR
   obtain⟨rfl,rfl⟩:=hq
   refine⟨rfl,_,_,rfl,rfl,?_⟩
   exact⟨[],[],[],qAa ws p,⟨1,[]⟩,rfl,⟨_,rfl,_,_,rfl,rfl,rfl⟩,trivial,by rw [<- hR];exact⟨rfl,rfl⟩⟩
  rw [h3] at hq hR
  obtain⟨q3l,rfl,rfl⟩:=hq
  refine⟨rfl,_,⟨3,(0,psO ws q3)::[(2,sO [qAu]),(1,csO acc)]⟩,rfl,rfl,?_⟩
  simp only [qAH] at hR
  refine⟨by show 0+1<=1;omega,[qJg l],rfl,?_⟩
  refine⟨by show 0+acc.length<=(acc.map Cs.cells).length;simp,acc.map Cs.cells,qAD (by simp),by show(acc.length+1) * 152<=140737488355328;omega,acc.map Cs.cells++[qJg l],rfl,?_⟩
  rw [<- qBA] at hR
  refine(qAq ws q3 [tRC] hl q3l (by simp) (by simp)).holds.useT [5] [] rfl (sk) ⟨_,_,rfl,⟨rfl,rfl⟩,_,_,rfl,⟨_,rfl,by decide,rfl⟩,rfl⟩ fun e0 H0 hq=>?_
  rcases h4:qAp ws [tRC] q3 with p | ⟨u4,q4⟩
  ·rw [h4] at hq hR
   obtain⟨rfl,rfl⟩:=hq
   refine⟨rfl,_,_,rfl,rfl,?_⟩
   exact⟨[],[],[],qAa ws p,⟨1,[]⟩,rfl,⟨_,rfl,_,_,rfl,rfl,rfl⟩,trivial,by rw [<- hR];exact⟨rfl,rfl⟩⟩
  rw [h4] at hq hR
  obtain⟨q4l,rfl,rfl⟩:=hq
  refine⟨rfl,_,⟨6,(0,psO ws q4)::[(5,sO [tRC]),(4,⟨qHB,false, .pus (acc.map Cs.cells++[qJg l])⟩),(3,⟨qHB,false, .pus [qJg l]⟩),(2,sO [qAu])]⟩,rfl,rfl,?_⟩
  simp only [qAH] at hR
  exact⟨[4],[],[], .returned (.p (.lsts 11 (acc.map Cs.cells++[qJg l]))),psH ws q4,rfl,⟨_,rfl,⟨_,rfl,by show 0+(acc.length+1)<=(acc.map Cs.cells++[qJg l]).length;simp,qAD (by simp)⟩⟩,sk,by rw [<- hR];exact⟨q4l,⟨_,rfl,qMZ acc l⟩,rfl⟩⟩
 ·obtain⟨f,hf,k3⟩:=k3
  obtain⟨f,rfl⟩:∃ g,f=g+1:=⟨f - 1,by omega⟩
  simp only [] at k3
  rw [qCV,if_neg c1] at k3
  have hR:=k3.symm
  clear k3
  refine(qA7 ws q qCQ hl k1).holds.useT [] [] rfl (sk) (sk) fun e0 H0 hq=>?_
  obtain⟨rfl,rfl⟩:=hq.2 c1
  refine⟨rfl,_,⟨2,(0,psO ws q)::[(1,csO acc)]⟩,rfl,rfl,?_⟩
  refine(qM3 ws F q hg k1 (by omega)).holds.useT [] [] rfl (sk) (sk) fun e0 H0 hq=>?_
  rcases h1:qCa ws F q with p | ⟨⟨o,n,rl,vl,rf,st,ar⟩,q1⟩
  ·rw [h1] at hq hR
   obtain⟨rfl,rfl⟩:=hq
   refine⟨rfl,_,_,rfl,rfl,?_⟩
   exact⟨[],[],[],qAa ws p,⟨1,[]⟩,rfl,⟨_,rfl,_,_,rfl,rfl,rfl⟩,trivial,by rw [<- hR];exact⟨rfl,rfl⟩⟩
  have hlt1:=qM5 F h1
  rw [h1] at hq hR
  obtain⟨q1l,rfl,rfl⟩:=hq
  refine⟨rfl,_,⟨2,(0,psO ws q1)::[(1,csO acc)]⟩,rfl,rfl,?_⟩
  simp only [qAH] at hR
  rw [<- qBA] at hR
  refine(qAq ws q1 [qAu] hl q1l (by simp) (by simp)).holds.useT [3] [] rfl (sk) ⟨_,_,rfl,⟨rfl,rfl⟩,_,_,rfl,⟨_,rfl,by decide,rfl⟩,rfl⟩ fun e0 H0 hq=>?_
  rcases h2:qAp ws [qAu] q1 with p | ⟨u2,q2⟩
  ·rw [h2] at hq hR
   obtain⟨rfl,rfl⟩:=hq
   refine⟨rfl,_,_,rfl,rfl,?_⟩
   exact⟨[],[],[],qAa ws p,⟨1,[]⟩,rfl,⟨_,rfl,_,_,rfl,rfl,rfl⟩,trivial,by rw [<- hR];exact⟨rfl,rfl⟩⟩
  rw [h2] at hq hR
  obtain⟨q2l,rfl,rfl⟩:=hq
  refine⟨rfl,_,⟨4,(0,psO ws q2)::[(3,sO [qAu]),(2,cO ((Cd.mk o n rl vl rf st ar).cells.map .p)),(1,csO acc)]⟩,rfl,rfl,?_⟩
  simp only [qAH] at hR
  have hlt2:=qAv (ws:=ws) (s:=qAu) (q:=q1) (q':=q2) (u:=u2) (by rw [<- qBA];exact h2)
  have hN:=qLG ws F q2 (by omega) hg q2l
  rcases h3:qDL ws F q2 with p | ⟨l,q3⟩
  ·rw [h3] at hN hR
   refine VDraw.seq rfl ?_
   refine hN.holds.useT [] [] rfl (sk) (sk) fun e0 H0 hq=>?_
   obtain⟨rfl,rfl⟩:=hq
   refine⟨rfl,_,_,rfl,rfl,?_⟩
   exact⟨[],[],[],qAa ws p,⟨1,[]⟩,rfl,⟨_,rfl,_,_,rfl,rfl,rfl⟩,trivial,by rw [<- hR];exact⟨rfl,rfl⟩⟩
  have hlt3:=qKM h3
  rw [h3] at hN hR
  simp only [qAH] at hR
  obtain⟨x,hx⟩:∃ x:Cs,x=⟨.mk o n rl vl rf st ar,l⟩:=⟨_,rfl⟩
  have hq3l:=qSz h3
  refine VDraw.seqTo [(0, .ptr 0 0 0),(3, .sl 1 11 0 (acc.length+1))] ⟨2,[(1,csO (acc++[x])),(0,psO ws q3)]⟩ rfl ?_ ?_
  ·refine hN.holds.useT [] [] rfl (sk) (sk) fun e0 H0 hq=>?_
   obtain⟨q3l,rfl,rfl⟩:=hq
   refine⟨rfl,_,⟨4,(0,psO ws q3)::[(3,sO [qAu]),(2,cO ((Cd.mk o n rl vl rf st ar).cells.map .p)),(1,csO acc)]⟩,rfl,rfl,?_⟩
   refine⟨sk,?_⟩
   refine⟨by show 0+1<=1;omega,[x.cells],by rw [hx];rfl,?_⟩
   refine⟨by show 0+acc.length<=(acc.map Cs.cells).length;simp,acc.map Cs.cells,qAD (by simp),by show(acc.length+1) * 152<=140737488355328;omega,(acc++[x]).map Cs.cells,by simp,?_⟩
   exact qAB [] [(1,5)] [] rfl (sk) (sk) rfl
  rw [<- qBA] at hR
  refine(qAq ws q3 [qAZ] hl hq3l (by simp) (by simp)).holds.useT [2] [] rfl (sk) ⟨_,_,rfl,⟨rfl,rfl⟩,_,_,rfl,⟨_,rfl,by decide,rfl⟩,rfl⟩ fun e0 H0 hq=>?_
  rcases h4:qAp ws [qAZ] q3 with p | ⟨u4,q4⟩
  ·rw [h4] at hq hR
   obtain⟨rfl,rfl⟩:=hq
   refine⟨rfl,_,_,rfl,rfl,?_⟩
   exact⟨[],[],[],qAa ws p,⟨1,[]⟩,rfl,⟨_,rfl,_,_,rfl,rfl,rfl⟩,trivial,by rw [<- hR];exact⟨rfl,rfl⟩⟩
  rw [h4] at hq hR
  obtain⟨q4l,rfl,rfl⟩:=hq
  refine⟨rfl,_,⟨3,(0,psO ws q4)::[(2,sO [qAZ]),(1,csO (acc++[x]))]⟩,rfl,rfl,?_⟩
  simp only [qAH] at hR
  have hlt4:=qAv (ws:=ws) (s:=qAZ) (q:=q3) (q':=q4) (u:=u4) (by rw [<- qBA];exact h4)
  exact⟨(acc++[x],q4),⟨q4l,by simp only [qAK];omega,⟨f,by simp only [];omega,by rw [<- hR,hx]⟩⟩,qAB [] [] [] rfl ⟨⟨rfl,rfl⟩,congrArg (fun k:Nat=>AV.sl 1 11 0 k) (qAK acc x).symm,trivial⟩ (sk) rfl,by show ws.length - q4<ws.length - q;omega⟩
def dO (k n:Int) (nm pl:List UInt8) (fr cs:PV):AObj:=⟨qNL,false, .bx [.p (i64 k), .p (i64 n), .p (.str nm), .p (.str pl), .p fr, .p cs]⟩
abbrev zd:AObj:=dO 0 0 [] [] .nils .nils
theorem qJR {k n:Int} {nm pl:List UInt8} {fr cs:PV} {l:List Rf} {c:List Cs} (hf:NilD fr (qB5 l)) (hc:NilD cs (css c)):NilD (.agg [i64 k,i64 n, .str nm, .str pl,fr,cs]) (De.pv ⟨k,n,nm,pl,l,c⟩):=by
 show NilD _ (.agg [i64 k,i64 n, .str nm, .str pl,qB5 l,css c])
 simp only [NilD,NilDL]
 exact⟨_,rfl,_,_,rfl,rfl,_,_,rfl,rfl,_,_,rfl,rfl,_,_,rfl,rfl,_,_,rfl,hf,_,_,rfl,hc,rfl⟩
theorem qWk:NilD .nils (qB5 []):=by simp only [NilD];exact .inr (.inr ⟨4,rfl⟩)
theorem qQy:NilD .nils (css []):=by simp only [NilD];exact .inr (.inr ⟨11,rfl⟩)
def qSJ (ws:List Wd) (g:FuncId) (rd:Nat->Rd De):Prop:=∀ q,q<=ws.length->HoldsG cx g [.ptr 0 0 0] (psH ws q) (rdQ ws (rd q) fun d=>.p d.pv)
theorem qVJ (ws:List Wd) (F:Nat) (_hF:4 * ws.length+8<=F) (hg:GoodW ws):qSJ ws 88 (qFQ ws):=by
 intro q0 q0l
 refine qE6 ?_
 generalize hR:qFQ ws q0=R
 rw [qFQ] at hR
 refine qAA Tryz.func88 rfl rfl rfl ?_
 have hl:=hg.len
 refine(qB0 ws q0 hg q0l).holds.useT [] [] rfl (sk) (sk) fun e0 H0 hq=>?_
 rcases h1:qCT ws q0 with p | ⟨n,q1⟩
 ·rw [h1] at hq hR
  obtain⟨rfl,rfl⟩:=hq
  refine⟨rfl,_,_,rfl,rfl,?_⟩
  exact⟨[],[],[],qAa ws p,⟨1,[]⟩,rfl,⟨_,rfl,_,_,rfl,rfl,rfl⟩,trivial,by rw [<- hR];exact⟨rfl,rfl⟩⟩
 rw [h1] at hq hR
 obtain⟨q1l,rfl,rfl⟩:=hq
 refine⟨rfl,_,⟨2,(0,psO ws q1)::[(1,zd)]⟩,rfl,rfl,?_⟩
 simp only [qAH] at hR
 exact⟨[],[],[], .returned (.p (.agg [i64 1,i64 n, .str [], .str [], .nils, .nils])),psH ws q1,rfl,sk,sk,by rw [<- hR];exact⟨q1l,⟨_,rfl,qJR qWk qQy⟩,rfl⟩⟩
theorem qUv (ws:List Wd) (F:Nat) (_hF:4 * ws.length+8<=F) (hg:GoodW ws):qSJ ws 89 (qFO ws):=by
 intro q0 q0l
 refine qE6 ?_
 generalize hR:qFO ws q0=R
 rw [qFO] at hR
 refine qAA Tryz.func89 rfl rfl rfl ?_
 have hl:=hg.len
 refine(qIE ws q0 hl q0l).holds.useT [] [] rfl (sk) (sk) fun e0 H0 hq=>?_
 rcases h1:qCU ws q0 with p | ⟨nm,q1⟩
 ·rw [h1] at hq hR
  obtain⟨rfl,rfl⟩:=hq
  refine⟨rfl,_,_,rfl,rfl,?_⟩
  exact⟨[],[],[],qAa ws p,⟨1,[]⟩,rfl,⟨_,rfl,_,_,rfl,rfl,rfl⟩,trivial,by rw [<- hR];exact⟨rfl,rfl⟩⟩
 rw [h1] at hq hR
 obtain⟨q1l,rfl,rfl⟩:=hq
 refine⟨rfl,_,⟨2,(0,psO ws q1)::[(1,zd)]⟩,rfl,rfl,?_⟩
 simp only [qAH] at hR
 rw [<- qBA] at hR
 refine(qAq ws q1 [tEq] hl q1l (by simp) (by simp)).holds.useT [3] [] rfl (sk) ⟨_,_,rfl,⟨rfl,rfl⟩,_,_,rfl,⟨_,rfl,by decide,rfl⟩,rfl⟩ fun e0 H0 hq=>?_
 rcases h2:qAp ws [tEq] q1 with p | ⟨u2,q2⟩
 ·rw [h2] at hq hR
  obtain⟨rfl,rfl⟩:=hq
  refine⟨rfl,_,_,rfl,rfl,?_⟩
  exact⟨[],[],[],qAa ws p,⟨1,[]⟩,rfl,⟨_,rfl,_,_,rfl,rfl,rfl⟩,trivial,by rw [<- hR];exact⟨rfl,rfl⟩⟩
 rw [h2] at hq hR
 obtain⟨q2l,rfl,rfl⟩:=hq
 refine⟨rfl,_,⟨4,(0,psO ws q2)::[(3,sO [tEq]),(2,dO 2 0 nm [] .nils .nils),(1,zd)]⟩,rfl,rfl,?_⟩
 simp only [qAH] at hR
 refine(qB0 ws q2 hg q2l).holds.useT [] [] rfl (sk) (sk) fun e0 H0 hq=>?_
 rcases h3:qCT ws q2 with p | ⟨n,q3⟩
 ·rw [h3] at hq hR
  obtain⟨rfl,rfl⟩:=hq
  refine⟨rfl,_,_,rfl,rfl,?_⟩
  exact⟨[],[],[],qAa ws p,⟨1,[]⟩,rfl,⟨_,rfl,_,_,rfl,rfl,rfl⟩,trivial,by rw [<- hR];exact⟨rfl,rfl⟩⟩
 rw [h3] at hq hR
 obtain⟨q3l,rfl,rfl⟩:=hq
 refine⟨rfl,_,⟨4,(0,psO ws q3)::[(3,sO [tEq]),(2,dO 2 0 nm [] .nils .nils),(1,zd)]⟩,rfl,rfl,?_⟩
 simp only [qAH] at hR
 exact⟨[],[],[], .returned (.p (.agg [i64 2,i64 n, .str nm, .str [], .nils, .nils])),psH ws q3,rfl,sk,sk,by rw [<- hR];exact⟨q3l,⟨_,rfl,qJR qWk qQy⟩,rfl⟩⟩
theorem qTN (ws:List Wd) (F:Nat) (hF:4 * ws.length+8<=F) (hg:GoodW ws):qSJ ws 91 (qDp ws F):=by
 intro q0 q0l
 refine qE6 ?_
 generalize hR:qDp ws F q0=R
 rw [qDp] at hR
 refine qAA Tryz.func91 rfl rfl rfl ?_
 have hl:=hg.len
 refine(qIE ws q0 hl q0l).holds.useT [] [] rfl (sk) (sk) fun e0 H0 hq=>?_
 rcases h1:qCU ws q0 with p | ⟨nm,q1⟩
 ·rw [h1] at hq hR
  obtain⟨rfl,rfl⟩:=hq
  refine⟨rfl,_,_,rfl,rfl,?_⟩
  exact⟨[],[],[],qAa ws p,⟨1,[]⟩,rfl,⟨_,rfl,_,_,rfl,rfl,rfl⟩,trivial,by rw [<- hR];exact⟨rfl,rfl⟩⟩
 rw [h1] at hq hR
 obtain⟨q1l,rfl,rfl⟩:=hq
 refine⟨rfl,_,⟨2,(0,psO ws q1)::[(1,zd)]⟩,rfl,rfl,?_⟩
 simp only [qAH] at hR
 rw [<- qBA] at hR
 refine(qAq ws q1 [qAu] hl q1l (by simp) (by simp)).holds.useT [3] [] rfl (sk) ⟨_,_,rfl,⟨rfl,rfl⟩,_,_,rfl,⟨_,rfl,by decide,rfl⟩,rfl⟩ fun e0 H0 hq=>?_
 rcases h2:qAp ws [qAu] q1 with p | ⟨u2,q2⟩
 ·rw [h2] at hq hR
  obtain⟨rfl,rfl⟩:=hq
  refine⟨rfl,_,_,rfl,rfl,?_⟩
  exact⟨[],[],[],qAa ws p,⟨1,[]⟩,rfl,⟨_,rfl,_,_,rfl,rfl,rfl⟩,trivial,by rw [<- hR];exact⟨rfl,rfl⟩⟩
 rw [h2] at hq hR
 obtain⟨q2l,rfl,rfl⟩:=hq
 refine⟨rfl,_,⟨4,(0,psO ws q2)::[(3,sO [qAu]),(2,dO 4 0 nm [] .nils .nils),(1,zd)]⟩,rfl,rfl,?_⟩
 simp only [qAH] at hR
 refine(qB0 ws q2 hg q2l).holds.useT [] [] rfl (sk) (sk) fun e0 H0 hq=>?_
 rcases h3:qCT ws q2 with p | ⟨n,q3⟩
 ·rw [h3] at hq hR
  obtain⟨rfl,rfl⟩:=hq
  refine⟨rfl,_,_,rfl,rfl,?_⟩
  exact⟨[],[],[],qAa ws p,⟨1,[]⟩,rfl,⟨_,rfl,_,_,rfl,rfl,rfl⟩,trivial,by rw [<- hR];exact⟨rfl,rfl⟩⟩
 rw [h3] at hq hR
 obtain⟨q3l,rfl,rfl⟩:=hq
 refine⟨rfl,_,⟨4,(0,psO ws q3)::[(3,sO [qAu]),(2,dO 4 0 nm [] .nils .nils),(1,zd)]⟩,rfl,rfl,?_⟩
 simp only [qAH] at hR
 refine(qNn ws F q3 qBd (by decide) (by omega) hg q3l).holds.useT [] [] rfl (sk) (sk) fun e0 H0 hq=>?_
 rcases h4:qDm ws F qBd q3 with p | ⟨l,q4⟩
 ·rw [h4] at hq hR
  obtain⟨rfl,rfl⟩:=hq
  refine⟨rfl,_,_,rfl,rfl,?_⟩
  exact⟨[],[],[],qAa ws p,⟨1,[]⟩,rfl,⟨_,rfl,_,_,rfl,rfl,rfl⟩,trivial,by rw [<- hR];exact⟨rfl,rfl⟩⟩
 rw [h4] at hq hR
 obtain⟨q4l,rfl,rfl⟩:=hq
 refine⟨rfl,_,⟨4,(0,psO ws q4)::[(3,sO [qAu]),(2,dO 4 n nm [] .nils .nils),(1,zd)]⟩,rfl,rfl,?_⟩
 simp only [qAH] at hR
 exact⟨[],[],[], .returned (.p (.agg [i64 4,i64 n, .str nm, .str [],qB5 l, .nils])),psH ws q4,rfl,sk,sk,by rw [<- hR];exact⟨q4l,⟨_,rfl,qJR (NilD.refl _) qQy⟩,rfl⟩⟩
theorem qWy (ws:List Wd) (F:Nat) (hF:4 * ws.length+8<=F) (hg:GoodW ws):qSJ ws 92 (qIr ws F):=by
 intro q0 q0l
 refine qE6 ?_
 generalize hR:qIr ws F q0=R
 rw [qIr] at hR
 refine qAA Tryz.func92 rfl rfl rfl ?_
 have hl:=hg.len
 refine(qNn ws F q0 qAg (by decide) (by omega) hg q0l).holds.useT [] [] rfl (sk) (sk) fun e0 H0 hq=>?_
 rcases h1:qDm ws F qAg q0 with p | ⟨l,q1⟩
 ·rw [h1] at hq hR
  obtain⟨rfl,rfl⟩:=hq
  refine⟨rfl,_,_,rfl,rfl,?_⟩
  exact⟨[],[],[],qAa ws p,⟨1,[]⟩,rfl,⟨_,rfl,_,_,rfl,rfl,rfl⟩,trivial,by rw [<- hR];exact⟨rfl,rfl⟩⟩
 rw [h1] at hq hR
 obtain⟨q1l,rfl,rfl⟩:=hq
 refine⟨rfl,_,⟨2,(0,psO ws q1)::[(1,zd)]⟩,rfl,rfl,?_⟩
 simp only [qAH] at hR
 rw [<- qBA] at hR
 refine(qAq ws q1 [tEq] hl q1l (by simp) (by simp)).holds.useT [3] [] rfl (sk) ⟨_,_,rfl,⟨rfl,rfl⟩,_,_,rfl,⟨_,rfl,by decide,rfl⟩,rfl⟩ fun e0 H0 hq=>?_
 rcases h2:qAp ws [tEq] q1 with p | ⟨u2,q2⟩
 ·rw [h2] at hq hR
  obtain⟨rfl,rfl⟩:=hq
  refine⟨rfl,_,_,rfl,rfl,?_⟩
  exact⟨[],[],[],qAa ws p,⟨1,[]⟩,rfl,⟨_,rfl,_,_,rfl,rfl,rfl⟩,trivial,by rw [<- hR];exact⟨rfl,rfl⟩⟩
 rw [h2] at hq hR
 obtain⟨q2l,rfl,rfl⟩:=hq
 refine⟨rfl,_,⟨4,(0,psO ws q2)::[(3,sO [tEq]),(2,dO 5 0 [] [] (qB5 l) .nils),(1,zd)]⟩,rfl,rfl,?_⟩
 simp only [qAH] at hR
 refine(qQK ws F q2 hF hg q2l).holds.useT [] [] rfl (sk) (sk) fun e0 H0 hq=>?_
 rcases h3:qEi ws F q2 with p | ⟨cs,q3⟩
 ·rw [h3] at hq hR
  obtain⟨rfl,rfl⟩:=hq
  refine⟨rfl,_,_,rfl,rfl,?_⟩
  exact⟨[],[],[],qAa ws p,⟨1,[]⟩,rfl,⟨_,rfl,_,_,rfl,rfl,rfl⟩,trivial,by rw [<- hR];exact⟨rfl,rfl⟩⟩
 rw [h3] at hq hR
 obtain⟨q3l,rfl,rfl⟩:=hq
 refine⟨rfl,_,⟨4,(0,psO ws q3)::[(3,sO [tEq]),(2,dO 5 0 [] [] (qB5 l) .nils),(1,zd)]⟩,rfl,rfl,?_⟩
 simp only [qAH] at hR
 exact⟨[],[],[], .returned (.p (.agg [i64 5,i64 0, .str [], .str [],qB5 l,css cs])),psH ws q3,rfl,sk,sk,by rw [<- hR];exact⟨q3l,⟨_,rfl,qJR (NilD.refl _) (NilD.refl _)⟩,rfl⟩⟩
theorem qWi (ws:List Wd) (F:Nat) (hF:4 * ws.length+8<=F) (hg:GoodW ws):qSJ ws 90 (qIn ws F):=by
 intro q0 q0l
 refine qE6 ?_
 generalize hR:qIn ws F q0=R
 rw [qIn] at hR
 refine qAA Tryz.func90 rfl rfl rfl ?_
 have hl:=hg.len
 refine(qIE ws q0 hl q0l).holds.useT [] [] rfl (sk) (sk) fun e0 H0 hq=>?_
 rcases h1:qCU ws q0 with p | ⟨nm,q1⟩
 ·rw [h1] at hq hR
  obtain⟨rfl,rfl⟩:=hq
  refine⟨rfl,_,_,rfl,rfl,?_⟩
  exact⟨[],[],[],qAa ws p,⟨1,[]⟩,rfl,⟨_,rfl,_,_,rfl,rfl,rfl⟩,trivial,by rw [<- hR];exact⟨rfl,rfl⟩⟩
 rw [h1] at hq hR
 obtain⟨q1l,rfl,rfl⟩:=hq
 refine⟨rfl,_,⟨2,(0,psO ws q1)::[(1,zd)]⟩,rfl,rfl,?_⟩
 simp only [qAH] at hR
 by_cases c1:txt ws q1=tLB
 rotate_left
 ·rw [if_neg c1] at hR
  refine(qA7 ws q1 tLB hl q1l).holds.useT [] [] rfl (sk) (sk) fun e0 H0 hq=>?_
  obtain⟨rfl,rfl⟩:=hq.2 c1
  refine⟨rfl,_,⟨3,(0,psO ws q1)::[(2,dO 3 0 nm [] .nils .nils),(1,zd)]⟩,rfl,rfl,?_⟩
  rw [qBs] at hR
  rw [<- qBA] at hR
  refine(qAq ws q1 [qAu] hl q1l (by simp) (by simp)).holds.useT [3] [] rfl (sk) ⟨_,_,rfl,⟨rfl,rfl⟩,_,_,rfl,⟨_,rfl,by decide,rfl⟩,rfl⟩ fun e0 H0 hq=>?_
  rcases h5:qAp ws [qAu] q1 with p | ⟨u5,q5⟩
  ·rw [h5] at hq hR
   obtain⟨rfl,rfl⟩:=hq
   refine⟨rfl,_,_,rfl,rfl,?_⟩
   exact⟨[],[],[],qAa ws p,⟨1,[]⟩,rfl,⟨_,rfl,_,_,rfl,rfl,rfl⟩,trivial,by rw [<- hR];exact⟨rfl,rfl⟩⟩
  rw [h5] at hq hR
  obtain⟨q5l,rfl,rfl⟩:=hq
  refine⟨rfl,_,⟨4,(0,psO ws q5)::[(3,sO [qAu]),(2,dO 3 0 nm [] .nils .nils),(1,zd)]⟩,rfl,rfl,?_⟩
  simp only [qAH] at hR
  refine(qB0 ws q5 hg q5l).holds.useT [] [] rfl (sk) (sk) fun e0 H0 hq=>?_
  rcases h6:qCT ws q5 with p | ⟨n,q6⟩
  ·rw [h6] at hq hR
   obtain⟨rfl,rfl⟩:=hq
   refine⟨rfl,_,_,rfl,rfl,?_⟩
   exact⟨[],[],[],qAa ws p,⟨1,[]⟩,rfl,⟨_,rfl,_,_,rfl,rfl,rfl⟩,trivial,by rw [<- hR];exact⟨rfl,rfl⟩⟩
  rw [h6] at hq hR
  obtain⟨q6l,rfl,rfl⟩:=hq
  refine⟨rfl,_,⟨4,(0,psO ws q6)::[(3,sO [qAu]),(2,dO 3 0 nm [] .nils .nils),(1,zd)]⟩,rfl,rfl,?_⟩
  simp only [qAH] at hR
  refine(qNn ws F q6 qAg (by decide) (by omega) hg q6l).holds.useT [] [] rfl (sk) (sk) fun e0 H0 hq=>?_
  rcases h7:qDm ws F qAg q6 with p | ⟨l,q7⟩
  ·rw [h7] at hq hR
   obtain⟨rfl,rfl⟩:=hq
   refine⟨rfl,_,_,rfl,rfl,?_⟩
   exact⟨[],[],[],qAa ws p,⟨1,[]⟩,rfl,⟨_,rfl,_,_,rfl,rfl,rfl⟩,trivial,by rw [<- hR];exact⟨rfl,rfl⟩⟩
  rw [h7] at hq hR
  obtain⟨q7l,rfl,rfl⟩:=hq
  refine⟨rfl,_,⟨4,(0,psO ws q7)::[(3,sO [qAu]),(2,dO 3 n nm [] .nils .nils),(1,zd)]⟩,rfl,rfl,?_⟩
  simp only [qAH] at hR
  rw [<- qBA] at hR
  refine(qAq ws q7 [tEq] hl q7l (by simp) (by simp)).holds.useT [4] [] rfl (sk) ⟨_,_,rfl,⟨rfl,rfl⟩,_,_,rfl,⟨_,rfl,by decide,rfl⟩,rfl⟩ fun e0 H0 hq=>?_
  rcases h8:qAp ws [tEq] q7 with p | ⟨u8,q8⟩
  ·rw [h8] at hq hR
   obtain⟨rfl,rfl⟩:=hq
   refine⟨rfl,_,_,rfl,rfl,?_⟩
   exact⟨[],[],[],qAa ws p,⟨1,[]⟩,rfl,⟨_,rfl,_,_,rfl,rfl,rfl⟩,trivial,by rw [<- hR];exact⟨rfl,rfl⟩⟩
  rw [h8] at hq hR
  obtain⟨q8l,rfl,rfl⟩:=hq
  refine⟨rfl,_,⟨5,(0,psO ws q8)::[(4,sO [tEq]),(3,sO [qAu]),(2,dO 3 n nm [] (qB5 l) .nils),(1,zd)]⟩,rfl,rfl,?_⟩
  simp only [qAH] at hR
  refine(qQK ws F q8 hF hg q8l).holds.useT [] [] rfl (sk) (sk) fun e0 H0 hq=>?_
  rcases h9:qEi ws F q8 with p | ⟨cs,q9⟩
  ·rw [h9] at hq hR
   obtain⟨rfl,rfl⟩:=hq
   refine⟨rfl,_,_,rfl,rfl,?_⟩
   exact⟨[],[],[],qAa ws p,⟨1,[]⟩,rfl,⟨_,rfl,_,_,rfl,rfl,rfl⟩,trivial,by rw [<- hR];exact⟨rfl,rfl⟩⟩
  rw [h9] at hq hR
  obtain⟨q9l,rfl,rfl⟩:=hq
  refine⟨rfl,_,⟨5,(0,psO ws q9)::[(4,sO [tEq]),(3,sO [qAu]),(2,dO 3 n nm [] (qB5 l) .nils),(1,zd)]⟩,rfl,rfl,?_⟩
  simp only [qAH] at hR
  exact⟨[],[],[], .returned (.p (.agg [i64 3,i64 n, .str nm, .str [],qB5 l,css cs])),psH ws q9,rfl,sk,sk,by rw [<- hR];exact⟨q9l,⟨_,rfl,qJR (NilD.refl _) (NilD.refl _)⟩,rfl⟩⟩
 rw [if_pos c1] at hR
 have q2l:q1+1<=ws.length:=qAh (by rw [c1];decide)
 refine(qA7 ws q1 tLB hl q1l).holds.useT [] [] rfl (sk) (sk) fun e0 H0 hq=>?_
 obtain⟨rfl,rfl⟩:=hq.1 c1
 refine⟨rfl,_,⟨3,(0,psO ws (q1+1))::[(2,dO 3 0 nm [] .nils .nils),(1,zd)]⟩,rfl,rfl,?_⟩
 refine(qIE ws (q1+1) hl q2l).holds.useT [] [] rfl (sk) (sk) fun e0 H0 hq=>?_
 rcases h3:qCU ws (q1+1) with p | ⟨pl,q3⟩
 ·rw [h3] at hq hR
  obtain⟨rfl,rfl⟩:=hq
  refine⟨rfl,_,_,rfl,rfl,?_⟩
  exact⟨[],[],[],qAa ws p,⟨1,[]⟩,rfl,⟨_,rfl,_,_,rfl,rfl,rfl⟩,trivial,by rw [<- hR];exact⟨rfl,rfl⟩⟩
 rw [h3] at hq hR
 obtain⟨q3l,rfl,rfl⟩:=hq
 refine⟨rfl,_,⟨3,(0,psO ws q3)::[(2,dO 3 0 nm [] .nils .nils),(1,zd)]⟩,rfl,rfl,?_⟩
 simp only [qAH] at hR
 rw [<- qBA] at hR
 refine(qAq ws q3 [tRB] hl q3l (by simp) (by simp)).holds.useT [3] [] rfl (sk) ⟨_,_,rfl,⟨rfl,rfl⟩,_,_,rfl,⟨_,rfl,by decide,rfl⟩,rfl⟩ fun e0 H0 hq=>?_
 rcases h4:qAp ws [tRB] q3 with p | ⟨u4,q4⟩
 ·rw [h4] at hq hR
  obtain⟨rfl,rfl⟩:=hq
  refine⟨rfl,_,_,rfl,rfl,?_⟩
  exact⟨[],[],[],qAa ws p,⟨1,[]⟩,rfl,⟨_,rfl,_,_,rfl,rfl,rfl⟩,trivial,by rw [<- hR];exact⟨rfl,rfl⟩⟩
 rw [h4] at hq hR
 obtain⟨q4l,rfl,rfl⟩:=hq
 refine⟨rfl,_,⟨4,(0,psO ws q4)::[(3,sO [tRB]),(2,dO 3 0 nm pl .nils .nils),(1,zd)]⟩,rfl,rfl,?_⟩
 simp only [qAH] at hR
 rw [qBs] at hR
 rw [<- qBA] at hR
 refine(qAq ws q4 [qAu] hl q4l (by simp) (by simp)).holds.useT [4] [] rfl (sk) ⟨_,_,rfl,⟨rfl,rfl⟩,_,_,rfl,⟨_,rfl,by decide,rfl⟩,rfl⟩ fun e0 H0 hq=>?_
 rcases h5:qAp ws [qAu] q4 with p | ⟨u5,q5⟩
 ·rw [h5] at hq hR
  obtain⟨rfl,rfl⟩:=hq
  refine⟨rfl,_,_,rfl,rfl,?_⟩
  exact⟨[],[],[],qAa ws p,⟨1,[]⟩,rfl,⟨_,rfl,_,_,rfl,rfl,rfl⟩,trivial,by rw [<- hR];exact⟨rfl,rfl⟩⟩
 rw [h5] at hq hR
 obtain⟨q5l,rfl,rfl⟩:=hq
 refine⟨rfl,_,⟨5,(0,psO ws q5)::[(4,sO [qAu]),(3,sO [tRB]),(2,dO 3 0 nm pl .nils .nils),(1,zd)]⟩,rfl,rfl,?_⟩
 simp only [qAH] at hR
 refine(qB0 ws q5 hg q5l).holds.useT [] [] rfl (sk) (sk) fun e0 H0 hq=>?_
 rcases h6:qCT ws q5 with p | ⟨n,q6⟩
 ·rw [h6] at hq hR
  obtain⟨rfl,rfl⟩:=hq
  refine⟨rfl,_,_,rfl,rfl,?_⟩
  exact⟨[],[],[],qAa ws p,⟨1,[]⟩,rfl,⟨_,rfl,_,_,rfl,rfl,rfl⟩,trivial,by rw [<- hR];exact⟨rfl,rfl⟩⟩
 rw [h6] at hq hR
 obtain⟨q6l,rfl,rfl⟩:=hq
 refine⟨rfl,_,⟨5,(0,psO ws q6)::[(4,sO [qAu]),(3,sO [tRB]),(2,dO 3 0 nm pl .nils .nils),(1,zd)]⟩,rfl,rfl,?_⟩
 simp only [qAH] at hR
 refine(qNn ws F q6 qAg (by decide) (by omega) hg q6l).holds.useT [] [] rfl (sk) (sk) fun e0 H0 hq=>?_
 rcases h7:qDm ws F qAg q6 with p | ⟨l,q7⟩
 ·rw [h7] at hq hR
  obtain⟨rfl,rfl⟩:=hq
  refine⟨rfl,_,_,rfl,rfl,?_⟩
  exact⟨[],[],[],qAa ws p,⟨1,[]⟩,rfl,⟨_,rfl,_,_,rfl,rfl,rfl⟩,trivial,by rw [<- hR];exact⟨rfl,rfl⟩⟩
 rw [h7] at hq hR
 obtain⟨q7l,rfl,rfl⟩:=hq
 refine⟨rfl,_,⟨5,(0,psO ws q7)::[(4,sO [qAu]),(3,sO [tRB]),(2,dO 3 n nm pl .nils .nils),(1,zd)]⟩,rfl,rfl,?_⟩
 simp only [qAH] at hR
 rw [<- qBA] at hR
 refine(qAq ws q7 [tEq] hl q7l (by simp) (by simp)).holds.useT [5] [] rfl (sk) ⟨_,_,rfl,⟨rfl,rfl⟩,_,_,rfl,⟨_,rfl,by decide,rfl⟩,rfl⟩ fun e0 H0 hq=>?_
 rcases h8:qAp ws [tEq] q7 with p | ⟨u8,q8⟩
 ·rw [h8] at hq hR
  obtain⟨rfl,rfl⟩:=hq
  refine⟨rfl,_,_,rfl,rfl,?_⟩
  exact⟨[],[],[],qAa ws p,⟨1,[]⟩,rfl,⟨_,rfl,_,_,rfl,rfl,rfl⟩,trivial,by rw [<- hR];exact⟨rfl,rfl⟩⟩
 rw [h8] at hq hR
 obtain⟨q8l,rfl,rfl⟩:=hq
 refine⟨rfl,_,⟨6,(0,psO ws q8)::[(5,sO [tEq]),(4,sO [qAu]),(3,sO [tRB]),(2,dO 3 n nm pl (qB5 l) .nils),(1,zd)]⟩,rfl,rfl,?_⟩
 simp only [qAH] at hR
 refine(qQK ws F q8 hF hg q8l).holds.useT [] [] rfl (sk) (sk) fun e0 H0 hq=>?_
 rcases h9:qEi ws F q8 with p | ⟨cs,q9⟩
 ·rw [h9] at hq hR
  obtain⟨rfl,rfl⟩:=hq
  refine⟨rfl,_,_,rfl,rfl,?_⟩
  exact⟨[],[],[],qAa ws p,⟨1,[]⟩,rfl,⟨_,rfl,_,_,rfl,rfl,rfl⟩,trivial,by rw [<- hR];exact⟨rfl,rfl⟩⟩
 rw [h9] at hq hR
 obtain⟨q9l,rfl,rfl⟩:=hq
 refine⟨rfl,_,⟨6,(0,psO ws q9)::[(5,sO [tEq]),(4,sO [qAu]),(3,sO [tRB]),(2,dO 3 n nm pl (qB5 l) .nils),(1,zd)]⟩,rfl,rfl,?_⟩
 simp only [qAH] at hR
 exact⟨[],[],[], .returned (.p (.agg [i64 3,i64 n, .str nm, .str pl,qB5 l,css cs])),psH ws q9,rfl,sk,sk,by rw [<- hR];exact⟨q9l,⟨_,rfl,qJR (NilD.refl _) (NilD.refl _)⟩,rfl⟩⟩
theorem qMN {ws:List Wd} {F:Nat} {key:List UInt8} {q q':Nat} {l:List Rf} (h:qDm ws F key q=.inr (l,q')):q<=q':=by
 rw [qDm] at h
 split at h
 ·have:=qQ7 (fun q a q' h=>qHJ h) h;omega
 ·injection h with h;injection h with h1 h2;omega
theorem qOa {ws:List Wd} {F:Nat}:∀ (f:Nat) {acc l:List Cs} {q q':Nat},qCV ws F f acc q=.inr (l,q')->q<q'
 | 0,_,_,_,_,h=>by cases h
 | f+1,acc,l,q,q',h=>by
  rw [qCV] at h
  split at h
  ·rw [qFb] at h
   obtain⟨u,q1,h1,h⟩:=then_ok h
   have:=qAv h1
   obtain⟨l1,q2,h2,h⟩:=then_ok h
   have:=qKM h2
   obtain⟨u3,q3,h3,h⟩:=then_ok h
   have:=qAv h3
   injection h with h;injection h with h1 h2;omega
  ·obtain⟨c,q1,h1,h⟩:=then_ok h
   have:=qM5 F h1
   obtain⟨u2,q2,h2,h⟩:=then_ok h
   have:=qAv h2
   obtain⟨l3,q3,h3,h⟩:=then_ok h
   have:=qKM h3
   obtain⟨u4,q4,h4,h⟩:=then_ok h
   have:=qAv h4
   have:=qOa f h
   omega
theorem qQJ {ws:List Wd} {F q q':Nat} {l:List Cs} (h:qEi ws F q=.inr (l,q')):q<q':=by
 rw [qEi] at h
 obtain⟨u,q1,h1,h⟩:=then_ok h
 have:=qAv h1
 have:=qOa F h
 omega
theorem qN0 {ws:List Wd} {F q q':Nat} {nm pl:List UInt8} {d:De} (h:qBs ws F nm pl q=.inr (d,q')):q<q':=by
 rw [qBs] at h
 obtain⟨u1,q1,h1,h⟩:=then_ok h
 have:=qAv h1
 obtain⟨n,q2,h2,h⟩:=then_ok h
 have:=qCb h2
 obtain⟨l,q3,h3,h⟩:=then_ok h
 have:=qMN h3
 obtain⟨u4,q4,h4,h⟩:=then_ok h
 have:=qAv h4
 obtain⟨cs,q5,h5,h⟩:=then_ok h
 have:=qQJ h5
 injection h with h;injection h with h1 h2;omega
theorem qG0 {ws:List Wd} {F q q':Nat} {d:De} (h:qB3 ws F q=.inr (d,q')):q<q':=by
 rw [qB3] at h
 split at h
 ·rw [qFQ] at h
  obtain⟨n,q1,h1,h⟩:=then_ok h
  have:=qCb h1
  injection h with h;injection h with h1 h2;omega
 split at h
 ·rw [qFO] at h
  obtain⟨nm,q1,h1,h⟩:=then_ok h
  have:=qFl h1
  obtain⟨u,q2,h2,h⟩:=then_ok h
  have:=qAv h2
  obtain⟨n,q3,h3,h⟩:=then_ok h
  have:=qCb h3
  injection h with h;injection h with h1 h2;omega
 split at h
 ·rw [qIn] at h
  obtain⟨nm,q1,h1,h⟩:=then_ok h
  have:=qFl h1
  try simp only [] at h
  split at h
  ·obtain⟨pl,q2,h2,h⟩:=then_ok h
   have:=qFl h2
   obtain⟨u,q3,h3,h⟩:=then_ok h
   have:=qAv h3
   have:=qN0 h
   omega
  ·have:=qN0 h
   omega
 split at h
 ·rw [qDp] at h
  obtain⟨nm,q1,h1,h⟩:=then_ok h
  have:=qFl h1
  obtain⟨u,q2,h2,h⟩:=then_ok h
  have:=qAv h2
  obtain⟨n,q3,h3,h⟩:=then_ok h
  have:=qCb h3
  obtain⟨l,q4,h4,h⟩:=then_ok h
  have:=qMN h4
  injection h with h;injection h with h1 h2;omega
 split at h
 ·rw [qIr] at h
  obtain⟨l,q1,h1,h⟩:=then_ok h
  have:=qMN h1
  obtain⟨u,q2,h2,h⟩:=then_ok h
  have:=qAv h2
  obtain⟨cs,q3,h3,h⟩:=then_ok h
  have:=qQJ h3
  injection h with h;injection h with h1 h2;omega
 ·cases h
abbrev fnP (g:FuncId):PV:=.fn (.func g) [] []
def qUn:List (List UInt8 × PV):=[(qCP,fnP 88),(qCO,fnP 89),(qAx,fnP 90),(qBS,fnP 91),(qB4,fnP 92)]
def mpO:AObj:=⟨181,false, .ms qUn⟩
def srO (v:AV):AObj:=⟨24,false, .bx [v]⟩
def qM2 (l:List De):AObj:=⟨qNL,false, .pus (l.map De.cells)⟩
def deO (d:De):AObj:=⟨qNL,false, .bx (d.cells.map .p)⟩
abbrev prH (ws:List Wd) (acc:List De) (q:Nat):Hp:=⟨5,[(4,qM2 acc),(3,srO (.sl 4 6 0 acc.length)),(2,mpO),(1,srO (.p .nils)),(0,psO ws q)]⟩
theorem qVB {a:List UInt8} (h1:¬ a=qCP) (h2:¬ a=qCO) (h3:¬ a=qAx) (h4:¬ a=qBS) (h5:¬ a=qB4):qGy qUn a=none:=by
 simp only [qUn,qGy,decide_eq_false h1,decide_eq_false h2,decide_eq_false h3,decide_eq_false h4,decide_eq_false h5]
theorem qQd (ws:List Wd) (F q0:Nat) (hF:4 * ws.length+8<=F) (hg:GoodW ws) (hq0:q0<=ws.length):HoldsG cx 55 [.ptr 0 0 0] (psH ws q0) (rdQ ws (qCq ws F F [] q0) fun l=>.p (qCn l)):=by
 generalize hR:qCq ws F F [] q0=R
 refine qAA Tryz.func55 rfl rfl rfl ?_
 have hl:=hg.len
 have hl':(ws.map Wd.cells).length=ws.length:=List.length_map ..
 refine⟨_,rfl,_,rfl,_,rfl,_,rfl,_,rfl,?_⟩
 refine⟨List De × Nat,fun x=>[(0, .ptr 0 0 0),(2, .ptr 1 0 0),(3, .mp 2),(4, .ptr 3 0 0)],fun x=>prH ws x.1 x.2,fun x=>x.2<=ws.length/\x.1.length<=x.2/\LI R (fun f=>qCq ws F f x.1 x.2) (ws.length - x.2),fun x=>ws.length - x.2,?_,?_⟩
 ·exact⟨([],q0),⟨hq0,by simp,⟨F,by simp only [];omega,hR.symm⟩⟩,qAB [] [] [(4,6)] rfl (sk) (sk) rfl⟩
 rintro⟨acc,q⟩ ⟨k1,k2,k3⟩
 simp only [] at k1 k2 k3
 refine VDraw.seq rfl ?_
 obtain⟨f,hf,k3⟩:=k3
 obtain⟨f,rfl⟩:∃ g,f=g+1:=⟨f - 1,by omega⟩
 simp only [] at k3
 rw [qCq] at k3
 refine QAD (fun c0=>?_) (fun c0=>?_)
 rotate_left
 ·have c0:¬ (q:Int)<((ws.map Wd.cells).length:Nat):=c0
  rw [hl'] at c0
  rw [if_neg (by omega)] at k3
  exact⟨[4],[],[], .returned (.p (qCn acc)),psH ws q,rfl,⟨_,rfl,⟨_,rfl,_,_,rfl,⟨_,rfl,by show 0+acc.length<=(acc.map De.cells).length;simp,qAD (by simp)⟩,rfl⟩⟩,sk,by rw [k3];exact⟨k1,rfl,rfl⟩⟩
 have c0:(q:Int)<((ws.map Wd.cells).length:Nat):=c0
 rw [hl'] at c0
 rw [if_pos (by omega)] at k3
 have hR:=k3.symm
 clear k3
 refine(qNW ws q hl k1).holds.useT [] [] rfl (sk) (sk) fun e0 H0 hq=>?_
 obtain⟨rfl,rfl⟩:=hq
 refine⟨rfl,_,⟨5,(0,psO ws q)::[(4,qM2 acc),(3,srO (.sl 4 6 0 acc.length)),(2,mpO),(1,srO (.p .nils))]⟩,rfl,rfl,?_⟩
 by_cases c:txt ws q=qCP
 ·have hdl:qB3 ws F q=qFQ ws (q+1):=by rw [qB3,if_pos c]
  rw [hdl] at hR
  have ql:q+1<=ws.length:=qAh (by rw [c];decide)
  have hR:((qFQ ws) (q+1)).then _=R:=hR
  refine⟨_, .inl ⟨_,by rw [c];rfl,rfl⟩,?_⟩
  refine⟨_,w6z,?_⟩
  refine((qVJ ws F hF hg) (q+1) ql).holds.useT [] [] rfl (sk) (sk) fun e0 H0 hq=>?_
  rcases h1:(qFQ ws) (q+1) with p | ⟨d,q2⟩
  ·rw [h1] at hq hR
   obtain⟨rfl,rfl⟩:=hq
   refine⟨rfl,_,_,rfl,rfl,?_⟩
   exact⟨[],[],[],qAa ws p,⟨1,[]⟩,rfl,⟨_,rfl,_,_,rfl,rfl,rfl⟩,trivial,by rw [<- hR];exact⟨rfl,rfl⟩⟩
  rw [h1] at hq hR hdl
  have hlt:=qG0 hdl
  obtain⟨q2l,rfl,rfl⟩:=hq
  refine⟨rfl,_,⟨5,(0,psO ws q2)::[(4,qM2 acc),(3,srO (.sl 4 6 0 acc.length)),(2,mpO),(1,srO (.p .nils))]⟩,rfl,rfl,?_⟩
  simp only [qAH] at hR
  rw [<- qBA] at hR
  refine(qAq ws q2 [qAZ] hl q2l (by simp) (by simp)).holds.useT [6] [] rfl (sk) ⟨_,_,rfl,⟨rfl,rfl⟩,_,_,rfl,⟨_,rfl,by decide,rfl⟩,rfl⟩ fun e0 H0 hq=>?_
  rcases h2:qAp ws [qAZ] q2 with p | ⟨u2,q3⟩
  ·rw [h2] at hq hR
   obtain⟨rfl,rfl⟩:=hq
   refine⟨rfl,_,_,rfl,rfl,?_⟩
   exact⟨[],[],[],qAa ws p,⟨1,[]⟩,rfl,⟨_,rfl,_,_,rfl,rfl,rfl⟩,trivial,by rw [<- hR];exact⟨rfl,rfl⟩⟩
  rw [h2] at hq hR
  obtain⟨q3l,rfl,rfl⟩:=hq
  refine⟨rfl,_,⟨7,(0,psO ws q3)::[(6,sO [qAZ]),(5,deO d),(4,qM2 acc),(3,srO (.sl 4 6 0 acc.length)),(2,mpO),(1,srO (.p .nils))]⟩,rfl,rfl,?_⟩
  simp only [qAH] at hR
  have hlt2:=qAv (ws:=ws) (s:=qAZ) (q:=q2) (q':=q3) (u:=u2) (by rw [<- qBA];exact h2)
  refine⟨by show 0+1<=1;omega,[d.cells],rfl,?_⟩
  refine⟨by show 0+acc.length<=(acc.map De.cells).length;simp,acc.map De.cells,qAD (by simp),by show(acc.length+1) * 96<=140737488355328;omega,(acc++[d]).map De.cells,by simp,?_⟩
  exact⟨(acc++[d],q3),⟨q3l,by simp only [qAK];omega,⟨f,by simp only [];omega,hR.symm⟩⟩,qAB [] [(4,8)] [] rfl (sk) ⟨⟨_,rfl,rfl,rfl,rfl⟩,⟨_,rfl,rfl,rfl,_,rfl,_,_,rfl,congrArg (fun k:Nat=>AV.sl 8 6 0 k) (qAK acc d).symm,rfl⟩,sk⟩ rfl,by show ws.length - q3<ws.length - q;omega⟩
 have d1:=c
 clear c
 by_cases c:txt ws q=qCO
 ·have hdl:qB3 ws F q=qFO ws (q+1):=by rw [qB3,if_neg d1,if_pos c]
  rw [hdl] at hR
  have ql:q+1<=ws.length:=qAh (by rw [c];decide)
  have hR:((qFO ws) (q+1)).then _=R:=hR
  refine⟨_, .inl ⟨_,by rw [c];rfl,rfl⟩,?_⟩
  refine⟨_,w6z,?_⟩
  refine((qUv ws F hF hg) (q+1) ql).holds.useT [] [] rfl (sk) (sk) fun e0 H0 hq=>?_
  rcases h1:(qFO ws) (q+1) with p | ⟨d,q2⟩
  ·rw [h1] at hq hR
   obtain⟨rfl,rfl⟩:=hq
   refine⟨rfl,_,_,rfl,rfl,?_⟩
   exact⟨[],[],[],qAa ws p,⟨1,[]⟩,rfl,⟨_,rfl,_,_,rfl,rfl,rfl⟩,trivial,by rw [<- hR];exact⟨rfl,rfl⟩⟩
  rw [h1] at hq hR hdl
  have hlt:=qG0 hdl
  obtain⟨q2l,rfl,rfl⟩:=hq
  refine⟨rfl,_,⟨5,(0,psO ws q2)::[(4,qM2 acc),(3,srO (.sl 4 6 0 acc.length)),(2,mpO),(1,srO (.p .nils))]⟩,rfl,rfl,?_⟩
  simp only [qAH] at hR
  rw [<- qBA] at hR
  refine(qAq ws q2 [qAZ] hl q2l (by simp) (by simp)).holds.useT [6] [] rfl (sk) ⟨_,_,rfl,⟨rfl,rfl⟩,_,_,rfl,⟨_,rfl,by decide,rfl⟩,rfl⟩ fun e0 H0 hq=>?_
  rcases h2:qAp ws [qAZ] q2 with p | ⟨u2,q3⟩
  ·rw [h2] at hq hR
   obtain⟨rfl,rfl⟩:=hq
   refine⟨rfl,_,_,rfl,rfl,?_⟩
   exact⟨[],[],[],qAa ws p,⟨1,[]⟩,rfl,⟨_,rfl,_,_,rfl,rfl,rfl⟩,trivial,by rw [<- hR];exact⟨rfl,rfl⟩⟩
  rw [h2] at hq hR
  obtain⟨q3l,rfl,rfl⟩:=hq
  refine⟨rfl,_,⟨7,(0,psO ws q3)::[(6,sO [qAZ]),(5,deO d),(4,qM2 acc),(3,srO (.sl 4 6 0 acc.length)),(2,mpO),(1,srO (.p .nils))]⟩,rfl,rfl,?_⟩
  simp only [qAH] at hR
  have hlt2:=qAv (ws:=ws) (s:=qAZ) (q:=q2) (q':=q3) (u:=u2) (by rw [<- qBA];exact h2)
  refine⟨by show 0+1<=1;omega,[d.cells],rfl,?_⟩
  refine⟨by show 0+acc.length<=(acc.map De.cells).length;simp,acc.map De.cells,qAD (by simp),by show(acc.length+1) * 96<=140737488355328;omega,(acc++[d]).map De.cells,by simp,?_⟩
  exact⟨(acc++[d],q3),⟨q3l,by simp only [qAK];omega,⟨f,by simp only [];omega,hR.symm⟩⟩,qAB [] [(4,8)] [] rfl (sk) ⟨⟨_,rfl,rfl,rfl,rfl⟩,⟨_,rfl,rfl,rfl,_,rfl,_,_,rfl,congrArg (fun k:Nat=>AV.sl 8 6 0 k) (qAK acc d).symm,rfl⟩,sk⟩ rfl,by show ws.length - q3<ws.length - q;omega⟩
 have d2:=c
 clear c
 by_cases c:txt ws q=qAx
 ·have hdl:qB3 ws F q=qIn ws F (q+1):=by rw [qB3,if_neg d1,if_neg d2,if_pos c]
  rw [hdl] at hR
  have ql:q+1<=ws.length:=qAh (by rw [c];decide)
  have hR:((qIn ws F) (q+1)).then _=R:=hR
  refine⟨_, .inl ⟨_,by rw [c];rfl,rfl⟩,?_⟩
  refine⟨_,w6z,?_⟩
  refine((qWi ws F hF hg) (q+1) ql).holds.useT [] [] rfl (sk) (sk) fun e0 H0 hq=>?_
  rcases h1:(qIn ws F) (q+1) with p | ⟨d,q2⟩
  ·rw [h1] at hq hR
   obtain⟨rfl,rfl⟩:=hq
   refine⟨rfl,_,_,rfl,rfl,?_⟩
   exact⟨[],[],[],qAa ws p,⟨1,[]⟩,rfl,⟨_,rfl,_,_,rfl,rfl,rfl⟩,trivial,by rw [<- hR];exact⟨rfl,rfl⟩⟩
  rw [h1] at hq hR hdl
  have hlt:=qG0 hdl
  obtain⟨q2l,rfl,rfl⟩:=hq
  refine⟨rfl,_,⟨5,(0,psO ws q2)::[(4,qM2 acc),(3,srO (.sl 4 6 0 acc.length)),(2,mpO),(1,srO (.p .nils))]⟩,rfl,rfl,?_⟩
  simp only [qAH] at hR
  rw [<- qBA] at hR
  refine(qAq ws q2 [qAZ] hl q2l (by simp) (by simp)).holds.useT [6] [] rfl (sk) ⟨_,_,rfl,⟨rfl,rfl⟩,_,_,rfl,⟨_,rfl,by decide,rfl⟩,rfl⟩ fun e0 H0 hq=>?_
  rcases h2:qAp ws [qAZ] q2 with p | ⟨u2,q3⟩
  ·rw [h2] at hq hR
   obtain⟨rfl,rfl⟩:=hq
   refine⟨rfl,_,_,rfl,rfl,?_⟩
   exact⟨[],[],[],qAa ws p,⟨1,[]⟩,rfl,⟨_,rfl,_,_,rfl,rfl,rfl⟩,trivial,by rw [<- hR];exact⟨rfl,rfl⟩⟩
  rw [h2] at hq hR
  obtain⟨q3l,rfl,rfl⟩:=hq
  refine⟨rfl,_,⟨7,(0,psO ws q3)::[(6,sO [qAZ]),(5,deO d),(4,qM2 acc),(3,srO (.sl 4 6 0 acc.length)),(2,mpO),(1,srO (.p .nils))]⟩,rfl,rfl,?_⟩
  simp only [qAH] at hR
  have hlt2:=qAv (ws:=ws) (s:=qAZ) (q:=q2) (q':=q3) (u:=u2) (by rw [<- qBA];exact h2)
  refine⟨by show 0+1<=1;omega,[d.cells],rfl,?_⟩
  refine⟨by show 0+acc.length<=(acc.map De.cells).length;simp,acc.map De.cells,qAD (by simp),by show(acc.length+1) * 96<=140737488355328;omega,(acc++[d]).map De.cells,by simp,?_⟩
  exact⟨(acc++[d],q3),⟨q3l,by simp only [qAK];omega,⟨f,by simp only [];omega,hR.symm⟩⟩,qAB [] [(4,8)] [] rfl (sk) ⟨⟨_,rfl,rfl,rfl,rfl⟩,⟨_,rfl,rfl,rfl,_,rfl,_,_,rfl,congrArg (fun k:Nat=>AV.sl 8 6 0 k) (qAK acc d).symm,rfl⟩,sk⟩ rfl,by show ws.length - q3<ws.length - q;omega⟩
 have d3:=c
 clear c
 by_cases c:txt ws q=qBS
 ·have hdl:qB3 ws F q=qDp ws F (q+1):=by rw [qB3,if_neg d1,if_neg d2,if_neg d3,if_pos c]
  rw [hdl] at hR
  have ql:q+1<=ws.length:=qAh (by rw [c];decide)
  have hR:((qDp ws F) (q+1)).then _=R:=hR
  refine⟨_, .inl ⟨_,by rw [c];rfl,rfl⟩,?_⟩
  refine⟨_,w6z,?_⟩
  refine((qTN ws F hF hg) (q+1) ql).holds.useT [] [] rfl (sk) (sk) fun e0 H0 hq=>?_
  rcases h1:(qDp ws F) (q+1) with p | ⟨d,q2⟩
  ·rw [h1] at hq hR
   obtain⟨rfl,rfl⟩:=hq
   refine⟨rfl,_,_,rfl,rfl,?_⟩
   exact⟨[],[],[],qAa ws p,⟨1,[]⟩,rfl,⟨_,rfl,_,_,rfl,rfl,rfl⟩,trivial,by rw [<- hR];exact⟨rfl,rfl⟩⟩
  rw [h1] at hq hR hdl
  have hlt:=qG0 hdl
  obtain⟨q2l,rfl,rfl⟩:=hq
  refine⟨rfl,_,⟨5,(0,psO ws q2)::[(4,qM2 acc),(3,srO (.sl 4 6 0 acc.length)),(2,mpO),(1,srO (.p .nils))]⟩,rfl,rfl,?_⟩
  simp only [qAH] at hR
  rw [<- qBA] at hR
  refine(qAq ws q2 [qAZ] hl q2l (by simp) (by simp)).holds.useT [6] [] rfl (sk) ⟨_,_,rfl,⟨rfl,rfl⟩,_,_,rfl,⟨_,rfl,by decide,rfl⟩,rfl⟩ fun e0 H0 hq=>?_
  rcases h2:qAp ws [qAZ] q2 with p | ⟨u2,q3⟩
  ·rw [h2] at hq hR
   obtain⟨rfl,rfl⟩:=hq
   refine⟨rfl,_,_,rfl,rfl,?_⟩
   exact⟨[],[],[],qAa ws p,⟨1,[]⟩,rfl,⟨_,rfl,_,_,rfl,rfl,rfl⟩,trivial,by rw [<- hR];exact⟨rfl,rfl⟩⟩
  rw [h2] at hq hR
  obtain⟨q3l,rfl,rfl⟩:=hq
  refine⟨rfl,_,⟨7,(0,psO ws q3)::[(6,sO [qAZ]),(5,deO d),(4,qM2 acc),(3,srO (.sl 4 6 0 acc.length)),(2,mpO),(1,srO (.p .nils))]⟩,rfl,rfl,?_⟩
  simp only [qAH] at hR
  have hlt2:=qAv (ws:=ws) (s:=qAZ) (q:=q2) (q':=q3) (u:=u2) (by rw [<- qBA];exact h2)
  refine⟨by show 0+1<=1;omega,[d.cells],rfl,?_⟩
  refine⟨by show 0+acc.length<=(acc.map De.cells).length;simp,acc.map De.cells,qAD (by simp),by show(acc.length+1) * 96<=140737488355328;omega,(acc++[d]).map De.cells,by simp,?_⟩
  exact⟨(acc++[d],q3),⟨q3l,by simp only [qAK];omega,⟨f,by simp only [];omega,hR.symm⟩⟩,qAB [] [(4,8)] [] rfl (sk) ⟨⟨_,rfl,rfl,rfl,rfl⟩,⟨_,rfl,rfl,rfl,_,rfl,_,_,rfl,congrArg (fun k:Nat=>AV.sl 8 6 0 k) (qAK acc d).symm,rfl⟩,sk⟩ rfl,by show ws.length - q3<ws.length - q;omega⟩
 have d4:=c
 clear c
 by_cases c:txt ws q=qB4
 ·have hdl:qB3 ws F q=qIr ws F (q+1):=by rw [qB3,if_neg d1,if_neg d2,if_neg d3,if_neg d4,if_pos c]
  rw [hdl] at hR
  have ql:q+1<=ws.length:=qAh (by rw [c];decide)
  have hR:((qIr ws F) (q+1)).then _=R:=hR
  refine⟨_, .inl ⟨_,by rw [c];rfl,rfl⟩,?_⟩
  refine⟨_,w6z,?_⟩
  refine((qWy ws F hF hg) (q+1) ql).holds.useT [] [] rfl (sk) (sk) fun e0 H0 hq=>?_
  rcases h1:(qIr ws F) (q+1) with p | ⟨d,q2⟩
  ·rw [h1] at hq hR
   obtain⟨rfl,rfl⟩:=hq
   refine⟨rfl,_,_,rfl,rfl,?_⟩
   exact⟨[],[],[],qAa ws p,⟨1,[]⟩,rfl,⟨_,rfl,_,_,rfl,rfl,rfl⟩,trivial,by rw [<- hR];exact⟨rfl,rfl⟩⟩
  rw [h1] at hq hR hdl
  have hlt:=qG0 hdl
  obtain⟨q2l,rfl,rfl⟩:=hq
  refine⟨rfl,_,⟨5,(0,psO ws q2)::[(4,qM2 acc),(3,srO (.sl 4 6 0 acc.length)),(2,mpO),(1,srO (.p .nils))]⟩,rfl,rfl,?_⟩
  simp only [qAH] at hR
  rw [<- qBA] at hR
  refine(qAq ws q2 [qAZ] hl q2l (by simp) (by simp)).holds.useT [6] [] rfl (sk) ⟨_,_,rfl,⟨rfl,rfl⟩,_,_,rfl,⟨_,rfl,by decide,rfl⟩,rfl⟩ fun e0 H0 hq=>?_
  rcases h2:qAp ws [qAZ] q2 with p | ⟨u2,q3⟩
  ·rw [h2] at hq hR
   obtain⟨rfl,rfl⟩:=hq
   refine⟨rfl,_,_,rfl,rfl,?_⟩
   exact⟨[],[],[],qAa ws p,⟨1,[]⟩,rfl,⟨_,rfl,_,_,rfl,rfl,rfl⟩,trivial,by rw [<- hR];exact⟨rfl,rfl⟩⟩
  rw [h2] at hq hR
  obtain⟨q3l,rfl,rfl⟩:=hq
  refine⟨rfl,_,⟨7,(0,psO ws q3)::[(6,sO [qAZ]),(5,deO d),(4,qM2 acc),(3,srO (.sl 4 6 0 acc.length)),(2,mpO),(1,srO (.p .nils))]⟩,rfl,rfl,?_⟩
  simp only [qAH] at hR
  have hlt2:=qAv (ws:=ws) (s:=qAZ) (q:=q2) (q':=q3) (u:=u2) (by rw [<- qBA];exact h2)
  refine⟨by show 0+1<=1;omega,[d.cells],rfl,?_⟩
  refine⟨by show 0+acc.length<=(acc.map De.cells).length;simp,acc.map De.cells,qAD (by simp),by show(acc.length+1) * 96<=140737488355328;omega,(acc++[d]).map De.cells,by simp,?_⟩
  exact⟨(acc++[d],q3),⟨q3l,by simp only [qAK];omega,⟨f,by simp only [];omega,hR.symm⟩⟩,qAB [] [(4,8)] [] rfl (sk) ⟨⟨_,rfl,rfl,rfl,rfl⟩,⟨_,rfl,rfl,rfl,_,rfl,_,_,rfl,congrArg (fun k:Nat=>AV.sl 8 6 0 k) (qAK acc d).symm,rfl⟩,sk⟩ rfl,by show ws.length - q3<ws.length - q;omega⟩
 have hdl:qB3 ws F q=.inl q:=by rw [qB3,if_neg d1,if_neg d2,if_neg d3,if_neg d4,if_neg c]
 rw [hdl] at hR
 refine⟨_, .inr ⟨qVB d1 d2 d3 d4 c,rfl⟩,?_⟩
 refine(qLd ws q hl k1).holds.useT [] [] rfl (sk) (sk) fun e0 H0 hq=>?_
 obtain⟨rfl,rfl⟩:=hq
 refine⟨rfl,_,⟨5,(0,psO ws q)::[(4,qM2 acc),(3,srO (.sl 4 6 0 acc.length)),(2,mpO),(1,srO (.p .nils))]⟩,rfl,rfl,?_⟩
 exact⟨[],[],[],qAa ws q,⟨1,[]⟩,rfl,⟨_,rfl,_,_,rfl,rfl,rfl⟩,trivial,by rw [<- hR];exact⟨rfl,rfl⟩⟩
abbrev TB:TypeId:=106
def au:Bool->AV
 | true=>.ptr 0 0 0
 | false=>.p .nilp
theorem qJP {v:AV} {H:Hp} {Q:AE->Hp->Prop} (hQ:Q (.returned v) H):Holds cx 151 [v] H Q:=by
 intro Γ w args' hR hA
 simp only [VRL] at hA
 obtain⟨u,us,rfl,hu,rfl⟩:=hA
 refine .inr ⟨u,w,?_,_,_,Γ,hQ,⟨u,rfl,hu⟩,Later.refl hR _ (Nat.le_refl _)⟩
 show(callFunc 151 #[u]).run Tryz.prog w=_
 rw [run_callFunc_extern Tryz.func151 (by kernel_rfl) (by kernel_rfl) (by kernel_rfl) (e:=Extern.AbiNoEscape.same) (by kernel_rfl)]
 rfl
theorem qLN {n:Nat} {H:Hp} {Q:AE->Hp->Prop} (hn:n<=281474976710656) (hQ:Q (.returned (.sl H.next 1 0 n)) (H.push ⟨5,false, .pu []⟩)):Holds cx 152 [.p (i64 n)] H Q:=by
 intro Γ w args' hR hA
 simp only [VRL,VR,VP] at hA
 obtain⟨u,us,rfl,rfl,rfl⟩:=hA
 obtain⟨cs,hrun,hle,_⟩:=Lib.run_makeNoZero (P:=Tryz.prog) w #[3] 40 5 Tryz.underlying40 n hn
 have hd:=(Later.drew hR H.next (Nat.le_refl _)).trans (Later.drew (Later.drew hR H.next (Nat.le_refl _)).1 H.next (Nat.le_refl _))
 have hR2:R cx Γ H w.drew.drew:=hd.1
 have hp:=qDv (t:=5) (s:=1) (tc:=cs.size) (c:=.pu []) (us:=[]) (rest:=cs.toList) hR2 rfl (by rfl) Nat.one_pos rfl (by simp) (by simp) rfl
 refine .inr ⟨.slice (some ⟨w.heap.size,0,none⟩) n cs.size,w.drew.drew.alloc (.cells cs 5),?_,_,_,_,hQ,⟨_,rfl,qD6 (Γ:=Γ) ⟨w.heap.size,1,cs.size,false⟩ H.next n rfl hle⟩,hd.trans hp⟩
 show(callFunc 152 #[.int .i64 n]).run Tryz.prog w=_
 rw [run_callFunc_extern Tryz.func152 (by kernel_rfl) (by kernel_rfl) (by kernel_rfl) (e:=Extern.BytealgMakeNoZero.makeNoZero #[3] #[40]) (by kernel_rfl),hrun]
 rfl
theorem qIW (u:Bool) (v:AV):HoldsG cx 108 [.ptr 0 0 0] ⟨2,[(0,⟨TB,false, .bx [au u,v]⟩)]⟩ fun e H'=>e=.returned und/\H'=⟨2,[(0,⟨TB,false, .bx [.ptr 0 0 0,v]⟩)]⟩:=by
 refine qAz Tryz.func108 rfl rfl rfl ?_
 cases u
 ·refine qJP ?_
  exact⟨rfl,rfl⟩
 ·exact⟨rfl,rfl⟩
def qYV (u:Bool) (xs:List UInt8):Hp:=⟨2,[(1,⟨5,false, .pu (xs.map ub)⟩),(0,⟨TB,false, .bx [au u, .sl 1 1 0 xs.length]⟩)]⟩
def qXI (xs:List UInt8):Hp:=⟨3,[(2,⟨5,false, .pu (xs.map ub)⟩),(0,⟨TB,false, .bx [.ptr 0 0 0, .sl 2 1 0 xs.length]⟩)]⟩
theorem qP1 (xs:List UInt8):xs.map ub=((xs.map ub).drop 0).take xs.length:=by rw [List.drop_zero,List.take_of_length_le (by simp)]
theorem qD7 (u:Bool) (xs s:List UInt8) (hx:xs.length<=1000000) (hs:s.length<=1000000) :
  HoldsG cx 64 [.ptr 0 0 0,vS s] (qYV u xs) fun e H'=>e=.returned (.tup [.p (i64 s.length), .p .nilIface])/\H'=qXI (xs++s):=by
 refine qAA Tryz.func64 rfl rfl rfl ?_
 refine(qIW u (.sl 1 1 0 xs.length)).useE [] [] rfl ?_ ?_ ?_
 ·cases u <;> (exact sk)
 ·(exact sk)
 ·refine⟨by show 0+xs.length<=(xs.map ub).length;simp,xs.map ub,qP1 xs,by show(xs.length+s.length) * 1<=_;omega,(xs++s).map ub,by simp,?_⟩
  exact⟨[],[(2,2)],[], .returned (.tup [.p (i64 s.length), .p .nilIface]),⟨3,[(2,⟨5,false, .pu ((xs++s).map ub)⟩),(0,⟨TB,false, .bx [.ptr 0 0 0, .sl 2 1 0 (xs.length+s.length)]⟩)]⟩,rfl,⟨_,rfl,_,rfl,sk⟩,⟨⟨_,rfl,rfl,rfl,rfl⟩,⟨_,rfl,rfl,rfl,_,rfl,_,_,rfl,⟨rfl,rfl⟩,_,_,rfl,rfl,rfl⟩,trivial⟩,rfl,by simp [qXI]⟩
theorem qWx (n:Nat) (hn:n<=1000000):HoldsG cx 109 [.ptr 0 0 0, .p (i64 n)] ⟨1,[(0,⟨TB,false, .bx [.ptr 0 0 0, .p .nils]⟩)]⟩ fun e H'=>e=.returned und/\H'=⟨2,[(1,⟨5,false, .pu []⟩),(0,⟨TB,false, .bx [.ptr 0 0 0, .sl 1 1 0 0]⟩)]⟩:=by
 refine qAA Tryz.func109 rfl rfl rfl ?_
 refine VDraw.seq rfl ?_
 refine⟨0,w6z,?_⟩
 refine⟨(n:Int),by rw [Int.zero_add];exact w6z,?_⟩
 refine qLN (by omega) ?_
 refine⟨sk,?_⟩
 refine⟨by show(0:Int)<=0/\(0:Int)<=(n:Nat);omega,?_⟩
 refine⟨⟨Nat.le_refl _,Nat.le_refl _⟩,[],rfl,?_⟩
 exact⟨[],[(1,1)],[], .returned und,⟨2,[(1,⟨5,false, .pu []⟩),(0,⟨TB,false, .bx [.ptr 0 0 0, .sl 1 1 0 0]⟩)]⟩,rfl,sk,⟨⟨_,rfl,rfl,rfl,rfl⟩,⟨_,rfl,rfl,rfl,_,rfl,_,_,rfl,⟨rfl,rfl⟩,_,_,rfl,rfl,rfl⟩,trivial⟩,rfl,rfl⟩
theorem qVI (u:Bool) (n:Nat) (h0:0<n) (hn:n<=1000000):HoldsG cx 63 [.ptr 0 0 0, .p (i64 n)] ⟨1,[(0,⟨TB,false, .bx [au u, .p .nils]⟩)]⟩ fun e H'=>e=.returned und/\H'=⟨2,[(1,⟨5,false, .pu []⟩),(0,⟨TB,false, .bx [.ptr 0 0 0, .sl 1 1 0 0]⟩)]⟩:=by
 refine qAA Tryz.func63 rfl rfl rfl ?_
 refine(qIW u (.p .nils)).useE [] [(1,0)] rfl ?_ ?_ ?_
 ·cases u <;> (exact sk)
 ·(exact sk)
 ·refine And.intro (fun h1=>?_) (fun h1=>?_)
  ·have h1:(n:Int)<0:=h1
   omega
  ·refine VDraw.seq rfl ?_
   refine⟨0,w6z,?_⟩
   refine And.intro (fun h2=>?_) (fun h2=>?_)
   ·refine(qWx n hn).useE [] [] rfl ?_ ?_ ?_
    ·(exact sk)
    ·(exact sk)
    ·exact⟨[],[(1,1)],[], .returned und,⟨2,[(1,⟨5,false, .pu []⟩),(0,⟨TB,false, .bx [.ptr 0 0 0, .sl 1 1 0 0]⟩)]⟩,rfl,sk,⟨⟨_,rfl,rfl,rfl,rfl⟩,⟨_,rfl,rfl,rfl,_,rfl,_,_,rfl,⟨rfl,rfl⟩,_,_,rfl,rfl,rfl⟩,trivial⟩,rfl,rfl⟩
   ·have h2:¬ (0:Int)<(n:Nat):=h2
    omega
theorem qSU (u:Bool) (xs:List UInt8) (h0:xs ≠ []) (hx:xs.length<=1000000):HoldsG cx 45 [.ptr 0 0 0] (qYV u xs) fun e H'=>e=.returned (vS xs)/\H'=⟨2,[(0,⟨TB,false, .bx [au u, .sl 1 1 0 xs.length]⟩)]⟩:=by
 refine qAA Tryz.func45 rfl rfl rfl ?_
 refine VDraw.seq rfl ?_
 refine And.intro (fun h1=>?_) (fun h1=>?_)
 ·refine⟨sk,?_⟩
  refine⟨xs,h0,rfl,by omega,by simp,by rw [List.take_of_length_le (by simp)],?_⟩
  exact⟨[],[],[], .returned (vS xs),⟨2,[(0,⟨TB,false, .bx [au u, .sl 1 1 0 xs.length]⟩)]⟩,rfl,⟨_,rfl,rfl⟩,by cases u <;> (exact sk),rfl,rfl⟩
 ·exact absurd (List.eq_nil_of_length_eq_zero h1) h0
def checkN (w:Wd):Bool:=decide (1<=w.line) && (decide (w.line<=8000) && (decide (1<=w.col) && (decide (w.col<=8000) && qAo w.kind w.text)))
def qHP (w:Wd):Int:=if checkN w then 0 else 370
theorem qVg (w:Wd) (ht:w.text.length<=9223372036854775807):Pure cx 126 [.agg w.cells] (·=.ret [i64 (qHP w)]):=by
 refine qAC Tryz.func126 rfl rfl rfl ?_
 have bad:checkN w=false->PEnd.ret [i64 370]=.ret [i64 (qHP w)]:=fun h=>by rw [qHP,h];rfl
 refine And.intro (fun h1=>?_) (fun h1=>?_)
 ·have h1:w.line<1:=h1
  exact qAG _ rfl rfl (bad (by simp [checkN];omega))
 ·have h1:¬ w.line<1:=h1
  refine And.intro (fun h2=>?_) (fun h2=>?_)
  ·have h2:8000<w.line:=h2
   exact qAG _ rfl rfl (bad (by simp [checkN];omega))
  ·have h2:¬ 8000<w.line:=h2
   refine And.intro (fun h3=>?_) (fun h3=>?_)
   ·have h3:w.col<1:=h3
    exact qAG _ rfl rfl (bad (by simp [checkN];omega))
   ·have h3:¬ w.col<1:=h3
    refine And.intro (fun h4=>?_) (fun h4=>?_)
    ·have h4:8000<w.col:=h4
     exact qAG _ rfl rfl (bad (by simp [checkN];omega))
    ·have h4:¬ 8000<w.col:=h4
     have hP:=qEC w.kind w.text ht
     by_cases hr:qAo w.kind w.text=true
     ·rw [hr] at hP
      refine hP.eq rfl ?_
      refine qAG _ rfl rfl ?_
      rw [qHP,if_pos (by simp [checkN,hr];omega)]
     ·rw [Bool.not_eq_true] at hr
      rw [hr] at hP
      refine hP.eq rfl ?_
      exact qAG _ rfl rfl (bad (by simp [checkN,hr]))
def qBt (n:Int):Bool:=decide (0<=n) && decide (n<=9999)
def qBl (r:Rf):Bool:=qAj r.name && (if r.mode=0∨r.mode=3 then decide (r.plate=[]) && decide (r.n=0) else if r.mode=1 then qAj r.plate && qBt r.n else if r.mode=2 then decide (r.plate=[]) && qBt r.n else false)
def qPj (l:List Int):Nat->Nat->Bool
 | 0,_=>true
 | f+1,k=>qBt (l.getD k 0) && (decide (k=0) || decide (l.getD (k - 1) 0<l.getD k 0)) && qPj l f (k+1)
def qHr (l:List Int):Bool:=decide (1<=l.length) && decide (l.length<=8) && qPj l l.length 0
abbrev qKq (t:List UInt8):Prop:=t.length<=9223372036854775807
structure BigR (r:Rf):Prop where
 name:qKq r.name
 plate:qKq r.plate
theorem qHb (t:List UInt8) (ht:qKq t):Pure cx 81 [.str t] (·=.ret [.bool (qAj t)]):=by
 have hc:=qVg ⟨1,t,1,1⟩ ht
 refine qAC Tryz.func81 rfl rfl rfl ?_
 refine hc.eq rfl ?_
 have e:qHP ⟨1,t,1,1⟩=if qAj t then 0 else 370:=by
  simp [qHP,checkN,qAo]
 refine QAD (fun h1=>?_) (fun h1=>?_)
 ·have h1:qHP ⟨1,t,1,1⟩=0:=h1
  exact qAG _ rfl rfl (qAO (by cases hn:qAj t <;> simp_all))
 ·have h1:¬ qHP ⟨1,t,1,1⟩=0:=h1
  exact qAG _ rfl rfl (qAO (by cases hn:qAj t <;> simp_all))
theorem qEq (n:Int):Pure cx 79 [i64 n] (·=.ret [.bool (qBt n)]):=by
 refine qAC Tryz.func79 rfl rfl rfl ?_
 refine QAD (fun h1=>?_) (fun h1=>?_)
 ·have h1:(0:Int)<=n:=h1
  refine QAD (fun h2=>?_) (fun h2=>?_)
  ·have h2:n<=9999:=h2
   exact qAG _ rfl rfl (qAO (by simp [qBt,h1,h2]))
  ·have h2:¬ n<=9999:=h2
   exact qAG _ rfl rfl (qAO (by simp [qBt,h2]))
 ·have h1:¬ (0:Int)<=n:=h1
  exact qAG _ rfl rfl (qAO (by simp [qBt,h1]))
theorem qHy (r:Rf) (hr:BigR r):Pure cx 80 [r.pv] (·=.ret [.bool (qBl r)]):=by
 refine qAC Tryz.func80 rfl rfl rfl ?_
 have hN:=qHb r.name hr.name
 by_cases n1:qAj r.name=true
 rotate_left
 ·rw [Bool.not_eq_true] at n1
  rw [n1] at hN
  refine hN.eq rfl ?_
  exact qAG _ rfl rfl (qAO (by rw [qBl,n1];rfl))
 rw [n1] at hN
 refine hN.eq rfl ?_
 have hP:=qHb r.plate hr.plate
 have hA:=qEq r.n
 refine QAD (fun h1=>?_) (fun h1=>?_)
 ·have h1:r.mode=0:=h1
  refine QAD (fun h2=>?_) (fun h2=>?_)
  ·have h2:r.plate=[]:=h2
   refine QAD (fun h3=>?_) (fun h3=>?_)
   ·have h3:r.n=0:=h3
    exact qAG _ rfl rfl (qAO (by simp [qBl,n1,h1,h2,h3]))
   ·have h3:¬ r.n=0:=h3
    exact qAG _ rfl rfl (qAO (by simp [qBl,n1,h1,h2,h3]))
  ·have h2:¬ r.plate=[]:=h2
   exact qAG _ rfl rfl (qAO (by simp [qBl,n1,h1,h2]))
 have h1:¬ r.mode=0:=h1
 refine QAD (fun h4=>?_) (fun h4=>?_)
 ·have h4:r.mode=3:=h4
  refine QAD (fun h2=>?_) (fun h2=>?_)
  ·have h2:r.plate=[]:=h2
   refine QAD (fun h3=>?_) (fun h3=>?_)
   ·have h3:r.n=0:=h3
    exact qAG _ rfl rfl (qAO (by simp [qBl,n1,h4,h2,h3]))
   ·have h3:¬ r.n=0:=h3
    exact qAG _ rfl rfl (qAO (by simp [qBl,n1,h4,h2,h3]))
  ·have h2:¬ r.plate=[]:=h2
   exact qAG _ rfl rfl (qAO (by simp [qBl,n1,h4,h2]))
 have h4:¬ r.mode=3:=h4
 refine QAD (fun h5=>?_) (fun h5=>?_)
 ·have h5:r.mode=1:=h5
  by_cases n2:qAj r.plate=true
  ·rw [n2] at hP
   refine hP.eq rfl ?_
   refine hA.eq rfl ?_
   exact qAG _ rfl rfl (qAO (by simp [qBl,n1,n2,h5]))
  ·rw [Bool.not_eq_true] at n2
   rw [n2] at hP
   refine hP.eq rfl ?_
   exact qAG _ rfl rfl (qAO (by simp [qBl,n1,n2,h5]))
 have h5:¬ r.mode=1:=h5
 refine QAD (fun h6=>?_) (fun h6=>?_)
 ·have h6:r.mode=2:=h6
  refine QAD (fun h2=>?_) (fun h2=>?_)
  ·have h2:r.plate=[]:=h2
   refine hA.eq rfl ?_
   exact qAG _ rfl rfl (qAO (by simp [qBl,n1,h6,h2]))
  ·have h2:¬ r.plate=[]:=h2
   exact qAG _ rfl rfl (qAO (by simp [qBl,n1,h6,h2]))
 have h6:¬ r.mode=2:=h6
 exact qAG _ rfl rfl (qAO (by simp [qBl,h1,h4,h5,h6]))
theorem qXh (l:List Int) (hl:l.length<=9223372036854775807):Pure cx 163 [ints l] (·=.ret [.bool (qHr l)]):=by
 refine qAC Tryz.func163 rfl rfl rfl ?_
 have hm:(l.map i64).length=l.length:=List.length_map ..
 refine QAD (fun h1=>?_) (fun h1=>?_)
 ·have h1:((l.map i64).length:Int)<1:=h1
  rw [hm] at h1
  exact qAG _ rfl rfl (qAO (by rw [qHr,decide_eq_false (by omega)];rfl))
 have h1:¬ ((l.map i64).length:Int)<1:=h1
 rw [hm] at h1
 refine QAD (fun h2=>?_) (fun h2=>?_)
 ·have h2:(8:Int)<((l.map i64).length:Nat):=h2
  rw [hm] at h2
  exact qAG _ rfl rfl (qAO (by rw [qHr,decide_eq_false (show ¬ l.length<=8 by omega),Bool.and_false];rfl))
 have h2:¬ (8:Int)<((l.map i64).length:Nat):=h2
 rw [hm] at h2
 have hB0:qHr l=qPj l (l.length - 0) 0:=by rw [qHr,decide_eq_true (show 1<=l.length by omega),decide_eq_true (show l.length<=8 by omega)];rfl
 refine⟨Nat,fun k=>[(0, .p (ints l)),(13, .p (ints l)),(14, .p (i64 l.length)),(15, .p (i64 k))],fun _=>⟨0,[]⟩,fun k=>k<=l.length/\qHr l=qPj l (l.length - k) k,fun k=>l.length - k,?_,?_⟩
 ·exact⟨0,⟨Nat.zero_le _,hB0⟩,qCh rfl ⟨rfl,rfl,congrArg (fun n:Nat=>i64 n) hm.symm,rfl,trivial⟩ trivial rfl⟩
 rintro k ⟨k1,k2⟩
 refine QAD (fun h3=>?_) (fun h3=>?_)
 rotate_left
 ·have h3:¬ (k:Int)<(l.length:Nat):=h3
  rw [show l.length - k=0 by omega,qPj] at k2
  exact qAG _ rfl rfl (qAO k2.symm)
 have h3:(k:Int)<(l.length:Nat):=h3
 have hk:k<l.length:=by omega
 obtain⟨f,hf⟩:∃ f,l.length - k=f+1:=⟨l.length - k - 1,by omega⟩
 rw [hf,qPj] at k2
 refine⟨_,⟨by omega,i64 (l.getD k 0),qGM hk,rfl⟩,?_⟩
 have hN:=qEq (l.getD k 0)
 by_cases n1:qBt (l.getD k 0)=true
 rotate_left
 ·rw [Bool.not_eq_true] at n1
  rw [n1] at hN k2
  refine hN.eq rfl ?_
  exact qAG _ rfl rfl (qAO (by rw [k2];simp))
 rw [n1] at hN k2
 refine hN.eq rfl ?_
 refine QAD (fun h4=>?_) (fun h4=>?_)
 ·have h4:(0:Int)<(k:Nat):=h4
  obtain⟨j,rfl⟩:∃ j,k=j+1:=⟨k - 1,by omega⟩
  refine⟨(j:Int),by rw [show((j+1:Nat):Int) - 1=(j:Int) by omega];exact w6z,?_⟩
  refine⟨_,⟨by omega,i64 (l.getD j 0),qGM (by omega),rfl⟩,?_⟩
  refine QAD (fun h5=>?_) (fun h5=>?_)
  ·have h5:l.getD (j+1) 0<=l.getD j 0:=h5
   exact qAG _ rfl rfl (qAO (by rw [k2,Nat.add_sub_cancel,decide_eq_false (show ¬ l.getD j 0<l.getD (j+1) 0 by omega),decide_eq_false (by omega)];rfl))
  ·have h5:¬ l.getD (j+1) 0<=l.getD j 0:=h5
   refine⟨_,w6z,?_⟩
   exact⟨j+1+1,⟨by omega,by rw [k2,Nat.add_sub_cancel,decide_eq_true (show l.getD j 0<l.getD (j+1) 0 by omega),Bool.or_true,show l.length - (j+1+1)=f by omega];rfl⟩,qCh rfl ⟨rfl,rfl,rfl,rfl,trivial⟩ trivial rfl,by show l.length - (j+1+1)<l.length - (j+1);omega⟩
 ·have h4:¬ (0:Int)<(k:Nat):=h4
  have hk0:k=0:=by omega
  subst hk0
  refine⟨_,w6z,?_⟩
  exact⟨0+1,⟨by omega,by rw [k2,show l.length - (0+1)=f by omega];rfl⟩,qCh rfl ⟨rfl,rfl,rfl,rfl,trivial⟩ trivial rfl,by show l.length - (0+1)<l.length - 0;omega⟩
def qA1 (n rel val:Int) (r:Rf) (st:List Int):Bool:=decide (n=0) && decide (rel=0) && decide (val=0) && decide (r=rf0) && decide (st=[])
def qAQ (op n rel val:Int) (r:Rf) (st:List Int):Bool:=
 if op=1∨op=2∨op=3∨op=4 then qBl r && qBt n && decide (rel=0) && decide (val=0) && decide (st=[])
 else if op=5 then qBl r && decide (n=0) && decide (rel=0) && decide (val=0) && qHr st
 else if op=6 then qBl r && decide (r.mode=3) && qBt n && qBt val && decide (1<=rel) && decide (rel<=4) && decide (st=[]) else false
def qAc (op:Int):Nat:=if op=7 then 1 else if op=8∨op=9 then 2 else 0
def qAb (op n rel val:Int) (r:Rf) (st:List Int) (k:Nat):Bool:=if qAc op=0 then qAQ op n rel val r st && decide (k=0) else decide (k=qAc op) && qA1 n rel val r st
def qAs:Nat->Cd->Nat->Option Nat
 | 0,_,_=>none
 | d+1, .mk op n rel val r st ar,left=>if left=0 then none else if qAb op n rel val r st ar.length=true then ar.foldlM (fun l c=>qAs d c l) (left - 1) else none
theorem qRW {f:Nat->Cd->Option Nat} (hf:∀ l c k,f l c=some k->k<=l):∀ (ar:List Cd) (l k:Nat),ar.foldlM f l=some k->k<=l
 | [],l,k,h=>by
  rw [List.foldlM_nil] at h
  injection h with h;omega
 | c::ar,l,k,h=>by
  rw [List.foldlM_cons] at h
  cases hc:f l c with
  | none=>rw [hc] at h;cases h
  | some m=>
   rw [hc] at h
   have:=qRW hf ar m k h
   have:=hf l c m hc
   omega
theorem qB8:∀ (d:Nat) (c:Cd) (left k:Nat),qAs d c left=some k->k<=left
 | 0,_,_,_,h=>by cases h
 | d+1, .mk op n rel val r st ar,left,k,h=>by
  rw [qAs] at h
  split at h
  ·cases h
  ·split at h
   ·have:=qRW (fun l c k h=>qB8 d c l k h) ar _ k h
    omega
   ·cases h
mutual
def qC1:Cd->Prop
 | .mk _ _ _ _ r st ar=>BigR r/\st.length<=9223372036854775807/\ar.length<=9223372036854775807/\qIv ar
def qIv:List Cd->Prop
 | []=>True
 | c::r=>qC1 c/\qIv r
end
theorem qBV:∀ {l:List Cd} {c:Cd},qIv l->c∈l->qC1 c
 | [],_,_,h=>by simp at h
 | x::l,c,h,hc=>by
  simp only [qIv] at h
  rcases List.mem_cons.1 hc with rfl | hc
  ·exact h.1
  ·exact qBV h.2 hc
theorem qQk (op n rel val:Int) (r:Rf) (st:List Int) (ar:List Cd) (_hs:st.length<=9223372036854775807):Pure cx 127 [(Cd.mk op n rel val r st ar).pv] (·=.ret [.bool (qA1 n rel val r st)]):=by
 refine qAC Tryz.func127 rfl rfl rfl ?_
 refine QAD (fun h1=>?_) (fun h1=>?_)
 rotate_left
 ·have h1:¬ n=0:=h1
  exact qAG _ rfl rfl (qAO (by rw [qA1,decide_eq_false h1];rfl))
 have h1:n=0:=h1
 refine QAD (fun h2=>?_) (fun h2=>?_)
 rotate_left
 ·have h2:¬ rel=0:=h2
  exact qAG _ rfl rfl (qAO (by rw [qA1,decide_eq_false h2,Bool.and_false];rfl))
 have h2:rel=0:=h2
 refine QAD (fun h3=>?_) (fun h3=>?_)
 rotate_left
 ·have h3:¬ val=0:=h3
  exact qAG _ rfl rfl (qAO (by rw [qA1,decide_eq_false h3,Bool.and_false];rfl))
 have h3:val=0:=h3
 refine⟨⟨by kernel_rfl,by kernel_rfl⟩,fun h4=>?_,fun h4=>?_⟩
 rotate_left
 ·have h4:¬ r=rf0:=fun e=>h4 (by rw [e];rfl)
  exact qAG _ rfl rfl (qAO (by rw [qA1,decide_eq_false h4,Bool.and_false];rfl))
 have h4:r=rf0:=by
  have h4:r.cells=rf0.cells:=by first | exact h4 | (injection h4)
  obtain⟨a,b,c,d⟩:=r
  simp only [Rf.cells,rf0,List.cons.injEq,PV.str.injEq,PV.int.injEq,true_and,and_true] at h4
  obtain⟨rfl,rfl,rfl,rfl⟩:=h4
  rfl
 refine QAD (fun h5=>?_) (fun h5=>?_)
 ·have h5:((st.map i64).length:Int)=0:=h5
  rw [List.length_map] at h5
  have:st=[]:=List.length_eq_zero_iff.1 (by omega)
  exact qAG _ rfl rfl (qAO (by rw [qA1,decide_eq_true h1,decide_eq_true h2,decide_eq_true h3,decide_eq_true h4,decide_eq_true this];rfl))
 ·have h5:¬ ((st.map i64).length:Int)=0:=h5
  rw [List.length_map] at h5
  exact qAG _ rfl rfl (qAO (by rw [qA1,decide_eq_false (show ¬ st=[] from fun e=>h5 (by rw [e];rfl)),Bool.and_false]))
set_option maxHeartbeats 40000000
def lfO (l:Int):AObj:=⟨qVr,false, .bx [.p (i64 l)]⟩
abbrev lfH (l:Nat):Hp:=⟨1,[(0,lfO l)]⟩
def cvQ (r:Option Nat) (e:AE) (H':Hp):Prop:=match r with
 | some l=>e=.returned (vB true)/\H'=lfH l
 | none=>e=.returned (vB false)/\H'=⟨1,[]⟩
theorem qDU {l:List Cd} {k:Nat} (h:k<l.length):(l.map Cd.cells)[k]?=some (l.getD k cd0).cells:=qDz cd0 h
def qYI (d:Nat):Prop:=∀ (c:Cd) (left p:Nat),qC1 c->left<=1000->p+d=9->HoldsG cx 128 [.p c.pv, .p (i64 p), .ptr 0 0 0] (lfH left) (cvQ (qAs d c left))
theorem qVb (d:Nat) (ih:qYI d):qYI (d+1):=by
 rintro⟨op,n,rel,val,r,st,ar⟩ left p hb hl hp9
 simp only [qC1] at hb
 obtain⟨hb1,hb2,hb3,hb4⟩:=hb
 have hP:=qQk op n rel val r st ar hb2
 have epv:(Cd.mk op n rel val r st ar).pv=.agg [i64 op,i64 n,i64 rel,i64 val, .str r.name,i64 r.mode, .str r.plate,i64 r.n,ints st,cds ar]:=by
  show PV.agg [i64 op,i64 n,i64 rel,i64 val, .str r.name,i64 r.mode, .str r.plate,i64 r.n,ints st, .lsts 10 (qBX ar)]=_
  rw [qBw]
 rw [epv] at hP ⊢
 generalize hR:qAs (d+1) (.mk op n rel val r st ar) left=R
 rw [qAs] at hR
 have hRf:=qHy r hb1
 have hNn:=qEq n
 have hNv:=qEq val
 have hS:=qXh st hb2
 refine qAA Tryz.func128 rfl rfl rfl ?_
 rcases Nat.eq_zero_or_pos left with h0 | h0
 ·subst h0
  rw [if_pos rfl] at hR
  refine⟨-1,by decide,?_⟩
  refine And.intro (fun _=>?_) (fun h=>absurd (show(-1:Int)<0 by decide) h)
  exact⟨[],[],[], .returned (vB false),⟨1,[]⟩,rfl,sk,trivial,by rw [<- hR];exact⟨rfl,rfl⟩⟩
 obtain⟨m,rfl⟩:∃ m,left=m+1:=⟨left - 1,by omega⟩
 rw [if_neg (by omega),Nat.add_sub_cancel] at hR
 have hno:qAb op n rel val r st ar.length=false->R=none:=fun h=>by rw [<- hR,if_neg (by rw [h];decide)]
 have hyes:qAb op n rel val r st ar.length=true->ar.foldlM (fun l c=>qAs d c l) m=R:=fun h=>by rw [<- hR,if_pos h]
 clear hR
 refine⟨(m:Int),by rw [show((m+1:Nat):Int) - 1=(m:Int) by omega];exact w6z,?_⟩
 refine And.intro (fun h=>absurd (show(m:Int)<0 from h) (by omega)) (fun _=>?_)
 refine And.intro (fun h=>absurd (show(8:Int)<(p:Nat) from h) (by omega)) (fun _=>?_)
 refine QAD (fun o1=>?_) (fun o1=>?_)
 ·have o1:op=1:=o1
  by_cases r1:qBl r=true
  rotate_left
  ·rw [Bool.not_eq_true] at r1
   rw [r1] at hRf
   refine hRf.eq rfl ?_
   exact⟨[],[],[], .returned (vB false),⟨1,[]⟩,rfl,sk,trivial,by rw [hno (by simp [qAb,qAc,qAQ, *])];exact⟨rfl,rfl⟩⟩
  rw [r1] at hRf
  refine hRf.eq rfl ?_
  by_cases r2:qBt n=true
  rotate_left
  ·rw [Bool.not_eq_true] at r2
   rw [r2] at hNn
   refine hNn.eq rfl ?_
   exact⟨[],[],[], .returned (vB false),⟨1,[]⟩,rfl,sk,trivial,by rw [hno (by simp [qAb,qAc,qAQ, *])];exact⟨rfl,rfl⟩⟩
  rw [r2] at hNn
  refine hNn.eq rfl ?_
  refine And.intro (fun r3=>?_) (fun r3=>?_)
  rotate_left
  ·have r3:¬ rel=0:=r3
   exact⟨[],[],[], .returned (vB false),⟨1,[]⟩,rfl,sk,trivial,by rw [hno (by simp [qAb,qAc,qAQ, *])];exact⟨rfl,rfl⟩⟩
  have r3:rel=0:=r3
  refine And.intro (fun r4=>?_) (fun r4=>?_)
  rotate_left
  ·have r4:¬ val=0:=r4
   exact⟨[],[],[], .returned (vB false),⟨1,[]⟩,rfl,sk,trivial,by rw [hno (by simp [qAb,qAc,qAQ, *])];exact⟨rfl,rfl⟩⟩
  have r4:val=0:=r4
  refine And.intro (fun r5=>?_) (fun r5=>?_)
  rotate_left
  ·have r5:¬ ((st.map i64).length:Int)=0:=r5
   have r5:¬ st=[]:=fun e=>r5 (by rw [e];rfl)
   exact⟨[],[],[], .returned (vB false),⟨1,[]⟩,rfl,sk,trivial,by rw [hno (by simp [qAb,qAc,qAQ, *])];exact⟨rfl,rfl⟩⟩
  have r5:((st.map i64).length:Int)=0:=r5
  have r5:st=[]:=by rw [List.length_map] at r5;exact List.length_eq_zero_iff.1 (by omega)
  by_cases hk:ar.length=0
  rotate_left
  ·refine And.intro (fun h=>absurd (show((ar.map Cd.cells).length:Int)=0 from h) (by rw [List.length_map];omega)) (fun _=>?_)
   exact⟨[],[],[], .returned (vB false),⟨1,[]⟩,rfl,sk,trivial,by rw [hno (by simp [qAb,qAc, *])];exact⟨rfl,rfl⟩⟩
  refine And.intro (fun _=>?_) (fun h=>absurd (show((ar.map Cd.cells).length:Int)=0 by rw [List.length_map];omega) h)
  refine And.intro (fun h=>absurd (show(0:Int)<0 from h) (by decide)) (fun _=>?_)
  refine⟨Nat × Nat,fun x=>[(1, .p (i64 p)),(2, .ptr 0 0 0),(143, .p (cds ar)),(144, .p (i64 ar.length)),(145, .p (i64 x.1))],fun x=>lfH x.2,fun x=>x.1<=ar.length/\x.2<=1000/\(ar.drop x.1).foldlM (fun l c=>qAs d c l) x.2=R,fun x=>ar.length - x.1,?_,?_⟩
  ·exact⟨(0,m),⟨Nat.zero_le _,by simp only [];omega,hyes (by first | (simp [qAb,qAc, *];done) | simp [qAb,qAc,qAQ, *])⟩,qAB [] [] [] rfl ⟨rfl,⟨rfl,rfl⟩,rfl,congrArg (fun n:Nat=>i64 n) (List.length_map ..).symm,rfl,trivial⟩ ⟨⟨_,rfl,rfl,rfl,_,rfl,_,_,rfl,congrArg i64 (by omega),rfl⟩,trivial⟩ rfl⟩
  rintro⟨i,l⟩ ⟨i1,i2,i3⟩
  simp only [] at i1 i2 i3
  refine QAD (fun j1=>?_) (fun j1=>?_)
  rotate_left
  ·have j1:¬ (i:Int)<(ar.length:Nat):=j1
   rw [List.drop_eq_nil_of_le (by omega),List.foldlM_nil] at i3
   exact⟨[],[],[], .returned (vB true),lfH l,rfl,sk,sk,by rw [<- i3];exact⟨rfl,rfl⟩⟩
  have j1:(i:Int)<(ar.length:Nat):=j1
  have hi:i<ar.length:=by omega
  rw [qEu cd0 hi,List.foldlM_cons] at i3
  have hbx:=qBV hb4 (qAL cd0 hi)
  have hcell:=qDU hi
  rcases hx:ar.getD i cd0 with ⟨o',n',rl',vl',rf',st',ar'⟩
  rw [hx] at i3 hbx hcell
  refine⟨_,⟨by omega,(Cd.mk o' n' rl' vl' rf' st' ar').cells,hcell,rfl⟩,?_⟩
  refine⟨((p+1:Nat):Int),w6z,?_⟩
  have hrec:=ih (.mk o' n' rl' vl' rf' st' ar') l (p+1) hbx (by omega) (by omega)
  rcases hv:qAs d (.mk o' n' rl' vl' rf' st' ar') l with _ | l2
  ·rw [hv] at hrec i3
   refine hrec.holds.useT [] [] rfl (sk) (sk) fun e0 H0 hq=>?_
   obtain⟨rfl,rfl⟩:=hq
   refine⟨rfl,_,_,rfl,rfl,?_⟩
   exact⟨[],[],[], .returned (vB false),⟨1,[]⟩,rfl,sk,trivial,by rw [<- i3];exact⟨rfl,rfl⟩⟩
  ·have hle:=qB8 _ _ _ _ hv
   rw [hv] at hrec i3
   refine hrec.holds.useT [] [] rfl (sk) (sk) fun e0 H0 hq=>?_
   obtain⟨rfl,rfl⟩:=hq
   refine⟨rfl,_,⟨2,[(0,lfO l2),(1,cO ((Cd.mk o' n' rl' vl' rf' st' ar').cells.map .p))]⟩,rfl,rfl,?_⟩
   refine⟨_,w6z,?_⟩
   exact⟨(i+1,l2),⟨by simp only [];omega,by simp only [];omega,i3⟩,qAB [] [] [] rfl (sk) (sk) rfl,by show ar.length - (i+1)<ar.length - i;omega⟩
 have o1:¬ op=1:=o1
 refine QAD (fun o2=>?_) (fun o2=>?_)
 ·have o2:op=2:=o2
  by_cases r1:qBl r=true
  rotate_left
  ·rw [Bool.not_eq_true] at r1
   rw [r1] at hRf
   refine hRf.eq rfl ?_
   exact⟨[],[],[], .returned (vB false),⟨1,[]⟩,rfl,sk,trivial,by rw [hno (by simp [qAb,qAc,qAQ, *])];exact⟨rfl,rfl⟩⟩
  rw [r1] at hRf
  refine hRf.eq rfl ?_
  by_cases r2:qBt n=true
  rotate_left
  ·rw [Bool.not_eq_true] at r2
   rw [r2] at hNn
   refine hNn.eq rfl ?_
   exact⟨[],[],[], .returned (vB false),⟨1,[]⟩,rfl,sk,trivial,by rw [hno (by simp [qAb,qAc,qAQ, *])];exact⟨rfl,rfl⟩⟩
  rw [r2] at hNn
  refine hNn.eq rfl ?_
  refine And.intro (fun r3=>?_) (fun r3=>?_)
  rotate_left
  ·have r3:¬ rel=0:=r3
   exact⟨[],[],[], .returned (vB false),⟨1,[]⟩,rfl,sk,trivial,by rw [hno (by simp [qAb,qAc,qAQ, *])];exact⟨rfl,rfl⟩⟩
  have r3:rel=0:=r3
  refine And.intro (fun r4=>?_) (fun r4=>?_)
  rotate_left
  ·have r4:¬ val=0:=r4
   exact⟨[],[],[], .returned (vB false),⟨1,[]⟩,rfl,sk,trivial,by rw [hno (by simp [qAb,qAc,qAQ, *])];exact⟨rfl,rfl⟩⟩
  have r4:val=0:=r4
  refine And.intro (fun r5=>?_) (fun r5=>?_)
  rotate_left
  ·have r5:¬ ((st.map i64).length:Int)=0:=r5
   have r5:¬ st=[]:=fun e=>r5 (by rw [e];rfl)
   exact⟨[],[],[], .returned (vB false),⟨1,[]⟩,rfl,sk,trivial,by rw [hno (by simp [qAb,qAc,qAQ, *])];exact⟨rfl,rfl⟩⟩
  have r5:((st.map i64).length:Int)=0:=r5
  have r5:st=[]:=by rw [List.length_map] at r5;exact List.length_eq_zero_iff.1 (by omega)
  by_cases hk:ar.length=0
  rotate_left
  ·refine And.intro (fun h=>absurd (show((ar.map Cd.cells).length:Int)=0 from h) (by rw [List.length_map];omega)) (fun _=>?_)
   exact⟨[],[],[], .returned (vB false),⟨1,[]⟩,rfl,sk,trivial,by rw [hno (by simp [qAb,qAc, *])];exact⟨rfl,rfl⟩⟩
  refine And.intro (fun _=>?_) (fun h=>absurd (show((ar.map Cd.cells).length:Int)=0 by rw [List.length_map];omega) h)
  refine And.intro (fun h=>absurd (show(0:Int)<0 from h) (by decide)) (fun _=>?_)
  refine⟨Nat × Nat,fun x=>[(1, .p (i64 p)),(2, .ptr 0 0 0),(143, .p (cds ar)),(144, .p (i64 ar.length)),(145, .p (i64 x.1))],fun x=>lfH x.2,fun x=>x.1<=ar.length/\x.2<=1000/\(ar.drop x.1).foldlM (fun l c=>qAs d c l) x.2=R,fun x=>ar.length - x.1,?_,?_⟩
  ·exact⟨(0,m),⟨Nat.zero_le _,by simp only [];omega,hyes (by first | (simp [qAb,qAc, *];done) | simp [qAb,qAc,qAQ, *])⟩,qAB [] [] [] rfl ⟨rfl,⟨rfl,rfl⟩,rfl,congrArg (fun n:Nat=>i64 n) (List.length_map ..).symm,rfl,trivial⟩ ⟨⟨_,rfl,rfl,rfl,_,rfl,_,_,rfl,congrArg i64 (by omega),rfl⟩,trivial⟩ rfl⟩
  rintro⟨i,l⟩ ⟨i1,i2,i3⟩
  simp only [] at i1 i2 i3
  refine QAD (fun j1=>?_) (fun j1=>?_)
  rotate_left
  ·have j1:¬ (i:Int)<(ar.length:Nat):=j1
   rw [List.drop_eq_nil_of_le (by omega),List.foldlM_nil] at i3
   exact⟨[],[],[], .returned (vB true),lfH l,rfl,sk,sk,by rw [<- i3];exact⟨rfl,rfl⟩⟩
  have j1:(i:Int)<(ar.length:Nat):=j1
  have hi:i<ar.length:=by omega
  rw [qEu cd0 hi,List.foldlM_cons] at i3
  have hbx:=qBV hb4 (qAL cd0 hi)
  have hcell:=qDU hi
  rcases hx:ar.getD i cd0 with ⟨o',n',rl',vl',rf',st',ar'⟩
  rw [hx] at i3 hbx hcell
  refine⟨_,⟨by omega,(Cd.mk o' n' rl' vl' rf' st' ar').cells,hcell,rfl⟩,?_⟩
  refine⟨((p+1:Nat):Int),w6z,?_⟩
  have hrec:=ih (.mk o' n' rl' vl' rf' st' ar') l (p+1) hbx (by omega) (by omega)
  rcases hv:qAs d (.mk o' n' rl' vl' rf' st' ar') l with _ | l2
  ·rw [hv] at hrec i3
   refine hrec.holds.useT [] [] rfl (sk) (sk) fun e0 H0 hq=>?_
   obtain⟨rfl,rfl⟩:=hq
   refine⟨rfl,_,_,rfl,rfl,?_⟩
   exact⟨[],[],[], .returned (vB false),⟨1,[]⟩,rfl,sk,trivial,by rw [<- i3];exact⟨rfl,rfl⟩⟩
  ·have hle:=qB8 _ _ _ _ hv
   rw [hv] at hrec i3
   refine hrec.holds.useT [] [] rfl (sk) (sk) fun e0 H0 hq=>?_
   obtain⟨rfl,rfl⟩:=hq
   refine⟨rfl,_,⟨2,[(0,lfO l2),(1,cO ((Cd.mk o' n' rl' vl' rf' st' ar').cells.map .p))]⟩,rfl,rfl,?_⟩
   refine⟨_,w6z,?_⟩
   exact⟨(i+1,l2),⟨by simp only [];omega,by simp only [];omega,i3⟩,qAB [] [] [] rfl (sk) (sk) rfl,by show ar.length - (i+1)<ar.length - i;omega⟩
 have o2:¬ op=2:=o2
 refine QAD (fun o3=>?_) (fun o3=>?_)
 ·have o3:op=3:=o3
  by_cases r1:qBl r=true
  rotate_left
  ·rw [Bool.not_eq_true] at r1
   rw [r1] at hRf
   refine hRf.eq rfl ?_
   exact⟨[],[],[], .returned (vB false),⟨1,[]⟩,rfl,sk,trivial,by rw [hno (by simp [qAb,qAc,qAQ, *])];exact⟨rfl,rfl⟩⟩
  rw [r1] at hRf
  refine hRf.eq rfl ?_
  by_cases r2:qBt n=true
  rotate_left
  ·rw [Bool.not_eq_true] at r2
   rw [r2] at hNn
   refine hNn.eq rfl ?_
   exact⟨[],[],[], .returned (vB false),⟨1,[]⟩,rfl,sk,trivial,by rw [hno (by simp [qAb,qAc,qAQ, *])];exact⟨rfl,rfl⟩⟩
  rw [r2] at hNn
  refine hNn.eq rfl ?_
  refine And.intro (fun r3=>?_) (fun r3=>?_)
  rotate_left
  ·have r3:¬ rel=0:=r3
   exact⟨[],[],[], .returned (vB false),⟨1,[]⟩,rfl,sk,trivial,by rw [hno (by simp [qAb,qAc,qAQ, *])];exact⟨rfl,rfl⟩⟩
  have r3:rel=0:=r3
  refine And.intro (fun r4=>?_) (fun r4=>?_)
  rotate_left
  ·have r4:¬ val=0:=r4
   exact⟨[],[],[], .returned (vB false),⟨1,[]⟩,rfl,sk,trivial,by rw [hno (by simp [qAb,qAc,qAQ, *])];exact⟨rfl,rfl⟩⟩
  have r4:val=0:=r4
  refine And.intro (fun r5=>?_) (fun r5=>?_)
  rotate_left
  ·have r5:¬ ((st.map i64).length:Int)=0:=r5
   have r5:¬ st=[]:=fun e=>r5 (by rw [e];rfl)
   exact⟨[],[],[], .returned (vB false),⟨1,[]⟩,rfl,sk,trivial,by rw [hno (by simp [qAb,qAc,qAQ, *])];exact⟨rfl,rfl⟩⟩
  have r5:((st.map i64).length:Int)=0:=r5
  have r5:st=[]:=by rw [List.length_map] at r5;exact List.length_eq_zero_iff.1 (by omega)
  by_cases hk:ar.length=0
  rotate_left
  ·refine And.intro (fun h=>absurd (show((ar.map Cd.cells).length:Int)=0 from h) (by rw [List.length_map];omega)) (fun _=>?_)
   exact⟨[],[],[], .returned (vB false),⟨1,[]⟩,rfl,sk,trivial,by rw [hno (by simp [qAb,qAc, *])];exact⟨rfl,rfl⟩⟩
  refine And.intro (fun _=>?_) (fun h=>absurd (show((ar.map Cd.cells).length:Int)=0 by rw [List.length_map];omega) h)
  refine And.intro (fun h=>absurd (show(0:Int)<0 from h) (by decide)) (fun _=>?_)
  refine⟨Nat × Nat,fun x=>[(1, .p (i64 p)),(2, .ptr 0 0 0),(143, .p (cds ar)),(144, .p (i64 ar.length)),(145, .p (i64 x.1))],fun x=>lfH x.2,fun x=>x.1<=ar.length/\x.2<=1000/\(ar.drop x.1).foldlM (fun l c=>qAs d c l) x.2=R,fun x=>ar.length - x.1,?_,?_⟩
  ·exact⟨(0,m),⟨Nat.zero_le _,by simp only [];omega,hyes (by first | (simp [qAb,qAc, *];done) | simp [qAb,qAc,qAQ, *])⟩,qAB [] [] [] rfl ⟨rfl,⟨rfl,rfl⟩,rfl,congrArg (fun n:Nat=>i64 n) (List.length_map ..).symm,rfl,trivial⟩ ⟨⟨_,rfl,rfl,rfl,_,rfl,_,_,rfl,congrArg i64 (by omega),rfl⟩,trivial⟩ rfl⟩
  rintro⟨i,l⟩ ⟨i1,i2,i3⟩
  simp only [] at i1 i2 i3
  refine QAD (fun j1=>?_) (fun j1=>?_)
  rotate_left
  ·have j1:¬ (i:Int)<(ar.length:Nat):=j1
   rw [List.drop_eq_nil_of_le (by omega),List.foldlM_nil] at i3
   exact⟨[],[],[], .returned (vB true),lfH l,rfl,sk,sk,by rw [<- i3];exact⟨rfl,rfl⟩⟩
  have j1:(i:Int)<(ar.length:Nat):=j1
  have hi:i<ar.length:=by omega
  rw [qEu cd0 hi,List.foldlM_cons] at i3
  have hbx:=qBV hb4 (qAL cd0 hi)
  have hcell:=qDU hi
  rcases hx:ar.getD i cd0 with ⟨o',n',rl',vl',rf',st',ar'⟩
  rw [hx] at i3 hbx hcell
  refine⟨_,⟨by omega,(Cd.mk o' n' rl' vl' rf' st' ar').cells,hcell,rfl⟩,?_⟩
  refine⟨((p+1:Nat):Int),w6z,?_⟩
  have hrec:=ih (.mk o' n' rl' vl' rf' st' ar') l (p+1) hbx (by omega) (by omega)
  rcases hv:qAs d (.mk o' n' rl' vl' rf' st' ar') l with _ | l2
  ·rw [hv] at hrec i3
   refine hrec.holds.useT [] [] rfl (sk) (sk) fun e0 H0 hq=>?_
   obtain⟨rfl,rfl⟩:=hq
   refine⟨rfl,_,_,rfl,rfl,?_⟩
   exact⟨[],[],[], .returned (vB false),⟨1,[]⟩,rfl,sk,trivial,by rw [<- i3];exact⟨rfl,rfl⟩⟩
  ·have hle:=qB8 _ _ _ _ hv
   rw [hv] at hrec i3
   refine hrec.holds.useT [] [] rfl (sk) (sk) fun e0 H0 hq=>?_
   obtain⟨rfl,rfl⟩:=hq
   refine⟨rfl,_,⟨2,[(0,lfO l2),(1,cO ((Cd.mk o' n' rl' vl' rf' st' ar').cells.map .p))]⟩,rfl,rfl,?_⟩
   refine⟨_,w6z,?_⟩
   exact⟨(i+1,l2),⟨by simp only [];omega,by simp only [];omega,i3⟩,qAB [] [] [] rfl (sk) (sk) rfl,by show ar.length - (i+1)<ar.length - i;omega⟩
 have o3:¬ op=3:=o3
 refine QAD (fun o4=>?_) (fun o4=>?_)
 ·have o4:op=4:=o4
  by_cases r1:qBl r=true
  rotate_left
  ·rw [Bool.not_eq_true] at r1
   rw [r1] at hRf
   refine hRf.eq rfl ?_
   exact⟨[],[],[], .returned (vB false),⟨1,[]⟩,rfl,sk,trivial,by rw [hno (by simp [qAb,qAc,qAQ, *])];exact⟨rfl,rfl⟩⟩
  rw [r1] at hRf
  refine hRf.eq rfl ?_
  by_cases r2:qBt n=true
  rotate_left
  ·rw [Bool.not_eq_true] at r2
   rw [r2] at hNn
   refine hNn.eq rfl ?_
   exact⟨[],[],[], .returned (vB false),⟨1,[]⟩,rfl,sk,trivial,by rw [hno (by simp [qAb,qAc,qAQ, *])];exact⟨rfl,rfl⟩⟩
  rw [r2] at hNn
  refine hNn.eq rfl ?_
  refine And.intro (fun r3=>?_) (fun r3=>?_)
  rotate_left
  ·have r3:¬ rel=0:=r3
   exact⟨[],[],[], .returned (vB false),⟨1,[]⟩,rfl,sk,trivial,by rw [hno (by simp [qAb,qAc,qAQ, *])];exact⟨rfl,rfl⟩⟩
  have r3:rel=0:=r3
  refine And.intro (fun r4=>?_) (fun r4=>?_)
  rotate_left
  ·have r4:¬ val=0:=r4
   exact⟨[],[],[], .returned (vB false),⟨1,[]⟩,rfl,sk,trivial,by rw [hno (by simp [qAb,qAc,qAQ, *])];exact⟨rfl,rfl⟩⟩
  have r4:val=0:=r4
  refine And.intro (fun r5=>?_) (fun r5=>?_)
  rotate_left
  ·have r5:¬ ((st.map i64).length:Int)=0:=r5
   have r5:¬ st=[]:=fun e=>r5 (by rw [e];rfl)
   exact⟨[],[],[], .returned (vB false),⟨1,[]⟩,rfl,sk,trivial,by rw [hno (by simp [qAb,qAc,qAQ, *])];exact⟨rfl,rfl⟩⟩
  have r5:((st.map i64).length:Int)=0:=r5
  have r5:st=[]:=by rw [List.length_map] at r5;exact List.length_eq_zero_iff.1 (by omega)
  by_cases hk:ar.length=0
  rotate_left
  ·refine And.intro (fun h=>absurd (show((ar.map Cd.cells).length:Int)=0 from h) (by rw [List.length_map];omega)) (fun _=>?_)
   exact⟨[],[],[], .returned (vB false),⟨1,[]⟩,rfl,sk,trivial,by rw [hno (by simp [qAb,qAc, *])];exact⟨rfl,rfl⟩⟩
  refine And.intro (fun _=>?_) (fun h=>absurd (show((ar.map Cd.cells).length:Int)=0 by rw [List.length_map];omega) h)
  refine And.intro (fun h=>absurd (show(0:Int)<0 from h) (by decide)) (fun _=>?_)
  refine⟨Nat × Nat,fun x=>[(1, .p (i64 p)),(2, .ptr 0 0 0),(143, .p (cds ar)),(144, .p (i64 ar.length)),(145, .p (i64 x.1))],fun x=>lfH x.2,fun x=>x.1<=ar.length/\x.2<=1000/\(ar.drop x.1).foldlM (fun l c=>qAs d c l) x.2=R,fun x=>ar.length - x.1,?_,?_⟩
  ·exact⟨(0,m),⟨Nat.zero_le _,by simp only [];omega,hyes (by first | (simp [qAb,qAc, *];done) | simp [qAb,qAc,qAQ, *])⟩,qAB [] [] [] rfl ⟨rfl,⟨rfl,rfl⟩,rfl,congrArg (fun n:Nat=>i64 n) (List.length_map ..).symm,rfl,trivial⟩ ⟨⟨_,rfl,rfl,rfl,_,rfl,_,_,rfl,congrArg i64 (by omega),rfl⟩,trivial⟩ rfl⟩
  rintro⟨i,l⟩ ⟨i1,i2,i3⟩
  simp only [] at i1 i2 i3
  refine QAD (fun j1=>?_) (fun j1=>?_)
  rotate_left
  ·have j1:¬ (i:Int)<(ar.length:Nat):=j1
   rw [List.drop_eq_nil_of_le (by omega),List.foldlM_nil] at i3
   exact⟨[],[],[], .returned (vB true),lfH l,rfl,sk,sk,by rw [<- i3];exact⟨rfl,rfl⟩⟩
  have j1:(i:Int)<(ar.length:Nat):=j1
  have hi:i<ar.length:=by omega
  rw [qEu cd0 hi,List.foldlM_cons] at i3
  have hbx:=qBV hb4 (qAL cd0 hi)
  have hcell:=qDU hi
  rcases hx:ar.getD i cd0 with ⟨o',n',rl',vl',rf',st',ar'⟩
  rw [hx] at i3 hbx hcell
  refine⟨_,⟨by omega,(Cd.mk o' n' rl' vl' rf' st' ar').cells,hcell,rfl⟩,?_⟩
  refine⟨((p+1:Nat):Int),w6z,?_⟩
  have hrec:=ih (.mk o' n' rl' vl' rf' st' ar') l (p+1) hbx (by omega) (by omega)
  rcases hv:qAs d (.mk o' n' rl' vl' rf' st' ar') l with _ | l2
  ·rw [hv] at hrec i3
   refine hrec.holds.useT [] [] rfl (sk) (sk) fun e0 H0 hq=>?_
   obtain⟨rfl,rfl⟩:=hq
   refine⟨rfl,_,_,rfl,rfl,?_⟩
   exact⟨[],[],[], .returned (vB false),⟨1,[]⟩,rfl,sk,trivial,by rw [<- i3];exact⟨rfl,rfl⟩⟩
  ·have hle:=qB8 _ _ _ _ hv
   rw [hv] at hrec i3
   refine hrec.holds.useT [] [] rfl (sk) (sk) fun e0 H0 hq=>?_
   obtain⟨rfl,rfl⟩:=hq
   refine⟨rfl,_,⟨2,[(0,lfO l2),(1,cO ((Cd.mk o' n' rl' vl' rf' st' ar').cells.map .p))]⟩,rfl,rfl,?_⟩
   refine⟨_,w6z,?_⟩
   exact⟨(i+1,l2),⟨by simp only [];omega,by simp only [];omega,i3⟩,qAB [] [] [] rfl (sk) (sk) rfl,by show ar.length - (i+1)<ar.length - i;omega⟩
 have o4:¬ op=4:=o4
 refine QAD (fun o5=>?_) (fun o5=>?_)
 ·have o5:op=5:=o5
  by_cases r1:qBl r=true
  rotate_left
  ·rw [Bool.not_eq_true] at r1
   rw [r1] at hRf
   refine hRf.eq rfl ?_
   exact⟨[],[],[], .returned (vB false),⟨1,[]⟩,rfl,sk,trivial,by rw [hno (by simp [qAb,qAc,qAQ, *])];exact⟨rfl,rfl⟩⟩
  rw [r1] at hRf
  refine hRf.eq rfl ?_
  refine And.intro (fun r2=>?_) (fun r2=>?_)
  rotate_left
  ·have r2:¬ n=0:=r2
   exact⟨[],[],[], .returned (vB false),⟨1,[]⟩,rfl,sk,trivial,by rw [hno (by simp [qAb,qAc,qAQ, *])];exact⟨rfl,rfl⟩⟩
  have r2:n=0:=r2
  refine And.intro (fun r3=>?_) (fun r3=>?_)
  rotate_left
  ·have r3:¬ rel=0:=r3
   exact⟨[],[],[], .returned (vB false),⟨1,[]⟩,rfl,sk,trivial,by rw [hno (by simp [qAb,qAc,qAQ, *])];exact⟨rfl,rfl⟩⟩
  have r3:rel=0:=r3
  refine And.intro (fun r4=>?_) (fun r4=>?_)
  rotate_left
  ·have r4:¬ val=0:=r4
   exact⟨[],[],[], .returned (vB false),⟨1,[]⟩,rfl,sk,trivial,by rw [hno (by simp [qAb,qAc,qAQ, *])];exact⟨rfl,rfl⟩⟩
  have r4:val=0:=r4
  by_cases r5:qHr st=true
  rotate_left
  ·rw [Bool.not_eq_true] at r5
   rw [r5] at hS
   refine hS.eq rfl ?_
   exact⟨[],[],[], .returned (vB false),⟨1,[]⟩,rfl,sk,trivial,by rw [hno (by simp [qAb,qAc,qAQ, *])];exact⟨rfl,rfl⟩⟩
  rw [r5] at hS
  refine hS.eq rfl ?_
  by_cases hk:ar.length=0
  rotate_left
  ·refine And.intro (fun h=>absurd (show((ar.map Cd.cells).length:Int)=0 from h) (by rw [List.length_map];omega)) (fun _=>?_)
   exact⟨[],[],[], .returned (vB false),⟨1,[]⟩,rfl,sk,trivial,by rw [hno (by simp [qAb,qAc, *])];exact⟨rfl,rfl⟩⟩
  refine And.intro (fun _=>?_) (fun h=>absurd (show((ar.map Cd.cells).length:Int)=0 by rw [List.length_map];omega) h)
  refine And.intro (fun h=>absurd (show(0:Int)<0 from h) (by decide)) (fun _=>?_)
  refine⟨Nat × Nat,fun x=>[(1, .p (i64 p)),(2, .ptr 0 0 0),(143, .p (cds ar)),(144, .p (i64 ar.length)),(145, .p (i64 x.1))],fun x=>lfH x.2,fun x=>x.1<=ar.length/\x.2<=1000/\(ar.drop x.1).foldlM (fun l c=>qAs d c l) x.2=R,fun x=>ar.length - x.1,?_,?_⟩
  ·exact⟨(0,m),⟨Nat.zero_le _,by simp only [];omega,hyes (by first | (simp [qAb,qAc, *];done) | simp [qAb,qAc,qAQ, *])⟩,qAB [] [] [] rfl ⟨rfl,⟨rfl,rfl⟩,rfl,congrArg (fun n:Nat=>i64 n) (List.length_map ..).symm,rfl,trivial⟩ ⟨⟨_,rfl,rfl,rfl,_,rfl,_,_,rfl,congrArg i64 (by omega),rfl⟩,trivial⟩ rfl⟩
  rintro⟨i,l⟩ ⟨i1,i2,i3⟩
  simp only [] at i1 i2 i3
  refine QAD (fun j1=>?_) (fun j1=>?_)
  rotate_left
  ·have j1:¬ (i:Int)<(ar.length:Nat):=j1
   rw [List.drop_eq_nil_of_le (by omega),List.foldlM_nil] at i3
   exact⟨[],[],[], .returned (vB true),lfH l,rfl,sk,sk,by rw [<- i3];exact⟨rfl,rfl⟩⟩
  have j1:(i:Int)<(ar.length:Nat):=j1
  have hi:i<ar.length:=by omega
  rw [qEu cd0 hi,List.foldlM_cons] at i3
  have hbx:=qBV hb4 (qAL cd0 hi)
  have hcell:=qDU hi
  rcases hx:ar.getD i cd0 with ⟨o',n',rl',vl',rf',st',ar'⟩
  rw [hx] at i3 hbx hcell
  refine⟨_,⟨by omega,(Cd.mk o' n' rl' vl' rf' st' ar').cells,hcell,rfl⟩,?_⟩
  refine⟨((p+1:Nat):Int),w6z,?_⟩
  have hrec:=ih (.mk o' n' rl' vl' rf' st' ar') l (p+1) hbx (by omega) (by omega)
  rcases hv:qAs d (.mk o' n' rl' vl' rf' st' ar') l with _ | l2
  ·rw [hv] at hrec i3
   refine hrec.holds.useT [] [] rfl (sk) (sk) fun e0 H0 hq=>?_
   obtain⟨rfl,rfl⟩:=hq
   refine⟨rfl,_,_,rfl,rfl,?_⟩
   exact⟨[],[],[], .returned (vB false),⟨1,[]⟩,rfl,sk,trivial,by rw [<- i3];exact⟨rfl,rfl⟩⟩
  ·have hle:=qB8 _ _ _ _ hv
   rw [hv] at hrec i3
   refine hrec.holds.useT [] [] rfl (sk) (sk) fun e0 H0 hq=>?_
   obtain⟨rfl,rfl⟩:=hq
   refine⟨rfl,_,⟨2,[(0,lfO l2),(1,cO ((Cd.mk o' n' rl' vl' rf' st' ar').cells.map .p))]⟩,rfl,rfl,?_⟩
   refine⟨_,w6z,?_⟩
   exact⟨(i+1,l2),⟨by simp only [];omega,by simp only [];omega,i3⟩,qAB [] [] [] rfl (sk) (sk) rfl,by show ar.length - (i+1)<ar.length - i;omega⟩
 have o5:¬ op=5:=o5
 refine QAD (fun o6=>?_) (fun o6=>?_)
 ·have o6:op=6:=o6
  by_cases r1:qBl r=true
  rotate_left
  ·rw [Bool.not_eq_true] at r1
   rw [r1] at hRf
   refine hRf.eq rfl ?_
   exact⟨[],[],[], .returned (vB false),⟨1,[]⟩,rfl,sk,trivial,by rw [hno (by simp [qAb,qAc,qAQ, *])];exact⟨rfl,rfl⟩⟩
  rw [r1] at hRf
  refine hRf.eq rfl ?_
  refine And.intro (fun r2=>?_) (fun r2=>?_)
  rotate_left
  ·have r2:¬ r.mode=3:=r2
   exact⟨[],[],[], .returned (vB false),⟨1,[]⟩,rfl,sk,trivial,by rw [hno (by simp [qAb,qAc,qAQ, *])];exact⟨rfl,rfl⟩⟩
  have r2:r.mode=3:=r2
  by_cases r3:qBt n=true
  rotate_left
  ·rw [Bool.not_eq_true] at r3
   rw [r3] at hNn
   refine hNn.eq rfl ?_
   exact⟨[],[],[], .returned (vB false),⟨1,[]⟩,rfl,sk,trivial,by rw [hno (by simp [qAb,qAc,qAQ, *])];exact⟨rfl,rfl⟩⟩
  rw [r3] at hNn
  refine hNn.eq rfl ?_
  by_cases r4:qBt val=true
  rotate_left
  ·rw [Bool.not_eq_true] at r4
   rw [r4] at hNv
   refine hNv.eq rfl ?_
   exact⟨[],[],[], .returned (vB false),⟨1,[]⟩,rfl,sk,trivial,by rw [hno (by simp [qAb,qAc,qAQ, *])];exact⟨rfl,rfl⟩⟩
  rw [r4] at hNv
  refine hNv.eq rfl ?_
  refine And.intro (fun r5=>?_) (fun r5=>?_)
  ·have r5:rel<1:=r5
   have r5:¬ 1<=rel:=by omega
   exact⟨[],[],[], .returned (vB false),⟨1,[]⟩,rfl,sk,trivial,by rw [hno (by simp [qAb,qAc,qAQ, *])];exact⟨rfl,rfl⟩⟩
  have r5:¬ rel<1:=r5
  have r5:1<=rel:=by omega
  refine And.intro (fun r6=>?_) (fun r6=>?_)
  ·have r6:(4:Int)<rel:=r6
   have r6:¬ rel<=4:=by omega
   exact⟨[],[],[], .returned (vB false),⟨1,[]⟩,rfl,sk,trivial,by rw [hno (by simp [qAb,qAc,qAQ, *])];exact⟨rfl,rfl⟩⟩
  have r6:¬ (4:Int)<rel:=r6
  have r6:rel<=4:=by omega
  refine And.intro (fun r9=>?_) (fun r9=>?_)
  rotate_left
  ·have r9:¬ ((st.map i64).length:Int)=0:=r9
   have r9:¬ st=[]:=fun e=>r9 (by rw [e];rfl)
   exact⟨[],[],[], .returned (vB false),⟨1,[]⟩,rfl,sk,trivial,by rw [hno (by simp [qAb,qAc,qAQ, *])];exact⟨rfl,rfl⟩⟩
  have r9:((st.map i64).length:Int)=0:=r9
  have r9:st=[]:=by rw [List.length_map] at r9;exact List.length_eq_zero_iff.1 (by omega)
  by_cases hk:ar.length=0
  rotate_left
  ·refine And.intro (fun h=>absurd (show((ar.map Cd.cells).length:Int)=0 from h) (by rw [List.length_map];omega)) (fun _=>?_)
   exact⟨[],[],[], .returned (vB false),⟨1,[]⟩,rfl,sk,trivial,by rw [hno (by simp [qAb,qAc, *])];exact⟨rfl,rfl⟩⟩
  refine And.intro (fun _=>?_) (fun h=>absurd (show((ar.map Cd.cells).length:Int)=0 by rw [List.length_map];omega) h)
  refine And.intro (fun h=>absurd (show(0:Int)<0 from h) (by decide)) (fun _=>?_)
  refine⟨Nat × Nat,fun x=>[(1, .p (i64 p)),(2, .ptr 0 0 0),(143, .p (cds ar)),(144, .p (i64 ar.length)),(145, .p (i64 x.1))],fun x=>lfH x.2,fun x=>x.1<=ar.length/\x.2<=1000/\(ar.drop x.1).foldlM (fun l c=>qAs d c l) x.2=R,fun x=>ar.length - x.1,?_,?_⟩
  ·exact⟨(0,m),⟨Nat.zero_le _,by simp only [];omega,hyes (by first | (simp [qAb,qAc, *];done) | simp [qAb,qAc,qAQ, *])⟩,qAB [] [] [] rfl ⟨rfl,⟨rfl,rfl⟩,rfl,congrArg (fun n:Nat=>i64 n) (List.length_map ..).symm,rfl,trivial⟩ ⟨⟨_,rfl,rfl,rfl,_,rfl,_,_,rfl,congrArg i64 (by omega),rfl⟩,trivial⟩ rfl⟩
  rintro⟨i,l⟩ ⟨i1,i2,i3⟩
  simp only [] at i1 i2 i3
  refine QAD (fun j1=>?_) (fun j1=>?_)
  rotate_left
  ·have j1:¬ (i:Int)<(ar.length:Nat):=j1
   rw [List.drop_eq_nil_of_le (by omega),List.foldlM_nil] at i3
   exact⟨[],[],[], .returned (vB true),lfH l,rfl,sk,sk,by rw [<- i3];exact⟨rfl,rfl⟩⟩
  have j1:(i:Int)<(ar.length:Nat):=j1
  have hi:i<ar.length:=by omega
  rw [qEu cd0 hi,List.foldlM_cons] at i3
  have hbx:=qBV hb4 (qAL cd0 hi)
  have hcell:=qDU hi
  rcases hx:ar.getD i cd0 with ⟨o',n',rl',vl',rf',st',ar'⟩
  rw [hx] at i3 hbx hcell
  refine⟨_,⟨by omega,(Cd.mk o' n' rl' vl' rf' st' ar').cells,hcell,rfl⟩,?_⟩
  refine⟨((p+1:Nat):Int),w6z,?_⟩
  have hrec:=ih (.mk o' n' rl' vl' rf' st' ar') l (p+1) hbx (by omega) (by omega)
  rcases hv:qAs d (.mk o' n' rl' vl' rf' st' ar') l with _ | l2
  ·rw [hv] at hrec i3
   refine hrec.holds.useT [] [] rfl (sk) (sk) fun e0 H0 hq=>?_
   obtain⟨rfl,rfl⟩:=hq
   refine⟨rfl,_,_,rfl,rfl,?_⟩
   exact⟨[],[],[], .returned (vB false),⟨1,[]⟩,rfl,sk,trivial,by rw [<- i3];exact⟨rfl,rfl⟩⟩
  ·have hle:=qB8 _ _ _ _ hv
   rw [hv] at hrec i3
   refine hrec.holds.useT [] [] rfl (sk) (sk) fun e0 H0 hq=>?_
   obtain⟨rfl,rfl⟩:=hq
   refine⟨rfl,_,⟨2,[(0,lfO l2),(1,cO ((Cd.mk o' n' rl' vl' rf' st' ar').cells.map .p))]⟩,rfl,rfl,?_⟩
   refine⟨_,w6z,?_⟩
   exact⟨(i+1,l2),⟨by simp only [];omega,by simp only [];omega,i3⟩,qAB [] [] [] rfl (sk) (sk) rfl,by show ar.length - (i+1)<ar.length - i;omega⟩
 have o6:¬ op=6:=o6
 refine QAD (fun o7=>?_) (fun o7=>?_)
 ·have o7:op=7:=o7
  by_cases hk:ar.length=1
  rotate_left
  ·refine And.intro (fun h=>absurd (show((ar.map Cd.cells).length:Int)=1 from h) (by rw [List.length_map];omega)) (fun _=>?_)
   exact⟨[],[],[], .returned (vB false),⟨1,[]⟩,rfl,sk,trivial,by rw [hno (by simp [qAb,qAc, *])];exact⟨rfl,rfl⟩⟩
  refine And.intro (fun _=>?_) (fun h=>absurd (show((ar.map Cd.cells).length:Int)=1 by rw [List.length_map];omega) h)
  refine And.intro (fun _=>?_) (fun h=>absurd (show(0:Int)<1 by decide) h)
  by_cases hp:qA1 n rel val r st=true
  rotate_left
  ·rw [Bool.not_eq_true] at hp
   rw [hp] at hP
   refine hP.eq rfl ?_
   exact⟨[],[],[], .returned (vB false),⟨1,[]⟩,rfl,sk,trivial,by rw [hno (by simp [qAb,qAc, *])];exact⟨rfl,rfl⟩⟩
  rw [hp] at hP
  refine hP.eq rfl ?_
  refine⟨Nat × Nat,fun x=>[(1, .p (i64 p)),(2, .ptr 0 0 0),(143, .p (cds ar)),(144, .p (i64 ar.length)),(145, .p (i64 x.1))],fun x=>lfH x.2,fun x=>x.1<=ar.length/\x.2<=1000/\(ar.drop x.1).foldlM (fun l c=>qAs d c l) x.2=R,fun x=>ar.length - x.1,?_,?_⟩
  ·exact⟨(0,m),⟨Nat.zero_le _,by simp only [];omega,hyes (by first | (simp [qAb,qAc, *];done) | simp [qAb,qAc,qAQ, *])⟩,qAB [] [] [] rfl ⟨rfl,⟨rfl,rfl⟩,rfl,congrArg (fun n:Nat=>i64 n) (List.length_map ..).symm,rfl,trivial⟩ ⟨⟨_,rfl,rfl,rfl,_,rfl,_,_,rfl,congrArg i64 (by omega),rfl⟩,trivial⟩ rfl⟩
  rintro⟨i,l⟩ ⟨i1,i2,i3⟩
  simp only [] at i1 i2 i3
  refine QAD (fun j1=>?_) (fun j1=>?_)
  rotate_left
  ·have j1:¬ (i:Int)<(ar.length:Nat):=j1
   rw [List.drop_eq_nil_of_le (by omega),List.foldlM_nil] at i3
   exact⟨[],[],[], .returned (vB true),lfH l,rfl,sk,sk,by rw [<- i3];exact⟨rfl,rfl⟩⟩
  have j1:(i:Int)<(ar.length:Nat):=j1
  have hi:i<ar.length:=by omega
  rw [qEu cd0 hi,List.foldlM_cons] at i3
  have hbx:=qBV hb4 (qAL cd0 hi)
  have hcell:=qDU hi
  rcases hx:ar.getD i cd0 with ⟨o',n',rl',vl',rf',st',ar'⟩
  rw [hx] at i3 hbx hcell
  refine⟨_,⟨by omega,(Cd.mk o' n' rl' vl' rf' st' ar').cells,hcell,rfl⟩,?_⟩
  refine⟨((p+1:Nat):Int),w6z,?_⟩
  have hrec:=ih (.mk o' n' rl' vl' rf' st' ar') l (p+1) hbx (by omega) (by omega)
  rcases hv:qAs d (.mk o' n' rl' vl' rf' st' ar') l with _ | l2
  ·rw [hv] at hrec i3
   refine hrec.holds.useT [] [] rfl (sk) (sk) fun e0 H0 hq=>?_
   obtain⟨rfl,rfl⟩:=hq
   refine⟨rfl,_,_,rfl,rfl,?_⟩
   exact⟨[],[],[], .returned (vB false),⟨1,[]⟩,rfl,sk,trivial,by rw [<- i3];exact⟨rfl,rfl⟩⟩
  ·have hle:=qB8 _ _ _ _ hv
   rw [hv] at hrec i3
   refine hrec.holds.useT [] [] rfl (sk) (sk) fun e0 H0 hq=>?_
   obtain⟨rfl,rfl⟩:=hq
   refine⟨rfl,_,⟨2,[(0,lfO l2),(1,cO ((Cd.mk o' n' rl' vl' rf' st' ar').cells.map .p))]⟩,rfl,rfl,?_⟩
   refine⟨_,w6z,?_⟩
   exact⟨(i+1,l2),⟨by simp only [];omega,by simp only [];omega,i3⟩,qAB [] [] [] rfl (sk) (sk) rfl,by show ar.length - (i+1)<ar.length - i;omega⟩
 have o7:¬ op=7:=o7
 refine QAD (fun o8=>?_) (fun o8=>?_)
 ·have o8:op=8:=o8
  by_cases hk:ar.length=2
  rotate_left
  ·refine And.intro (fun h=>absurd (show((ar.map Cd.cells).length:Int)=2 from h) (by rw [List.length_map];omega)) (fun _=>?_)
   exact⟨[],[],[], .returned (vB false),⟨1,[]⟩,rfl,sk,trivial,by rw [hno (by simp [qAb,qAc, *])];exact⟨rfl,rfl⟩⟩
  refine And.intro (fun _=>?_) (fun h=>absurd (show((ar.map Cd.cells).length:Int)=2 by rw [List.length_map];omega) h)
  refine And.intro (fun _=>?_) (fun h=>absurd (show(0:Int)<2 by decide) h)
  by_cases hp:qA1 n rel val r st=true
  rotate_left
  ·rw [Bool.not_eq_true] at hp
   rw [hp] at hP
   refine hP.eq rfl ?_
   exact⟨[],[],[], .returned (vB false),⟨1,[]⟩,rfl,sk,trivial,by rw [hno (by simp [qAb,qAc, *])];exact⟨rfl,rfl⟩⟩
  rw [hp] at hP
  refine hP.eq rfl ?_
  refine⟨Nat × Nat,fun x=>[(1, .p (i64 p)),(2, .ptr 0 0 0),(143, .p (cds ar)),(144, .p (i64 ar.length)),(145, .p (i64 x.1))],fun x=>lfH x.2,fun x=>x.1<=ar.length/\x.2<=1000/\(ar.drop x.1).foldlM (fun l c=>qAs d c l) x.2=R,fun x=>ar.length - x.1,?_,?_⟩
  ·exact⟨(0,m),⟨Nat.zero_le _,by simp only [];omega,hyes (by first | (simp [qAb,qAc, *];done) | simp [qAb,qAc,qAQ, *])⟩,qAB [] [] [] rfl ⟨rfl,⟨rfl,rfl⟩,rfl,congrArg (fun n:Nat=>i64 n) (List.length_map ..).symm,rfl,trivial⟩ ⟨⟨_,rfl,rfl,rfl,_,rfl,_,_,rfl,congrArg i64 (by omega),rfl⟩,trivial⟩ rfl⟩
  rintro⟨i,l⟩ ⟨i1,i2,i3⟩
  simp only [] at i1 i2 i3
  refine QAD (fun j1=>?_) (fun j1=>?_)
  rotate_left
  ·have j1:¬ (i:Int)<(ar.length:Nat):=j1
   rw [List.drop_eq_nil_of_le (by omega),List.foldlM_nil] at i3
   exact⟨[],[],[], .returned (vB true),lfH l,rfl,sk,sk,by rw [<- i3];exact⟨rfl,rfl⟩⟩
  have j1:(i:Int)<(ar.length:Nat):=j1
  have hi:i<ar.length:=by omega
  rw [qEu cd0 hi,List.foldlM_cons] at i3
  have hbx:=qBV hb4 (qAL cd0 hi)
  have hcell:=qDU hi
  rcases hx:ar.getD i cd0 with ⟨o',n',rl',vl',rf',st',ar'⟩
  rw [hx] at i3 hbx hcell
  refine⟨_,⟨by omega,(Cd.mk o' n' rl' vl' rf' st' ar').cells,hcell,rfl⟩,?_⟩
  refine⟨((p+1:Nat):Int),w6z,?_⟩
  have hrec:=ih (.mk o' n' rl' vl' rf' st' ar') l (p+1) hbx (by omega) (by omega)
  rcases hv:qAs d (.mk o' n' rl' vl' rf' st' ar') l with _ | l2
  ·rw [hv] at hrec i3
   refine hrec.holds.useT [] [] rfl (sk) (sk) fun e0 H0 hq=>?_
   obtain⟨rfl,rfl⟩:=hq
   refine⟨rfl,_,_,rfl,rfl,?_⟩
   exact⟨[],[],[], .returned (vB false),⟨1,[]⟩,rfl,sk,trivial,by rw [<- i3];exact⟨rfl,rfl⟩⟩
  ·have hle:=qB8 _ _ _ _ hv
   rw [hv] at hrec i3
   refine hrec.holds.useT [] [] rfl (sk) (sk) fun e0 H0 hq=>?_
   obtain⟨rfl,rfl⟩:=hq
   refine⟨rfl,_,⟨2,[(0,lfO l2),(1,cO ((Cd.mk o' n' rl' vl' rf' st' ar').cells.map .p))]⟩,rfl,rfl,?_⟩
   refine⟨_,w6z,?_⟩
   exact⟨(i+1,l2),⟨by simp only [];omega,by simp only [];omega,i3⟩,qAB [] [] [] rfl (sk) (sk) rfl,by show ar.length - (i+1)<ar.length - i;omega⟩
 have o8:¬ op=8:=o8
 refine QAD (fun o9=>?_) (fun o9=>?_)
 ·have o9:op=9:=o9
  by_cases hk:ar.length=2
  rotate_left
  ·refine And.intro (fun h=>absurd (show((ar.map Cd.cells).length:Int)=2 from h) (by rw [List.length_map];omega)) (fun _=>?_)
   exact⟨[],[],[], .returned (vB false),⟨1,[]⟩,rfl,sk,trivial,by rw [hno (by simp [qAb,qAc, *])];exact⟨rfl,rfl⟩⟩
  refine And.intro (fun _=>?_) (fun h=>absurd (show((ar.map Cd.cells).length:Int)=2 by rw [List.length_map];omega) h)
  refine And.intro (fun _=>?_) (fun h=>absurd (show(0:Int)<2 by decide) h)
  by_cases hp:qA1 n rel val r st=true
  rotate_left
  ·rw [Bool.not_eq_true] at hp
   rw [hp] at hP
   refine hP.eq rfl ?_
   exact⟨[],[],[], .returned (vB false),⟨1,[]⟩,rfl,sk,trivial,by rw [hno (by simp [qAb,qAc, *])];exact⟨rfl,rfl⟩⟩
  rw [hp] at hP
  refine hP.eq rfl ?_
  refine⟨Nat × Nat,fun x=>[(1, .p (i64 p)),(2, .ptr 0 0 0),(143, .p (cds ar)),(144, .p (i64 ar.length)),(145, .p (i64 x.1))],fun x=>lfH x.2,fun x=>x.1<=ar.length/\x.2<=1000/\(ar.drop x.1).foldlM (fun l c=>qAs d c l) x.2=R,fun x=>ar.length - x.1,?_,?_⟩
  ·exact⟨(0,m),⟨Nat.zero_le _,by simp only [];omega,hyes (by first | (simp [qAb,qAc, *];done) | simp [qAb,qAc,qAQ, *])⟩,qAB [] [] [] rfl ⟨rfl,⟨rfl,rfl⟩,rfl,congrArg (fun n:Nat=>i64 n) (List.length_map ..).symm,rfl,trivial⟩ ⟨⟨_,rfl,rfl,rfl,_,rfl,_,_,rfl,congrArg i64 (by omega),rfl⟩,trivial⟩ rfl⟩
  rintro⟨i,l⟩ ⟨i1,i2,i3⟩
  simp only [] at i1 i2 i3
  refine QAD (fun j1=>?_) (fun j1=>?_)
  rotate_left
  ·have j1:¬ (i:Int)<(ar.length:Nat):=j1
   rw [List.drop_eq_nil_of_le (by omega),List.foldlM_nil] at i3
   exact⟨[],[],[], .returned (vB true),lfH l,rfl,sk,sk,by rw [<- i3];exact⟨rfl,rfl⟩⟩
  have j1:(i:Int)<(ar.length:Nat):=j1
  have hi:i<ar.length:=by omega
  rw [qEu cd0 hi,List.foldlM_cons] at i3
  have hbx:=qBV hb4 (qAL cd0 hi)
  have hcell:=qDU hi
  rcases hx:ar.getD i cd0 with ⟨o',n',rl',vl',rf',st',ar'⟩
  rw [hx] at i3 hbx hcell
  refine⟨_,⟨by omega,(Cd.mk o' n' rl' vl' rf' st' ar').cells,hcell,rfl⟩,?_⟩
  refine⟨((p+1:Nat):Int),w6z,?_⟩
  have hrec:=ih (.mk o' n' rl' vl' rf' st' ar') l (p+1) hbx (by omega) (by omega)
  rcases hv:qAs d (.mk o' n' rl' vl' rf' st' ar') l with _ | l2
  ·rw [hv] at hrec i3
   refine hrec.holds.useT [] [] rfl (sk) (sk) fun e0 H0 hq=>?_
   obtain⟨rfl,rfl⟩:=hq
   refine⟨rfl,_,_,rfl,rfl,?_⟩
   exact⟨[],[],[], .returned (vB false),⟨1,[]⟩,rfl,sk,trivial,by rw [<- i3];exact⟨rfl,rfl⟩⟩
  ·have hle:=qB8 _ _ _ _ hv
   rw [hv] at hrec i3
   refine hrec.holds.useT [] [] rfl (sk) (sk) fun e0 H0 hq=>?_
   obtain⟨rfl,rfl⟩:=hq
   refine⟨rfl,_,⟨2,[(0,lfO l2),(1,cO ((Cd.mk o' n' rl' vl' rf' st' ar').cells.map .p))]⟩,rfl,rfl,?_⟩
   refine⟨_,w6z,?_⟩
   exact⟨(i+1,l2),⟨by simp only [];omega,by simp only [];omega,i3⟩,qAB [] [] [] rfl (sk) (sk) rfl,by show ar.length - (i+1)<ar.length - i;omega⟩
 have o9:¬ op=9:=o9
 exact⟨[],[],[], .returned (vB false),⟨1,[]⟩,rfl,sk,trivial,by rw [hno (by simp [qAb,qAc,qAQ, *])];exact⟨rfl,rfl⟩⟩
theorem qLf:∀ d,d<=8->qYI d
 | 0,_=>by
  rintro⟨op,n,rel,val,r,st,ar⟩ left p hb hl hp9
  generalize hR:qAs 0 (.mk op n rel val r st ar) left=R
  rw [qAs] at hR
  refine qAA Tryz.func128 rfl rfl rfl ?_
  refine⟨(left:Int) - 1,w6z,?_⟩
  refine QAD (fun h1=>?_) (fun h1=>?_)
  ·exact⟨[],[],[], .returned (vB false),⟨1,[]⟩,rfl,sk,trivial,by rw [<- hR];exact⟨rfl,rfl⟩⟩
  ·refine And.intro (fun _=>?_) (fun h=>absurd (show(8:Int)<(p:Nat) by omega) h)
   exact⟨[],[],[], .returned (vB false),⟨1,[]⟩,rfl,sk,trivial,by rw [<- hR];exact⟨rfl,rfl⟩⟩
 | d+1,h=>qVb d (qLf d (by omega))
set_option maxHeartbeats 4000000
def qGW (n:Int):Bool:=decide (-9999<=n) && decide (n<=9999)
def qCX (l:List Int):Bool:=decide (1<=l.length) && decide (l.length<=8) && l.all qGW
def qEZ:Cd->Bool
 | .mk op n rel val r st ar=>decide (op=0) && qA1 n rel val r st && decide (ar.length=0)
def qBj:List Cs->Bool
 | []=>true
 | [c]=>qCX c.nums && qEZ c.cond
 | c::d::r=>qCX c.nums && (qAs 8 c.cond 30).isSome && qBj (d::r)
def qBM (l:List Cs):Bool:=decide (1<=l.length) && decide (l.length<=12) && qBj l
structure BigL (l:List Cs):Prop where
 len:l.length<=9223372036854775807
 cond:∀ c∈l,qC1 c.cond
 nums:∀ c∈l,c.nums.length<=9223372036854775807
def cs0:Cs:=⟨cd0,[]⟩
theorem qMG {l:List Cs} {k:Nat} (h:k<l.length):(l.map Cs.cells)[k]?=some (l.getD k cs0).cells:=qDz cs0 h
theorem qFr {l:List Cs} {i:Nat} (h:i+1<l.length):qBj (l.drop i)=(qCX (l.getD i cs0).nums && (qAs 8 (l.getD i cs0).cond 30).isSome && qBj (l.drop (i+1))):=by
 rw [qEu cs0 (by omega:i<l.length),qEu cs0 h,qBj]
theorem qFs {l:List Cs} {i:Nat} (h:i+1=l.length):qBj (l.drop i)=(qCX (l.getD i cs0).nums && qEZ (l.getD i cs0).cond):=by
 rw [qEu cs0 (by omega:i<l.length),List.drop_eq_nil_of_le (by omega),qBj]
def kO (c:Cs):AObj:=⟨qHB,false, .bx (c.cells.map .p)⟩
theorem qVj (l:List Cs) (hb:BigL l):Pure cx 82 [css l] (·=.ret [.bool (qBM l)]):=by
 refine qAC Tryz.func82 rfl rfl rfl ?_
 have hll:=hb.len
 have hm:(l.map Cs.cells).length=l.length:=List.length_map ..
 refine QAD (fun h1=>?_) (fun h1=>?_)
 ·have h1:((l.map Cs.cells).length:Int)<1:=h1
  rw [hm] at h1
  exact qAG _ rfl rfl (qAO (by rw [qBM,decide_eq_false (by omega)];rfl))
 have h1:¬ ((l.map Cs.cells).length:Int)<1:=h1
 rw [hm] at h1
 refine QAD (fun h2=>?_) (fun h2=>?_)
 ·have h2:(12:Int)<((l.map Cs.cells).length:Nat):=h2
  rw [hm] at h2
  exact qAG _ rfl rfl (qAO (by rw [qBM,decide_eq_false (show ¬ l.length<=12 by omega),Bool.and_false];rfl))
 have h2:¬ (12:Int)<((l.map Cs.cells).length:Nat):=h2
 rw [hm] at h2
 have hB0:qBM l=qBj (l.drop 0):=by rw [qBM,decide_eq_true (show 1<=l.length by omega),decide_eq_true (show l.length<=12 by omega)];rfl
 refine⟨Nat,fun i=>[(0, .p (css l)),(16, .p (css l)),(17, .p (i64 l.length)),(18, .p (i64 i))],fun _=>⟨0,[]⟩,fun i=>i<l.length/\qBM l=qBj (l.drop i),fun i=>l.length - i,?_,?_⟩
 ·exact⟨0,⟨by omega,hB0⟩,qCh rfl ⟨rfl,rfl,congrArg (fun n:Nat=>i64 n) hm.symm,rfl,trivial⟩ trivial rfl⟩
 rintro i ⟨i1,i2⟩
 refine QAD (fun j1=>?_) (fun j1=>?_)
 rotate_left
 ·exact absurd (show(i:Int)<(l.length:Nat) by omega) j1
 have hmem:=qAL cs0 i1
 have hbc:=hb.cond _ hmem
 have hbn:=hb.nums _ hmem
 have hcell:=qMG i1
 have hstep:=fun h=>qFr (l:=l) (i:=i) h
 have hlast:=fun h=>qFs (l:=l) (i:=i) h
 rcases hx:l.getD i cs0 with ⟨⟨op,n,rel,val,r,st,ar⟩,nums⟩
 rw [hx] at hbc hbn hcell hstep hlast
 simp only [] at hbc hbn hstep hlast
 have hno:qCX nums=false->qBM l=false:=fun h=>by
  rw [i2]
  rcases Nat.lt_or_ge (i+1) l.length with h3 | h3
  ·rw [hstep h3,h];rfl
  ·rw [hlast (by omega),h];rfl
 have hnm:(nums.map i64).length=nums.length:=List.length_map ..
 refine⟨_,⟨by omega,(⟨.mk op n rel val r st ar,nums⟩:Cs).cells,hcell,rfl⟩,?_⟩
 refine QAD (fun j2=>?_) (fun j2=>?_)
 ·have j2:((nums.map i64).length:Int)<1:=j2
  rw [hnm] at j2
  exact qAG _ rfl rfl (qAO (hno (by rw [qCX,decide_eq_false (by omega)];rfl)).symm)
 have j2:¬ ((nums.map i64).length:Int)<1:=j2
 rw [hnm] at j2
 refine QAD (fun j3=>?_) (fun j3=>?_)
 ·have j3:(8:Int)<((nums.map i64).length:Nat):=j3
  rw [hnm] at j3
  exact qAG _ rfl rfl (qAO (hno (by rw [qCX,decide_eq_false (show ¬ nums.length<=8 by omega),Bool.and_false];rfl)).symm)
 have j3:¬ (8:Int)<((nums.map i64).length:Nat):=j3
 rw [hnm] at j3
 refine⟨Nat,fun k=>[(0, .p (css l)),(16, .p (css l)),(17, .p (i64 l.length)),(18, .p (i64 i)),(3, .p (i64 i)),(4, .ptr 0 0 0),(34, .p (ints nums)),(35, .p (i64 nums.length)),(36, .p (i64 k))],fun _=>⟨1,[(0,kO ⟨.mk op n rel val r st ar,nums⟩)]⟩,fun k=>k<=nums.length/\∀ x∈nums.take k,qGW x=true,fun k=>nums.length - k,?_,?_⟩
 ·exact⟨0,⟨Nat.zero_le _,by simp⟩,qAB [] [] [] rfl ⟨rfl,rfl,rfl,rfl,rfl,⟨rfl,rfl⟩,rfl,congrArg (fun n:Nat=>i64 n) hnm.symm,rfl,trivial⟩ (sk) rfl⟩
 rintro k ⟨k1,k2⟩
 refine QAD (fun m1=>?_) (fun m1=>?_)
 ·have m1:(k:Int)<(nums.length:Nat):=m1
  have hk:k<nums.length:=by omega
  refine⟨_,⟨by omega,i64 (nums.getD k 0),qGM hk,rfl⟩,?_⟩
  have bad:qGW (nums.getD k 0)=false->qBM l=false:=fun h=>hno (by
   have:nums.all qGW=false:=by
    rw [Bool.eq_false_iff]
    intro ha
    have:=List.all_eq_true.1 ha _ (qAL 0 hk)
    rw [h] at this;cases this
   rw [qCX,this,Bool.and_false])
  refine QAD (fun m2=>?_) (fun m2=>?_)
  ·have m2:nums.getD k 0 < -9999:=m2
   exact qAG _ rfl rfl (qAO (bad (by rw [qGW,decide_eq_false (by omega)];rfl)).symm)
  have m2:¬ nums.getD k 0 < -9999:=m2
  refine QAD (fun m3=>?_) (fun m3=>?_)
  ·have m3:(9999:Int)<nums.getD k 0:=m3
   exact qAG _ rfl rfl (qAO (bad (by rw [qGW,decide_eq_false (show ¬ nums.getD k 0<=9999 by omega),Bool.and_false])).symm)
  have m3:¬ (9999:Int)<nums.getD k 0:=m3
  refine⟨_,w6z,?_⟩
  refine⟨k+1,⟨by omega,fun x hx=>?_⟩,qAB [] [] [] rfl (sk) (sk) rfl,by show nums.length - (k+1)<nums.length - k;omega⟩
  rw [qAY 0 hk] at hx
  rcases List.mem_append.1 hx with hx | hx
  ·exact k2 x hx
  ·rw [List.mem_singleton.1 hx,qGW,decide_eq_true (by omega),decide_eq_true (by omega)];rfl
 have m1:¬ (k:Int)<(nums.length:Nat):=m1
 have hnums:qCX nums=true:=by
  have:nums.all qGW=true:=by
   rw [List.all_eq_true]
   rw [qBg (by omega)] at k2
   exact k2
  rw [qCX,this,decide_eq_true (by omega),decide_eq_true (by omega)];rfl
 refine⟨((l.length - 1:Nat):Int),by show _=IntKind.i64.wrap (((l.map Cs.cells).length:Int) - 1);rw [hm,show(l.length:Int) - 1=((l.length - 1:Nat):Int) by omega];exact w6z,?_⟩
 refine QAD (fun m4=>?_) (fun m4=>?_)
 ·have m4:(i:Int)=((l.length - 1:Nat):Int):=m4
  have hT:=hlast (by omega)
  rw [<- i2,hnums,Bool.true_and] at hT
  have hP:=qQk op n rel val r st ar (by simp only [qC1] at hbc;exact hbc.2.1)
  refine QAD (fun p1=>?_) (fun p1=>?_)
  rotate_left
  ·have p1:¬ op=0:=p1
   exact qAG _ rfl rfl (qAO (by rw [hT,qEZ,decide_eq_false p1];rfl))
  have p1:op=0:=p1
  by_cases p2:qA1 n rel val r st=true
  rotate_left
  ·rw [Bool.not_eq_true] at p2
   rw [p2] at hP
   refine hP.eq rfl ?_
   exact qAG _ rfl rfl (qAO (by rw [hT,qEZ,p2,Bool.and_false];rfl))
  rw [p2] at hP
  refine hP.eq rfl ?_
  refine QAD (fun p3=>?_) (fun p3=>?_)
  ·have p3:((qBX ar).length:Int)=0:=p3
   rw [qBw,List.length_map] at p3
   exact qAG _ rfl rfl (qAO (by rw [hT,qEZ,p2,decide_eq_true p1,decide_eq_true (show ar.length=0 by omega)];rfl))
  ·have p3:¬ ((qBX ar).length:Int)=0:=p3
   rw [qBw,List.length_map] at p3
   exact qAG _ rfl rfl (qAO (by rw [hT,qEZ,decide_eq_false (show ¬ ar.length=0 by omega),Bool.and_false]))
 have m4:¬ (i:Int)=((l.length - 1:Nat):Int):=m4
 have hT:=hstep (by omega)
 rw [<- i2,hnums,Bool.true_and] at hT
 have hC:=qLf 8 (Nat.le_refl _) (.mk op n rel val r st ar) 30 1 hbc (by omega) (by omega)
 rcases hv:qAs 8 (.mk op n rel val r st ar) 30 with _ | k2
 ·rw [hv] at hC hT
  refine hC.holds.useT [] [(0,1)] rfl (sk) (sk) fun e0 H0 hq=>?_
  obtain⟨rfl,rfl⟩:=hq
  refine⟨rfl,_,⟨2,[(0,kO ⟨.mk op n rel val r st ar,nums⟩)]⟩,rfl,rfl,?_⟩
  exact qAG _ rfl rfl (qAO (by rw [hT];rfl))
 ·rw [hv] at hC hT
  refine hC.holds.useT [] [(0,1)] rfl (sk) (sk) fun e0 H0 hq=>?_
  obtain⟨rfl,rfl⟩:=hq
  refine⟨rfl,_,⟨2,[(1,lfO k2),(0,kO ⟨.mk op n rel val r st ar,nums⟩)]⟩,rfl,rfl,?_⟩
  refine⟨_,w6z,?_⟩
  exact⟨i+1,⟨by omega,by rw [hT];rfl⟩,qAB [] [] [] rfl (sk) (sk) rfl,by show l.length - (i+1)<l.length - i;omega⟩
end Go.Proofs.YtohfoaplnjcihaaGreatDoor

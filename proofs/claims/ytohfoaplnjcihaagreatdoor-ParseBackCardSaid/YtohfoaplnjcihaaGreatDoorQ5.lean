/- Part 5 of the proof: Si Sk Vb Vc Vd Ve Ra Rb Rc Rd Vf Vg Jg Jh Ji Jj Jk Jl Gb Gc Gd Gf Gg Gh Ge Gi Ej Ea Eb Ec Ed -/
import Derived.Shelf.Strings.Builder1
import Derived.Shelf.Strings.Builder2
import Derived.Shelf.Small.Bits
import Derived.Shelf.Strings.BuilderF
import Derived.Shelf.Utf8.RuneCount
import Derived.Shelf.Strconv.Itoa0
import Derived.Shelf.Strconv.Itoa1
import Derived.Shelf.LaysM
import Derived.Shelf.Strconv.Itoa2
import Derived.Shelf.Strconv.Itoa3
import Derived.Shelf.Strings.Search1
import Derived.Shelf.Strings.Search2
import Derived.Shelf.Strings.Search3
import Derived.Shelf.Strings.Count
import Derived.Shelf.Strings.Shaped
import Derived.Shelf.Sort.Plain
import Derived.Shelf.Strings.Prefix
import Derived.Shelf.Strings.Split
import Derived.Shelf.Strings.Replace
import Derived.Shelf.Strings.SplitShaped
import Derived.Shelf.Unicode.Decode
import Derived.Shelf.Strings.RuneCount
import Derived.Shelf.Bits.Mul64
import Derived.Shelf.Strings.Repeat
import Derived.Shelf.Unicode.DecodeSlow
import Derived.Shelf.Unicode.DecodeAny
import Derived.Ground.Names2Prog
import Derived.Shelf.Slices.CompactI
import Derived.Shelf.Slices.SearchI
import Derived.Shelf.Slices.Cells
import Derived.Shelf.Slices.In.SortNone
import Derived.Test.YtohfoaplnjcihaaGreatDoorProg
import Derived.Below
import Derived.Test.YtohfoaplnjcihaaGreatDoorQ4
namespace Go.Proofs
open Go.Shelf
def Tryz.laysM171_ren:Go.Shelf.Ren:=⟨fun | 171=>69 | 243=>113 | 246=>157 | 283=>181 | 284=>182 | 285=>183 | 286=>184 | 129=>198 | 317=>197 | 318=>199 | 319=>200 | 320=>201 | 337=>204 | 338=>205 | n=>n,fun | 3=>3 | 9=>9 | 2=>2 | 4=>4 | 171=>233 | 0=>0 | 53=>190 | 37=>40 | 5=>5 | 173=>236 | 212=>245 | 51=>187 | 20=>20 | 213=>246 | 46=>144 | 232=>252 | 233=>253 | n=>n,fun | 17=>5 | 18=>6 | 19=>7 | n=>n⟩
theorem Tryz.laysM171:Go.Proofs.LaysM.n171 Tryz.prog Tryz.laysM171_ren:={
 mixed:=by kernel_rfl
 f129:=Tryz.func198.trans (congrArg some (by kernel_rfl))
 f171:=Tryz.func69.trans (congrArg some (by kernel_rfl))
 f243:=Tryz.func113.trans (congrArg some (by kernel_rfl))
 f246:=Tryz.func157.trans (congrArg some (by kernel_rfl))
 f283:=Tryz.func181.trans (congrArg some (by kernel_rfl))
 f284:=Tryz.func182.trans (congrArg some (by kernel_rfl))
 f285:=Tryz.func183.trans (congrArg some (by kernel_rfl))
 f286:=Tryz.func184.trans (congrArg some (by kernel_rfl))
 f317:=Tryz.func197.trans (congrArg some (by kernel_rfl))
 f318:=Tryz.func199.trans (congrArg some (by kernel_rfl))
 f319:=Tryz.func200.trans (congrArg some (by kernel_rfl))
 f320:=Tryz.func201.trans (congrArg some (by kernel_rfl))
 f337:=Tryz.func204.trans (congrArg some (by kernel_rfl))
 f338:=Tryz.func205.trans (congrArg some (by kernel_rfl))
 t0:=Tryz.underlying0
 a0:=Tryz.isAgg0
 z0:=Tryz.sizeOf0
 v0:=Tryz.zeroValue0
 t2:=Tryz.underlying2
 a2:=Tryz.isAgg2
 z2:=Tryz.sizeOf2
 v2:=Tryz.zeroValue2
 t3:=Tryz.underlying3
 a3:=Tryz.isAgg3
 z3:=Tryz.sizeOf3
 v3:=Tryz.zeroValue3
 t4:=Tryz.underlying4
 a4:=Tryz.isAgg4
 z4:=Tryz.sizeOf4
 v4:=Tryz.zeroValue4
 t5:=Tryz.underlying5
 a5:=Tryz.isAgg5
 z5:=Tryz.sizeOf5
 v5:=Tryz.zeroValue5
 t9:=Tryz.underlying9
 a9:=Tryz.isAgg9
 z9:=Tryz.sizeOf9
 v9:=Tryz.zeroValue9
 t20:=Tryz.underlying20
 a20:=Tryz.isAgg20
 z20:=Tryz.sizeOf20
 v20:=Tryz.zeroValue20
 t37:=Tryz.underlying40
 a37:=Tryz.isAgg40
 z37:=Tryz.sizeOf40
 v37:=Tryz.zeroValue40
 t46:=Tryz.underlying144
 a46:=Tryz.isAgg144
 z46:=Tryz.sizeOf144
 v46:=Tryz.zeroValue144
 t51:=Tryz.underlying187
 a51:=Tryz.isAgg187
 z51:=Tryz.sizeOf187
 v51:=Tryz.zeroValue187
 t53:=Tryz.underlying190
 a53:=Tryz.isAgg190
 z53:=Tryz.sizeOf190
 v53:=Tryz.zeroValue190
 t171:=Tryz.underlying233
 a171:=Tryz.isAgg233
 z171:=Tryz.sizeOf233
 v171:=Tryz.zeroValue233
 t173:=Tryz.underlying236
 a173:=Tryz.isAgg236
 z173:=Tryz.sizeOf236
 v173:=Tryz.zeroValue236
 t212:=Tryz.underlying245
 a212:=Tryz.isAgg245
 z212:=Tryz.sizeOf245
 v212:=Tryz.zeroValue245
 t213:=Tryz.underlying246
 a213:=Tryz.isAgg246
 z213:=Tryz.sizeOf246
 t232:=Tryz.underlying252
 a232:=Tryz.isAgg252
 z232:=Tryz.sizeOf252
 v232:=Tryz.zeroValue252
 t233:=Tryz.underlying253
 a233:=Tryz.isAgg253
 z233:=Tryz.sizeOf253
 v233:=Tryz.zeroValue253
 g17:=by kernel_rfl
 g18:=by kernel_rfl
 g19:=by kernel_rfl
 i0:=by kernel_rfl
 i2:=by kernel_rfl
 i3:=by kernel_rfl
 i4:=by kernel_rfl
 i5:=by kernel_rfl
 i9:=by kernel_rfl
 i20:=by kernel_rfl
 i37:=by kernel_rfl
 i46:=by kernel_rfl
 i51:=by kernel_rfl
 i53:=by kernel_rfl
 i171:=by kernel_rfl
 i173:=by kernel_rfl
 i212:=by kernel_rfl
 i232:=by kernel_rfl
 i233:=by kernel_rfl
 m17:=by kernel_rfl
 m18:=by kernel_rfl
 m19:=by kernel_rfl }
open Go.RowKit Go.Sort Go.Lib in
theorem Tryz.strconv_Itoa (n : Int) (h0 : -9223372036854775808 <= n) (h1 : n <= 9223372036854775807) (w : World) (htab : Lib.TabIs Tryz.prog w "internal/strconv.uint64pow10" .u64 Lib.pow10Tab) :
  Calls Tryz.prog 69 #[.int .i64 n] w fun e w'=>e=.returned (.string ⟨(Lib.itoa n).toArray⟩)/\∃ k os,w'=grow (w.drewN k) os:=Any.strconv_Itoa Tryz.laysM171 n h0 h1 w htab
end Go.Proofs
namespace Go.Proofs.YtohfoaplnjcihaaGreatDoor
open Go Y RowKit
set_option maxRecDepth 100000
set_option maxHeartbeats 4000000
theorem qMj {Γ:Gm} {w w':World} (hR:R cx Γ ⟨0,[]⟩ w) (hb:Below w.heap.size w w'):Later cx 0 Γ ⟨0,[]⟩ w Γ ⟨0,[]⟩ w':=by
 have hfz:∀ b arr,Γ.fz b=some arr->∃ t z,w'.heap[b]?=some (.cells ⟨arr⟩ t z):=by
  intro b arr h
  obtain⟨t,z,e⟩:=hR.fzok b arr h
  have hlt:b<w.heap.size:=by
   rcases Nat.lt_or_ge b w.heap.size with h1 | h1
   ·exact h1
   ·rw [Array.getElem?_eq_none h1] at e;cases e
  exact⟨t,z,by rw [hb.block b hlt];exact e⟩
 refine⟨⟨hR.glob,hR.fresh,hfz,fun n o hn=>by simp [qAk] at hn,fun n o q hn=>by simp [qAk] at hn,fun n o m p q q' hn=>by simp [qAk] at hn⟩,Ext.refl _ _,Nat.le_refl _,⟨hb.os,hb.tape,hb.output,hb.size,fun k hk _=>hb.block k hk,fun k hk=>.inr hk,Fzn.le_refl _,fun k a h=>.inl h⟩⟩
theorem qO5 {g : FuncId} {fn : Func} {c : Code} {args : List PV} {x : PV} (hf : cx.P.funcs[g]? = some fn) (hname : (fn.name == "runtime.NumGoroutine") = false) (hbd : fn.body = some c) (hx : Res [] 5 (.p x) x)
  (h:∀ (Γ:Gm) (w:World) (args':List Value),R cx Γ ⟨0,[]⟩ w->VRL Γ (args.map .p) args'->∃ v',VP Γ.fz x v'/\Calls cx.P g ⟨args'⟩ w fun e w'=>e=.returned v'/\Below w.heap.size w w'):Pure cx g args (·=.ret [x]):=by
 intro Γ w args' hR hA
 obtain⟨v',h1,h2⟩:=h Γ w args' hR hA
 refine .inl ⟨qEh hf hname hbd _ _,h2.mono fun e w' ⟨he,hw⟩=>?_⟩
 subst he
 exact⟨.returned (.p x),⟨0,[]⟩,Γ,⟨.ret [x],⟨rfl,_,rfl,hx⟩,rfl⟩,⟨v',rfl,h1⟩,qMj hR hw⟩
theorem qPq {fz:Fzn} {k:IntKind}:∀ (l:List Int) (us:List Value),VPL fz (l.map fun z=>PV.int k z) us->us=l.map fun z=>Value.int k z
 | [],us,h=>by simpa only [List.map,VPL] using h
 | z::l,us,h=>by
  simp only [List.map,VPL,VP] at h
  obtain⟨u,us',rfl,rfl,h⟩:=h
  rw [qPq l us' h];rfl
theorem qSv {Γ : Gm} {w : World} (hR : R cx Γ ⟨0, []⟩ w) : Lib.TabIs Tryz.prog w "internal/strconv.uint64pow10" .u64 Lib.pow10Tab := by
 obtain⟨h,arr',ha,hlen⟩:=hR.glob 5 (pow10L.map fun z=>PV.int .u64 z) rfl
 simp only [VP] at h
 obtain⟨b,o,arr,us,h1,h2,h5,pre,post,h3,h4,_⟩:=h
 injection h1 with h1
 injection h1 with h1
 injection h1 with hb ho
 subst hb ho
 have hus:=qPq _ _ h5
 have hp:pre=[]:=List.eq_nil_of_length_eq_zero h4
 subst hp
 have e1:arr'=arr:=by rw [ha] at h2;injection h2
 subst e1
 have hpost:post=[]:=by
  apply List.eq_nil_of_length_eq_zero
  rw [h3,hus] at hlen
  simp only [List.length_append,List.length_map,List.length_nil] at hlen
  omega
 subst hpost
 obtain⟨t,z,e⟩:=hR.fzok _ _ h2
 have hg : Tryz.prog.globalNamed "internal/strconv.uint64pow10" = some 5 := by kernel_rfl
 unfold Lib.TabIs World.var?
 rw [hg]
 simp only [Option.bind,e,h3,hus,List.nil_append,List.append_nil]
 rfl
theorem qTf:∀ n,n<10->UInt8.ofNat (48+n)=tenL.getD n 0:=by decide
theorem qRm:∀ (f n:Nat),n<10 ^ (f+1)->Lib.decDigits n=qPQ (f+1) n
 | f,n,h=>by
  rw [Lib.decDigits,qPQ]
  by_cases c:n<10
  ·rw [dif_pos c,if_pos c,qTf n c]
  ·rw [dif_neg c,if_neg c]
   obtain⟨g,rfl⟩:∃ g,f=g+1:=by
    cases f with
    | zero=>exfalso;omega
    | succ g=>exact⟨g,rfl⟩
   rw [qRm g (n / 10) (by rw [Nat.pow_succ] at h;omega),qTf (n % 10) (by omega)]
theorem qCv (n:Int) (h:qBt n=true):Pure cx 69 [i64 n] (·=.ret [.str (qAe n)]):=by
 simp only [qBt,Bool.and_eq_true,decide_eq_true_eq] at h
 refine qO5 Tryz.func69 rfl rfl rfl fun Γ w args' hR hA=>?_
 simp only [List.map,VRL,VR,VP] at hA
 obtain⟨a,as',rfl,rfl,rfl⟩:=hA
 have e:Lib.itoa n=qAe n:=by
  rw [Lib.itoa,if_neg (by omega),qRm 3 n.toNat (by show n.toNat<10000;omega)];rfl
 have hi:=Tryz.strconv_Itoa n (by omega) (by omega) w (qSv hR)
 rw [e] at hi
 refine⟨_,rfl,hi.mono fun e w' ⟨h1,k,os,h2⟩=>⟨h1,?_⟩⟩
 subst h2
 exact⟨rfl,rfl,rfl,by show w.heap.size<=(w.heap++os).size;rw [Array.size_append];omega,fun j hj=>by show(w.heap++os)[j]?=_;rw [Array.getElem?_append_left hj]⟩
end Go.Proofs.YtohfoaplnjcihaaGreatDoor
namespace Go.Proofs.YtohfoaplnjcihaaGreatDoor
open Go Y
set_option maxRecDepth 100000
set_option maxHeartbeats 4000000
theorem qQU (st:Wst) (r:Rf) (hr:qBl r=true) (hb:st.sz+wt (qBy r)<=100000000):HoldsG cx 114 [.ptr 0 0 0, .p r.pv] (wH true st) (WQ (puts st (qBy r))):=by
 obtain⟨nm,m,pl,n⟩:=r
 rw [qBl,Bool.and_eq_true] at hr
 obtain⟨hn,hr⟩:=hr
 simp only [] at hr hn
 by_cases h3:m=3
 ·subst h3
  have e:qBy ⟨nm,3,pl,n⟩=([]++[nm])++[tLB,qGg,tRB]:=rfl
  rw [e] at hb ⊢
  refine qAA Tryz.func114 rfl rfl rfl ?_
  refine(qA3 true (puts st ([])) ([nm]) (by simp) (by have hz:=qAJ ([]) st;simp only [qAN,wt] at hb hz ⊢;omega)).holds.useT [] [(2,3)] rfl (sk) (sk) fun e0 H0 hq=>?_
  rw [<- qAE] at hq
  obtain⟨rfl,rfl⟩:=hq
  refine⟨rfl,_,⟨5,((4,bO (puts st ([]++[nm])).s)::(0,wO 4 (puts st ([]++[nm])))::[(2,rO ⟨nm,3,pl,n⟩)])⟩,rfl,rfl,?_⟩
  refine And.intro (fun h=>absurd (show(3:Int)=1 from h) (by decide)) (fun _=>?_)
  refine And.intro (fun h=>absurd (show(3:Int)=2 from h) (by decide)) (fun _=>?_)
  refine And.intro (fun _=>?_) (fun h=>absurd rfl h)
  refine(qA3 true (puts st ([]++[nm])) ([tLB,qGg,tRB]) (by simp) (by have hz:=qAJ ([]++[nm]) st;simp only [qAN,wt] at hb hz ⊢;omega)).holds.useT [] [(1,4),(2,5)] rfl (sk) (sk) fun e0 H0 hq=>?_
  rw [<- qAE] at hq
  obtain⟨rfl,rfl⟩:=hq
  refine⟨rfl,_,⟨7,((6,bO (puts st ([]++[nm]++[tLB,qGg,tRB])).s)::(0,wO 6 (puts st ([]++[nm]++[tLB,qGg,tRB])))::[(2,rO ⟨nm,3,pl,n⟩)])⟩,rfl,rfl,?_⟩
  exact⟨[],[(2,6)],[], .returned und,_,rfl,sk,sk,rfl,rfl⟩
 by_cases h2:m=2
 ·subst h2
  have hr:(decide (pl=[]) && qBt n)=true:=hr
  simp only [Bool.and_eq_true] at hr
  have e:qBy ⟨nm,2,pl,n⟩=([]++[nm])++[tLB,qAe n,tRB]:=rfl
  rw [e] at hb ⊢
  refine qAA Tryz.func114 rfl rfl rfl ?_
  refine(qA3 true (puts st ([])) ([nm]) (by simp) (by have hz:=qAJ ([]) st;simp only [qAN,wt] at hb hz ⊢;omega)).holds.useT [] [(2,3)] rfl (sk) (sk) fun e0 H0 hq=>?_
  rw [<- qAE] at hq
  obtain⟨rfl,rfl⟩:=hq
  refine⟨rfl,_,⟨5,((4,bO (puts st ([]++[nm])).s)::(0,wO 4 (puts st ([]++[nm])))::[(2,rO ⟨nm,2,pl,n⟩)])⟩,rfl,rfl,?_⟩
  refine And.intro (fun h=>absurd (show(2:Int)=1 from h) (by decide)) (fun _=>?_)
  refine And.intro (fun _=>?_) (fun h=>absurd rfl h)
  refine(qCv n hr.2).eq rfl ?_
  refine(qA3 true (puts st ([]++[nm])) ([tLB,qAe n,tRB]) (by simp) (by have hz:=qAJ ([]++[nm]) st;simp only [qAN,wt] at hb hz ⊢;omega)).holds.useT [] [(1,4),(2,5)] rfl (sk) (sk) fun e0 H0 hq=>?_
  rw [<- qAE] at hq
  obtain⟨rfl,rfl⟩:=hq
  refine⟨rfl,_,⟨7,((6,bO (puts st ([]++[nm]++[tLB,qAe n,tRB])).s)::(0,wO 6 (puts st ([]++[nm]++[tLB,qAe n,tRB])))::[(2,rO ⟨nm,2,pl,n⟩)])⟩,rfl,rfl,?_⟩
  exact⟨[],[(2,6)],[], .returned und,_,rfl,sk,sk,rfl,rfl⟩
 by_cases h1:m=1
 ·subst h1
  have hr:(qAj pl && qBt n)=true:=hr
  simp only [Bool.and_eq_true] at hr
  by_cases h0:0<n
  ·have e:qBy ⟨nm,1,pl,n⟩=((([]++[nm])++[tLB,pl])++[qDj,qAe n])++[tRB]:=by simp [qBy,qGf,h0]
   rw [e] at hb ⊢
   refine qAA Tryz.func114 rfl rfl rfl ?_
   refine(qA3 true (puts st ([])) ([nm]) (by simp) (by have hz:=qAJ ([]) st;simp only [qAN,wt] at hb hz ⊢;omega)).holds.useT [] [(2,3)] rfl (sk) (sk) fun e0 H0 hq=>?_
   rw [<- qAE] at hq
   obtain⟨rfl,rfl⟩:=hq
   refine⟨rfl,_,⟨5,((4,bO (puts st ([]++[nm])).s)::(0,wO 4 (puts st ([]++[nm])))::[(2,rO ⟨nm,1,pl,n⟩)])⟩,rfl,rfl,?_⟩
   refine And.intro (fun _=>?_) (fun h=>absurd rfl h)
   refine(qA3 true (puts st ([]++[nm])) ([tLB,pl]) (by simp) (by have hz:=qAJ ([]++[nm]) st;simp only [qAN,wt] at hb hz ⊢;omega)).holds.useT [] [(1,4),(2,5)] rfl (sk) (sk) fun e0 H0 hq=>?_
   rw [<- qAE] at hq
   obtain⟨rfl,rfl⟩:=hq
   refine⟨rfl,_,⟨7,((6,bO (puts st ([]++[nm]++[tLB,pl])).s)::(0,wO 6 (puts st ([]++[nm]++[tLB,pl])))::[(2,rO ⟨nm,1,pl,n⟩)])⟩,rfl,rfl,?_⟩
   refine And.intro (fun _=>?_) (fun h=>absurd h0 h)
   refine(qCv n hr.2).eq rfl ?_
   refine(qA3 true (puts st (([]++[nm])++[tLB,pl])) ([qDj,qAe n]) (by simp) (by have hz:=qAJ (([]++[nm])++[tLB,pl]) st;simp only [qAN,wt] at hb hz ⊢;omega)).holds.useT [] [(1,6),(2,7)] rfl (sk) (sk) fun e0 H0 hq=>?_
   rw [<- qAE] at hq
   obtain⟨rfl,rfl⟩:=hq
   refine⟨rfl,_,⟨9,((8,bO (puts st (([]++[nm])++[tLB,pl]++[qDj,qAe n])).s)::(0,wO 8 (puts st (([]++[nm])++[tLB,pl]++[qDj,qAe n])))::[(2,rO ⟨nm,1,pl,n⟩)])⟩,rfl,rfl,?_⟩
   refine(qA3 true (puts st ((([]++[nm])++[tLB,pl])++[qDj,qAe n])) ([tRB]) (by simp) (by have hz:=qAJ ((([]++[nm])++[tLB,pl])++[qDj,qAe n]) st;simp only [qAN,wt] at hb hz ⊢;omega)).holds.useT [] [(1,8),(2,9)] rfl (sk) (sk) fun e0 H0 hq=>?_
   rw [<- qAE] at hq
   obtain⟨rfl,rfl⟩:=hq
   refine⟨rfl,_,⟨11,((10,bO (puts st ((([]++[nm])++[tLB,pl])++[qDj,qAe n]++[tRB])).s)::(0,wO 10 (puts st ((([]++[nm])++[tLB,pl])++[qDj,qAe n]++[tRB])))::[(2,rO ⟨nm,1,pl,n⟩)])⟩,rfl,rfl,?_⟩
   exact⟨[],[(2,10)],[], .returned und,_,rfl,sk,sk,rfl,rfl⟩
  ·have e:qBy ⟨nm,1,pl,n⟩=(([]++[nm])++[tLB,pl])++[tRB]:=by simp [qBy,qGf,h0]
   rw [e] at hb ⊢
   refine qAA Tryz.func114 rfl rfl rfl ?_
   refine(qA3 true (puts st ([])) ([nm]) (by simp) (by have hz:=qAJ ([]) st;simp only [qAN,wt] at hb hz ⊢;omega)).holds.useT [] [(2,3)] rfl (sk) (sk) fun e0 H0 hq=>?_
   rw [<- qAE] at hq
   obtain⟨rfl,rfl⟩:=hq
   refine⟨rfl,_,⟨5,((4,bO (puts st ([]++[nm])).s)::(0,wO 4 (puts st ([]++[nm])))::[(2,rO ⟨nm,1,pl,n⟩)])⟩,rfl,rfl,?_⟩
   refine And.intro (fun _=>?_) (fun h=>absurd rfl h)
   refine(qA3 true (puts st ([]++[nm])) ([tLB,pl]) (by simp) (by have hz:=qAJ ([]++[nm]) st;simp only [qAN,wt] at hb hz ⊢;omega)).holds.useT [] [(1,4),(2,5)] rfl (sk) (sk) fun e0 H0 hq=>?_
   rw [<- qAE] at hq
   obtain⟨rfl,rfl⟩:=hq
   refine⟨rfl,_,⟨7,((6,bO (puts st ([]++[nm]++[tLB,pl])).s)::(0,wO 6 (puts st ([]++[nm]++[tLB,pl])))::[(2,rO ⟨nm,1,pl,n⟩)])⟩,rfl,rfl,?_⟩
   refine And.intro (fun h=>absurd h h0) (fun _=>?_)
   refine(qA3 true (puts st (([]++[nm])++[tLB,pl])) ([tRB]) (by simp) (by have hz:=qAJ (([]++[nm])++[tLB,pl]) st;simp only [qAN,wt] at hb hz ⊢;omega)).holds.useT [] [(1,6),(2,7)] rfl (sk) (sk) fun e0 H0 hq=>?_
   rw [<- qAE] at hq
   obtain⟨rfl,rfl⟩:=hq
   refine⟨rfl,_,⟨9,((8,bO (puts st (([]++[nm])++[tLB,pl]++[tRB])).s)::(0,wO 8 (puts st (([]++[nm])++[tLB,pl]++[tRB])))::[(2,rO ⟨nm,1,pl,n⟩)])⟩,rfl,rfl,?_⟩
   exact⟨[],[(2,8)],[], .returned und,_,rfl,sk,sk,rfl,rfl⟩
 ·have e:qBy ⟨nm,m,pl,n⟩=[]++[nm]:=by simp [qBy,qGf,h1,h2,h3]
  rw [e] at hb ⊢
  refine qAA Tryz.func114 rfl rfl rfl ?_
  refine(qA3 true (puts st ([])) ([nm]) (by simp) (by have hz:=qAJ ([]) st;simp only [qAN,wt] at hb hz ⊢;omega)).holds.useT [] [(2,3)] rfl (sk) (sk) fun e0 H0 hq=>?_
  rw [<- qAE] at hq
  obtain⟨rfl,rfl⟩:=hq
  refine⟨rfl,_,⟨5,((4,bO (puts st ([]++[nm])).s)::(0,wO 4 (puts st ([]++[nm])))::[(2,rO ⟨nm,m,pl,n⟩)])⟩,rfl,rfl,?_⟩
  refine And.intro (fun h=>absurd h h1) (fun _=>?_)
  refine And.intro (fun h=>absurd h h2) (fun _=>?_)
  refine And.intro (fun h=>absurd h h3) (fun _=>?_)
  exact⟨[],[(2,4)],[], .returned und,_,rfl,sk,sk,rfl,rfl⟩
theorem qNb {α:Type} {f:α->qBb} {l:List α} {k:Nat} (d:α) (h:k<l.length):qFM f (l.take (k+1))=qFM f (l.take k)++((if k=0 then [] else [qAi])++f (l.getD k d)):=by
 rw [qAY d h]
 cases k with
 | zero=>simp [qFM]
 | succ k=>
  rw [if_neg (by omega)]
  cases l with
  | nil=>simp at h
  | cons a l=>simp [qFM]
theorem qTn {α:Type} {f:α->qBb} (l:List α) (k:Nat):wt (qFM f (l.take k))<=wt (qFM f l):=by
 cases l with
 | nil=>simp
 | cons a l=>
  cases k with
  | zero=>exact Nat.zero_le _
  | succ k=>
   have e:l.flatMap (fun b=>qAi::f b)=(l.take k).flatMap (fun b=>qAi::f b)++(l.drop k).flatMap fun b=>qAi::f b:=by rw [<- List.flatMap_append,List.take_append_drop]
   rw [List.take_succ_cons,qFM,qFM,e,qAN,qAN,qAN]
   omega
theorem qQS {key:List UInt8} {l:List Rf} {k:Nat} (h:k<l.length):qAT key (l.take (k+1))=(qAT key (l.take k)++[if k=0 then key else qAi])++qBy (l.getD k rf0):=by
 have hs:=qNb (f:=qBy) rf0 h
 have hn:l.take (k+1) ≠ []:=fun e=>by have:=congrArg List.length e;rw [List.length_take,List.length_nil] at this;omega
 rw [qAT,if_neg hn,hs]
 by_cases c:k=0
 ·subst c;simp [qAT,qFM]
 ·have hn:l.take k ≠ []:=fun e=>by have:=congrArg List.length e;rw [List.length_take,List.length_nil] at this;omega
  rw [qAT,if_neg hn,if_neg c,if_neg c];simp
theorem qUj {key:List UInt8} (l:List Rf) (k:Nat):wt (qAT key (l.take k))<=wt (qAT key l):=by
 unfold qAT
 split
 ·exact Nat.zero_le _
 ·rename_i h
  rw [if_neg (fun e=>h (by rw [e];simp))]
  have:=qTn (f:=qBy) l k
  simp only [wt];omega
theorem qNm (st:Wst) (key:List UInt8) (l:List Rf) (hv:∀ r∈l,qBl r=true) (hl:l.length<=8) (hb0:st.sz+wt (qAT key l)<=100000000):HoldsG cx 71 [.ptr 0 0 0, .p (.str key), .p (qB5 l)] (wH true st) (WQ (puts st (qAT key l))):=by
 have hm:(l.map Rf.cells).length=l.length:=List.length_map ..
 refine qAA Tryz.func71 rfl rfl rfl ?_
 refine⟨qBb × Nat,fun x=>[(0, .ptr 0 0 0),(1, .p (.str key)),(8, .p (qB5 l)),(9, .p (i64 (l.map Rf.cells).length)),(10, .p (i64 x.2))],fun x=>wH' (puts st x.1),fun x=>x.2<=l.length/\x.1=qAT key (l.take x.2),fun x=>l.length - x.2,?_,?_⟩
 ·exact⟨([],0),⟨Nat.zero_le _,rfl⟩,qAB [] [(2,1)] [] rfl (sk) (sk) rfl⟩
 rintro⟨P,k⟩ ⟨k1,k2⟩
 simp only [] at k1 k2
 refine QAD (fun m1=>?_) (fun m1=>?_)
 rotate_left
 ·have m1:¬ (k:Int)<((l.map Rf.cells).length:Nat):=m1
  rw [hm] at m1
  have e:l.take k=l:=qBg (by omega)
  rw [e] at k2
  exact⟨[],[(2,2)],[], .returned und,wH' (puts st P),rfl,sk,sk,rfl,by rw [k2]⟩
 have m1:(k:Int)<((l.map Rf.cells).length:Nat):=m1
 rw [hm] at m1
 have hk:k<l.length:=by omega
 have hr:=hv _ (qAL rf0 hk)
 have et:=qQS (key:=key) hk
 have hw:=qUj (key:=key) l (k+1)
 have hcell:=qK8 hk
 generalize l.getD k rf0=r at hr et hcell
 rw [et,<- k2] at hw
 rw [<- k2] at et
 clear k2
 have hb:st.sz+wt ((P++[if k=0 then key else qAi])++qBy r)<=100000000:=by omega
 refine⟨_,⟨by omega,r.cells,hcell,rfl⟩,?_⟩
 by_cases c:k=0
 ·rw [if_pos c] at hb et
  refine And.intro (fun _=>?_) (fun h=>absurd (show(k:Int)=0 by omega) h)
  refine(qA3 true (puts st (P)) ([key]) (by simp) (by have hz:=qAJ (P) st;simp only [qAN,wt] at hb hz ⊢;omega)).holds.useT [] [(1,2),(2,4)] rfl (sk) (sk) fun e0 H0 hq=>?_
  rw [<- qAE] at hq
  obtain⟨rfl,rfl⟩:=hq
  refine⟨rfl,_,⟨6,((5,bO (puts st (P++[key])).s)::(0,wO 5 (puts st (P++[key])))::[(3,rO r)])⟩,rfl,rfl,?_⟩
  refine(qQU (puts st (P++[key])) r hr (by have hz:=qAJ (P++[key]) st;simp only [qAN,wt] at hb hz ⊢;omega)).holds.useT [] [(1,5)] rfl (sk) (sk) fun e0 H0 hq=>?_
  unfold WQ at hq
  rw [<- qAE] at hq
  obtain⟨rfl,rfl⟩:=hq
  refine⟨rfl,_,⟨7,((6,bO (puts st ((P++[key])++qBy r)).s)::(0,wO 6 (puts st ((P++[key])++qBy r)))::[(3,rO r)])⟩,rfl,rfl,?_⟩
  refine⟨_,w6z,?_⟩
  exact⟨((P++[key])++qBy r,k+1),⟨hk,et.symm⟩,qAB [] [(2,6)] [] rfl (sk) (sk) rfl,by show l.length - (k+1)<l.length - k;omega⟩
 ·rw [if_neg c] at hb et
  refine And.intro (fun h=>absurd (show(k:Int)=0 from h) (by omega)) (fun _=>?_)
  refine(qA3 true (puts st (P)) ([qAi]) (by simp) (by have hz:=qAJ (P) st;simp only [qAN,wt] at hb hz ⊢;omega)).holds.useT [] [(1,2),(2,4)] rfl (sk) (sk) fun e0 H0 hq=>?_
  rw [<- qAE] at hq
  obtain⟨rfl,rfl⟩:=hq
  refine⟨rfl,_,⟨6,((5,bO (puts st (P++[qAi])).s)::(0,wO 5 (puts st (P++[qAi])))::[(3,rO r)])⟩,rfl,rfl,?_⟩
  refine(qQU (puts st (P++[qAi])) r hr (by have hz:=qAJ (P++[qAi]) st;simp only [qAN,wt] at hb hz ⊢;omega)).holds.useT [] [(1,5)] rfl (sk) (sk) fun e0 H0 hq=>?_
  unfold WQ at hq
  rw [<- qAE] at hq
  obtain⟨rfl,rfl⟩:=hq
  refine⟨rfl,_,⟨7,((6,bO (puts st ((P++[qAi])++qBy r)).s)::(0,wO 6 (puts st ((P++[qAi])++qBy r)))::[(3,rO r)])⟩,rfl,rfl,?_⟩
  refine⟨_,w6z,?_⟩
  exact⟨((P++[qAi])++qBy r,k+1),⟨hk,et.symm⟩,qAB [] [(2,6)] [] rfl (sk) (sk) rfl,by show l.length - (k+1)<l.length - k;omega⟩
theorem qTt (k:Int):Pure cx 185 [i64 k] (·=.ret [.str (qHI k)]):=by
 refine qAC Tryz.func185 rfl rfl rfl ?_
 refine QAD (fun h1=>?_) (fun h1=>?_)
 ·have h1:k=1:=h1
  exact qAG _ rfl rfl (by rw [qHI,if_pos h1])
 have h1:¬ k=1:=h1
 refine QAD (fun h2=>?_) (fun h2=>?_)
 ·have h2:k=2:=h2
  exact qAG _ rfl rfl (by rw [qHI,if_neg h1,if_pos h2])
 have h2:¬ k=2:=h2
 refine QAD (fun h3=>?_) (fun h3=>?_)
 ·have h3:k=3:=h3
  exact qAG _ rfl rfl (by rw [qHI,if_neg h1,if_neg h2,if_pos h3])
 have h3:¬ k=3:=h3
 exact qAG _ rfl rfl (by rw [qHI,if_neg h1,if_neg h2,if_neg h3])
theorem qRG {op n rel val:Int} {r:Rf} {st:List Int} (hb:qAQ op n rel val r st=true):qBl r=true/\(op=6->qBt n=true/\qBt val=true)/\(op=5->qHr st=true)/\(¬ op=5->¬ op=6->qBt n=true):=by
 unfold qAQ at hb
 by_cases c6:op=6
 ·rw [if_neg (by omega),if_neg (by omega),if_pos c6] at hb
  simp only [Bool.and_eq_true,decide_eq_true_eq] at hb
  obtain⟨⟨⟨⟨⟨⟨b1,b2⟩,b3⟩,b4⟩,b5⟩,b6⟩,b7⟩:=hb
  exact⟨b1,fun _=>⟨b3,b4⟩,fun h=>by omega,fun _ h=>absurd c6 h⟩
 ·by_cases c5:op=5
  ·rw [if_neg (by omega),if_pos c5] at hb
   simp only [Bool.and_eq_true,decide_eq_true_eq] at hb
   obtain⟨⟨⟨⟨b1,b2⟩,b3⟩,b4⟩,b5⟩:=hb
   exact⟨b1,fun h=>absurd h c6,fun _=>b5,fun h=>absurd c5 h⟩
  ·by_cases c1:op=1∨op=2∨op=3∨op=4
   ·rw [if_pos c1] at hb
    simp only [Bool.and_eq_true,decide_eq_true_eq] at hb
    exact⟨hb.1.1.1.1,fun h=>absurd h c6,fun h=>absurd h c5,fun _ _=>hb.1.1.1.2⟩
   ·rw [if_neg c1,if_neg c5,if_neg c6] at hb
    cases hb
abbrev qQD (r:Rf) (l:List Int):qBb:=(qBy r++[tIn,tLC])++qFM (fun n=>[qAe n]) l
theorem qWJ (st:Wst) (op n rel val:Int) (r:Rf) (s:List Int) (hv:qAQ op n rel val r s=true) (hb0:st.sz+wt (qB2 op n rel val r s)<=100000000):HoldsG cx 158 [.ptr 0 0 0, .p (Cd.mk op n rel val r s []).pv] (wH true st) (WQ (puts st (qB2 op n rel val r s))):=by
 obtain⟨f1,f2,f3,f4⟩:=qRG hv
 by_cases h6:op=6
 ·subst h6
  obtain⟨g1,g2⟩:=f2 rfl
  have e:qB2 6 n rel val r s=(([]++[qBo,tLP])++qBy r)++[tEq,qAe val,tRP,qHI rel,qAe n]:=by
   rw [qB2,if_pos rfl];simp
  rw [e] at hb0 ⊢
  have hb:=hb0
  refine qAA Tryz.func158 rfl rfl rfl ?_
  refine And.intro (fun _=>?_) (fun h=>absurd rfl h)
  refine(qA3 true (puts st ([])) ([qBo,tLP]) (by simp) (by have hz:=qAJ ([]) st;simp only [qAN,wt] at hb hz ⊢;omega)).holds.useT [] [(2,3)] rfl (sk) (sk) fun e0 H0 hq=>?_
  rw [<- qAE] at hq
  obtain⟨rfl,rfl⟩:=hq
  refine⟨rfl,_,⟨5,((4,bO (puts st ([]++[qBo,tLP])).s)::(0,wO 4 (puts st ([]++[qBo,tLP])))::[(2,cO ((Cd.mk 6 n rel val r s []).cells.map .p))])⟩,rfl,rfl,?_⟩
  refine(qQU (puts st ([]++[qBo,tLP])) r f1 (by have hz:=qAJ ([]++[qBo,tLP]) st;simp only [qAN,wt] at hb hz ⊢;omega)).holds.useT [] [(1,4)] rfl (sk) (sk) fun e0 H0 hq=>?_
  unfold WQ at hq
  rw [<- qAE] at hq
  obtain⟨rfl,rfl⟩:=hq
  refine⟨rfl,_,⟨6,((5,bO (puts st (([]++[qBo,tLP])++qBy r)).s)::(0,wO 5 (puts st (([]++[qBo,tLP])++qBy r)))::[(2,cO ((Cd.mk 6 n rel val r s []).cells.map .p))])⟩,rfl,rfl,?_⟩
  refine VDraw.seq rfl ?_
  refine(qCv val g2).eq rfl ?_
  refine⟨sk,?_⟩
  refine(qTt rel).eq rfl ?_
  refine⟨sk,?_⟩
  refine(qCv n g1).eq rfl ?_
  refine(qA3 true (puts st (([]++[qBo,tLP])++qBy r)) ([tEq,qAe val,tRP,qHI rel,qAe n]) (by simp) (by have hz:=qAJ (([]++[qBo,tLP])++qBy r) st;simp only [qAN,wt] at hb hz ⊢;omega)).holds.useT [] [(1,5),(2,6)] rfl (sk) (sk) fun e0 H0 hq=>?_
  rw [<- qAE] at hq
  obtain⟨rfl,rfl⟩:=hq
  refine⟨rfl,_,⟨8,((7,bO (puts st (([]++[qBo,tLP])++qBy r++[tEq,qAe val,tRP,qHI rel,qAe n])).s)::(0,wO 7 (puts st (([]++[qBo,tLP])++qBy r++[tEq,qAe val,tRP,qHI rel,qAe n])))::[(2,cO ((Cd.mk 6 n rel val r s []).cells.map .p))])⟩,rfl,rfl,?_⟩
  exact⟨[],[(2,7)],[], .returned und,_,rfl,sk,sk,rfl,rfl⟩
 by_cases h5:op=5
 ·subst h5
  obtain⟨s1,s2,s3⟩:=qDq (f3 rfl)
  have s8:s.length<=8:=by
   have:=f3 rfl
   simp only [qHr,Bool.and_eq_true,decide_eq_true_eq] at this
   exact this.1.2
  have hm:(s.map i64).length=s.length:=List.length_map ..
  have e:qB2 5 n rel val r s=qQD r s++[tRC]:=by
   rw [qB2,if_neg (by decide),if_pos rfl];simp [qQD]
  rw [e] at hb0 ⊢
  refine qAA Tryz.func158 rfl rfl rfl ?_
  refine And.intro (fun h=>absurd (show(5:Int)=6 from h) (by decide)) (fun _=>?_)
  refine And.intro (fun _=>?_) (fun h=>absurd rfl h)
  have hb:st.sz+wt (([]++qBy r)++[tIn,tLC])<=100000000:=by simp only [qQD,qAN,wt] at hb0 ⊢;omega
  refine(qQU (puts st []) r f1 (by show st.sz+_<=_;simp only [qAN,wt] at hb ⊢;omega)).holds.useT [] [] rfl (sk) (sk) fun e0 H0 hq=>?_
  unfold WQ at hq
  rw [<- qAE] at hq
  obtain⟨rfl,rfl⟩:=hq
  refine⟨rfl,_,⟨4,((3,bO (puts st ([]++qBy r)).s)::(0,wO 3 (puts st ([]++qBy r)))::[(2,cO ((Cd.mk 5 n rel val r s []).cells.map .p))])⟩,rfl,rfl,?_⟩
  refine(qA3 true (puts st ([]++qBy r)) ([tIn,tLC]) (by simp) (by have hz:=qAJ ([]++qBy r) st;simp only [qAN,wt] at hb hz ⊢;omega)).holds.useT [] [(1,3),(2,4)] rfl (sk) (sk) fun e0 H0 hq=>?_
  rw [<- qAE] at hq
  obtain⟨rfl,rfl⟩:=hq
  refine⟨rfl,_,⟨6,((5,bO (puts st ([]++qBy r++[tIn,tLC])).s)::(0,wO 5 (puts st ([]++qBy r++[tIn,tLC])))::[(2,cO ((Cd.mk 5 n rel val r s []).cells.map .p))])⟩,rfl,rfl,?_⟩
  refine⟨qBb × Nat,fun x=>[(0, .ptr 0 0 0),(55, .p (ints s)),(56, .p (i64 (s.map i64).length)),(57, .p (i64 x.2))],fun x=>wH' (puts st x.1),fun x=>x.2<=s.length/\x.1=qQD r (s.take x.2),fun x=>s.length - x.2,?_,?_⟩
  ·exact⟨(([]++qBy r)++[tIn,tLC],0),⟨Nat.zero_le _,by simp [qQD,qFM]⟩,qAB [] [(2,5)] [] rfl (sk) (sk) rfl⟩
  clear hb
  rintro⟨P,k⟩ ⟨k1,k2⟩
  simp only [] at k1 k2
  refine QAD (fun m1=>?_) (fun m1=>?_)
  rotate_left
  ·have m1:¬ (k:Int)<((s.map i64).length:Nat):=m1
   rw [hm] at m1
   have e:s.take k=s:=qBg (by omega)
   rw [e] at k2
   rw [<- k2] at hb0
   have hb:=hb0
   refine(qA3 true (puts st (P)) ([tRC]) (by simp) (by have hz:=qAJ (P) st;simp only [qAN,wt] at hb hz ⊢;omega)).holds.useT [] [(1,2),(2,3)] rfl (sk) (sk) fun e0 H0 hq=>?_
   rw [<- qAE] at hq
   obtain⟨rfl,rfl⟩:=hq
   refine⟨rfl,_,⟨5,((4,bO (puts st (P++[tRC])).s)::(0,wO 4 (puts st (P++[tRC])))::[])⟩,rfl,rfl,?_⟩
   exact⟨[],[(2,4)],[], .returned und,wH' (puts st (P++[tRC])),rfl,sk,sk,rfl,by rw [k2]⟩
  have m1:(k:Int)<((s.map i64).length:Nat):=m1
  rw [hm] at m1
  have hk:k<s.length:=by omega
  have hn:=s2 _ (qAL 0 hk)
  have hw:=qTn (f:=fun n=>[qAe n]) s (k+1)
  have hcell:=qGM hk
  have et:qQD r (s.take (k+1))=qQD r (s.take k)++((if k=0 then [] else [qAi])++[qAe (s.getD k 0)]):=by
   rw [qQD,qNb 0 hk];simp [qQD]
  have hb:st.sz+wt (qQD r (s.take (k+1)))<=100000000:=by
   simp only [qQD,qAN,wt] at hb0 hw ⊢;omega
  rw [et] at hb
  rw [<- k2] at et hb
  clear k2
  generalize s.getD k 0=x at hn hcell et hb
  refine⟨_,⟨by omega,i64 x,hcell,rfl⟩,?_⟩
  by_cases c:k=0
  ·rw [if_pos c] at et hb
   refine And.intro (fun h=>absurd (show(0:Int)<(k:Nat) from h) (by omega)) (fun _=>?_)
   refine(qCv x hn).eq rfl ?_
   have hb:st.sz+wt (P++[qAe x])<=100000000:=hb
   refine(qA3 true (puts st (P)) ([qAe x]) (by simp) (by have hz:=qAJ (P) st;simp only [qAN,wt] at hb hz ⊢;omega)).holds.useT [] [(1,2),(2,3)] rfl (sk) (sk) fun e0 H0 hq=>?_
   rw [<- qAE] at hq
   obtain⟨rfl,rfl⟩:=hq
   refine⟨rfl,_,⟨5,((4,bO (puts st (P++[qAe x])).s)::(0,wO 4 (puts st (P++[qAe x])))::[])⟩,rfl,rfl,?_⟩
   refine⟨_,w6z,?_⟩
   exact⟨(P++[qAe x],k+1),⟨hk,et.symm⟩,qAB [] [(2,4)] [] rfl (sk) (sk) rfl,by show s.length - (k+1)<s.length - k;omega⟩
  ·rw [if_neg c] at et hb
   rw [<- List.append_assoc] at et hb
   refine And.intro (fun _=>?_) (fun h=>absurd (show(0:Int)<(k:Nat) by omega) h)
   refine(qA3 true (puts st (P)) ([qAi]) (by simp) (by have hz:=qAJ (P) st;simp only [qAN,wt] at hb hz ⊢;omega)).holds.useT [] [(1,2),(2,3)] rfl (sk) (sk) fun e0 H0 hq=>?_
   rw [<- qAE] at hq
   obtain⟨rfl,rfl⟩:=hq
   refine⟨rfl,_,⟨5,((4,bO (puts st (P++[qAi])).s)::(0,wO 4 (puts st (P++[qAi])))::[])⟩,rfl,rfl,?_⟩
   refine(qCv x hn).eq rfl ?_
   refine(qA3 true (puts st (P++[qAi])) ([qAe x]) (by simp) (by have hz:=qAJ (P++[qAi]) st;simp only [qAN,wt] at hb hz ⊢;omega)).holds.useT [] [(1,4),(2,5)] rfl (sk) (sk) fun e0 H0 hq=>?_
   rw [<- qAE] at hq
   obtain⟨rfl,rfl⟩:=hq
   refine⟨rfl,_,⟨7,((6,bO (puts st (P++[qAi]++[qAe x])).s)::(0,wO 6 (puts st (P++[qAi]++[qAe x])))::[])⟩,rfl,rfl,?_⟩
   refine⟨_,w6z,?_⟩
   exact⟨((P++[qAi])++[qAe x],k+1),⟨hk,et.symm⟩,qAB [] [(2,6)] [] rfl (sk) (sk) rfl,by show s.length - (k+1)<s.length - k;omega⟩
 ·have e:qB2 op n rel val r s=([]++qBy r)++[qHI op,qAe n]:=by
   rw [qB2,if_neg h6,if_neg h5];rfl
  have g1:=f4 h5 h6
  rw [e] at hb0 ⊢
  have hb:=hb0
  refine qAA Tryz.func158 rfl rfl rfl ?_
  refine And.intro (fun h=>absurd h h6) (fun _=>?_)
  refine And.intro (fun h=>absurd h h5) (fun _=>?_)
  refine(qQU (puts st []) r f1 (by show st.sz+_<=_;simp only [qAN,wt] at hb ⊢;omega)).holds.useT [] [] rfl (sk) (sk) fun e0 H0 hq=>?_
  unfold WQ at hq
  rw [<- qAE] at hq
  obtain⟨rfl,rfl⟩:=hq
  refine⟨rfl,_,⟨4,((3,bO (puts st ([]++qBy r)).s)::(0,wO 3 (puts st ([]++qBy r)))::[(2,cO ((Cd.mk op n rel val r s []).cells.map .p))])⟩,rfl,rfl,?_⟩
  refine VDraw.seq rfl ?_
  refine(qTt op).eq rfl ?_
  refine⟨sk,?_⟩
  refine(qCv n g1).eq rfl ?_
  refine(qA3 true (puts st ([]++qBy r)) ([qHI op,qAe n]) (by simp) (by have hz:=qAJ ([]++qBy r) st;simp only [qAN,wt] at hb hz ⊢;omega)).holds.useT [] [(1,3),(2,4)] rfl (sk) (sk) fun e0 H0 hq=>?_
  rw [<- qAE] at hq
  obtain⟨rfl,rfl⟩:=hq
  refine⟨rfl,_,⟨6,((5,bO (puts st ([]++qBy r++[qHI op,qAe n])).s)::(0,wO 5 (puts st ([]++qBy r++[qHI op,qAe n])))::[(2,cO ((Cd.mk op n rel val r s []).cells.map .p))])⟩,rfl,rfl,?_⟩
  exact⟨[],[(2,5)],[], .returned und,_,rfl,sk,sk,rfl,rfl⟩
theorem qGb {k:Nat} {c:Cd} (h:lvl c.op<k):qAF k c=tLP::(qAm c++[tRP]):=if_pos h
def qYH (d:Nat):Prop:=∀ (c:Cd),(∃ l k,qAs d c l=some k)->∀ (st:Wst) (L:Nat),L<=2->st.sz+wt (qAF (L+1) c)<=100000000->HoldsG cx 115 [.ptr 0 0 0, .p c.pv, .p (i64 L)] (wH true st) (WQ (puts st (qAF (L+1) c)))
abbrev ccO (c:Cd):AObj:=cO (c.cells.map .p)
theorem qPV {d:Nat} (ih:qYH d):qYH (d+1):=by
 intro c ⟨l,k,hv⟩ st L hL hb
 cases qG1 hv with
 | leaf op n rel val r s h7 h8 h9 hl=>
  have hX:qAF (L+1) (.mk op n rel val r s [])=[]++qB2 op n rel val r s:=by
   rw [qBh (by show ¬ lvl op<L+1;rw [qN9 h7 h8 h9];omega),qCK h7 h8 h9];rfl
  rw [hX] at hb ⊢
  refine qAA Tryz.func115 rfl rfl rfl ?_
  refine And.intro (fun h=>absurd h h9) (fun _=>?_)
  refine And.intro (fun h=>absurd h h8) (fun _=>?_)
  refine And.intro (fun h=>absurd (show(2:Int)<(L:Nat) from h) (by omega)) (fun _=>?_)
  refine And.intro (fun h=>absurd h h9) (fun _=>?_)
  refine And.intro (fun h=>absurd h h8) (fun _=>?_)
  refine And.intro (fun h=>absurd h h7) (fun _=>?_)
  refine(qWJ (puts st []) op n rel val r s hl hb).holds.useT [] [] rfl (sk) (sk) fun e0 H0 hq=>?_
  unfold WQ at hq
  rw [<- qAE] at hq
  obtain⟨rfl,rfl⟩:=hq
  refine⟨rfl,_,⟨4,((3,bO (puts st ([]++qB2 op n rel val r s)).s)::(0,wO 3 (puts st ([]++qB2 op n rel val r s)))::[(2,ccO _)])⟩,rfl,rfl,?_⟩
  exact⟨[],[(2,3)],[], .returned und,wH' (puts st ([]++qB2 op n rel val r s)),rfl,sk,sk,rfl,rfl⟩
 | neg a pa=>
  obtain⟨A,hA⟩:∃ A,A=qAF 3 a:=⟨_,rfl⟩
  have hX:qAF (L+1) (.mk 7 0 0 0 rf0 [] [a])=([]++[qGX])++A:=by
   rw [qBh (by show ¬ lvl 7<L+1;have:lvl 7=3:=rfl;omega),qCw,hA];rfl
  rw [hX] at hb ⊢
  have ha:=fun s h=>ih a pa s 2 (by omega) h
  have ha:∀ s:Wst,s.sz+wt A<=100000000->HoldsG cx 115 [.ptr 0 0 0, .p a.pv, .p (i64 (2:Nat))] (wH true s) (WQ (puts s A)):=fun s h=>by rw [hA] at h ⊢;exact ha s h
  clear hA hX hv pa
  obtain⟨ao,an,ar,av,af,at',aa⟩:=a
  refine qAA Tryz.func115 rfl rfl rfl ?_
  refine And.intro (fun h=>absurd (show(7:Int)=9 from h) (by decide)) (fun _=>?_)
  refine And.intro (fun h=>absurd (show(7:Int)=8 from h) (by decide)) (fun _=>?_)
  refine And.intro (fun h=>absurd (show(2:Int)<(L:Nat) from h) (by omega)) (fun _=>?_)
  refine And.intro (fun h=>absurd (show(7:Int)=9 from h) (by decide)) (fun _=>?_)
  refine And.intro (fun h=>absurd (show(7:Int)=8 from h) (by decide)) (fun _=>?_)
  refine And.intro (fun _=>?_) (fun h=>absurd rfl h)
  refine(qA3 true (puts st ([])) ([qGX]) (by simp) (by have hz:=qAJ ([]) st;simp only [qAN,wt] at hb hz ⊢;omega)).holds.useT [] [(2,3)] rfl (sk) (sk) fun e0 H0 hq=>?_
  rw [<- qAE] at hq
  obtain⟨rfl,rfl⟩:=hq
  refine⟨rfl,_,⟨5,((4,bO (puts st ([]++[qGX])).s)::(0,wO 4 (puts st ([]++[qGX])))::[(2,ccO _)])⟩,rfl,rfl,?_⟩
  refine⟨_,⟨by decide,_,rfl,rfl⟩,?_⟩
  refine(ha (puts st ([]++[qGX])) (by have hz:=qAJ ([]++[qGX]) st;simp only [qAN,wt] at hb hz ⊢;omega)).holds.useT [] [(1,4)] rfl (sk) (sk) fun e0 H0 hq=>?_
  unfold WQ at hq
  rw [<- qAE] at hq
  obtain⟨rfl,rfl⟩:=hq
  refine⟨rfl,_,⟨6,((5,bO (puts st (([]++[qGX])++A)).s)::(0,wO 5 (puts st (([]++[qGX])++A)))::[(2,ccO _)])⟩,rfl,rfl,?_⟩
  exact⟨[],[(2,5)],[], .returned und,wH' (puts st (([]++[qGX])++A)),rfl,sk,sk,rfl,rfl⟩
 | conj a b pa pb=>
  have ha:=fun s h=>ih a pa s 1 (by omega) h
  have hc:=fun s h=>ih b pb s 2 (by omega) h
  obtain⟨A,hA⟩:∃ A,A=qAF 2 a:=⟨_,rfl⟩
  obtain⟨B,hB⟩:∃ B,B=qAF 3 b:=⟨_,rfl⟩
  have ha:∀ s:Wst,s.sz+wt A<=100000000->HoldsG cx 115 [.ptr 0 0 0, .p a.pv, .p (i64 (1:Nat))] (wH true s) (WQ (puts s A)):=fun s h=>by rw [hA] at h ⊢;exact ha s h
  have hc:∀ s:Wst,s.sz+wt B<=100000000->HoldsG cx 115 [.ptr 0 0 0, .p b.pv, .p (i64 (2:Nat))] (wH true s) (WQ (puts s B)):=fun s h=>by rw [hB] at h ⊢;exact hc s h
  have hC:qAm (.mk 8 0 0 0 rf0 [] [a,b])=A++qDA::B:=by rw [qCM,hA,hB]
  by_cases hp:1<L
  ·have hX:qAF (L+1) (.mk 8 0 0 0 rf0 [] [a,b])=(((([]++[tLP])++A)++[qDA])++B)++[tRP]:=by
    rw [qGb (show lvl 8<L+1 by have:lvl 8=2:=rfl;omega),hC];simp
   rw [hX] at hb
   clear hA hB hC pa pb hv
   generalize qAF (L+1) (.mk 8 0 0 0 rf0 [] [a,b])=X at hX ⊢
   obtain⟨ao,an,ar,av,af,at',aa⟩:=a
   obtain⟨bo,bn,br,bv,bf,bt,ba⟩:=b
   refine qAA Tryz.func115 rfl rfl rfl ?_
   refine And.intro (fun h=>absurd (show(8:Int)=9 from h) (by decide)) (fun _=>?_)
   refine And.intro (fun _=>?_) (fun h=>absurd rfl h)
   refine And.intro (fun _=>?_) (fun h=>absurd (show(1:Int)<(L:Nat) by omega) h)
   refine(qA3 true (puts st ([])) ([tLP]) (by simp) (by have hz:=qAJ ([]) st;simp only [qAN,wt] at hb hz ⊢;omega)).holds.useT [] [(2,3)] rfl (sk) (sk) fun e0 H0 hq=>?_
   rw [<- qAE] at hq
   obtain⟨rfl,rfl⟩:=hq
   refine⟨rfl,_,⟨5,((4,bO (puts st ([]++[tLP])).s)::(0,wO 4 (puts st ([]++[tLP])))::[(2,ccO _)])⟩,rfl,rfl,?_⟩
   refine And.intro (fun h=>absurd (show(8:Int)=9 from h) (by decide)) (fun _=>?_)
   refine And.intro (fun _=>?_) (fun h=>absurd rfl h)
   refine⟨_,⟨by decide,_,rfl,rfl⟩,?_⟩
   refine(ha (puts st ([]++[tLP])) (by have hz:=qAJ ([]++[tLP]) st;simp only [qAN,wt] at hb hz ⊢;omega)).holds.useT [] [(1,4)] rfl (sk) (sk) fun e0 H0 hq=>?_
   unfold WQ at hq
   rw [<- qAE] at hq
   obtain⟨rfl,rfl⟩:=hq
   refine⟨rfl,_,⟨7,((6,bO (puts st (([]++[tLP])++A)).s)::(0,wO 6 (puts st (([]++[tLP])++A)))::[(5,sU [tRP]),(2,ccO _)])⟩,rfl,rfl,?_⟩
   refine(qA3 true (puts st (([]++[tLP])++A)) ([qDA]) (by simp) (by have hz:=qAJ (([]++[tLP])++A) st;simp only [qAN,wt] at hb hz ⊢;omega)).holds.useT [] [(1,6),(2,7)] rfl (sk) (sk) fun e0 H0 hq=>?_
   rw [<- qAE] at hq
   obtain⟨rfl,rfl⟩:=hq
   refine⟨rfl,_,⟨9,((8,bO (puts st (([]++[tLP])++A++[qDA])).s)::(0,wO 8 (puts st (([]++[tLP])++A++[qDA])))::[(5,sU [tRP]),(2,ccO _)])⟩,rfl,rfl,?_⟩
   refine⟨_,⟨by decide,_,rfl,rfl⟩,?_⟩
   refine(hc (puts st ((([]++[tLP])++A)++[qDA])) (by have hz:=qAJ ((([]++[tLP])++A)++[qDA]) st;simp only [qAN,wt] at hb hz ⊢;omega)).holds.useT [] [(1,8)] rfl (sk) (sk) fun e0 H0 hq=>?_
   unfold WQ at hq
   rw [<- qAE] at hq
   obtain⟨rfl,rfl⟩:=hq
   refine⟨rfl,_,⟨10,((9,bO (puts st (((([]++[tLP])++A)++[qDA])++B)).s)::(0,wO 9 (puts st (((([]++[tLP])++A)++[qDA])++B)))::[(5,sU [tRP]),(2,ccO _)])⟩,rfl,rfl,?_⟩
   refine(qTy true (puts st (((([]++[tLP])++A)++[qDA])++B)) [tRP] (by simp) (by have hz:=qAJ (((([]++[tLP])++A)++[qDA])++B) st;simp only [qAN,wt] at hb hz ⊢;omega)).useT [] [(1,9),(2,5)] rfl (sk) (sk) fun e0 H0 hq=>?_
   rw [<- qAE] at hq
   obtain⟨rfl,rfl⟩:=hq
   refine⟨rfl,_,⟨11,((10,bO (puts st ((((([]++[tLP])++A)++[qDA])++B)++[tRP])).s)::(0,wO 10 (puts st ((((([]++[tLP])++A)++[qDA])++B)++[tRP])))::[(2,ccO _)])⟩,rfl,rfl,?_⟩
   exact⟨[],[(2,10)],[], .returned und,wH' (puts st ((((([]++[tLP])++A)++[qDA])++B)++[tRP])),rfl,sk,sk,rfl,by rw [hX]⟩
  ·have hX:qAF (L+1) (.mk 8 0 0 0 rf0 [] [a,b])=(([]++A)++[qDA])++B:=by
    rw [qBh (by show ¬ lvl 8<L+1;have:lvl 8=2:=rfl;omega),hC];simp
   rw [hX] at hb
   clear hA hB hC pa pb hv
   generalize qAF (L+1) (.mk 8 0 0 0 rf0 [] [a,b])=X at hX ⊢
   obtain⟨ao,an,ar,av,af,at',aa⟩:=a
   obtain⟨bo,bn,br,bv,bf,bt,ba⟩:=b
   refine qAA Tryz.func115 rfl rfl rfl ?_
   refine And.intro (fun h=>absurd (show(8:Int)=9 from h) (by decide)) (fun _=>?_)
   refine And.intro (fun _=>?_) (fun h=>absurd rfl h)
   refine And.intro (fun h=>absurd (show(1:Int)<(L:Nat) from h) (by omega)) (fun _=>?_)
   refine And.intro (fun h=>absurd (show(8:Int)=9 from h) (by decide)) (fun _=>?_)
   refine And.intro (fun _=>?_) (fun h=>absurd rfl h)
   refine⟨_,⟨by decide,_,rfl,rfl⟩,?_⟩
   refine(ha (puts st []) (by show st.sz+wt A<=100000000;simp only [qAN,wt] at hb ⊢;omega)).holds.useT [] [] rfl (sk) (sk) fun e0 H0 hq=>?_
   unfold WQ at hq
   rw [<- qAE] at hq
   obtain⟨rfl,rfl⟩:=hq
   refine⟨rfl,_,⟨4,((3,bO (puts st ([]++A)).s)::(0,wO 3 (puts st ([]++A)))::[(2,ccO _)])⟩,rfl,rfl,?_⟩
   refine(qA3 true (puts st ([]++A)) ([qDA]) (by simp) (by have hz:=qAJ ([]++A) st;simp only [qAN,wt] at hb hz ⊢;omega)).holds.useT [] [(1,3),(2,4)] rfl (sk) (sk) fun e0 H0 hq=>?_
   rw [<- qAE] at hq
   obtain⟨rfl,rfl⟩:=hq
   refine⟨rfl,_,⟨6,((5,bO (puts st ([]++A++[qDA])).s)::(0,wO 5 (puts st ([]++A++[qDA])))::[(2,ccO _)])⟩,rfl,rfl,?_⟩
   refine⟨_,⟨by decide,_,rfl,rfl⟩,?_⟩
   refine(hc (puts st (([]++A)++[qDA])) (by have hz:=qAJ (([]++A)++[qDA]) st;simp only [qAN,wt] at hb hz ⊢;omega)).holds.useT [] [(1,5)] rfl (sk) (sk) fun e0 H0 hq=>?_
   unfold WQ at hq
   rw [<- qAE] at hq
   obtain⟨rfl,rfl⟩:=hq
   refine⟨rfl,_,⟨7,((6,bO (puts st ((([]++A)++[qDA])++B)).s)::(0,wO 6 (puts st ((([]++A)++[qDA])++B)))::[(2,ccO _)])⟩,rfl,rfl,?_⟩
   exact⟨[],[(2,6)],[], .returned und,wH' (puts st ((([]++A)++[qDA])++B)),rfl,sk,sk,rfl,by rw [hX]⟩
 | disj a b pa pb=>
  have ha:=fun s h=>ih a pa s 0 (by omega) h
  have hc:=fun s h=>ih b pb s 1 (by omega) h
  obtain⟨A,hA⟩:∃ A,A=qAF 1 a:=⟨_,rfl⟩
  obtain⟨B,hB⟩:∃ B,B=qAF 2 b:=⟨_,rfl⟩
  have ha:∀ s:Wst,s.sz+wt A<=100000000->HoldsG cx 115 [.ptr 0 0 0, .p a.pv, .p (i64 (0:Nat))] (wH true s) (WQ (puts s A)):=fun s h=>by rw [hA] at h ⊢;exact ha s h
  have hc:∀ s:Wst,s.sz+wt B<=100000000->HoldsG cx 115 [.ptr 0 0 0, .p b.pv, .p (i64 (1:Nat))] (wH true s) (WQ (puts s B)):=fun s h=>by rw [hB] at h ⊢;exact hc s h
  have hC:qAm (.mk 9 0 0 0 rf0 [] [a,b])=A++tOr::B:=by rw [qCL,hA,hB]
  by_cases hp:0<L
  ·have hX:qAF (L+1) (.mk 9 0 0 0 rf0 [] [a,b])=(((([]++[tLP])++A)++[tOr])++B)++[tRP]:=by
    rw [qGb (show lvl 9<L+1 by have:lvl 9=1:=rfl;omega),hC];simp
   rw [hX] at hb
   clear hA hB hC pa pb hv
   generalize qAF (L+1) (.mk 9 0 0 0 rf0 [] [a,b])=X at hX ⊢
   obtain⟨ao,an,ar,av,af,at',aa⟩:=a
   obtain⟨bo,bn,br,bv,bf,bt,ba⟩:=b
   refine qAA Tryz.func115 rfl rfl rfl ?_
   refine And.intro (fun _=>?_) (fun h=>absurd rfl h)
   refine And.intro (fun _=>?_) (fun h=>absurd (show(0:Int)<(L:Nat) by omega) h)
   refine(qA3 true (puts st ([])) ([tLP]) (by simp) (by have hz:=qAJ ([]) st;simp only [qAN,wt] at hb hz ⊢;omega)).holds.useT [] [(2,3)] rfl (sk) (sk) fun e0 H0 hq=>?_
   rw [<- qAE] at hq
   obtain⟨rfl,rfl⟩:=hq
   refine⟨rfl,_,⟨5,((4,bO (puts st ([]++[tLP])).s)::(0,wO 4 (puts st ([]++[tLP])))::[(2,ccO _)])⟩,rfl,rfl,?_⟩
   refine And.intro (fun _=>?_) (fun h=>absurd rfl h)
   refine⟨_,⟨by decide,_,rfl,rfl⟩,?_⟩
   refine(ha (puts st ([]++[tLP])) (by have hz:=qAJ ([]++[tLP]) st;simp only [qAN,wt] at hb hz ⊢;omega)).holds.useT [] [(1,4)] rfl (sk) (sk) fun e0 H0 hq=>?_
   unfold WQ at hq
   rw [<- qAE] at hq
   obtain⟨rfl,rfl⟩:=hq
   refine⟨rfl,_,⟨7,((6,bO (puts st (([]++[tLP])++A)).s)::(0,wO 6 (puts st (([]++[tLP])++A)))::[(5,sU [tRP]),(2,ccO _)])⟩,rfl,rfl,?_⟩
   refine(qA3 true (puts st (([]++[tLP])++A)) ([tOr]) (by simp) (by have hz:=qAJ (([]++[tLP])++A) st;simp only [qAN,wt] at hb hz ⊢;omega)).holds.useT [] [(1,6),(2,7)] rfl (sk) (sk) fun e0 H0 hq=>?_
   rw [<- qAE] at hq
   obtain⟨rfl,rfl⟩:=hq
   refine⟨rfl,_,⟨9,((8,bO (puts st (([]++[tLP])++A++[tOr])).s)::(0,wO 8 (puts st (([]++[tLP])++A++[tOr])))::[(5,sU [tRP]),(2,ccO _)])⟩,rfl,rfl,?_⟩
   refine⟨_,⟨by decide,_,rfl,rfl⟩,?_⟩
   refine(hc (puts st ((([]++[tLP])++A)++[tOr])) (by have hz:=qAJ ((([]++[tLP])++A)++[tOr]) st;simp only [qAN,wt] at hb hz ⊢;omega)).holds.useT [] [(1,8)] rfl (sk) (sk) fun e0 H0 hq=>?_
   unfold WQ at hq
   rw [<- qAE] at hq
   obtain⟨rfl,rfl⟩:=hq
   refine⟨rfl,_,⟨10,((9,bO (puts st (((([]++[tLP])++A)++[tOr])++B)).s)::(0,wO 9 (puts st (((([]++[tLP])++A)++[tOr])++B)))::[(5,sU [tRP]),(2,ccO _)])⟩,rfl,rfl,?_⟩
   refine(qTy true (puts st (((([]++[tLP])++A)++[tOr])++B)) [tRP] (by simp) (by have hz:=qAJ (((([]++[tLP])++A)++[tOr])++B) st;simp only [qAN,wt] at hb hz ⊢;omega)).useT [] [(1,9),(2,5)] rfl (sk) (sk) fun e0 H0 hq=>?_
   rw [<- qAE] at hq
   obtain⟨rfl,rfl⟩:=hq
   refine⟨rfl,_,⟨11,((10,bO (puts st ((((([]++[tLP])++A)++[tOr])++B)++[tRP])).s)::(0,wO 10 (puts st ((((([]++[tLP])++A)++[tOr])++B)++[tRP])))::[(2,ccO _)])⟩,rfl,rfl,?_⟩
   exact⟨[],[(2,10)],[], .returned und,wH' (puts st ((((([]++[tLP])++A)++[tOr])++B)++[tRP])),rfl,sk,sk,rfl,by rw [hX]⟩
  ·have hX:qAF (L+1) (.mk 9 0 0 0 rf0 [] [a,b])=(([]++A)++[tOr])++B:=by
    rw [qBh (by show ¬ lvl 9<L+1;have:lvl 9=1:=rfl;omega),hC];simp
   rw [hX] at hb
   clear hA hB hC pa pb hv
   generalize qAF (L+1) (.mk 9 0 0 0 rf0 [] [a,b])=X at hX ⊢
   obtain⟨ao,an,ar,av,af,at',aa⟩:=a
   obtain⟨bo,bn,br,bv,bf,bt,ba⟩:=b
   refine qAA Tryz.func115 rfl rfl rfl ?_
   refine And.intro (fun _=>?_) (fun h=>absurd rfl h)
   refine And.intro (fun h=>absurd (show(0:Int)<(L:Nat) from h) (by omega)) (fun _=>?_)
   refine And.intro (fun _=>?_) (fun h=>absurd rfl h)
   refine⟨_,⟨by decide,_,rfl,rfl⟩,?_⟩
   refine(ha (puts st []) (by show st.sz+wt A<=100000000;simp only [qAN,wt] at hb ⊢;omega)).holds.useT [] [] rfl (sk) (sk) fun e0 H0 hq=>?_
   unfold WQ at hq
   rw [<- qAE] at hq
   obtain⟨rfl,rfl⟩:=hq
   refine⟨rfl,_,⟨4,((3,bO (puts st ([]++A)).s)::(0,wO 3 (puts st ([]++A)))::[(2,ccO _)])⟩,rfl,rfl,?_⟩
   refine(qA3 true (puts st ([]++A)) ([tOr]) (by simp) (by have hz:=qAJ ([]++A) st;simp only [qAN,wt] at hb hz ⊢;omega)).holds.useT [] [(1,3),(2,4)] rfl (sk) (sk) fun e0 H0 hq=>?_
   rw [<- qAE] at hq
   obtain⟨rfl,rfl⟩:=hq
   refine⟨rfl,_,⟨6,((5,bO (puts st ([]++A++[tOr])).s)::(0,wO 5 (puts st ([]++A++[tOr])))::[(2,ccO _)])⟩,rfl,rfl,?_⟩
   refine⟨_,⟨by decide,_,rfl,rfl⟩,?_⟩
   refine(hc (puts st (([]++A)++[tOr])) (by have hz:=qAJ (([]++A)++[tOr]) st;simp only [qAN,wt] at hb hz ⊢;omega)).holds.useT [] [(1,5)] rfl (sk) (sk) fun e0 H0 hq=>?_
   unfold WQ at hq
   rw [<- qAE] at hq
   obtain⟨rfl,rfl⟩:=hq
   refine⟨rfl,_,⟨7,((6,bO (puts st ((([]++A)++[tOr])++B)).s)::(0,wO 6 (puts st ((([]++A)++[tOr])++B)))::[(2,ccO _)])⟩,rfl,rfl,?_⟩
   exact⟨[],[(2,6)],[], .returned und,wH' (puts st ((([]++A)++[tOr])++B)),rfl,sk,sk,rfl,by rw [hX]⟩
theorem qUJ:∀ d,qYH d
 | 0=>fun c h=>by obtain⟨l,k,h⟩:=h;cases h
 | d+1=>qPV (qUJ d)
theorem qVA (op:Int):1<=lvl op:=by
 unfold lvl
 split
 ·decide
 ·split
  ·decide
  ·split <;> decide
theorem qVc {op n rel val:Int} {r:Rf} {s:List Int} {ar:List Cd} (k:Nat) (h:qAs 8 (.mk op n rel val r s ar) 30=some k) (st:Wst) (hb:st.sz+wt (qAm (.mk op n rel val r s ar))<=100000000):HoldsG cx 115 [.ptr 0 0 0, .p (Cd.mk op n rel val r s ar).pv, .p (i64 0)] (wH true st) (WQ (puts st (qAm (.mk op n rel val r s ar)))):=by
 have e:qAF (0+1) (.mk op n rel val r s ar)=qAm (.mk op n rel val r s ar):=qBh (by have:=qVA op;show ¬ lvl op<0+1;omega)
 have:=qUJ 8 _ ⟨_,_,h⟩ st 0 (by omega) (by rw [e];exact hb)
 rw [e] at this
 exact this
def qXZ (c:Cs):AObj:=⟨qHB,false, .bx (c.cells.map .p)⟩
theorem qRg {l:List Cs} {k:Nat} (h:k<l.length):l.drop k=l.getD k cs0::l.drop (k+1):=by
 rw [List.getD_eq_getElem?_getD,List.getElem?_eq_getElem h];exact List.drop_eq_getElem_cons h
theorem qUH {l:List Int} {k:Nat} (h:k<l.length):l.drop k=l.getD k 0::l.drop (k+1):=by
 rw [List.getD_eq_getElem?_getD,List.getElem?_eq_getElem h];exact List.drop_eq_getElem_cons h
theorem qLk {l:List Cs} {i:Nat} {c:Cd} {ns:List Int} (h:i+1=l.length) (hx:l.getD i cs0=⟨c,ns⟩):qBf (l.drop i)=[qCQ]++([qAu]++qBr ns):=by
 rw [qRg (by omega),hx,List.drop_eq_nil_of_le (show l.length<=i+1 by omega)];rfl
theorem qLj {l:List Cs} {i:Nat} {c:Cd} {ns:List Int} (h:i+1<l.length) (hx:l.getD i cs0=⟨c,ns⟩):qBf (l.drop i)=qAm c++([qAu]++(qBr ns++([qAZ]++qBf (l.drop (i+1))))):=by
 obtain⟨d,r,hd⟩:∃ d r,l.drop (i+1)=d::r:=⟨_,_,qRg h⟩
 rw [qRg (by omega),hx,hd];rfl
theorem qQI (st:Wst) (l:List Cs) (hv:qBM l=true) (hb0:st.sz+wt (qBL l)<=100000000):HoldsG cx 72 [.ptr 0 0 0, .p (css l)] (wH true st) (WQ (puts st (qBL l))):=by
 have h0:([]++[tLC])++(qBf (l.drop 0)++[tRC])=qBL l:=rfl
 generalize qBL l=G at h0 hb0 ⊢
 have hm:(l.map Cs.cells).length=l.length:=List.length_map ..
 simp only [qBM,Bool.and_eq_true,decide_eq_true_eq] at hv
 obtain⟨⟨v1,v2⟩,v3⟩:=hv
 refine qAA Tryz.func72 rfl rfl rfl ?_
 have hb:st.sz+wt ([]++[tLC])<=100000000:=by rw [<- h0,qAN] at hb0;omega
 refine(qA3 true (puts st ([])) ([tLC]) (by simp) (by have hz:=qAJ ([]) st;simp only [qAN,wt] at hb hz ⊢;omega)).holds.useT [] [] rfl (sk) (sk) fun e0 H0 hq=>?_
 rw [<- qAE] at hq
 obtain⟨rfl,rfl⟩:=hq
 refine⟨rfl,_,⟨4,((3,bO (puts st ([]++[tLC])).s)::(0,wO 3 (puts st ([]++[tLC])))::[])⟩,rfl,rfl,?_⟩
 refine⟨qBb × Nat,fun x=>[(0, .ptr 0 0 0),(1, .p (css l)),(12, .p (css l)),(13, .p (i64 (l.map Cs.cells).length)),(14, .p (i64 x.2))],fun x=>wH' (puts st x.1),fun x=>x.2<=l.length/\qBj (l.drop x.2)=true/\x.1++(qBf (l.drop x.2)++[tRC])=G,fun x=>l.length - x.2,?_,?_⟩
 ·exact⟨([]++[tLC],0),⟨Nat.zero_le _,v3,h0⟩,qAB [] [(2,3)] [] rfl (sk) (sk) rfl⟩
 clear h0 hb
 rintro⟨P,i⟩ ⟨i0,i2,i3⟩
 simp only [] at i0 i2 i3
 refine QAD (fun j1=>?_) (fun j1=>?_)
 rotate_left
 ·have j1:¬ (i:Int)<((l.map Cs.cells).length:Nat):=j1
  rw [hm] at j1
  rw [List.drop_eq_nil_of_le (by omega)] at i3
  have i3:P++[tRC]=G:=i3
  have hb:st.sz+wt (P++[tRC])<=100000000:=by rw [i3];exact hb0
  refine(qA3 true (puts st (P)) ([tRC]) (by simp) (by have hz:=qAJ (P) st;simp only [qAN,wt] at hb hz ⊢;omega)).holds.useT [] [(1,2),(2,3)] rfl (sk) (sk) fun e0 H0 hq=>?_
  rw [<- qAE] at hq
  obtain⟨rfl,rfl⟩:=hq
  refine⟨rfl,_,⟨5,((4,bO (puts st (P++[tRC])).s)::(0,wO 4 (puts st (P++[tRC])))::[])⟩,rfl,rfl,?_⟩
  exact⟨[],[(2,4)],[], .returned und,wH' (puts st (P++[tRC])),rfl,sk,sk,rfl,by rw [i3]⟩
 have j1:(i:Int)<((l.map Cs.cells).length:Nat):=j1
 rw [hm] at j1
 have i1:i<l.length:=by omega
 have hcell:=qMG i1
 have hstep:=fun h=>qFr (l:=l) (i:=i) h
 have hlast:=fun h=>qFs (l:=l) (i:=i) h
 rcases hx:l.getD i cs0 with ⟨⟨op,n,rel,val,r,s,ar⟩,nums⟩
 rw [hx] at hcell hstep hlast
 simp only [] at hstep hlast
 have hnm:(nums.map i64).length=nums.length:=List.length_map ..
 have hnums:qCX nums=true:=by
  rcases Nat.lt_or_ge (i+1) l.length with h3 | h3
  ·rw [hstep h3] at i2
   simp only [Bool.and_eq_true] at i2
   exact i2.1.1
  ·rw [hlast (by omega)] at i2
   simp only [Bool.and_eq_true] at i2
   exact i2.1
 obtain⟨_,_,hwt⟩:=qE8 hnums
 refine⟨_,⟨by omega,(⟨.mk op n rel val r s ar,nums⟩:Cs).cells,hcell,rfl⟩,?_⟩
 refine⟨((l.length - 1:Nat):Int),by show _=IntKind.i64.wrap (((l.map Cs.cells).length:Int) - 1);rw [hm,show(l.length:Int) - 1=((l.length - 1:Nat):Int) by omega];exact w6z,?_⟩
 refine QAD (fun m4=>?_) (fun m4=>?_)
 ·have m4:(i:Int)=((l.length - 1:Nat):Int):=m4
  have hR:=qLk (by omega) hx
  rw [hR] at i3
  obtain⟨F,hF⟩:∃ F,((P++[qCQ])++[qAu])++qBr (nums.drop 0)=F:=⟨_,rfl⟩
  have hFG:F++[tRC]=G:=by rw [<- hF,<- i3];simp
  have hFw:st.sz+wt F<=100000000:=by rw [<- hFG,qAN] at hb0;omega
  have hb:st.sz+wt ((P++[qCQ])++[qAu])<=100000000:=by rw [<- hF,qAN] at hFw;omega
  refine(qA3 true (puts st (P)) ([qCQ]) (by simp) (by have hz:=qAJ (P) st;simp only [qAN,wt] at hb hz ⊢;omega)).holds.useT [] [(1,2),(2,4)] rfl (sk) (sk) fun e0 H0 hq=>?_
  rw [<- qAE] at hq
  obtain⟨rfl,rfl⟩:=hq
  refine⟨rfl,_,⟨6,((5,bO (puts st (P++[qCQ])).s)::(0,wO 5 (puts st (P++[qCQ])))::[(3,qXZ ⟨.mk op n rel val r s ar,nums⟩)])⟩,rfl,rfl,?_⟩
  refine(qA3 true (puts st (P++[qCQ])) ([qAu]) (by simp) (by have hz:=qAJ (P++[qCQ]) st;simp only [qAN,wt] at hb hz ⊢;omega)).holds.useT [] [(1,5),(2,6)] rfl (sk) (sk) fun e0 H0 hq=>?_
  rw [<- qAE] at hq
  obtain⟨rfl,rfl⟩:=hq
  refine⟨rfl,_,⟨8,((7,bO (puts st (P++[qCQ]++[qAu])).s)::(0,wO 7 (puts st (P++[qCQ]++[qAu])))::[(3,qXZ ⟨.mk op n rel val r s ar,nums⟩)])⟩,rfl,rfl,?_⟩
  refine⟨qBb × Nat,fun y=>[(0, .ptr 0 0 0),(1, .p (css l)),(6,vB true),(12, .p (css l)),(13, .p (i64 (l.map Cs.cells).length)),(14, .p (i64 i)),(36, .p (ints nums)),(37, .p (i64 (nums.map i64).length)),(38, .p (i64 y.2))],fun y=>wH' (puts st y.1),fun y=>y.2<=nums.length/\y.1++qBr (nums.drop y.2)=F,fun y=>nums.length - y.2,?_,?_⟩
  ·exact⟨(((P++[qCQ])++[qAu]),0),⟨Nat.zero_le _,hF⟩,qAB [] [(2,7)] [] rfl (sk) (sk) rfl⟩
  clear hb
  rintro⟨Q,k⟩ ⟨k1,k2⟩
  simp only [] at k1 k2
  refine QAD (fun m1=>?_) (fun m1=>?_)
  ·have m1:(k:Int)<((nums.map i64).length:Nat):=m1
   rw [hnm] at m1
   have hk:k<nums.length:=by omega
   have hw:=hwt _ (qAL 0 hk)
   have hcell2:=qGM hk
   have hd:=qUH hk
   generalize nums.getD k 0=x at hw hcell2 hd
   have e2:qBr (nums.drop k)=qHc x++qBr (nums.drop (k+1)):=by rw [hd];rfl
   rw [e2,<- List.append_assoc] at k2
   have hb:st.sz+wt (Q++qHc x)<=100000000:=by rw [<- k2,qAN] at hFw;omega
   simp only [qGW,Bool.and_eq_true,decide_eq_true_eq] at hw
   refine⟨_,⟨by omega,i64 x,hcell2,rfl⟩,?_⟩
   by_cases c:x<0
   ·have e3:qHc x=[qAn]++[qAe (-x)]:=if_pos c
    rw [e3,<- List.append_assoc] at k2 hb
    refine And.intro (fun _=>?_) (fun h=>absurd c h)
    refine(qA3 true (puts st (Q)) ([qAn]) (by simp) (by have hz:=qAJ (Q) st;simp only [qAN,wt] at hb hz ⊢;omega)).holds.useT [] [(1,2),(2,3)] rfl (sk) (sk) fun e0 H0 hq=>?_
    rw [<- qAE] at hq
    obtain⟨rfl,rfl⟩:=hq
    refine⟨rfl,_,⟨5,((4,bO (puts st (Q++[qAn])).s)::(0,wO 4 (puts st (Q++[qAn])))::[])⟩,rfl,rfl,?_⟩
    refine⟨-x,by rw [Int.zero_sub];exact w6z,?_⟩
    refine(qCv (-x) (by simp only [qBt,Bool.and_eq_true,decide_eq_true_eq];omega)).eq rfl ?_
    refine(qA3 true (puts st (Q++[qAn])) ([qAe (-x)]) (by simp) (by have hz:=qAJ (Q++[qAn]) st;simp only [qAN,wt] at hb hz ⊢;omega)).holds.useT [] [(1,4),(2,5)] rfl (sk) (sk) fun e0 H0 hq=>?_
    rw [<- qAE] at hq
    obtain⟨rfl,rfl⟩:=hq
    refine⟨rfl,_,⟨7,((6,bO (puts st (Q++[qAn]++[qAe (-x)])).s)::(0,wO 6 (puts st (Q++[qAn]++[qAe (-x)])))::[])⟩,rfl,rfl,?_⟩
    refine⟨_,w6z,?_⟩
    exact⟨((Q++[qAn])++[qAe (-x)],k+1),⟨hk,k2⟩,qAB [] [(2,6)] [] rfl (sk) (sk) rfl,by show nums.length - (k+1)<nums.length - k;omega⟩
   ·have e3:qHc x=[qAe x]:=if_neg c
    rw [e3] at k2 hb
    refine And.intro (fun h=>absurd h c) (fun _=>?_)
    refine(qCv x (by simp only [qBt,Bool.and_eq_true,decide_eq_true_eq];omega)).eq rfl ?_
    refine(qA3 true (puts st (Q)) ([qAe x]) (by simp) (by have hz:=qAJ (Q) st;simp only [qAN,wt] at hb hz ⊢;omega)).holds.useT [] [(1,2),(2,3)] rfl (sk) (sk) fun e0 H0 hq=>?_
    rw [<- qAE] at hq
    obtain⟨rfl,rfl⟩:=hq
    refine⟨rfl,_,⟨5,((4,bO (puts st (Q++[qAe x])).s)::(0,wO 4 (puts st (Q++[qAe x])))::[])⟩,rfl,rfl,?_⟩
    refine⟨_,w6z,?_⟩
    exact⟨(Q++[qAe x],k+1),⟨hk,k2⟩,qAB [] [(2,4)] [] rfl (sk) (sk) rfl,by show nums.length - (k+1)<nums.length - k;omega⟩
  have m1:¬ (k:Int)<((nums.map i64).length:Nat):=m1
  rw [hnm] at m1
  rw [List.drop_eq_nil_of_le (by omega),show qBr []=[] from rfl,List.append_nil] at k2
  subst k2
  refine⟨_,w6z,?_⟩
  exact⟨(Q,i+1),⟨by omega,by rw [List.drop_eq_nil_of_le (by omega)];rfl,by rw [List.drop_eq_nil_of_le (by omega)];exact hFG⟩,qAB [] [] [] rfl (sk) (sk) rfl,by show l.length - (i+1)<l.length - i;omega⟩
 have m4:¬ (i:Int)=((l.length - 1:Nat):Int):=m4
 have hR:=qLj (by omega) hx
 rw [hR] at i3
 rw [hstep (by omega)] at i2
 simp only [Bool.and_eq_true] at i2
 obtain⟨⟨_,i4⟩,i5⟩:=i2
 obtain⟨kk,hk8⟩:=Option.isSome_iff_exists.1 i4
 obtain⟨F,hF⟩:∃ F,((P++qAm (.mk op n rel val r s ar))++[qAu])++qBr (nums.drop 0)=F:=⟨_,rfl⟩
 have hFG:(F++[qAZ])++(qBf (l.drop (i+1))++[tRC])=G:=by rw [<- hF,<- i3];simp
 have hFs:st.sz+wt (F++[qAZ])<=100000000:=by rw [<- hFG,qAN] at hb0;omega
 have hFw:st.sz+wt F<=100000000:=by rw [qAN] at hFs;omega
 have hb:st.sz+wt ((P++qAm (.mk op n rel val r s ar))++[qAu])<=100000000:=by rw [<- hF,qAN] at hFw;omega
 have hC:=qVc kk hk8 (puts st P) (by have hz:=qAJ P st;simp only [qAN,wt] at hb ⊢;omega)
 generalize qAm (.mk op n rel val r s ar)=X at hC hF hb
 refine(hC).holds.useT [] [(1,2)] rfl (sk) (sk) fun e0 H0 hq=>?_
 unfold WQ at hq
 rw [<- qAE] at hq
 obtain⟨rfl,rfl⟩:=hq
 refine⟨rfl,_,⟨5,((4,bO (puts st (P++X)).s)::(0,wO 4 (puts st (P++X)))::[(3,qXZ ⟨.mk op n rel val r s ar,nums⟩)])⟩,rfl,rfl,?_⟩
 refine(qA3 true (puts st (P++X)) ([qAu]) (by simp) (by have hz:=qAJ (P++X) st;simp only [qAN,wt] at hb hz ⊢;omega)).holds.useT [] [(1,4),(2,5)] rfl (sk) (sk) fun e0 H0 hq=>?_
 rw [<- qAE] at hq
 obtain⟨rfl,rfl⟩:=hq
 refine⟨rfl,_,⟨7,((6,bO (puts st (P++X++[qAu])).s)::(0,wO 6 (puts st (P++X++[qAu])))::[(3,qXZ ⟨.mk op n rel val r s ar,nums⟩)])⟩,rfl,rfl,?_⟩
 refine⟨qBb × Nat,fun y=>[(0, .ptr 0 0 0),(1, .p (css l)),(6,vB false),(12, .p (css l)),(13, .p (i64 (l.map Cs.cells).length)),(14, .p (i64 i)),(36, .p (ints nums)),(37, .p (i64 (nums.map i64).length)),(38, .p (i64 y.2))],fun y=>wH' (puts st y.1),fun y=>y.2<=nums.length/\y.1++qBr (nums.drop y.2)=F,fun y=>nums.length - y.2,?_,?_⟩
 ·exact⟨(((P++X)++[qAu]),0),⟨Nat.zero_le _,hF⟩,qAB [] [(2,6)] [] rfl (sk) (sk) rfl⟩
 clear hb
 rintro⟨Q,k⟩ ⟨k1,k2⟩
 simp only [] at k1 k2
 refine QAD (fun m1=>?_) (fun m1=>?_)
 ·have m1:(k:Int)<((nums.map i64).length:Nat):=m1
  rw [hnm] at m1
  have hk:k<nums.length:=by omega
  have hw:=hwt _ (qAL 0 hk)
  have hcell2:=qGM hk
  have hd:=qUH hk
  generalize nums.getD k 0=x at hw hcell2 hd
  have e2:qBr (nums.drop k)=qHc x++qBr (nums.drop (k+1)):=by rw [hd];rfl
  rw [e2,<- List.append_assoc] at k2
  have hb:st.sz+wt (Q++qHc x)<=100000000:=by rw [<- k2,qAN] at hFw;omega
  simp only [qGW,Bool.and_eq_true,decide_eq_true_eq] at hw
  refine⟨_,⟨by omega,i64 x,hcell2,rfl⟩,?_⟩
  by_cases c:x<0
  ·have e3:qHc x=[qAn]++[qAe (-x)]:=if_pos c
   rw [e3,<- List.append_assoc] at k2 hb
   refine And.intro (fun _=>?_) (fun h=>absurd c h)
   refine(qA3 true (puts st (Q)) ([qAn]) (by simp) (by have hz:=qAJ (Q) st;simp only [qAN,wt] at hb hz ⊢;omega)).holds.useT [] [(1,2),(2,3)] rfl (sk) (sk) fun e0 H0 hq=>?_
   rw [<- qAE] at hq
   obtain⟨rfl,rfl⟩:=hq
   refine⟨rfl,_,⟨5,((4,bO (puts st (Q++[qAn])).s)::(0,wO 4 (puts st (Q++[qAn])))::[])⟩,rfl,rfl,?_⟩
   refine⟨-x,by rw [Int.zero_sub];exact w6z,?_⟩
   refine(qCv (-x) (by simp only [qBt,Bool.and_eq_true,decide_eq_true_eq];omega)).eq rfl ?_
   refine(qA3 true (puts st (Q++[qAn])) ([qAe (-x)]) (by simp) (by have hz:=qAJ (Q++[qAn]) st;simp only [qAN,wt] at hb hz ⊢;omega)).holds.useT [] [(1,4),(2,5)] rfl (sk) (sk) fun e0 H0 hq=>?_
   rw [<- qAE] at hq
   obtain⟨rfl,rfl⟩:=hq
   refine⟨rfl,_,⟨7,((6,bO (puts st (Q++[qAn]++[qAe (-x)])).s)::(0,wO 6 (puts st (Q++[qAn]++[qAe (-x)])))::[])⟩,rfl,rfl,?_⟩
   refine⟨_,w6z,?_⟩
   exact⟨((Q++[qAn])++[qAe (-x)],k+1),⟨hk,k2⟩,qAB [] [(2,6)] [] rfl (sk) (sk) rfl,by show nums.length - (k+1)<nums.length - k;omega⟩
  ·have e3:qHc x=[qAe x]:=if_neg c
   rw [e3] at k2 hb
   refine And.intro (fun h=>absurd h c) (fun _=>?_)
   refine(qCv x (by simp only [qBt,Bool.and_eq_true,decide_eq_true_eq];omega)).eq rfl ?_
   refine(qA3 true (puts st (Q)) ([qAe x]) (by simp) (by have hz:=qAJ (Q) st;simp only [qAN,wt] at hb hz ⊢;omega)).holds.useT [] [(1,2),(2,3)] rfl (sk) (sk) fun e0 H0 hq=>?_
   rw [<- qAE] at hq
   obtain⟨rfl,rfl⟩:=hq
   refine⟨rfl,_,⟨5,((4,bO (puts st (Q++[qAe x])).s)::(0,wO 4 (puts st (Q++[qAe x])))::[])⟩,rfl,rfl,?_⟩
   refine⟨_,w6z,?_⟩
   exact⟨(Q++[qAe x],k+1),⟨hk,k2⟩,qAB [] [(2,4)] [] rfl (sk) (sk) rfl,by show nums.length - (k+1)<nums.length - k;omega⟩
 have m1:¬ (k:Int)<((nums.map i64).length:Nat):=m1
 rw [hnm] at m1
 rw [List.drop_eq_nil_of_le (by omega),show qBr []=[] from rfl,List.append_nil] at k2
 subst k2
 have hb:=hFs
 refine(qA3 true (puts st (Q)) ([qAZ]) (by simp) (by have hz:=qAJ (Q) st;simp only [qAN,wt] at hb hz ⊢;omega)).holds.useT [] [(1,2),(2,3)] rfl (sk) (sk) fun e0 H0 hq=>?_
 rw [<- qAE] at hq
 obtain⟨rfl,rfl⟩:=hq
 refine⟨rfl,_,⟨5,((4,bO (puts st (Q++[qAZ])).s)::(0,wO 4 (puts st (Q++[qAZ])))::[])⟩,rfl,rfl,?_⟩
 refine⟨_,w6z,?_⟩
 exact⟨(Q++[qAZ],i+1),⟨by omega,i5,hFG⟩,qAB [] [(2,4)] [] rfl (sk) (sk) rfl,by show l.length - (i+1)<l.length - i;omega⟩
theorem qDc {n:Int} (h0:0<=n) (h:n<=9999):qBt n=true:=by
 simp only [qBt,Bool.and_eq_true,decide_eq_true_eq];omega
theorem qN6 {t:List UInt8} (h:qAj t=true):t.length<=10:=(qJy (qDV h)).2
theorem qIJ {op n rel val:Int} {r:Rf} {st:List Int} (hb:qAQ op n rel val r st=true):qBl r=true/\(op=6->qBt n=true/\qBt val=true/\1<=rel/\rel<=4)/\(op=5->qHr st=true)/\(¬ op=5->¬ op=6->qBt n=true/\1<=op/\op<=4):=by
 unfold qAQ at hb
 by_cases c6:op=6
 ·rw [if_neg (by omega),if_neg (by omega),if_pos c6] at hb
  simp only [Bool.and_eq_true,decide_eq_true_eq] at hb
  obtain⟨⟨⟨⟨⟨⟨b1,b2⟩,b3⟩,b4⟩,b5⟩,b6⟩,b7⟩:=hb
  exact⟨b1,fun _=>⟨b3,b4,b5,b6⟩,fun h=>by omega,fun _ h=>absurd c6 h⟩
 ·by_cases c5:op=5
  ·rw [if_neg (by omega),if_pos c5] at hb
   simp only [Bool.and_eq_true,decide_eq_true_eq] at hb
   obtain⟨⟨⟨⟨b1,b2⟩,b3⟩,b4⟩,b5⟩:=hb
   exact⟨b1,fun h=>absurd h c6,fun _=>b5,fun h=>absurd c5 h⟩
  ·by_cases c1:op=1∨op=2∨op=3∨op=4
   ·rw [if_pos c1] at hb
    simp only [Bool.and_eq_true,decide_eq_true_eq] at hb
    exact⟨hb.1.1.1.1,fun h=>absurd h c6,fun h=>absurd h c5,fun _ _=>⟨hb.1.1.1.2,by omega,by omega⟩⟩
   ·rw [if_neg c1,if_neg c5,if_neg c6] at hb
    cases hb
theorem qQ9 {d:De} (hv:qBa d=true):(qMg d).length<=200000:=by
 have:=qDR hv
 have h2:=qMC false this.1
 rw [qMg,List.length_append]
 have h3:=this.2
 simp only [List.length_cons,List.length_nil]
 omega
theorem qOv (d:De) (ds:List De):qBF (d::ds)=qMg d++qBF ds:=rfl
theorem qKv:∀ {ds:List De},(∀ d∈ds,qBa d=true)->(qBF ds).length<=200000 * ds.length
 | [],_=>by simp [qBF]
 | d::ds,h=>by
  have h1:=qQ9 (h d (List.mem_cons_self ..))
  have h2:=qKv (ds:=ds) fun x hx=>h x (List.mem_cons_of_mem _ hx)
  rw [qOv,List.length_append,List.length_cons,Nat.mul_succ]
  omega
theorem qW5 (u:Bool) (st:Wst) (d:De) (hv:qBa d=true) (hb0:st.sz+wt (declT d)<=100000000):HoldsG cx 42 [.ptr 0 0 0, .p d.pv] (wH u st) (WQ (puts st (declT d))):=by
 obtain⟨k,n,nm,pl,rs,cs⟩:=d
 simp only [qBa,Bool.and_eq_true,decide_eq_true_eq,List.all_eq_true] at hv
 obtain⟨⟨⟨v1,v2⟩,v3⟩,v4⟩:=hv
 unfold qAt at v4
 simp only [] at v4
 by_cases c1:k=1
 ·subst c1
  have e:declT ⟨1,n,nm,pl,rs,cs⟩=([]++[qCP,qAe n])++[qAZ]:=rfl
  have hb:=hb0
  rw [e] at hb
  generalize declT ⟨1,n,nm,pl,rs,cs⟩=X at e ⊢
  refine qAA Tryz.func42 rfl rfl rfl ?_
  refine(qCv n v1).eq rfl ?_
  refine And.intro (fun _=>?_) (fun h=>absurd rfl h)
  refine(qA3 u (puts st ([])) ([qCP,qAe n]) (by simp) (by have hz:=qAJ ([]) st;simp only [qAN,wt] at hb hz ⊢;omega)).holds.useT [] [(2,3)] rfl (by first | (cases u <;> (exact sk)) | (exact sk)) (sk) fun e0 H0 hq=>?_
  rw [<- qAE] at hq
  obtain⟨rfl,rfl⟩:=hq
  refine⟨rfl,_,⟨5,((4,bO (puts st ([]++[qCP,qAe n])).s)::(0,wO 4 (puts st ([]++[qCP,qAe n])))::[(2,deO _)])⟩,rfl,rfl,?_⟩
  refine(qA3 true (puts st ([]++[qCP,qAe n])) ([qAZ]) (by simp) (by have hz:=qAJ ([]++[qCP,qAe n]) st;simp only [qAN,wt] at hb hz ⊢;omega)).holds.useT [] [(1,4),(2,5)] rfl (sk) (sk) fun e0 H0 hq=>?_
  rw [<- qAE] at hq
  obtain⟨rfl,rfl⟩:=hq
  refine⟨rfl,_,⟨7,((6,bO (puts st ([]++[qCP,qAe n]++[qAZ])).s)::(0,wO 6 (puts st ([]++[qCP,qAe n]++[qAZ])))::[(2,deO _)])⟩,rfl,rfl,?_⟩
  exact⟨[],[(2,6)],[], .returned und,wH' (puts st (([]++[qCP,qAe n])++[qAZ])),rfl,sk,sk,rfl,by rw [e]⟩
 rw [if_neg c1] at v4
 by_cases c2:k=2
 ·subst c2
  have e:declT ⟨2,n,nm,pl,rs,cs⟩=([]++[qCO,nm,tEq,qAe n])++[qAZ]:=rfl
  have hb:=hb0
  rw [e] at hb
  generalize declT ⟨2,n,nm,pl,rs,cs⟩=X at e ⊢
  refine qAA Tryz.func42 rfl rfl rfl ?_
  refine(qCv n v1).eq rfl ?_
  refine And.intro (fun h=>absurd (show(2:Int)=1 from h) (by decide)) (fun _=>?_)
  refine And.intro (fun _=>?_) (fun h=>absurd rfl h)
  refine(qA3 u (puts st ([])) ([qCO,nm,tEq,qAe n]) (by simp) (by have hz:=qAJ ([]) st;simp only [qAN,wt] at hb hz ⊢;omega)).holds.useT [] [(2,3)] rfl (by first | (cases u <;> (exact sk)) | (exact sk)) (sk) fun e0 H0 hq=>?_
  rw [<- qAE] at hq
  obtain⟨rfl,rfl⟩:=hq
  refine⟨rfl,_,⟨5,((4,bO (puts st ([]++[qCO,nm,tEq,qAe n])).s)::(0,wO 4 (puts st ([]++[qCO,nm,tEq,qAe n])))::[(2,deO _)])⟩,rfl,rfl,?_⟩
  refine(qA3 true (puts st ([]++[qCO,nm,tEq,qAe n])) ([qAZ]) (by simp) (by have hz:=qAJ ([]++[qCO,nm,tEq,qAe n]) st;simp only [qAN,wt] at hb hz ⊢;omega)).holds.useT [] [(1,4),(2,5)] rfl (sk) (sk) fun e0 H0 hq=>?_
  rw [<- qAE] at hq
  obtain⟨rfl,rfl⟩:=hq
  refine⟨rfl,_,⟨7,((6,bO (puts st ([]++[qCO,nm,tEq,qAe n]++[qAZ])).s)::(0,wO 6 (puts st ([]++[qCO,nm,tEq,qAe n]++[qAZ])))::[(2,deO _)])⟩,rfl,rfl,?_⟩
  exact⟨[],[(2,6)],[], .returned und,wH' (puts st (([]++[qCO,nm,tEq,qAe n])++[qAZ])),rfl,sk,sk,rfl,by rw [e]⟩
 rw [if_neg c2] at v4
 by_cases c3:k=3
 ·subst c3
  simp only [if_true,Bool.and_eq_true] at v4
  obtain⟨_,v6⟩:=v4
  by_cases hp:pl=[]
  ·have e:declT ⟨3,n,nm,pl,rs,cs⟩=((((([]++[qAx,nm])++[qAu,qAe n])++qAT qAg rs)++[tEq])++qBL cs)++[qAZ]:=by
    show([qAx,nm]++((if pl=[] then [] else [tLB,pl,tRB])++([qAu,qAe n]++(qAT qAg rs++(tEq::qBL cs)))))++[qAZ]=_
    rw [if_pos hp];simp
   have hb:=hb0
   rw [e] at hb
   generalize declT ⟨3,n,nm,pl,rs,cs⟩=X at e ⊢
   refine qAA Tryz.func42 rfl rfl rfl ?_
   refine(qCv n v1).eq rfl ?_
   refine And.intro (fun h=>absurd (show(3:Int)=1 from h) (by decide)) (fun _=>?_)
   refine And.intro (fun h=>absurd (show(3:Int)=2 from h) (by decide)) (fun _=>?_)
   refine And.intro (fun _=>?_) (fun h=>absurd rfl h)
   refine(qA3 u (puts st ([])) ([qAx,nm]) (by simp) (by have hz:=qAJ ([]) st;simp only [qAN,wt] at hb hz ⊢;omega)).holds.useT [] [(2,3)] rfl (by first | (cases u <;> (exact sk)) | (exact sk)) (sk) fun e0 H0 hq=>?_
   rw [<- qAE] at hq
   obtain⟨rfl,rfl⟩:=hq
   refine⟨rfl,_,⟨5,((4,bO (puts st ([]++[qAx,nm])).s)::(0,wO 4 (puts st ([]++[qAx,nm])))::[(2,deO _)])⟩,rfl,rfl,?_⟩
   refine And.intro (fun _=>?_) (fun h=>absurd hp h)
   refine(qA3 true (puts st ([]++[qAx,nm])) ([qAu,qAe n]) (by simp) (by have hz:=qAJ ([]++[qAx,nm]) st;simp only [qAN,wt] at hb hz ⊢;omega)).holds.useT [] [(1,4),(2,5)] rfl (sk) (sk) fun e0 H0 hq=>?_
   rw [<- qAE] at hq
   obtain⟨rfl,rfl⟩:=hq
   refine⟨rfl,_,⟨7,((6,bO (puts st ([]++[qAx,nm]++[qAu,qAe n])).s)::(0,wO 6 (puts st ([]++[qAx,nm]++[qAu,qAe n])))::[(2,deO _)])⟩,rfl,rfl,?_⟩
   refine(qNm (puts st (([]++[qAx,nm])++[qAu,qAe n])) qAg rs v3 v2 (by have hz:=qAJ (([]++[qAx,nm])++[qAu,qAe n]) st;simp only [qAN,wt] at hb hz ⊢;omega)).holds.useT [] [(1,6)] rfl (sk) (sk) fun e0 H0 hq=>?_
   unfold WQ at hq
   rw [<- qAE] at hq
   obtain⟨rfl,rfl⟩:=hq
   refine⟨rfl,_,⟨8,((7,bO (puts st ((([]++[qAx,nm])++[qAu,qAe n])++qAT qAg rs)).s)::(0,wO 7 (puts st ((([]++[qAx,nm])++[qAu,qAe n])++qAT qAg rs)))::[(2,deO _)])⟩,rfl,rfl,?_⟩
   refine(qA3 true (puts st ((([]++[qAx,nm])++[qAu,qAe n])++qAT qAg rs)) ([tEq]) (by simp) (by have hz:=qAJ ((([]++[qAx,nm])++[qAu,qAe n])++qAT qAg rs) st;simp only [qAN,wt] at hb hz ⊢;omega)).holds.useT [] [(1,7),(2,8)] rfl (sk) (sk) fun e0 H0 hq=>?_
   rw [<- qAE] at hq
   obtain⟨rfl,rfl⟩:=hq
   refine⟨rfl,_,⟨10,((9,bO (puts st ((([]++[qAx,nm])++[qAu,qAe n])++qAT qAg rs++[tEq])).s)::(0,wO 9 (puts st ((([]++[qAx,nm])++[qAu,qAe n])++qAT qAg rs++[tEq])))::[(2,deO _)])⟩,rfl,rfl,?_⟩
   refine(qQI (puts st (((([]++[qAx,nm])++[qAu,qAe n])++qAT qAg rs)++[tEq])) cs v6 (by have hz:=qAJ (((([]++[qAx,nm])++[qAu,qAe n])++qAT qAg rs)++[tEq]) st;simp only [qAN,wt] at hb hz ⊢;omega)).holds.useT [] [(1,9)] rfl (sk) (sk) fun e0 H0 hq=>?_
   unfold WQ at hq
   rw [<- qAE] at hq
   obtain⟨rfl,rfl⟩:=hq
   refine⟨rfl,_,⟨11,((10,bO (puts st ((((([]++[qAx,nm])++[qAu,qAe n])++qAT qAg rs)++[tEq])++qBL cs)).s)::(0,wO 10 (puts st ((((([]++[qAx,nm])++[qAu,qAe n])++qAT qAg rs)++[tEq])++qBL cs)))::[(2,deO _)])⟩,rfl,rfl,?_⟩
   refine(qA3 true (puts st ((((([]++[qAx,nm])++[qAu,qAe n])++qAT qAg rs)++[tEq])++qBL cs)) ([qAZ]) (by simp) (by have hz:=qAJ ((((([]++[qAx,nm])++[qAu,qAe n])++qAT qAg rs)++[tEq])++qBL cs) st;simp only [qAN,wt] at hb hz ⊢;omega)).holds.useT [] [(1,10),(2,11)] rfl (sk) (sk) fun e0 H0 hq=>?_
   rw [<- qAE] at hq
   obtain⟨rfl,rfl⟩:=hq
   refine⟨rfl,_,⟨13,((12,bO (puts st ((((([]++[qAx,nm])++[qAu,qAe n])++qAT qAg rs)++[tEq])++qBL cs++[qAZ])).s)::(0,wO 12 (puts st ((((([]++[qAx,nm])++[qAu,qAe n])++qAT qAg rs)++[tEq])++qBL cs++[qAZ])))::[(2,deO _)])⟩,rfl,rfl,?_⟩
   exact⟨[],[(2,12)],[], .returned und,wH' (puts st (((((([]++[qAx,nm])++[qAu,qAe n])++qAT qAg rs)++[tEq])++qBL cs)++[qAZ])),rfl,sk,sk,rfl,by rw [e]⟩
  ·have e:declT ⟨3,n,nm,pl,rs,cs⟩=(((((([]++[qAx,nm])++[tLB,pl,tRB])++[qAu,qAe n])++qAT qAg rs)++[tEq])++qBL cs)++[qAZ]:=by
    show([qAx,nm]++((if pl=[] then [] else [tLB,pl,tRB])++([qAu,qAe n]++(qAT qAg rs++(tEq::qBL cs)))))++[qAZ]=_
    rw [if_neg hp];simp
   have hb:=hb0
   rw [e] at hb
   generalize declT ⟨3,n,nm,pl,rs,cs⟩=X at e ⊢
   refine qAA Tryz.func42 rfl rfl rfl ?_
   refine(qCv n v1).eq rfl ?_
   refine And.intro (fun h=>absurd (show(3:Int)=1 from h) (by decide)) (fun _=>?_)
   refine And.intro (fun h=>absurd (show(3:Int)=2 from h) (by decide)) (fun _=>?_)
   refine And.intro (fun _=>?_) (fun h=>absurd rfl h)
   refine(qA3 u (puts st ([])) ([qAx,nm]) (by simp) (by have hz:=qAJ ([]) st;simp only [qAN,wt] at hb hz ⊢;omega)).holds.useT [] [(2,3)] rfl (by first | (cases u <;> (exact sk)) | (exact sk)) (sk) fun e0 H0 hq=>?_
   rw [<- qAE] at hq
   obtain⟨rfl,rfl⟩:=hq
   refine⟨rfl,_,⟨5,((4,bO (puts st ([]++[qAx,nm])).s)::(0,wO 4 (puts st ([]++[qAx,nm])))::[(2,deO _)])⟩,rfl,rfl,?_⟩
   refine And.intro (fun h=>absurd h hp) (fun _=>?_)
   refine(qA3 true (puts st ([]++[qAx,nm])) ([tLB,pl,tRB]) (by simp) (by have hz:=qAJ ([]++[qAx,nm]) st;simp only [qAN,wt] at hb hz ⊢;omega)).holds.useT [] [(1,4),(2,5)] rfl (sk) (sk) fun e0 H0 hq=>?_
   rw [<- qAE] at hq
   obtain⟨rfl,rfl⟩:=hq
   refine⟨rfl,_,⟨7,((6,bO (puts st ([]++[qAx,nm]++[tLB,pl,tRB])).s)::(0,wO 6 (puts st ([]++[qAx,nm]++[tLB,pl,tRB])))::[(2,deO _)])⟩,rfl,rfl,?_⟩
   refine(qA3 true (puts st (([]++[qAx,nm])++[tLB,pl,tRB])) ([qAu,qAe n]) (by simp) (by have hz:=qAJ (([]++[qAx,nm])++[tLB,pl,tRB]) st;simp only [qAN,wt] at hb hz ⊢;omega)).holds.useT [] [(1,6),(2,7)] rfl (sk) (sk) fun e0 H0 hq=>?_
   rw [<- qAE] at hq
   obtain⟨rfl,rfl⟩:=hq
   refine⟨rfl,_,⟨9,((8,bO (puts st (([]++[qAx,nm])++[tLB,pl,tRB]++[qAu,qAe n])).s)::(0,wO 8 (puts st (([]++[qAx,nm])++[tLB,pl,tRB]++[qAu,qAe n])))::[(2,deO _)])⟩,rfl,rfl,?_⟩
   refine(qNm (puts st ((([]++[qAx,nm])++[tLB,pl,tRB])++[qAu,qAe n])) qAg rs v3 v2 (by have hz:=qAJ ((([]++[qAx,nm])++[tLB,pl,tRB])++[qAu,qAe n]) st;simp only [qAN,wt] at hb hz ⊢;omega)).holds.useT [] [(1,8)] rfl (sk) (sk) fun e0 H0 hq=>?_
   unfold WQ at hq
   rw [<- qAE] at hq
   obtain⟨rfl,rfl⟩:=hq
   refine⟨rfl,_,⟨10,((9,bO (puts st (((([]++[qAx,nm])++[tLB,pl,tRB])++[qAu,qAe n])++qAT qAg rs)).s)::(0,wO 9 (puts st (((([]++[qAx,nm])++[tLB,pl,tRB])++[qAu,qAe n])++qAT qAg rs)))::[(2,deO _)])⟩,rfl,rfl,?_⟩
   refine(qA3 true (puts st (((([]++[qAx,nm])++[tLB,pl,tRB])++[qAu,qAe n])++qAT qAg rs)) ([tEq]) (by simp) (by have hz:=qAJ (((([]++[qAx,nm])++[tLB,pl,tRB])++[qAu,qAe n])++qAT qAg rs) st;simp only [qAN,wt] at hb hz ⊢;omega)).holds.useT [] [(1,9),(2,10)] rfl (sk) (sk) fun e0 H0 hq=>?_
   rw [<- qAE] at hq
   obtain⟨rfl,rfl⟩:=hq
   refine⟨rfl,_,⟨12,((11,bO (puts st (((([]++[qAx,nm])++[tLB,pl,tRB])++[qAu,qAe n])++qAT qAg rs++[tEq])).s)::(0,wO 11 (puts st (((([]++[qAx,nm])++[tLB,pl,tRB])++[qAu,qAe n])++qAT qAg rs++[tEq])))::[(2,deO _)])⟩,rfl,rfl,?_⟩
   refine(qQI (puts st ((((([]++[qAx,nm])++[tLB,pl,tRB])++[qAu,qAe n])++qAT qAg rs)++[tEq])) cs v6 (by have hz:=qAJ ((((([]++[qAx,nm])++[tLB,pl,tRB])++[qAu,qAe n])++qAT qAg rs)++[tEq]) st;simp only [qAN,wt] at hb hz ⊢;omega)).holds.useT [] [(1,11)] rfl (sk) (sk) fun e0 H0 hq=>?_
   unfold WQ at hq
   rw [<- qAE] at hq
   obtain⟨rfl,rfl⟩:=hq
   refine⟨rfl,_,⟨13,((12,bO (puts st (((((([]++[qAx,nm])++[tLB,pl,tRB])++[qAu,qAe n])++qAT qAg rs)++[tEq])++qBL cs)).s)::(0,wO 12 (puts st (((((([]++[qAx,nm])++[tLB,pl,tRB])++[qAu,qAe n])++qAT qAg rs)++[tEq])++qBL cs)))::[(2,deO _)])⟩,rfl,rfl,?_⟩
   refine(qA3 true (puts st (((((([]++[qAx,nm])++[tLB,pl,tRB])++[qAu,qAe n])++qAT qAg rs)++[tEq])++qBL cs)) ([qAZ]) (by simp) (by have hz:=qAJ (((((([]++[qAx,nm])++[tLB,pl,tRB])++[qAu,qAe n])++qAT qAg rs)++[tEq])++qBL cs) st;simp only [qAN,wt] at hb hz ⊢;omega)).holds.useT [] [(1,12),(2,13)] rfl (sk) (sk) fun e0 H0 hq=>?_
   rw [<- qAE] at hq
   obtain⟨rfl,rfl⟩:=hq
   refine⟨rfl,_,⟨15,((14,bO (puts st (((((([]++[qAx,nm])++[tLB,pl,tRB])++[qAu,qAe n])++qAT qAg rs)++[tEq])++qBL cs++[qAZ])).s)::(0,wO 14 (puts st (((((([]++[qAx,nm])++[tLB,pl,tRB])++[qAu,qAe n])++qAT qAg rs)++[tEq])++qBL cs++[qAZ])))::[(2,deO _)])⟩,rfl,rfl,?_⟩
   exact⟨[],[(2,14)],[], .returned und,wH' (puts st ((((((([]++[qAx,nm])++[tLB,pl,tRB])++[qAu,qAe n])++qAT qAg rs)++[tEq])++qBL cs)++[qAZ])),rfl,sk,sk,rfl,by rw [e]⟩
 rw [if_neg c3] at v4
 by_cases c4:k=4
 ·subst c4
  have e:declT ⟨4,n,nm,pl,rs,cs⟩=(([]++[qBS,nm,qAu,qAe n])++qAT qBd rs)++[qAZ]:=rfl
  have hb:=hb0
  rw [e] at hb
  generalize declT ⟨4,n,nm,pl,rs,cs⟩=X at e ⊢
  refine qAA Tryz.func42 rfl rfl rfl ?_
  refine(qCv n v1).eq rfl ?_
  refine And.intro (fun h=>absurd (show(4:Int)=1 from h) (by decide)) (fun _=>?_)
  refine And.intro (fun h=>absurd (show(4:Int)=2 from h) (by decide)) (fun _=>?_)
  refine And.intro (fun h=>absurd (show(4:Int)=3 from h) (by decide)) (fun _=>?_)
  refine And.intro (fun _=>?_) (fun h=>absurd rfl h)
  refine(qA3 u (puts st ([])) ([qBS,nm,qAu,qAe n]) (by simp) (by have hz:=qAJ ([]) st;simp only [qAN,wt] at hb hz ⊢;omega)).holds.useT [] [(2,3)] rfl (by first | (cases u <;> (exact sk)) | (exact sk)) (sk) fun e0 H0 hq=>?_
  rw [<- qAE] at hq
  obtain⟨rfl,rfl⟩:=hq
  refine⟨rfl,_,⟨5,((4,bO (puts st ([]++[qBS,nm,qAu,qAe n])).s)::(0,wO 4 (puts st ([]++[qBS,nm,qAu,qAe n])))::[(2,deO _)])⟩,rfl,rfl,?_⟩
  refine(qNm (puts st ([]++[qBS,nm,qAu,qAe n])) qBd rs v3 v2 (by have hz:=qAJ ([]++[qBS,nm,qAu,qAe n]) st;simp only [qAN,wt] at hb hz ⊢;omega)).holds.useT [] [(1,4)] rfl (sk) (sk) fun e0 H0 hq=>?_
  unfold WQ at hq
  rw [<- qAE] at hq
  obtain⟨rfl,rfl⟩:=hq
  refine⟨rfl,_,⟨6,((5,bO (puts st (([]++[qBS,nm,qAu,qAe n])++qAT qBd rs)).s)::(0,wO 5 (puts st (([]++[qBS,nm,qAu,qAe n])++qAT qBd rs)))::[(2,deO _)])⟩,rfl,rfl,?_⟩
  refine(qA3 true (puts st (([]++[qBS,nm,qAu,qAe n])++qAT qBd rs)) ([qAZ]) (by simp) (by have hz:=qAJ (([]++[qBS,nm,qAu,qAe n])++qAT qBd rs) st;simp only [qAN,wt] at hb hz ⊢;omega)).holds.useT [] [(1,5),(2,6)] rfl (sk) (sk) fun e0 H0 hq=>?_
  rw [<- qAE] at hq
  obtain⟨rfl,rfl⟩:=hq
  refine⟨rfl,_,⟨8,((7,bO (puts st (([]++[qBS,nm,qAu,qAe n])++qAT qBd rs++[qAZ])).s)::(0,wO 7 (puts st (([]++[qBS,nm,qAu,qAe n])++qAT qBd rs++[qAZ])))::[(2,deO _)])⟩,rfl,rfl,?_⟩
  exact⟨[],[(2,7)],[], .returned und,wH' (puts st ((([]++[qBS,nm,qAu,qAe n])++qAT qBd rs)++[qAZ])),rfl,sk,sk,rfl,by rw [e]⟩
 rw [if_neg c4] at v4
 by_cases c5:k=5
 ·subst c5
  simp only [if_true,Bool.and_eq_true] at v4
  obtain⟨_,v6⟩:=v4
  have e:declT ⟨5,n,nm,pl,rs,cs⟩=(((([]++[qB4])++qAT qAg rs)++[tEq])++qBL cs)++[qAZ]:=by
   show(qB4::(qAT qAg rs++(tEq::qBL cs)))++[qAZ]=_
   simp
  have hb:=hb0
  rw [e] at hb
  generalize declT ⟨5,n,nm,pl,rs,cs⟩=X at e ⊢
  refine qAA Tryz.func42 rfl rfl rfl ?_
  refine(qCv n v1).eq rfl ?_
  refine And.intro (fun h=>absurd (show(5:Int)=1 from h) (by decide)) (fun _=>?_)
  refine And.intro (fun h=>absurd (show(5:Int)=2 from h) (by decide)) (fun _=>?_)
  refine And.intro (fun h=>absurd (show(5:Int)=3 from h) (by decide)) (fun _=>?_)
  refine And.intro (fun h=>absurd (show(5:Int)=4 from h) (by decide)) (fun _=>?_)
  refine And.intro (fun _=>?_) (fun h=>absurd rfl h)
  refine(qA3 u (puts st ([])) ([qB4]) (by simp) (by have hz:=qAJ ([]) st;simp only [qAN,wt] at hb hz ⊢;omega)).holds.useT [] [(2,3)] rfl (by first | (cases u <;> (exact sk)) | (exact sk)) (sk) fun e0 H0 hq=>?_
  rw [<- qAE] at hq
  obtain⟨rfl,rfl⟩:=hq
  refine⟨rfl,_,⟨5,((4,bO (puts st ([]++[qB4])).s)::(0,wO 4 (puts st ([]++[qB4])))::[(2,deO _)])⟩,rfl,rfl,?_⟩
  refine(qNm (puts st ([]++[qB4])) qAg rs v3 v2 (by have hz:=qAJ ([]++[qB4]) st;simp only [qAN,wt] at hb hz ⊢;omega)).holds.useT [] [(1,4)] rfl (sk) (sk) fun e0 H0 hq=>?_
  unfold WQ at hq
  rw [<- qAE] at hq
  obtain⟨rfl,rfl⟩:=hq
  refine⟨rfl,_,⟨6,((5,bO (puts st (([]++[qB4])++qAT qAg rs)).s)::(0,wO 5 (puts st (([]++[qB4])++qAT qAg rs)))::[(2,deO _)])⟩,rfl,rfl,?_⟩
  refine(qA3 true (puts st (([]++[qB4])++qAT qAg rs)) ([tEq]) (by simp) (by have hz:=qAJ (([]++[qB4])++qAT qAg rs) st;simp only [qAN,wt] at hb hz ⊢;omega)).holds.useT [] [(1,5),(2,6)] rfl (sk) (sk) fun e0 H0 hq=>?_
  rw [<- qAE] at hq
  obtain⟨rfl,rfl⟩:=hq
  refine⟨rfl,_,⟨8,((7,bO (puts st (([]++[qB4])++qAT qAg rs++[tEq])).s)::(0,wO 7 (puts st (([]++[qB4])++qAT qAg rs++[tEq])))::[(2,deO _)])⟩,rfl,rfl,?_⟩
  refine(qQI (puts st ((([]++[qB4])++qAT qAg rs)++[tEq])) cs v6 (by have hz:=qAJ ((([]++[qB4])++qAT qAg rs)++[tEq]) st;simp only [qAN,wt] at hb hz ⊢;omega)).holds.useT [] [(1,7)] rfl (sk) (sk) fun e0 H0 hq=>?_
  unfold WQ at hq
  rw [<- qAE] at hq
  obtain⟨rfl,rfl⟩:=hq
  refine⟨rfl,_,⟨9,((8,bO (puts st (((([]++[qB4])++qAT qAg rs)++[tEq])++qBL cs)).s)::(0,wO 8 (puts st (((([]++[qB4])++qAT qAg rs)++[tEq])++qBL cs)))::[(2,deO _)])⟩,rfl,rfl,?_⟩
  refine(qA3 true (puts st (((([]++[qB4])++qAT qAg rs)++[tEq])++qBL cs)) ([qAZ]) (by simp) (by have hz:=qAJ (((([]++[qB4])++qAT qAg rs)++[tEq])++qBL cs) st;simp only [qAN,wt] at hb hz ⊢;omega)).holds.useT [] [(1,8),(2,9)] rfl (sk) (sk) fun e0 H0 hq=>?_
  rw [<- qAE] at hq
  obtain⟨rfl,rfl⟩:=hq
  refine⟨rfl,_,⟨11,((10,bO (puts st (((([]++[qB4])++qAT qAg rs)++[tEq])++qBL cs++[qAZ])).s)::(0,wO 10 (puts st (((([]++[qB4])++qAT qAg rs)++[tEq])++qBL cs++[qAZ])))::[(2,deO _)])⟩,rfl,rfl,?_⟩
  exact⟨[],[(2,10)],[], .returned und,wH' (puts st ((((([]++[qB4])++qAT qAg rs)++[tEq])++qBL cs)++[qAZ])),rfl,sk,sk,rfl,by rw [e]⟩
 ·rw [if_neg c5] at v4
  cases v4
theorem qWp (u:Bool) (st:Wst):HoldsG cx 44 [.ptr 0 0 0] (wH u st) fun e H'=>e=.returned (.p (i64 st.s.length))/\H'=wH u st:=by
 refine qAz Tryz.func44 rfl rfl rfl ?_
 exact⟨rfl,rfl⟩
theorem qTh (u:Bool) (st:Wst) (h0:st.s ≠ []) (hx:st.s.length<=100000000):HoldsG cx 45 [.ptr 0 0 0] (wH u st) fun e H'=>e=.returned (.p (.str st.s))/\H'=⟨2,[(0,wOu u 1 st)]⟩:=by
 obtain⟨s,n,g⟩:=st
 have h0:s ≠ []:=h0
 have hx:s.length<=100000000:=hx
 refine qAA Tryz.func45 rfl rfl rfl ?_
 refine VDraw.seq rfl ?_
 refine And.intro (fun h1=>?_) (fun h1=>?_)
 ·refine⟨sk,?_⟩
  refine⟨s,h0,rfl,by omega,by simp,by rw [List.take_of_length_le (by simp)],?_⟩
  exact⟨[],[],[], .returned (.p (.str s)),⟨2,[(0,wOu u 1 ⟨s,n,g⟩)]⟩,rfl,sk,by cases u <;> (exact sk),rfl,rfl⟩
 ·exact absurd (List.eq_nil_of_length_eq_zero h1) h0
theorem qP4 (u:Bool) (st:Wst) (h0:st.s=[]):HoldsG cx 45 [.ptr 0 0 0] (wH u st) fun e H'=>e=.returned (.p (.str []))/\H'=wH u st:=by
 obtain⟨s,n,g⟩:=st
 have h0:s=[]:=h0
 subst h0
 refine qAA Tryz.func45 rfl rfl rfl ?_
 refine VDraw.seq rfl ?_
 refine And.intro (fun h1=>?_) (fun h1=>?_)
 ·cases h1
 ·refine⟨sk,?_⟩
  refine⟨rfl,?_⟩
  exact⟨[],[],[], .returned (.p (.str [])),wH u ⟨[],n,g⟩,rfl,sk,by cases u <;> (exact sk),rfl,rfl⟩
theorem qTZ:∀ {x:qBb},qFv x->wt x<=12 * x.length
 | [],_=>Nat.zero_le _
 | t::x,h=>by
  have h1:=qJy (h t (List.mem_cons_self ..))
  have h2:=qTZ (x:=x) fun u hu=>h u (List.mem_cons_of_mem _ hu)
  rw [wt,List.length_cons];omega
theorem qVU {d:De} (h:qBa d=true):wt (declT d)<=130000:=by
 have h1:=qDR h
 have h2:=qTZ h1.1
 have:=h1.2
 omega
theorem qVV (S:List UInt8) (n:Nat) (d:De):qUF (puts ⟨S,n,false⟩ (declT d))=⟨S++qMg d,n+(declT d).length,false⟩:=by
 obtain⟨h1,h2,h3⟩:=qNr (declT d) ⟨S,n,false⟩
 rw [qUF,h1,h2,qMg,List.append_assoc]
theorem qOu (ds:List De) (d:De):qBF (ds++[d])=qBF ds++qMg d:=by
 rw [qBF,List.flatMap_append];simp [qBF]
theorem qRt (ds:List De) (d:De):qGa (ds++[d])=qGa ds+(declT d).length:=by
 rw [qGa,List.map_append,List.sum_append];simp [qGa]
theorem qOX:∀ {ds:List De},(∀ d∈ds,qBa d=true)->qGa ds<=10400 * ds.length
 | [],_=>Nat.zero_le _
 | d::ds,h=>by
  have h1:=(qDR (h d (List.mem_cons_self ..))).2
  have h2:=qOX (ds:=ds) fun x hx=>h x (List.mem_cons_of_mem _ hx)
  show(declT d).length+qGa ds<=_
  rw [List.length_cons];omega
theorem qFg (ds:List De) (hb:BigP ds):Pure cx 13 [qCn ds] (·=.ret (txtV ds)):=by
 have hR:=qKK ds hb
 refine qAC Tryz.func13 rfl rfl rfl ?_
 by_cases hv:qBH ds=true
 rotate_left
 ·have e:txtV ds=[.str [],i64 380]:=by rw [txtV,if_neg hv]
  rw [qTO,if_neg hv] at hR
  refine hR.eq rfl ?_
  refine And.intro (fun h=>absurd (show(380:Int)=0 from h) (by decide)) (fun _=>?_)
  exact qEc (.str []) (i64 380) rfl rfl rfl (by rw [e] <;> rfl)
 rw [qTO,if_pos hv] at hR
 refine hR.eq rfl ?_
 refine And.intro (fun _=>?_) (fun h=>absurd rfl h)
 obtain⟨v1,v2⟩:=qE1 hv
 have hm:(ds.map De.cells).length=ds.length:=List.length_map ..
 have e1:(qBF ds).length<=8000/\qGa ds<=1500->txtV ds=[.str (qBF ds),i64 0]:=fun h=>by rw [txtV,if_pos hv,if_pos h]
 have e2:¬ ((qBF ds).length<=8000/\qGa ds<=1500)->txtV ds=[.str [],i64 3]:=fun h=>by rw [txtV,if_pos hv,if_neg h]
 generalize txtV ds=X at e1 e2 ⊢
 refine⟨Wst × Nat × Bool,fun x=>[(5, .ptr 0 0 0),(14, .p (des ds)),(15, .p (i64 (ds.map De.cells).length)),(16, .p (i64 x.2.1))],fun x=>wH x.2.2 x.1,fun x=>x.2.1<=ds.length/\x.1=⟨qBF (ds.take x.2.1),qGa (ds.take x.2.1),false⟩,fun x=>ds.length - x.2.1,?_,?_⟩
 ·exact⟨(⟨[],0,false⟩,0,false),⟨Nat.zero_le _,rfl⟩,qAB [] [(0,1)] [(1,1)] rfl (sk) (sk) rfl⟩
 rintro⟨st,i,u⟩ ⟨k1,k2⟩
 simp only [] at k1 k2
 have hst:st.sz<=10000000:=by
  have t1:=qKv (ds:=ds.take i) fun d hd=>v2 d (List.mem_of_mem_take hd)
  have t2:=qOX (ds:=ds.take i) fun d hd=>v2 d (List.mem_of_mem_take hd)
  have t3:(ds.take i).length<=30:=by rw [List.length_take];omega
  rw [k2]
  show qGa (ds.take i)+(qBF (ds.take i)).length<=_
  omega
 refine QAD (fun m1=>?_) (fun m1=>?_)
 ·have m1:(i:Int)<((ds.map De.cells).length:Nat):=m1
  rw [hm] at m1
  have hi:i<ds.length:=by omega
  have hd:=v2 _ (qAL de0 hi)
  have hcell:=qJj hi
  have ht:=qAY de0 hi
  generalize ds.getD i de0=d at hd hcell ht
  have hw:=qVU hd
  have hn:(⟨qBF (ds.take (i+1)),qGa (ds.take (i+1)),false⟩:Wst)=qUF (puts st (declT d)):=by
   rw [ht,qOu,qRt,k2,qVV]
  have hD:=qW5 u st d hd (by omega)
  have hz:=qAJ (declT d) st
  clear ht hd
  obtain⟨k,n,nm,pl,rs,cs⟩:=d
  generalize declT ⟨k,n,nm,pl,rs,cs⟩=Y at hD hw hn hz
  refine⟨_,⟨by omega,(⟨k,n,nm,pl,rs,cs⟩:De).cells,hcell,rfl⟩,?_⟩
  refine hD.holds.useT [] [] rfl (by cases u <;> (exact sk)) (sk) fun e0 H0 hq=>?_
  obtain⟨rfl,rfl⟩:=hq
  refine⟨rfl,_,⟨4,((3,bO (puts st Y).s)::(0,wO 3 (puts st Y))::[(2,deO _)])⟩,rfl,rfl,?_⟩
  refine(qX6 (puts st Y) (by omega)).holds.useT [] [(1,3)] rfl (sk) (sk) fun e0 H0 hq=>?_
  obtain⟨rfl,rfl⟩:=hq
  refine⟨rfl,_,⟨5,((4,bO (qUF (puts st Y)).s)::(0,wO 4 (qUF (puts st Y)))::[(2,deO _)])⟩,rfl,rfl,?_⟩
  refine⟨_,w6z,?_⟩
  exact⟨(qUF (puts st Y),i+1,true),⟨hi,hn.symm⟩,qAB [] [(1,4)] [] rfl (sk) (sk) rfl,by show ds.length - (i+1)<ds.length - i;omega⟩
 ·have m1:¬ (i:Int)<((ds.map De.cells).length:Nat):=m1
  rw [hm] at m1
  rw [qBg (by omega)] at k2
  have ks:st.s=qBF ds:=by rw [k2]
  have kn:st.n=qGa ds:=by rw [k2]
  rw [<- ks,<- kn] at e1 e2
  clear k2 ks kn
  cases u
  ·refine(qWp false st).holds.useT [] [] rfl (sk) (sk) fun e0 H0 hq=>?_
   obtain⟨rfl,rfl⟩:=hq
   refine⟨rfl,_,wH false st,rfl,rfl,?_⟩
   have hsl:st.s.length<=10000000:=by
    have:st.n+st.s.length<=10000000:=hst
    omega
   refine QAD (fun c1=>?_) (fun c1=>?_)
   ·have c1:(8000:Int)<(st.s.length:Nat):=c1
    exact qEc (.str []) (i64 3) rfl rfl rfl (by rw [e2 (by omega)] <;> rfl)
   have c1:¬ (8000:Int)<(st.s.length:Nat):=c1
   refine QAD (fun c2=>?_) (fun c2=>?_)
   ·have c2:(1500:Int)<(st.n:Nat):=c2
    exact qEc (.str []) (i64 3) rfl rfl rfl (by rw [e2 (by omega)] <;> rfl)
   have c2:¬ (1500:Int)<(st.n:Nat):=c2
   have e3:=e1 (by omega)
   by_cases hs:st.s=[]
   ·refine(qP4 false st hs).holds.useT [] [] rfl (sk) (sk) fun e0 H0 hq=>?_
    obtain⟨rfl,rfl⟩:=hq
    refine⟨rfl,_,wH false st,rfl,rfl,?_⟩
    exact qEc (.str []) (i64 0) rfl rfl rfl (by rw [e3,hs] <;> rfl)
   ·refine(qTh false st hs (by omega)).holds.useT [] [] rfl (sk) (sk) fun e0 H0 hq=>?_
    obtain⟨rfl,rfl⟩:=hq
    refine⟨rfl,_,⟨2,[(0,wOu false 1 st)]⟩,rfl,rfl,?_⟩
    exact qEc (.str st.s) (i64 0) rfl rfl rfl (by rw [e3] <;> rfl)
  ·refine(qWp true st).holds.useT [] [] rfl (sk) (sk) fun e0 H0 hq=>?_
   obtain⟨rfl,rfl⟩:=hq
   refine⟨rfl,_,wH true st,rfl,rfl,?_⟩
   have hsl:st.s.length<=10000000:=by
    have:st.n+st.s.length<=10000000:=hst
    omega
   refine QAD (fun c1=>?_) (fun c1=>?_)
   ·have c1:(8000:Int)<(st.s.length:Nat):=c1
    exact qEc (.str []) (i64 3) rfl rfl rfl (by rw [e2 (by omega)] <;> rfl)
   have c1:¬ (8000:Int)<(st.s.length:Nat):=c1
   refine QAD (fun c2=>?_) (fun c2=>?_)
   ·have c2:(1500:Int)<(st.n:Nat):=c2
    exact qEc (.str []) (i64 3) rfl rfl rfl (by rw [e2 (by omega)] <;> rfl)
   have c2:¬ (1500:Int)<(st.n:Nat):=c2
   have e3:=e1 (by omega)
   by_cases hs:st.s=[]
   ·refine(qP4 true st hs).holds.useT [] [] rfl (sk) (sk) fun e0 H0 hq=>?_
    obtain⟨rfl,rfl⟩:=hq
    refine⟨rfl,_,wH true st,rfl,rfl,?_⟩
    exact qEc (.str []) (i64 0) rfl rfl rfl (by rw [e3,hs] <;> rfl)
   ·refine(qTh true st hs (by omega)).holds.useT [] [] rfl (sk) (sk) fun e0 H0 hq=>?_
    obtain⟨rfl,rfl⟩:=hq
    refine⟨rfl,_,⟨2,[(0,wOu true 1 st)]⟩,rfl,rfl,?_⟩
    exact qEc (.str st.s) (i64 0) rfl rfl rfl (by rw [e3] <;> rfl)
set_option maxHeartbeats 40000000
theorem qAf {C : Cx} {rd : Bool} {n0 N : Nat} {all : List Oper} {σ : Sg} {ds : List AD} {H : Hp} {K : Sg -> List AD -> Hp -> Prop} {X : List AP -> Sg -> List AD -> Hp -> Prop} (ot : OT)
    (h : (C.P.follows .mixedOrders && qB9 N all (masks all []) && qGZ all (masks all []) ot [] [] []) = true) (hv : vD C rd all σ K X ot [] ds H) :
    ∃ ot, (C.P.follows .mixedOrders && qB9 N all (masks all []) && qGZ all (masks all []) ot [] [] []) = true /\
    ((vD C rd all σ K X ot [] ds H) ∨
     ∃ (α : Type) (sl : α -> List (Nat × AV)) (hp : α -> Hp) (pr : α -> Prop),
      vD C rd all σ (fun σ' ds' H' => ∃ x, pr x /\ Ent C n0 N σ' ds' H' (sets (fun _ => .junk) (sl x)) ds (hp x)) X ot [] ds H /\
      ∀ x, pr x -> K (sets (fun _ => .junk) (sl x)) ds (hp x)) := ⟨_, h, .inl hv⟩
theorem qE0 {C : Cx} {rd : Bool} {n0 N : Nat} {all : List Oper} {σ : Sg} {ds : List AD} {H : Hp} {K : Sg -> List AD -> Hp -> Prop} {X : List AP -> Sg -> List AD -> Hp -> Prop} (sl : List (Nat × AV)) (hp : Hp) (ot : OT)
    (h : (C.P.follows .mixedOrders && qB9 N all (masks all []) && qGZ all (masks all []) ot [] [] []) = true)
    (hv : vD C rd all σ (fun σ' ds' H' => Ent C n0 N σ' ds' H' (sets (fun _ => .junk) sl) ds hp) X ot [] ds H) (hk : K (sets (fun _ => .junk) sl) ds hp) :
    ∃ ot, (C.P.follows .mixedOrders && qB9 N all (masks all []) && qGZ all (masks all []) ot [] [] []) = true /\
    ((vD C rd all σ K X ot [] ds H) ∨
     ∃ (α : Type) (sl : α -> List (Nat × AV)) (hp : α -> Hp) (pr : α -> Prop),
      vD C rd all σ (fun σ' ds' H' => ∃ x, pr x /\ Ent C n0 N σ' ds' H' (sets (fun _ => .junk) (sl x)) ds (hp x)) X ot [] ds H /\
      ∀ x, pr x -> K (sets (fun _ => .junk) (sl x)) ds (hp x)) :=
  ⟨_, h, .inr ⟨Unit, fun _ => sl, fun _ => hp, fun _ => True, by
    have e : (fun σ' ds' H' => ∃ _x : Unit, True /\ Ent C n0 N σ' ds' H' (sets (fun _ => .junk) sl) ds hp) = fun σ' ds' H' => Ent C n0 N σ' ds' H' (sets (fun _ => .junk) sl) ds hp := by
      funext a b c
      exact propext ⟨fun ⟨_, _, h⟩ => h, fun h => ⟨(), trivial, h⟩⟩
    rw [e]; exact hv, fun _ _ => hk⟩⟩
abbrev otI:OT:=(.pure 0 (.pure 1 (.pure 2 (.pure 3 (.pure 4 (.pure 5 (.pure 6 (.pure 7 (.pure 8 (.pure 9 (.pure 10 (.pure 11 (.pure 12 (.pure 13 (.pure 14 (.pure 15 (.pure 16 (.pure 17 (.pure 18 (.pure 19 (.pure 20 (.pure 21 (.pure 22 (.pure 23 (.pure 24 (.pure 25 (.pure 26 (.pure 27 (.pure 28 (.pure 29 (.pure 30 (.eff 31 [] (.pure 32 (.pure 33 (.pure 34 .fin))) .nil))))))))))))))))))))))))))))))))
theorem Out.val {α:Type} {b:Bool} {p:Nat} {r:Rd α} {a a':α} {q:Nat} {b':Bool} (h:Out b p r a q b') (e:b'=false->a=a'):Out b p r a' q b':=by
 cases b'
 ·rw [<- e rfl];exact h
 ·cases b
  ·exact h
  ·exact h
theorem Out.live {α:Type} {b:Bool} {p:Nat} {r:Rd α} {a:α} {q:Nat} (h:Out b p r a q false):b=false:=by
 cases b
 ·rfl
 ·exact absurd h.1 (by decide)
theorem qGL {ws:List Wd} {b0 b b2:Bool} {q0 q q2:Nat} {R:Rd (List Int)} {acc:List Int} {v:Int} (k:LK b0 q0 R (fun f=>(qIM ws q).then fun n q'=>qC4 ws f (acc++[n]) q') ws.length q b) (o:Out b q (qIM ws q) v q2 b2) (hs:b2=false->¬ (txt ws q2=qAn∨knd ws q2=3)):Out b0 q0 R (acc++[v]) q2 b2:=by
 obtain⟨f,hf,hk⟩:=k
 refine hk _ _ _ (o.then ?_)
 cases b2
 ·have:=hf o.live
  obtain⟨g,rfl⟩:∃ g,f=g+1:=⟨f - 1,by omega⟩
  rw [qC4,if_neg (hs rfl)]
  exact Out.same
 ·exact Out.bad
theorem qMK (ws:List Wd) (F q0:Nat) (b0:Bool) (hF:ws.length<F) (hg:GoodW ws) (hq0:q0<=ws.length):HoldsG cx 140 [.ptr 0 0 0] (rrH ws q0 b0) (RQ ws b0 q0 (qDL ws F q0) fun l=>.p (ints l)):=by
 refine qAA Tryz.func140 rfl rfl rfl ?_
 have hl:=hg.len
 have hl':(ws.map Wd.cells).length=ws.length:=List.length_map ..
 refine⟨List Int × Nat × Bool,fun x=>[(0, .ptr 0 0 0),(3, .sl 1 1 0 x.1.length)],fun x=>⟨2,[(1,iO x.1),(0,rrO ws x.2.1 x.2.2)]⟩,fun x=>x.2.1<=ws.length/\(x.2.2=true->x.1=[])/\x.1.length<=x.2.1/\LK b0 q0 (qDL ws F q0) (fun f=>(qIM ws x.2.1).then fun n q'=>qC4 ws f (x.1++[n]) q') ws.length x.2.1 x.2.2,fun x=>ws.length - x.2.1,?_,?_⟩
 ·exact⟨([],q0,b0),⟨hq0,fun _=>rfl,by simp,F,fun _=>by simp only [];omega,fun l q' b' ho=>ho⟩,qAB [] [] [(1,1)] rfl (sk) (sk) rfl⟩
 rintro⟨acc,q,b⟩ ⟨k1,k2,k3,k4⟩
 simp only [] at k1 k2 k3 k4
 by_cases c:Tk ws b q qAn
 ·have q1l:q+1<=ws.length:=qAh (by rw [c.2];decide)
  refine(qA0 ws q b qAn hg k1 (by decide) (by decide)).holds.useT [] [] rfl (sk) (sk) fun e0 H0 hq=>?_
  obtain⟨rfl,rfl⟩:=hq.1 c
  refine⟨rfl,_,⟨2,(0,rrO ws (q+1) false)::[(1,iO acc)]⟩,rfl,rfl,?_⟩
  refine(qDX ws (q+1) false hg q1l).holds.useT [] [] rfl (sk) (sk) fun e0 H0 hq=>?_
  obtain⟨n,q2,b2,q2l,o2,rfl,rfl⟩:=hq
  obtain⟨v,hv⟩:∃ v,v=IntKind.i64.wrap ((-1) * n):=⟨_,rfl⟩
  have hvn:b2=false->-n=v:=fun e=>by
   subst e
   have:=qQt hg (qBi o2)
   rw [hv,show(-1) * n=-n by omega]
   exact w6z
  have o:Out b q (qIM ws q) v q2 b2:=Out.yes c (o2.then (by
   cases b2
   ·exact Out.ret (hvn rfl)
   ·exact Out.bad)).mv
  clear hvn o2
  cases b2
  ·refine⟨rfl,_,⟨2,(0,rrO ws q2 false)::[(1,iO acc)]⟩,rfl,rfl,?_⟩
   refine⟨v,hv,?_⟩
   have hb:=o.live
   have k5:LK b0 q0 (qDL ws F q0) (fun f=>(qIM ws q).then fun n q'=>qC4 ws f (acc++[n]) q') ws.length q false:=by rw [<- hb];exact k4
   have o5:Out false q (qIM ws q) v q2 false:=by rw [hb] at o;exact o
   have hlt:=int_lt (qBi o5)
   refine⟨by show 0+1<=1;omega,[i64 v],rfl,?_⟩
   refine⟨by show 0+acc.length<=(acc.map i64).length;simp,acc.map i64,qAD (by simp),by show(acc.length+1) * 8<=140737488355328;omega,(acc++[v]).map i64,by simp,?_⟩
   by_cases hs:txt ws q2=qAn∨knd ws q2=3
   ·have hql:q2<ws.length:=by
     rcases hs with h | h
     ·exact qAh (ws:=ws) (q:=q2) (by rw [h];decide)
     ·exact qGK (ws:=ws) (q:=q2) (by rw [h];decide)
    refine qE0 [(0, .ptr 0 0 0),(3, .sl 3 1 0 (acc.length+1)),(48,vB false)] ⟨4,[(3,iO (acc++[v])),(0,rrO ws q2 false)]⟩ otI (by kernel_rfl) ?_ ?_
    ·refine And.intro (fun h=>absurd (show((ws.map Wd.cells).length:Int)<=(q2:Nat) from h) (by rw [hl'];omega)) (fun _=>?_)
     refine⟨_,⟨by omega,(wat ws q2).cells,qCl (by omega),rfl⟩,?_⟩
     refine And.intro (fun h2=>?_) (fun h2=>?_)
     ·exact qAB [] [] [] rfl (sk) (sk) rfl
     have h2:¬ knd ws q2=3:=h2
     have c2:Tk ws false q2 qAn:=⟨rfl,hs.resolve_right h2⟩
     refine(qVE ws q2 false qAn hg q2l (by decide) (by decide)).holds.useT [] [] rfl (sk) (sk) fun e0 H0 hq=>?_
     obtain⟨rfl,rfl⟩:=hq.1 c2
     refine⟨rfl,_,⟨4,[(0,rrO ws q2 false),(3,iO (acc++[v])),(2,iO [v])]⟩,rfl,rfl,?_⟩
     exact qAB [] [] [] rfl (sk) (sk) rfl
    exact⟨(acc++[v],q2,false),⟨q2l,fun e=>absurd (show false=true from e) (by decide),by show(acc++[v]).length<=q2;rw [qAK];omega,k5.step (fun f l q' b' ho=>o5.then (by rw [qC4,if_pos hs];exact ho)) (fun _=>⟨hlt,q2l⟩)⟩,qAB [] [(1,3)] [] rfl ⟨⟨rfl,rfl⟩,congrArg (fun k:Nat=>AV.sl 3 1 0 k) (qAK acc v).symm,trivial⟩ (sk) rfl,by show ws.length - q2<ws.length - q;omega⟩
   ·refine qE0 [(0, .ptr 0 0 0),(3, .sl 3 1 0 (acc.length+1)),(48,vB true)] ⟨4,[(3,iO (acc++[v])),(0,rrO ws q2 false)]⟩ otI (by kernel_rfl) ?_ ?_
    ·refine QAD (fun h1=>?_) (fun h1=>?_)
     ·exact qAB [] [] [] rfl (sk) (sk) rfl
     have h1:¬ ((ws.map Wd.cells).length:Int)<=(q2:Nat):=h1
     rw [hl'] at h1
     refine⟨_,⟨by omega,(wat ws q2).cells,qCl (by omega),rfl⟩,?_⟩
     refine And.intro (fun h2=>absurd (.inr h2) hs) (fun _=>?_)
     refine(qVE ws q2 false qAn hg q2l (by decide) (by decide)).holds.useT [] [] rfl (sk) (sk) fun e0 H0 hq=>?_
     obtain⟨rfl,rfl⟩:=hq.2 (fun c2=>hs (.inl c2.2))
     refine⟨rfl,_,⟨4,[(0,rrO ws q2 false),(3,iO (acc++[v])),(2,iO [v])]⟩,rfl,rfl,?_⟩
     exact qAB [] [] [] rfl (sk) (sk) rfl
    exact⟨[3],[],[], .returned (.p (ints (acc++[v]))),rrH ws q2 false,rfl,⟨_,rfl,⟨_,rfl,by show 0+(acc.length+1)<=((acc++[v]).map i64).length;simp,qAD (by simp)⟩⟩,sk,acc++[v],q2,false,q2l,qGL k4 o (fun _=>hs),rfl,rfl⟩
  ·refine⟨rfl,_,⟨2,(0,rrO ws q2 true)::[(1,iO acc)]⟩,rfl,rfl,?_⟩
   refine⟨v,hv,?_⟩
   refine⟨by show 0+1<=1;omega,[i64 v],rfl,?_⟩
   refine⟨by show 0+acc.length<=(acc.map i64).length;simp,acc.map i64,qAD (by simp),by show(acc.length+1) * 8<=140737488355328;omega,(acc++[v]).map i64,by simp,?_⟩
   refine qAf otI (by kernel_rfl) ?_
   exact⟨[3],[],[], .returned (.p (ints (acc++[v]))),rrH ws q2 true,rfl,⟨_,rfl,⟨_,rfl,by show 0+(acc.length+1)<=((acc++[v]).map i64).length;simp,qAD (by simp)⟩⟩,sk,acc++[v],q2,true,q2l,qGL k4 o (fun e=>by cases e),rfl,rfl⟩
 ·refine(qA0 ws q b qAn hg k1 (by decide) (by decide)).holds.useT [] [] rfl (sk) (sk) fun e0 H0 hq=>?_
  obtain⟨rfl,rfl⟩:=hq.2 c
  refine⟨rfl,_,⟨2,(0,rrO ws q b)::[(1,iO acc)]⟩,rfl,rfl,?_⟩
  refine(qDX ws q b hg k1).holds.useT [] [] rfl (sk) (sk) fun e0 H0 hq=>?_
  obtain⟨n,q2,b2,q2l,o2,rfl,rfl⟩:=hq
  obtain⟨v,hv⟩:∃ v,v=IntKind.i64.wrap (1 * n):=⟨_,rfl⟩
  have hvn:b2=false->n=v:=fun e=>by
   subst e
   have hb:=o2.live
   subst hb
   have:=qQt hg (qBi o2)
   rw [hv,Int.one_mul]
   exact w6z
  have o:Out b q (qIM ws q) v q2 b2:=Out.no c (o2.val hvn)
  clear hvn o2
  cases b2
  ·refine⟨rfl,_,⟨2,(0,rrO ws q2 false)::[(1,iO acc)]⟩,rfl,rfl,?_⟩
   refine⟨v,hv,?_⟩
   have hb:=o.live
   have k5:LK b0 q0 (qDL ws F q0) (fun f=>(qIM ws q).then fun n q'=>qC4 ws f (acc++[n]) q') ws.length q false:=by rw [<- hb];exact k4
   have o5:Out false q (qIM ws q) v q2 false:=by rw [hb] at o;exact o
   have hlt:=int_lt (qBi o5)
   refine⟨by show 0+1<=1;omega,[i64 v],rfl,?_⟩
   refine⟨by show 0+acc.length<=(acc.map i64).length;simp,acc.map i64,qAD (by simp),by show(acc.length+1) * 8<=140737488355328;omega,(acc++[v]).map i64,by simp,?_⟩
   by_cases hs:txt ws q2=qAn∨knd ws q2=3
   ·have hql:q2<ws.length:=by
     rcases hs with h | h
     ·exact qAh (ws:=ws) (q:=q2) (by rw [h];decide)
     ·exact qGK (ws:=ws) (q:=q2) (by rw [h];decide)
    refine qE0 [(0, .ptr 0 0 0),(3, .sl 3 1 0 (acc.length+1)),(48,vB false)] ⟨4,[(3,iO (acc++[v])),(0,rrO ws q2 false)]⟩ otI (by kernel_rfl) ?_ ?_
    ·refine And.intro (fun h=>absurd (show((ws.map Wd.cells).length:Int)<=(q2:Nat) from h) (by rw [hl'];omega)) (fun _=>?_)
     refine⟨_,⟨by omega,(wat ws q2).cells,qCl (by omega),rfl⟩,?_⟩
     refine And.intro (fun h2=>?_) (fun h2=>?_)
     ·exact qAB [] [] [] rfl (sk) (sk) rfl
     have h2:¬ knd ws q2=3:=h2
     have c2:Tk ws false q2 qAn:=⟨rfl,hs.resolve_right h2⟩
     refine(qVE ws q2 false qAn hg q2l (by decide) (by decide)).holds.useT [] [] rfl (sk) (sk) fun e0 H0 hq=>?_
     obtain⟨rfl,rfl⟩:=hq.1 c2
     refine⟨rfl,_,⟨4,[(0,rrO ws q2 false),(3,iO (acc++[v])),(2,iO [v])]⟩,rfl,rfl,?_⟩
     exact qAB [] [] [] rfl (sk) (sk) rfl
    exact⟨(acc++[v],q2,false),⟨q2l,fun e=>absurd (show false=true from e) (by decide),by show(acc++[v]).length<=q2;rw [qAK];omega,k5.step (fun f l q' b' ho=>o5.then (by rw [qC4,if_pos hs];exact ho)) (fun _=>⟨hlt,q2l⟩)⟩,qAB [] [(1,3)] [] rfl ⟨⟨rfl,rfl⟩,congrArg (fun k:Nat=>AV.sl 3 1 0 k) (qAK acc v).symm,trivial⟩ (sk) rfl,by show ws.length - q2<ws.length - q;omega⟩
   ·refine qE0 [(0, .ptr 0 0 0),(3, .sl 3 1 0 (acc.length+1)),(48,vB true)] ⟨4,[(3,iO (acc++[v])),(0,rrO ws q2 false)]⟩ otI (by kernel_rfl) ?_ ?_
    ·refine QAD (fun h1=>?_) (fun h1=>?_)
     ·exact qAB [] [] [] rfl (sk) (sk) rfl
     have h1:¬ ((ws.map Wd.cells).length:Int)<=(q2:Nat):=h1
     rw [hl'] at h1
     refine⟨_,⟨by omega,(wat ws q2).cells,qCl (by omega),rfl⟩,?_⟩
     refine And.intro (fun h2=>absurd (.inr h2) hs) (fun _=>?_)
     refine(qVE ws q2 false qAn hg q2l (by decide) (by decide)).holds.useT [] [] rfl (sk) (sk) fun e0 H0 hq=>?_
     obtain⟨rfl,rfl⟩:=hq.2 (fun c2=>hs (.inl c2.2))
     refine⟨rfl,_,⟨4,[(0,rrO ws q2 false),(3,iO (acc++[v])),(2,iO [v])]⟩,rfl,rfl,?_⟩
     exact qAB [] [] [] rfl (sk) (sk) rfl
    exact⟨[3],[],[], .returned (.p (ints (acc++[v]))),rrH ws q2 false,rfl,⟨_,rfl,⟨_,rfl,by show 0+(acc.length+1)<=((acc++[v]).map i64).length;simp,qAD (by simp)⟩⟩,sk,acc++[v],q2,false,q2l,qGL k4 o (fun _=>hs),rfl,rfl⟩
  ·refine⟨rfl,_,⟨2,(0,rrO ws q2 true)::[(1,iO acc)]⟩,rfl,rfl,?_⟩
   refine⟨v,hv,?_⟩
   refine⟨by show 0+1<=1;omega,[i64 v],rfl,?_⟩
   refine⟨by show 0+acc.length<=(acc.map i64).length;simp,acc.map i64,qAD (by simp),by show(acc.length+1) * 8<=140737488355328;omega,(acc++[v]).map i64,by simp,?_⟩
   refine qAf otI (by kernel_rfl) ?_
   exact⟨[3],[],[], .returned (.p (ints (acc++[v]))),rrH ws q2 true,rfl,⟨_,rfl,⟨_,rfl,by show 0+(acc.length+1)<=((acc++[v]).map i64).length;simp,qAD (by simp)⟩⟩,sk,acc++[v],q2,true,q2l,qGL k4 o (fun e=>by cases e),rfl,rfl⟩
set_option maxHeartbeats 4000000
theorem qSY (l:List Int) (n:Int):qOy (l++[n])=qIN (qOy l) n:=by rw [qOy,qOy,List.foldl_append];rfl
def RQN (ws:List Wd) (b:Bool) (q:Nat) (r:Rd Cd) (e:AE) (H':Hp):Prop:=∃ c q' b',q'<=ws.length/\Out b q r c q' b'/\(∃ y,e=.returned (.p y)/\NilD y c.pv)/\H'=rrH ws q' b'
abbrev RC (ws:List Wd) (b:Bool) (q:Nat) (r:Rd Cd):AE->Hp->Prop:=RQ ws b q r fun c=>.p c.pv
theorem qSd {ws:List Wd} {b:Bool} {q:Nat} {g:FuncId} {args:List AV} {H:Hp} {r:Rd Cd} (h:HoldsG cx g args H (RQN ws b q r)):HoldsG cx g args H (RC ws b q r):=
 h.weak fun e H' hq=>by
  obtain⟨c,q',b',h1,h2,⟨y,rfl,h3⟩,rfl⟩:=hq
  exact⟨.returned (.p c.pv),⟨_,rfl,by simp only [NilA];exact⟨_,rfl,h3⟩⟩,c,q',b',h1,h2,rfl,rfl⟩
abbrev lfI (rf:Rf) (s:List Int):AObj:=cO [.p (i64 5), .p (i64 0), .p (i64 0), .p (i64 0), .p (.str rf.name), .p (i64 rf.mode), .p (.str rf.plate), .p (i64 rf.n), .p (ints s), .p .nils]
abbrev qNM (ws:List Wd) (F:Nat) (q:Nat) (b:Bool):Prop:=HoldsG cx 139 [.ptr 0 0 0] (rrH ws q b) (RC ws b q (qCa ws F q))
theorem qU2 (n:Int):NilDL [.nils,i64 n] [ints [],i64 n]:=by
 simp only [NilDL,NilD]
 exact⟨_,_,rfl, .inr (.inl rfl),_,_,rfl,rfl,rfl⟩
theorem qUd (ws:List Wd) (F q0:Nat) (b0:Bool) (hg:GoodW ws) (hq0:q0<=ws.length) (hF:4 * (ws.length - q0)+1<=F+1) (hC:∀ q,q<=ws.length->4 * (ws.length - q)+4<=F->qNM ws F q false) :
  HoldsG cx 203 [.ptr 0 0 0] (rrH ws q0 b0) (RC ws b0 q0 (qDF ws (F+1) q0)):=by
 refine qSd ?_
 refine qAA Tryz.func203 rfl rfl rfl ?_
 have hl:=hg.len
 by_cases c1:Tk ws b0 q0 tLP
 ·have q1l:q0+1<=ws.length:=qAh (by rw [c1.2];decide)
  refine(qA0 ws q0 b0 tLP hg hq0 (by decide) (by decide)).holds.useT [] [] rfl (sk) (sk) fun e0 H0 hq=>?_
  obtain⟨rfl,rfl⟩:=hq.1 c1
  refine⟨rfl,_,⟨2,(0,rrO ws (q0+1) false)::[(1,zc)]⟩,rfl,rfl,?_⟩
  refine(hC (q0+1) q1l (by omega)).holds.useT [] [] rfl (sk) (sk) fun e0 H0 hq=>?_
  obtain⟨⟨o,n,rl,vl,rf,st,ar⟩,q2,b2,q2l,o2,rfl,rfl⟩:=hq
  refine⟨rfl,_,⟨2,(0,rrO ws q2 b2)::[(1,zc)]⟩,rfl,rfl,?_⟩
  refine(qA8 ws q2 b2 tRP hg q2l (by decide) (by decide)).holds.useT [] [] rfl (sk) (sk) fun e0 H0 hq=>?_
  obtain⟨u3,q3,b3,q3l,o3,rfl,rfl⟩:=hq
  refine⟨rfl,_,⟨3,(0,rrO ws q3 b3)::[(2,cO ((Cd.mk o n rl vl rf st ar).cells.map .p)),(1,zc)]⟩,rfl,rfl,?_⟩
  exact⟨[],[],[], .returned (.p (Cd.mk o n rl vl rf st ar).pv),rrH ws q3 b3,rfl,sk,sk,_,q3,b3,q3l,by rw [qDF];exact Out.yes c1 (o2.then (o3.then Out.same)).mv,⟨_,rfl,NilD.refl _⟩,rfl⟩
 refine(qA0 ws q0 b0 tLP hg hq0 (by decide) (by decide)).holds.useT [] [] rfl (sk) (sk) fun e0 H0 hq=>?_
 obtain⟨rfl,rfl⟩:=hq.2 c1
 refine⟨rfl,_,⟨2,(0,rrO ws q0 b0)::[(1,zc)]⟩,rfl,rfl,?_⟩
 by_cases c2:Tk ws b0 q0 qBo
 ·have q1l:q0+1<=ws.length:=qAh (by rw [c2.2];decide)
  refine(qA0 ws q0 b0 qBo hg hq0 (by decide) (by decide)).holds.useT [] [] rfl (sk) (sk) fun e0 H0 hq=>?_
  obtain⟨rfl,rfl⟩:=hq.1 c2
  refine⟨rfl,_,⟨3,(0,rrO ws (q0+1) false)::[(2,zc),(1,zc)]⟩,rfl,rfl,?_⟩
  refine(qA8 ws (q0+1) false tLP hg q1l (by decide) (by decide)).holds.useT [] [] rfl (sk) (sk) fun e0 H0 hq=>?_
  obtain⟨u2,q2,b2,q2l,o2,rfl,rfl⟩:=hq
  refine⟨rfl,_,⟨3,(0,rrO ws q2 b2)::[(2,lf 6 0 0 0 rf0),(1,zc)]⟩,rfl,rfl,?_⟩
  refine(qFd ws q2 b2 hg q2l).holds.useT [] [] rfl (sk) (sk) fun e0 H0 hq=>?_
  obtain⟨nm,q3,b3,q3l,o3,rfl,rfl⟩:=hq
  refine⟨rfl,_,⟨3,(0,rrO ws q3 b3)::[(2,lf 6 0 0 0 rf0),(1,zc)]⟩,rfl,rfl,?_⟩
  refine(qA8 ws q3 b3 tLB hg q3l (by decide) (by decide)).holds.useT [] [] rfl (sk) (sk) fun e0 H0 hq=>?_
  obtain⟨u4,q4,b4,q4l,o4,rfl,rfl⟩:=hq
  refine⟨rfl,_,⟨3,(0,rrO ws q4 b4)::[(2,lf 6 0 0 0 ⟨nm,3,[],0⟩),(1,zc)]⟩,rfl,rfl,?_⟩
  refine(qA8 ws q4 b4 qGg hg q4l (by decide) (by decide)).holds.useT [] [] rfl (sk) (sk) fun e0 H0 hq=>?_
  obtain⟨u5,q5,b5,q5l,o5,rfl,rfl⟩:=hq
  refine⟨rfl,_,⟨3,(0,rrO ws q5 b5)::[(2,lf 6 0 0 0 ⟨nm,3,[],0⟩),(1,zc)]⟩,rfl,rfl,?_⟩
  refine(qA8 ws q5 b5 tRB hg q5l (by decide) (by decide)).holds.useT [] [] rfl (sk) (sk) fun e0 H0 hq=>?_
  obtain⟨u6,q6,b6,q6l,o6,rfl,rfl⟩:=hq
  refine⟨rfl,_,⟨3,(0,rrO ws q6 b6)::[(2,lf 6 0 0 0 ⟨nm,3,[],0⟩),(1,zc)]⟩,rfl,rfl,?_⟩
  refine(qA8 ws q6 b6 tEq hg q6l (by decide) (by decide)).holds.useT [] [] rfl (sk) (sk) fun e0 H0 hq=>?_
  obtain⟨u7,q7,b7,q7l,o7,rfl,rfl⟩:=hq
  refine⟨rfl,_,⟨3,(0,rrO ws q7 b7)::[(2,lf 6 0 0 0 ⟨nm,3,[],0⟩),(1,zc)]⟩,rfl,rfl,?_⟩
  refine(qDX ws q7 b7 hg q7l).holds.useT [] [] rfl (sk) (sk) fun e0 H0 hq=>?_
  obtain⟨v,q8,b8,q8l,o8,rfl,rfl⟩:=hq
  refine⟨rfl,_,⟨3,(0,rrO ws q8 b8)::[(2,lf 6 0 0 0 ⟨nm,3,[],0⟩),(1,zc)]⟩,rfl,rfl,?_⟩
  refine(qA8 ws q8 b8 tRP hg q8l (by decide) (by decide)).holds.useT [] [] rfl (sk) (sk) fun e0 H0 hq=>?_
  obtain⟨u9,q9,b9,q9l,o9,rfl,rfl⟩:=hq
  refine⟨rfl,_,⟨3,(0,rrO ws q9 b9)::[(2,lf 6 0 0 v ⟨nm,3,[],0⟩),(1,zc)]⟩,rfl,rfl,?_⟩
  refine(qTq ws q9 b9 hg q9l).holds.useT [] [] rfl (sk) (sk) fun e0 H0 hq=>?_
  obtain⟨r,q10,b10,q10l,o10,rfl,rfl⟩:=hq
  refine⟨rfl,_,⟨3,(0,rrO ws q10 b10)::[(2,lf 6 0 0 v ⟨nm,3,[],0⟩),(1,zc)]⟩,rfl,rfl,?_⟩
  refine(qDX ws q10 b10 hg q10l).holds.useT [] [] rfl (sk) (sk) fun e0 H0 hq=>?_
  obtain⟨n,q11,b11,q11l,o11,rfl,rfl⟩:=hq
  refine⟨rfl,_,⟨3,(0,rrO ws q11 b11)::[(2,lf 6 0 r v ⟨nm,3,[],0⟩),(1,zc)]⟩,rfl,rfl,?_⟩
  have om:Out b3 q3 (qAp ws [tLB,qGg,tRB,tEq] q3) () q7 b7:=o4.then (o5.then (o6.then (o7.then Out.same)))
  exact⟨[],[],[], .returned (.p (.agg [i64 6,i64 n,i64 r,i64 v, .str nm,i64 3, .str [],i64 0, .nils, .nils])),rrH ws q11 b11,rfl,sk,sk, .mk 6 n r v ⟨nm,3,[],0⟩ [] [],q11,b11,q11l,by rw [qDF];exact Out.no c1 (Out.yes c2 (o2.then (o3.then (om.then (o8.then (o9.then (o10.then (o11.then Out.same))))))).mv),⟨_,rfl,qAr 6 n r v ⟨nm,3,[],0⟩⟩,rfl⟩
 refine(qA0 ws q0 b0 qBo hg hq0 (by decide) (by decide)).holds.useT [] [] rfl (sk) (sk) fun e0 H0 hq=>?_
 obtain⟨rfl,rfl⟩:=hq.2 c2
 refine⟨rfl,_,⟨3,(0,rrO ws q0 b0)::[(2,zc),(1,zc)]⟩,rfl,rfl,?_⟩
 refine(qQL ws q0 b0 hg hq0).holds.useT [] [] rfl (sk) (sk) fun e0 H0 hq=>?_
 obtain⟨rf,q1,b1,q1l,o1,rfl,rfl⟩:=hq
 refine⟨rfl,_,⟨3,(0,rrO ws q1 b1)::[(2,zc),(1,zc)]⟩,rfl,rfl,?_⟩
 by_cases c3:Tk ws b1 q1 tIn
 rotate_left
 ·refine(qA0 ws q1 b1 tIn hg q1l (by decide) (by decide)).holds.useT [] [] rfl (sk) (sk) fun e0 H0 hq=>?_
  obtain⟨rfl,rfl⟩:=hq.2 c3
  refine⟨rfl,_,⟨3,(0,rrO ws q1 b1)::[(2,lf 0 0 0 0 rf),(1,zc)]⟩,rfl,rfl,?_⟩
  refine(qTq ws q1 b1 hg q1l).holds.useT [] [] rfl (sk) (sk) fun e0 H0 hq=>?_
  obtain⟨o,q2,b2,q2l,o2,rfl,rfl⟩:=hq
  refine⟨rfl,_,⟨3,(0,rrO ws q2 b2)::[(2,lf 0 0 0 0 rf),(1,zc)]⟩,rfl,rfl,?_⟩
  refine(qDX ws q2 b2 hg q2l).holds.useT [] [] rfl (sk) (sk) fun e0 H0 hq=>?_
  obtain⟨n,q3,b3,q3l,o3,rfl,rfl⟩:=hq
  refine⟨rfl,_,⟨3,(0,rrO ws q3 b3)::[(2,lf o 0 0 0 rf),(1,zc)]⟩,rfl,rfl,?_⟩
  exact⟨[],[],[], .returned (.p (.agg [i64 o,i64 n,i64 0,i64 0, .str rf.name,i64 rf.mode, .str rf.plate,i64 rf.n, .nils, .nils])),rrH ws q3 b3,rfl,sk,sk, .mk o n 0 0 rf [] [],q3,b3,q3l,by rw [qDF];exact Out.no c1 (Out.no c2 (o1.then (Out.no c3 (o2.then (o3.then Out.same))))),⟨_,rfl,qAr o n 0 0 rf⟩,rfl⟩
 have q2l:q1+1<=ws.length:=qAh (by rw [c3.2];decide)
 refine(qA0 ws q1 b1 tIn hg q1l (by decide) (by decide)).holds.useT [] [] rfl (sk) (sk) fun e0 H0 hq=>?_
 obtain⟨rfl,rfl⟩:=hq.1 c3
 refine⟨rfl,_,⟨3,(0,rrO ws (q1+1) false)::[(2,lf 0 0 0 0 rf),(1,zc)]⟩,rfl,rfl,?_⟩
 refine(qA8 ws (q1+1) false tLC hg q2l (by decide) (by decide)).holds.useT [] [] rfl (sk) (sk) fun e0 H0 hq=>?_
 obtain⟨u3,q3,b3,q3l,o3,rfl,rfl⟩:=hq
 refine⟨rfl,_,⟨3,(0,rrO ws q3 b3)::[(2,lf 5 0 0 0 rf),(1,zc)]⟩,rfl,rfl,?_⟩
 refine(qDX ws q3 b3 hg q3l).holds.useT [] [] rfl (sk) (sk) fun e0 H0 hq=>?_
 obtain⟨n0,q4,b4,q4l,o4,rfl,rfl⟩:=hq
 refine⟨rfl,_,⟨3,(0,rrO ws q4 b4)::[(2,lf 5 0 0 0 rf),(1,zc)]⟩,rfl,rfl,?_⟩
 refine((qON [] n0 List.Pairwise.nil (by simp)).arg (qU2 n0)).eq rfl ?_
 have hlt1:b1=false:=c3.1
 have hFq:b3=false->ws.length - q4<F/\(b4=false->q3<q4):=fun e=>by
  subst e
  have h3:=qAv (qBi o3)
  subst hlt1
  have hb0:=o1.live
  subst hb0
  have h1:=qHJ (qBi o1)
  refine⟨?_,fun e=>?_⟩
  ·cases b4
   ·have:=qCb (qBi o4)
    omega
   ·have:q3<=q4:=by
     have h4:qCT ws q3=.inl q4:=o4
     rw [qCT] at h4
     split at h4
     ·cases h4
     ·injection h4 with h4;omega
    omega
  ·subst e;exact qCb (qBi o4)
 have hlist:LK b3 q3 (qEa ws (qCT ws) F q3) (fun f=>qCt ws (qCT ws) f [n0] q4) ws.length q4 b4:=⟨F,fun e=>by subst e;exact(hFq o4.live).1,fun l q' b' ho=>o4.then ho⟩
 refine⟨List Int × List Int × Nat × Bool,fun x=>[(0, .ptr 0 0 0),(2, .ptr 1 0 0),(4, .ptr 2 0 0)],fun x=>⟨3,[(0,rrO ws x.2.2.1 x.2.2.2),(2,lfI rf x.2.1),(1,zc)]⟩,fun x=>x.2.2.1<=ws.length/\(x.2.2.2=false->x.1.length<=x.2.2.1)/\x.1.length<=1501/\(x.2.1=qOy x.1/\Inc x.2.1/\x.2.1.length<=x.1.length)/\LK b3 q3 (qEa ws (qCT ws) F q3) (fun f=>qCt ws (qCT ws) f x.1 x.2.2.1) ws.length x.2.2.1 x.2.2.2,fun x=>if x.2.2.2=true then 0 else ws.length+1 - x.2.2.1,?_,?_⟩
 ·exact⟨([n0],[n0],q4,b4),⟨q4l,fun e=>by simp only [] at e;have:=(hFq (by subst e;exact o4.live)).2 e;simp only [List.length_singleton];omega,by simp,⟨rfl,by simp [Inc],by simp⟩,hlist⟩,qAB [] [] [] rfl (sk) (sk) rfl⟩
 clear hlist hFq
 rintro⟨acc,s,q,b⟩ ⟨k1,k2,k3,⟨k5,k6,k7⟩,k4⟩
 simp only [] at k1 k2 k3 k4 k5 k6 k7
 by_cases c:Tk ws b q qAi
 ·have ql:q+1<=ws.length:=qAh (by rw [c.2];decide)
  refine(qA0 ws q b qAi hg k1 (by decide) (by decide)).holds.useT [] [] rfl (sk) (sk) fun e0 H0 hq=>?_
  obtain⟨rfl,rfl⟩:=hq.1 c
  refine⟨rfl,_,⟨3,(0,rrO ws (q+1) false)::[(2,lfI rf s),(1,zc)]⟩,rfl,rfl,?_⟩
  refine VDraw.seq rfl ?_
  refine(qDX ws (q+1) false hg ql).holds.useT [] [] rfl (sk) (sk) fun e0 H0 hq=>?_
  obtain⟨n,q5,b5,q5l,o5,rfl,rfl⟩:=hq
  refine⟨rfl,_,⟨3,(0,rrO ws q5 b5)::[(2,lfI rf s),(1,zc)]⟩,rfl,rfl,?_⟩
  refine⟨sk,?_⟩
  refine(qON s n k6 (by omega)).eq rfl ?_
  have hal:=k2 c.1
  have hlt:b5=false->q+1<q5:=fun e=>by subst e;exact qCb (qBi o5)
  have hil:=qRN s n
  have c':=c
  obtain⟨rfl,ct⟩:=c'
  exact⟨(acc++[n],qIN s n,q5,b5),⟨q5l,fun e=>by have:=hlt e;show(acc++[n]).length<=q5;rw [qAK];omega,by show(acc++[n]).length<=1501;rw [qAK];omega,⟨by show qIN s n=qOy (acc++[n]);rw [qSY,k5],qRO s n k6,by show(qIN s n).length<=(acc++[n]).length;rw [qAK];omega⟩,k4.step (fun f l q' b' ho=>by rw [qCt];exact Out.yes ⟨rfl,ct⟩ (o5.then ho).mv) (fun e=>⟨by have:=hlt e;show q<q5;omega,q5l⟩)⟩,qAB [] [] [] rfl (sk) (sk) rfl,by show(if b5=true then 0 else ws.length+1 - q5)<(if false=true then 0 else ws.length+1 - q);cases b5 <;> simp <;> (try have:=hlt rfl) <;> omega⟩
 ·refine(qA0 ws q b qAi hg k1 (by decide) (by decide)).holds.useT [] [] rfl (sk) (sk) fun e0 H0 hq=>?_
  obtain⟨rfl,rfl⟩:=hq.2 c
  refine⟨rfl,_,⟨3,(0,rrO ws q b)::[(2,lfI rf s),(1,zc)]⟩,rfl,rfl,?_⟩
  have ol:=k4.stop (fun e f=>by rw [qCt,if_neg (fun h=>c ⟨e,h⟩)])
  refine(qA8 ws q b tRC hg k1 (by decide) (by decide)).holds.useT [] [] rfl (sk) (sk) fun e0 H0 hq=>?_
  obtain⟨u6,q6,b6,q6l,o6,rfl,rfl⟩:=hq
  refine⟨rfl,_,⟨3,(0,rrO ws q6 b6)::[(2,lfI rf s),(1,zc)]⟩,rfl,rfl,?_⟩
  exact⟨[],[],[], .returned (.p (.agg [i64 5,i64 0,i64 0,i64 0, .str rf.name,i64 rf.mode, .str rf.plate,i64 rf.n,ints s, .nils])),rrH ws q6 b6,rfl,sk,sk, .mk 5 0 0 0 rf s [],q6,b6,q6l,by rw [qDF];exact Out.no c1 (Out.no c2 (o1.then (Out.yes c3 (o3.then (ol.then (o6.then (Out.ret (by rw [k5]))))).mv))),⟨_,rfl,qN2 5 0 0 0 rf s⟩,rfl⟩
structure RAll (ws:List Wd) (f:Nat):Prop where
 cond:∀ q b,q<=ws.length->4 * (ws.length - q)+4<=f->qNM ws f q b
 conj:∀ q b,q<=ws.length->4 * (ws.length - q)+3<=f->HoldsG cx 173 [.ptr 0 0 0] (rrH ws q b) (RC ws b q (qCZ ws f q))
 neg:∀ q b,q<=ws.length->4 * (ws.length - q)+2<=f->HoldsG cx 194 [.ptr 0 0 0] (rrH ws q b) (RC ws b q (qFk ws f q))
 test:∀ q b,q<=ws.length->4 * (ws.length - q)+1<=f->HoldsG cx 203 [.ptr 0 0 0] (rrH ws q b) (RC ws b q (qDF ws f q))
theorem qWP (ws:List Wd) (F q0:Nat) (b0:Bool) (hg:GoodW ws) (hq0:q0<=ws.length) (hF:4 * (ws.length - q0)+2<=F+1) (ih:RAll ws F) :
  HoldsG cx 194 [.ptr 0 0 0] (rrH ws q0 b0) (RC ws b0 q0 (qFk ws (F+1) q0)):=by
 refine qAA Tryz.func194 rfl rfl rfl ?_
 have hl:=hg.len
 by_cases c1:Tk ws b0 q0 qGX
 ·have q1l:q0+1<=ws.length:=qAh (by rw [c1.2];decide)
  refine(qA0 ws q0 b0 qGX hg hq0 (by decide) (by decide)).holds.useT [] [] rfl (sk) (sk) fun e0 H0 hq=>?_
  obtain⟨rfl,rfl⟩:=hq.1 c1
  refine⟨rfl,_,⟨2,(0,rrO ws (q0+1) false)::[(1,zc)]⟩,rfl,rfl,?_⟩
  refine(ih.neg (q0+1) false q1l (by omega)).holds.useT [] [] rfl (sk) (sk) fun e0 H0 hq=>?_
  obtain⟨⟨o,n,rl,vl,rf,st,ar⟩,q2,b2,q2l,o2,rfl,rfl⟩:=hq
  refine⟨rfl,_,⟨2,(0,rrO ws q2 b2)::[(1,zc)]⟩,rfl,rfl,?_⟩
  exact⟨[2],[],[], .returned (.p (Cd.mk 7 0 0 0 rf0 [] [.mk o n rl vl rf st ar]).pv),rrH ws q2 b2,rfl,⟨_,rfl,⟨_,rfl,_,_,rfl,rfl,_,_,rfl,rfl,_,_,rfl,rfl,_,_,rfl,rfl,_,_,rfl,rfl,_,_,rfl,rfl,_,_,rfl,rfl,_,_,rfl,rfl,_,_,rfl, .inr (.inl rfl),_,_,rfl,⟨_,rfl,by show 0+1<=1;omega,rfl⟩,rfl⟩⟩,sk,_,q2,b2,q2l,by rw [qFk];exact Out.yes c1 (o2.then Out.same).mv,rfl,rfl⟩
 refine(qA0 ws q0 b0 qGX hg hq0 (by decide) (by decide)).holds.useT [] [] rfl (sk) (sk) fun e0 H0 hq=>?_
 obtain⟨rfl,rfl⟩:=hq.2 c1
 refine⟨rfl,_,⟨2,(0,rrO ws q0 b0)::[(1,zc)]⟩,rfl,rfl,?_⟩
 refine(ih.test q0 b0 hq0 (by omega)).holds.useT [] [] rfl (sk) (sk) fun e0 H0 hq=>?_
 obtain⟨⟨o,n,rl,vl,rf,st,ar⟩,q2,b2,q2l,o2,rfl,rfl⟩:=hq
 refine⟨rfl,_,⟨2,(0,rrO ws q2 b2)::[(1,zc)]⟩,rfl,rfl,?_⟩
 exact⟨[],[],[], .returned (.p (Cd.mk o n rl vl rf st ar).pv),rrH ws q2 b2,rfl,sk,sk,_,q2,b2,q2l,by rw [qFk];exact Out.no c1 o2,rfl,rfl⟩
theorem qUq (ws:List Wd) (F q0:Nat) (b0:Bool) (hg:GoodW ws) (hq0:q0<=ws.length) (hF:4 * (ws.length - q0)+3<=F+1) (ih:∀ f,f<=F->RAll ws f) :
  HoldsG cx 173 [.ptr 0 0 0] (rrH ws q0 b0) (RC ws b0 q0 (qCZ ws (F+1) q0)):=by
 refine qAA Tryz.func173 rfl rfl rfl ?_
 have hl:=hg.len
 refine((ih F (Nat.le_refl _)).neg q0 b0 hq0 (by omega)).holds.useT [] [] rfl (sk) (sk) fun e0 H0 hq=>?_
 obtain⟨⟨o,n,rl,vl,rf,st,ar⟩,q1,b1,q1l,o1,rfl,rfl⟩:=hq
 refine⟨rfl,_,⟨2,(0,rrO ws q1 b1)::[(1,zc)]⟩,rfl,rfl,?_⟩
 have hlt1:b1=false->q0<q1:=fun e=>by
  subst e
  have:=o1.live
  subst this
  exact qN5 F (qBi o1)
 refine⟨Cd × Nat × Bool,fun x=>[(0, .ptr 0 0 0),(2, .ptr 1 0 0),(3, .ptr 2 0 0)],fun x=>⟨3,[(2,cO (x.1.cells.map .p)),(0,rrO ws x.2.1 x.2.2),(1,zc)]⟩,fun x=>x.2.1<=ws.length/\∃ f,f<=F/\(x.2.2=false->4 * (ws.length - x.2.1)+2<=f)/\∀ l q' b',Out x.2.2 x.2.1 (qIh ws f x.1 x.2.1) l q' b'->Out b0 q0 (qCZ ws (F+1) q0) l q' b',fun x=>if x.2.2=true then 0 else ws.length+1 - x.2.1,?_,?_⟩
 ·exact⟨(.mk o n rl vl rf st ar,q1,b1),⟨q1l,F,Nat.le_refl _,fun e=>by simp only [] at e ⊢;have:=hlt1 e;omega,fun l q' b' ho=>by rw [qCZ];exact o1.then ho⟩,qAB [] [] [] rfl (sk) (sk) rfl⟩
 clear o1 hlt1
 rintro⟨⟨o,n,rl,vl,rf,st,ar⟩,q,b⟩ ⟨k1,f,k0,k2,k3⟩
 simp only [] at k1 k0 k2 k3
 by_cases c1:Tk ws b q qDA
 ·have ql:q+1<=ws.length:=qAh (by rw [c1.2];decide)
  have hf:=k2 c1.1
  obtain⟨f,rfl⟩:∃ g,f=g+1:=⟨f - 1,by omega⟩
  refine(qA0 ws q b qDA hg k1 (by decide) (by decide)).holds.useT [] [] rfl (sk) (sk) fun e0 H0 hq=>?_
  obtain⟨rfl,rfl⟩:=hq.1 c1
  refine⟨rfl,_,⟨3,(0,rrO ws (q+1) false)::[(2,cO ((Cd.mk o n rl vl rf st ar).cells.map .p)),(1,zc)]⟩,rfl,rfl,?_⟩
  refine VDraw.seq rfl ?_
  refine((ih f (by omega)).neg (q+1) false ql (by omega)).holds.useT [] [] rfl (sk) (sk) fun e0 H0 hq=>?_
  obtain⟨⟨o',n',rl',vl',rf',st',ar'⟩,q2,b2,q2l,o2,rfl,rfl⟩:=hq
  have hlt2:b2=false->q+1<q2:=fun e=>by subst e;exact qN5 f (qBi o2)
  refine⟨rfl,_,⟨3,(0,rrO ws q2 b2)::[(2,cO ((Cd.mk o n rl vl rf st ar).cells.map .p)),(1,zc)]⟩,rfl,rfl,?_⟩
  refine⟨sk,?_⟩
  have c':=c1
  obtain⟨rfl,ct⟩:=c'
  exact⟨(.mk 8 0 0 0 rf0 [] [.mk o n rl vl rf st ar, .mk o' n' rl' vl' rf' st' ar'],q2,b2),⟨q2l,f,by omega,fun e=>by simp only [] at e ⊢;have:=hlt2 e;omega,fun l q' b' ho=>k3 l q' b' (by rw [qIh];exact Out.yes ⟨rfl,ct⟩ (o2.then ho).mv)⟩,qAB [3] [] [] rfl ⟨⟨rfl,rfl⟩,⟨rfl,rfl⟩,⟨rfl,rfl⟩,trivial⟩
   ⟨⟨_,rfl,rfl,rfl,_,rfl,_,_,rfl,rfl,_,_,rfl,rfl,_,_,rfl,rfl,_,_,rfl,rfl,_,_,rfl,rfl,_,_,rfl,rfl,_,_,rfl,rfl,_,_,rfl,rfl,_,_,rfl, .inr (.inl rfl),_,_,rfl,⟨_,rfl,by show 0+2<=2;omega,rfl⟩,rfl⟩,sk⟩ rfl,by show(if b2=true then 0 else ws.length+1 - q2)<(if false=true then 0 else ws.length+1 - q);cases b2 <;> simp <;> (try have:=hlt2 rfl) <;> omega⟩
 ·refine(qA0 ws q b qDA hg k1 (by decide) (by decide)).holds.useT [] [] rfl (sk) (sk) fun e0 H0 hq=>?_
  obtain⟨rfl,rfl⟩:=hq.2 c1
  refine⟨rfl,_,⟨3,(0,rrO ws q b)::[(2,cO ((Cd.mk o n rl vl rf st ar).cells.map .p)),(1,zc)]⟩,rfl,rfl,?_⟩
  have hst:Out b q (qIh ws f (.mk o n rl vl rf st ar) q) (.mk o n rl vl rf st ar) q b:=by
   cases b
   ·have hf:=k2 rfl
    obtain⟨f,rfl⟩:∃ g,f=g+1:=⟨f - 1,by omega⟩
    rw [qIh,if_neg (fun h=>c1 ⟨rfl,h⟩)]
    exact Out.same
   ·exact Out.bad
  exact⟨[],[],[], .returned (.p (Cd.mk o n rl vl rf st ar).pv),rrH ws q b,rfl,sk,sk,_,q,b,k1,k3 _ _ _ hst,rfl,rfl⟩
theorem qUr (ws:List Wd) (F q0:Nat) (b0:Bool) (hg:GoodW ws) (hq0:q0<=ws.length) (hF:4 * (ws.length - q0)+4<=F+1) (ih:∀ f,f<=F->RAll ws f) :
  HoldsG cx 139 [.ptr 0 0 0] (rrH ws q0 b0) (RC ws b0 q0 (qCa ws (F+1) q0)):=by
 refine qAA Tryz.func139 rfl rfl rfl ?_
 have hl:=hg.len
 refine((ih F (Nat.le_refl _)).conj q0 b0 hq0 (by omega)).holds.useT [] [] rfl (sk) (sk) fun e0 H0 hq=>?_
 obtain⟨⟨o,n,rl,vl,rf,st,ar⟩,q1,b1,q1l,o1,rfl,rfl⟩:=hq
 refine⟨rfl,_,⟨2,(0,rrO ws q1 b1)::[(1,zc)]⟩,rfl,rfl,?_⟩
 have hlt1:b1=false->q0<q1:=fun e=>by
  subst e
  have:=o1.live
  subst this
  exact qKf F (qBi o1)
 refine⟨Cd × Nat × Bool,fun x=>[(0, .ptr 0 0 0),(2, .ptr 1 0 0),(3, .ptr 2 0 0)],fun x=>⟨3,[(2,cO (x.1.cells.map .p)),(0,rrO ws x.2.1 x.2.2),(1,zc)]⟩,fun x=>x.2.1<=ws.length/\∃ f,f<=F/\(x.2.2=false->4 * (ws.length - x.2.1)+3<=f)/\∀ l q' b',Out x.2.2 x.2.1 (orR ws f x.1 x.2.1) l q' b'->Out b0 q0 (qCa ws (F+1) q0) l q' b',fun x=>if x.2.2=true then 0 else ws.length+1 - x.2.1,?_,?_⟩
 ·exact⟨(.mk o n rl vl rf st ar,q1,b1),⟨q1l,F,Nat.le_refl _,fun e=>by simp only [] at e ⊢;have:=hlt1 e;omega,fun l q' b' ho=>by rw [qCa];exact o1.then ho⟩,qAB [] [] [] rfl (sk) (sk) rfl⟩
 clear o1 hlt1
 rintro⟨⟨o,n,rl,vl,rf,st,ar⟩,q,b⟩ ⟨k1,f,k0,k2,k3⟩
 simp only [] at k1 k0 k2 k3
 by_cases c1:Tk ws b q tOr
 ·have ql:q+1<=ws.length:=qAh (by rw [c1.2];decide)
  have hf:=k2 c1.1
  obtain⟨f,rfl⟩:∃ g,f=g+1:=⟨f - 1,by omega⟩
  refine(qA0 ws q b tOr hg k1 (by decide) (by decide)).holds.useT [] [] rfl (sk) (sk) fun e0 H0 hq=>?_
  obtain⟨rfl,rfl⟩:=hq.1 c1
  refine⟨rfl,_,⟨3,(0,rrO ws (q+1) false)::[(2,cO ((Cd.mk o n rl vl rf st ar).cells.map .p)),(1,zc)]⟩,rfl,rfl,?_⟩
  refine VDraw.seq rfl ?_
  refine((ih f (by omega)).conj (q+1) false ql (by omega)).holds.useT [] [] rfl (sk) (sk) fun e0 H0 hq=>?_
  obtain⟨⟨o',n',rl',vl',rf',st',ar'⟩,q2,b2,q2l,o2,rfl,rfl⟩:=hq
  have hlt2:b2=false->q+1<q2:=fun e=>by subst e;exact qKf f (qBi o2)
  refine⟨rfl,_,⟨3,(0,rrO ws q2 b2)::[(2,cO ((Cd.mk o n rl vl rf st ar).cells.map .p)),(1,zc)]⟩,rfl,rfl,?_⟩
  refine⟨sk,?_⟩
  have c':=c1
  obtain⟨rfl,ct⟩:=c'
  exact⟨(.mk 9 0 0 0 rf0 [] [.mk o n rl vl rf st ar, .mk o' n' rl' vl' rf' st' ar'],q2,b2),⟨q2l,f,by omega,fun e=>by simp only [] at e ⊢;have:=hlt2 e;omega,fun l q' b' ho=>k3 l q' b' (by rw [orR];exact Out.yes ⟨rfl,ct⟩ (o2.then ho).mv)⟩,qAB [3] [] [] rfl ⟨⟨rfl,rfl⟩,⟨rfl,rfl⟩,⟨rfl,rfl⟩,trivial⟩
   ⟨⟨_,rfl,rfl,rfl,_,rfl,_,_,rfl,rfl,_,_,rfl,rfl,_,_,rfl,rfl,_,_,rfl,rfl,_,_,rfl,rfl,_,_,rfl,rfl,_,_,rfl,rfl,_,_,rfl,rfl,_,_,rfl, .inr (.inl rfl),_,_,rfl,⟨_,rfl,by show 0+2<=2;omega,rfl⟩,rfl⟩,sk⟩ rfl,by show(if b2=true then 0 else ws.length+1 - q2)<(if false=true then 0 else ws.length+1 - q);cases b2 <;> simp <;> (try have:=hlt2 rfl) <;> omega⟩
 ·refine(qA0 ws q b tOr hg k1 (by decide) (by decide)).holds.useT [] [] rfl (sk) (sk) fun e0 H0 hq=>?_
  obtain⟨rfl,rfl⟩:=hq.2 c1
  refine⟨rfl,_,⟨3,(0,rrO ws q b)::[(2,cO ((Cd.mk o n rl vl rf st ar).cells.map .p)),(1,zc)]⟩,rfl,rfl,?_⟩
  have hst:Out b q (orR ws f (.mk o n rl vl rf st ar) q) (.mk o n rl vl rf st ar) q b:=by
   cases b
   ·have hf:=k2 rfl
    obtain⟨f,rfl⟩:∃ g,f=g+1:=⟨f - 1,by omega⟩
    rw [orR,if_neg (fun h=>c1 ⟨rfl,h⟩)]
    exact Out.same
   ·exact Out.bad
  exact⟨[],[],[], .returned (.p (Cd.mk o n rl vl rf st ar).pv),rrH ws q b,rfl,sk,sk,_,q,b,k1,k3 _ _ _ hst,rfl,rfl⟩
theorem qTw (ws:List Wd) (hg:GoodW ws):∀ F f,f<=F->RAll ws f
 | 0,f,hf=>by
  have:f=0:=by omega
  subst this
  exact⟨fun q _ _ h=>absurd h (by omega),fun q _ _ h=>absurd h (by omega),fun q _ _ h=>absurd h (by omega),fun q _ _ h=>absurd h (by omega)⟩
 | F+1,f,hf=>by
  have ih:=qTw ws hg F
  by_cases h:f<=F
  ·exact ih f h
  have:f=F+1:=by omega
  subst this
  exact⟨fun q b hq hb=>qUr ws F q b hg hq hb ih,fun q b hq hb=>qUq ws F q b hg hq hb ih,fun q b hq hb=>qWP ws F q b hg hq hb (ih F (Nat.le_refl _)),fun q b hq hb=>qUd ws F q b hg hq hb fun q hq hb=>(ih F (Nat.le_refl _)).cond q false hq hb⟩
theorem qQX (ws:List Wd) (F q:Nat) (b:Bool) (hg:GoodW ws) (hq:q<=ws.length) (hF:4 * (ws.length - q)+4<=F):qNM ws F q b:=(qTw ws hg F F (Nat.le_refl _)).cond q b hq hF
def RQG {α:Type} (ws:List Wd) (b:Bool) (q:Nat) (r:Rd α) (val:α->PV) (e:AE) (H':Hp):Prop:=∃ a q' b',q'<=ws.length/\Out b q r a q' b'/\(∃ y,e=.returned (.p y)/\NilD y (val a))/\H'=rrH ws q' b'
theorem qNg {α:Type} {ws:List Wd} {b:Bool} {q:Nat} {g:FuncId} {args:List AV} {H:Hp} {r:Rd α} {val:α->PV} (h:HoldsG cx g args H (RQG ws b q r val)):HoldsG cx g args H (RQ ws b q r fun a=>.p (val a)):=
 h.weak fun e H' hq=>by
  obtain⟨c,q',b',h1,h2,⟨y,rfl,h3⟩,rfl⟩:=hq
  exact⟨.returned (.p (val c)),⟨_,rfl,by simp only [NilA];exact⟨_,rfl,h3⟩⟩,c,q',b',h1,h2,rfl,rfl⟩
def cC (c:Cd) (v:PV):AObj:=⟨qHB,false, .bx (c.cells.map .p++[.p v])⟩
theorem qMI (ws:List Wd) (F q0:Nat) (b0:Bool) (hF:4 * ws.length+8<=F) (hg:GoodW ws) (hq0:q0<=ws.length):HoldsG cx 101 [.ptr 0 0 0] (rrH ws q0 b0) (RQ ws b0 q0 (qEi ws F q0) fun l=>.p (css l)):=by
 refine qNg ?_
 refine qAA Tryz.func101 rfl rfl rfl ?_
 have hl:=hg.len
 refine(qA8 ws q0 b0 tLC hg hq0 (by decide) (by decide)).holds.useT [] [] rfl (sk) (sk) fun e0 H0 hq=>?_
 obtain⟨u1,q1,b1,q1l,o1,rfl,rfl⟩:=hq
 refine⟨rfl,_,⟨1,(0,rrO ws q1 b1)::[]⟩,rfl,rfl,?_⟩
 refine⟨List Cs × Nat × Bool,fun x=>[(0, .ptr 0 0 0),(3, .sl 1 11 0 x.1.length)],fun x=>⟨2,[(1,csO x.1),(0,rrO ws x.2.1 x.2.2)]⟩,fun x=>x.2.1<=ws.length/\(x.2.2=false->x.1.length<=x.2.1)/\x.1.length<=1501/\LK b1 q1 (qCV ws F F [] q1) (fun f=>qCV ws F f x.1 x.2.1) ws.length x.2.1 x.2.2,fun x=>if x.2.2=true then 0 else ws.length+1 - x.2.1,?_,?_⟩
 ·exact⟨([],q1,b1),⟨q1l,fun _=>by simp,by simp,F,fun _=>by simp only [];omega,fun l q' b' ho=>ho⟩,qAB [] [] [(1,11)] rfl (sk) (sk) rfl⟩
 rintro⟨acc,q,b⟩ ⟨k1,k2,k3,k4⟩
 simp only [] at k1 k2 k3 k4
 have hend:(b=true∨b=false/\txt ws q=qCQ)->∀ {L:List Cs} {q9:Nat} {b9:Bool},Out b q ((qBP ws qCQ q).then fun _ q=>qFb ws F acc q) L q9 b9->Out b1 q1 (qCV ws F F [] q1) L q9 b9:=by
  intro hh L q9 b9 ho
  obtain⟨f,hf,hk⟩:=k4
  refine hk _ _ _ ?_
  rcases hh with rfl | ⟨rfl,ht⟩
  ·exact ho
  ·have:=hf rfl
   obtain⟨f,rfl⟩:∃ g,f=g+1:=⟨f - 1,by omega⟩
   simp only [] at ho ⊢
   rw [qCV,if_pos ht]
   rw [qBP,if_pos ht] at ho
   exact ho
 cases b
 rotate_left
 ·refine(qA8 ws q true qCQ hg k1 (by decide) (by decide)).holds.useT [] [] rfl (sk) (sk) fun e0 H0 hq=>?_
  obtain⟨u2,q2,b2,q2l,o2,rfl,rfl⟩:=hq
  refine⟨rfl,_,⟨2,(0,rrO ws q2 b2)::[(1,csO acc)]⟩,rfl,rfl,?_⟩
  refine(qA8 ws q2 b2 qAu hg q2l (by decide) (by decide)).holds.useT [] [] rfl (sk) (sk) fun e0 H0 hq=>?_
  obtain⟨u3,q3,b3,q3l,o3,rfl,rfl⟩:=hq
  refine⟨rfl,_,⟨2,(0,rrO ws q3 b3)::[(1,csO acc)]⟩,rfl,rfl,?_⟩
  refine(qMK ws F q3 b3 (by omega) hg q3l).holds.useT [] [] rfl (sk) (sk) fun e0 H0 hq=>?_
  obtain⟨l,q4,b4,q4l,o4,rfl,rfl⟩:=hq
  refine⟨rfl,_,⟨2,(0,rrO ws q4 b4)::[(1,csO acc)]⟩,rfl,rfl,?_⟩
  refine⟨by show 0+1<=1;omega,[qJg l],rfl,?_⟩
  refine⟨by show 0+acc.length<=(acc.map Cs.cells).length;simp,acc.map Cs.cells,qAD (by simp),by show(acc.length+1) * 152<=140737488355328;omega,acc.map Cs.cells++[qJg l],rfl,?_⟩
  refine(qA8 ws q4 b4 tRC hg q4l (by decide) (by decide)).holds.useT [] [] rfl (sk) (sk) fun e0 H0 hq=>?_
  obtain⟨u5,q5,b5,q5l,o5,rfl,rfl⟩:=hq
  refine⟨rfl,_,⟨4,(0,rrO ws q5 b5)::[(3,⟨qHB,false, .pus (acc.map Cs.cells++[qJg l])⟩),(2,⟨qHB,false, .pus [qJg l]⟩)]⟩,rfl,rfl,?_⟩
  exact⟨[3],[],[], .returned (.p (.lsts 11 (acc.map Cs.cells++[qJg l]))),rrH ws q5 b5,rfl,⟨_,rfl,⟨_,rfl,by show 0+(acc.length+1)<=(acc.map Cs.cells++[qJg l]).length;simp,qAD (by simp)⟩⟩,sk,acc++[⟨cd0,l⟩],q5,b5,q5l,o1.then (hend (.inl rfl) (o2.then (o3.then (o4.then (o5.then Out.same))))),⟨_,rfl,qMZ acc l⟩,rfl⟩
 by_cases c:Tk ws false q qCQ
 ·refine(qVE ws q false qCQ hg k1 (by decide) (by decide)).holds.useT [] [] rfl (sk) (sk) fun e0 H0 hq=>?_
  obtain⟨rfl,rfl⟩:=hq.1 c
  refine⟨rfl,_,⟨2,(0,rrO ws q false)::[(1,csO acc)]⟩,rfl,rfl,?_⟩
  refine(qA8 ws q false qCQ hg k1 (by decide) (by decide)).holds.useT [] [] rfl (sk) (sk) fun e0 H0 hq=>?_
  obtain⟨u2,q2,b2,q2l,o2,rfl,rfl⟩:=hq
  refine⟨rfl,_,⟨2,(0,rrO ws q2 b2)::[(1,csO acc)]⟩,rfl,rfl,?_⟩
  refine(qA8 ws q2 b2 qAu hg q2l (by decide) (by decide)).holds.useT [] [] rfl (sk) (sk) fun e0 H0 hq=>?_
  obtain⟨u3,q3,b3,q3l,o3,rfl,rfl⟩:=hq
  refine⟨rfl,_,⟨2,(0,rrO ws q3 b3)::[(1,csO acc)]⟩,rfl,rfl,?_⟩
  refine(qMK ws F q3 b3 (by omega) hg q3l).holds.useT [] [] rfl (sk) (sk) fun e0 H0 hq=>?_
  obtain⟨l,q4,b4,q4l,o4,rfl,rfl⟩:=hq
  refine⟨rfl,_,⟨2,(0,rrO ws q4 b4)::[(1,csO acc)]⟩,rfl,rfl,?_⟩
  refine⟨by show 0+1<=1;omega,[qJg l],rfl,?_⟩
  refine⟨by show 0+acc.length<=(acc.map Cs.cells).length;simp,acc.map Cs.cells,qAD (by simp),by show(acc.length+1) * 152<=140737488355328;omega,acc.map Cs.cells++[qJg l],rfl,?_⟩
  refine(qA8 ws q4 b4 tRC hg q4l (by decide) (by decide)).holds.useT [] [] rfl (sk) (sk) fun e0 H0 hq=>?_
  obtain⟨u5,q5,b5,q5l,o5,rfl,rfl⟩:=hq
  refine⟨rfl,_,⟨4,(0,rrO ws q5 b5)::[(3,⟨qHB,false, .pus (acc.map Cs.cells++[qJg l])⟩),(2,⟨qHB,false, .pus [qJg l]⟩)]⟩,rfl,rfl,?_⟩
  exact⟨[3],[],[], .returned (.p (.lsts 11 (acc.map Cs.cells++[qJg l]))),rrH ws q5 b5,rfl,⟨_,rfl,⟨_,rfl,by show 0+(acc.length+1)<=(acc.map Cs.cells++[qJg l]).length;simp,qAD (by simp)⟩⟩,sk,acc++[⟨cd0,l⟩],q5,b5,q5l,o1.then (hend (.inr c) (o2.then (o3.then (o4.then (o5.then Out.same))))),⟨_,rfl,qMZ acc l⟩,rfl⟩
 refine(qVE ws q false qCQ hg k1 (by decide) (by decide)).holds.useT [] [] rfl (sk) (sk) fun e0 H0 hq=>?_
 obtain⟨rfl,rfl⟩:=hq.2 c
 refine⟨rfl,_,⟨2,(0,rrO ws q false)::[(1,csO acc)]⟩,rfl,rfl,?_⟩
 clear hend
 have hal:=k2 rfl
 refine(qQX ws F q false hg k1 (by omega)).holds.useT [] [] rfl (sk) (sk) fun e0 H0 hq=>?_
 obtain⟨⟨o,n,rl,vl,rf,st,ar⟩,q2,b2,q2l,o2,rfl,rfl⟩:=hq
 refine⟨rfl,_,⟨2,(0,rrO ws q2 b2)::[(1,csO acc)]⟩,rfl,rfl,?_⟩
 refine(qA8 ws q2 b2 qAu hg q2l (by decide) (by decide)).holds.useT [] [] rfl (sk) (sk) fun e0 H0 hq=>?_
 obtain⟨u3,q3,b3,q3l,o3,rfl,rfl⟩:=hq
 refine⟨rfl,_,⟨3,(0,rrO ws q3 b3)::[(2,cC (.mk o n rl vl rf st ar) .nils),(1,csO acc)]⟩,rfl,rfl,?_⟩
 refine(qMK ws F q3 b3 (by omega) hg q3l).holds.useT [] [] rfl (sk) (sk) fun e0 H0 hq=>?_
 obtain⟨l,q4,b4,q4l,o4,rfl,rfl⟩:=hq
 refine⟨rfl,_,⟨3,(0,rrO ws q4 b4)::[(2,cC (.mk o n rl vl rf st ar) .nils),(1,csO acc)]⟩,rfl,rfl,?_⟩
 refine(qA8 ws q4 b4 qAZ hg q4l (by decide) (by decide)).holds.useT [] [] rfl (sk) (sk) fun e0 H0 hq=>?_
 obtain⟨u5,q5,b5,q5l,o5,rfl,rfl⟩:=hq
 refine⟨rfl,_,⟨3,(0,rrO ws q5 b5)::[(2,cC (.mk o n rl vl rf st ar) (ints l)),(1,csO acc)]⟩,rfl,rfl,?_⟩
 obtain⟨x,hx⟩:∃ x:Cs,x=⟨.mk o n rl vl rf st ar,l⟩:=⟨_,rfl⟩
 refine⟨by show 0+1<=1;omega,[x.cells],by rw [hx];rfl,?_⟩
 refine⟨by show 0+acc.length<=(acc.map Cs.cells).length;simp,acc.map Cs.cells,qAD (by simp),by show(acc.length+1) * 152<=140737488355328;omega,(acc++[x]).map Cs.cells,by simp,?_⟩
 have hlt:b5=false->q+1<=q5:=fun e=>by
  subst e
  have h5:=o5.live
  subst h5
  have h4:=o4.live
  subst h4
  have h3:=o3.live
  subst h3
  have h2:=o2.live
  have g2:=qM5 F (qBi o2)
  have g3:=qAv (qBi o3)
  have g4:=qKM (qBi o4)
  have g5:=qAv (qBi o5)
  omega
 exact⟨(acc++[x],q5,b5),⟨q5l,fun e=>by have:=hlt e;show(acc++[x]).length<=q5;rw [qAK];omega,by show(acc++[x]).length<=1501;rw [qAK];omega,k4.step (fun f l' q' b' ho=>by rw [qCV,if_neg (fun h=>c ⟨rfl,h⟩)];exact o2.then (o3.then (o4.then (o5.then (by rw [hx] at ho;exact ho))))) (fun e=>⟨by have:=hlt e;show q<q5;omega,q5l⟩)⟩,qAB [] [(1,4)] [] rfl ⟨⟨rfl,rfl⟩,congrArg (fun k:Nat=>AV.sl 4 11 0 k) (qAK acc x).symm,trivial⟩ (sk) rfl,by show(if b5=true then 0 else ws.length+1 - q5)<(if false=true then 0 else ws.length+1 - q);cases b5 <;> simp <;> (try have:=hlt rfl) <;> omega⟩
def qRl (ws:List Wd) (F q:Nat):Rd De:=(qB3 ws F q).then fun d q=>(qBP ws qAZ q).then fun _ q=>.inr (d,q)
def rdO (k n:Int) (nm pl:List UInt8) (rs cs:PV):AObj:=⟨qNL,false, .bx [.p (i64 k), .p (i64 n), .p (.str nm), .p (.str pl), .p rs, .p cs]⟩
abbrev dz:AObj:=rdO 0 0 [] [] .nils .nils
theorem qFc {k n:Int} {nm pl:List UInt8} {l:List Rf} {cs:List Cs} {rs c2:PV} (h1:NilD rs (qB5 l)) (h2:NilD c2 (css cs)):NilD (.agg [i64 k,i64 n, .str nm, .str pl,rs,c2]) (De.pv ⟨k,n,nm,pl,l,cs⟩):=by
 show NilD _ (.agg [i64 k,i64 n, .str nm, .str pl,qB5 l,css cs])
 simp only [NilD,NilDL]
 exact⟨_,rfl,_,_,rfl,rfl,_,_,rfl,rfl,_,_,rfl,rfl,_,_,rfl,rfl,_,_,rfl,h1,_,_,rfl,h2,rfl⟩
theorem qB1 (s:Nat):NilD .nils (.lsts s []):=by simp only [NilD];exact .inr (.inr ⟨s,rfl⟩)
theorem qUo (ws:List Wd) (F q0:Nat) (b0:Bool) (hF:4 * ws.length+8<=F) (hg:GoodW ws) (hq0:q0<=ws.length):HoldsG cx 56 [.ptr 0 0 0] (rrH ws q0 b0) (RQ ws b0 q0 (qRl ws F q0) fun d=>.p d.pv):=by
 refine qNg ?_
 refine qAA Tryz.func56 rfl rfl rfl ?_
 have hl:=hg.len
 by_cases c1:Tk ws b0 q0 qCP
 ·have q1l:q0+1<=ws.length:=qAh (by rw [c1.2];decide)
  refine(qA0 ws q0 b0 qCP hg hq0 (by decide) (by decide)).holds.useT [] [] rfl (sk) (sk) fun e0 H0 hq=>?_
  obtain⟨rfl,rfl⟩:=hq.1 c1
  refine⟨rfl,_,⟨3,(0,rrO ws (q0+1) false)::[(2,dz),(1,dz)]⟩,rfl,rfl,?_⟩
  refine(qDX ws (q0+1) false hg q1l).holds.useT [] [] rfl (sk) (sk) fun e0 H0 hq=>?_
  obtain⟨n,q2,b2,q2l,o2,rfl,rfl⟩:=hq
  refine⟨rfl,_,⟨3,(0,rrO ws q2 b2)::[(2,dz),(1,dz)]⟩,rfl,rfl,?_⟩
  refine(qA8 ws q2 b2 qAZ hg q2l (by decide) (by decide)).holds.useT [] [] rfl (sk) (sk) fun e0 H0 hq=>?_
  obtain⟨u9,q9,b9,q9l,o9,rfl,rfl⟩:=hq
  refine⟨rfl,_,⟨3,(0,rrO ws q9 b9)::[(2,rdO 1 n [] [] .nils .nils),(1,dz)]⟩,rfl,rfl,?_⟩
  exact⟨[],[],[], .returned (.p (.agg [i64 1,i64 n, .str [], .str [], .nils, .nils])),rrH ws q9 b9,rfl,sk,sk,⟨1,n,[],[],[],[]⟩,q9,b9,q9l,Out.then (by rw [qB3];exact Out.yes c1 (o2.then Out.same).mv) (o9.then Out.same),⟨_,rfl,qFc (by first | exact NilD.refl _ | exact qB1 4) (by first | exact NilD.refl _ | exact qB1 11)⟩,rfl⟩
 refine(qA0 ws q0 b0 qCP hg hq0 (by decide) (by decide)).holds.useT [] [] rfl (sk) (sk) fun e0 H0 hq=>?_
 obtain⟨rfl,rfl⟩:=hq.2 c1
 refine⟨rfl,_,⟨3,(0,rrO ws q0 b0)::[(2,dz),(1,dz)]⟩,rfl,rfl,?_⟩
 by_cases c2:Tk ws b0 q0 qCO
 ·have q1l:q0+1<=ws.length:=qAh (by rw [c2.2];decide)
  refine(qA0 ws q0 b0 qCO hg hq0 (by decide) (by decide)).holds.useT [] [] rfl (sk) (sk) fun e0 H0 hq=>?_
  obtain⟨rfl,rfl⟩:=hq.1 c2
  refine⟨rfl,_,⟨3,(0,rrO ws (q0+1) false)::[(2,dz),(1,dz)]⟩,rfl,rfl,?_⟩
  refine(qFd ws (q0+1) false hg q1l).holds.useT [] [] rfl (sk) (sk) fun e0 H0 hq=>?_
  obtain⟨nm,q2,b2,q2l,o2,rfl,rfl⟩:=hq
  refine⟨rfl,_,⟨3,(0,rrO ws q2 b2)::[(2,dz),(1,dz)]⟩,rfl,rfl,?_⟩
  refine(qA8 ws q2 b2 tEq hg q2l (by decide) (by decide)).holds.useT [] [] rfl (sk) (sk) fun e0 H0 hq=>?_
  obtain⟨u3,q3,b3,q3l,o3,rfl,rfl⟩:=hq
  refine⟨rfl,_,⟨3,(0,rrO ws q3 b3)::[(2,rdO 2 0 nm [] .nils .nils),(1,dz)]⟩,rfl,rfl,?_⟩
  refine(qDX ws q3 b3 hg q3l).holds.useT [] [] rfl (sk) (sk) fun e0 H0 hq=>?_
  obtain⟨n,q4,b4,q4l,o4,rfl,rfl⟩:=hq
  refine⟨rfl,_,⟨3,(0,rrO ws q4 b4)::[(2,rdO 2 0 nm [] .nils .nils),(1,dz)]⟩,rfl,rfl,?_⟩
  refine(qA8 ws q4 b4 qAZ hg q4l (by decide) (by decide)).holds.useT [] [] rfl (sk) (sk) fun e0 H0 hq=>?_
  obtain⟨u9,q9,b9,q9l,o9,rfl,rfl⟩:=hq
  refine⟨rfl,_,⟨3,(0,rrO ws q9 b9)::[(2,rdO 2 n nm [] .nils .nils),(1,dz)]⟩,rfl,rfl,?_⟩
  exact⟨[],[],[], .returned (.p (.agg [i64 2,i64 n, .str nm, .str [], .nils, .nils])),rrH ws q9 b9,rfl,sk,sk,⟨2,n,nm,[],[],[]⟩,q9,b9,q9l,Out.then (by rw [qB3];exact Out.no c1 (Out.yes c2 (o2.then (o3.then (o4.then Out.same))).mv)) (o9.then Out.same),⟨_,rfl,qFc (by first | exact NilD.refl _ | exact qB1 4) (by first | exact NilD.refl _ | exact qB1 11)⟩,rfl⟩
 refine(qA0 ws q0 b0 qCO hg hq0 (by decide) (by decide)).holds.useT [] [] rfl (sk) (sk) fun e0 H0 hq=>?_
 obtain⟨rfl,rfl⟩:=hq.2 c2
 refine⟨rfl,_,⟨3,(0,rrO ws q0 b0)::[(2,dz),(1,dz)]⟩,rfl,rfl,?_⟩
 by_cases c3:Tk ws b0 q0 qAx
 ·have q1l:q0+1<=ws.length:=qAh (by rw [c3.2];decide)
  refine(qA0 ws q0 b0 qAx hg hq0 (by decide) (by decide)).holds.useT [] [] rfl (sk) (sk) fun e0 H0 hq=>?_
  obtain⟨rfl,rfl⟩:=hq.1 c3
  refine⟨rfl,_,⟨3,(0,rrO ws (q0+1) false)::[(2,dz),(1,dz)]⟩,rfl,rfl,?_⟩
  refine(qFd ws (q0+1) false hg q1l).holds.useT [] [] rfl (sk) (sk) fun e0 H0 hq=>?_
  obtain⟨nm,q2,b2,q2l,o2,rfl,rfl⟩:=hq
  refine⟨rfl,_,⟨3,(0,rrO ws q2 b2)::[(2,dz),(1,dz)]⟩,rfl,rfl,?_⟩
  have hb:∀ {d:De} {q9:Nat} {b9:Bool},Out b2 q2 (if txt ws q2=tLB then(qCU ws (q2+1)).then fun pl q=>(qBP ws tRB q).then fun _ q=>qBs ws F nm pl q else qBs ws F nm [] q2) d q9 b9->Out b0 q0 (qB3 ws F q0) d q9 b9:=
   fun ho=>by rw [qB3];exact Out.no c1 (Out.no c2 (Out.yes c3 (o2.then ho).mv))
  by_cases c4:Tk ws b2 q2 tLB
  ·have q3l:q2+1<=ws.length:=qAh (by rw [c4.2];decide)
   refine(qA0 ws q2 b2 tLB hg q2l (by decide) (by decide)).holds.useT [] [] rfl (sk) (sk) fun e0 H0 hq=>?_
   obtain⟨rfl,rfl⟩:=hq.1 c4
   refine⟨rfl,_,⟨3,(0,rrO ws (q2+1) false)::[(2,rdO 3 0 nm [] .nils .nils),(1,dz)]⟩,rfl,rfl,?_⟩
   refine(qFd ws (q2+1) false hg q3l).holds.useT [] [] rfl (sk) (sk) fun e0 H0 hq=>?_
   obtain⟨pl,q3a,b3a,q3al,o3a,rfl,rfl⟩:=hq
   refine⟨rfl,_,⟨3,(0,rrO ws q3a b3a)::[(2,rdO 3 0 nm [] .nils .nils),(1,dz)]⟩,rfl,rfl,?_⟩
   refine(qA8 ws q3a b3a tRB hg q3al (by decide) (by decide)).holds.useT [] [] rfl (sk) (sk) fun e0 H0 hq=>?_
   obtain⟨u3,q3,b3,q3l,o3,rfl,rfl⟩:=hq
   refine⟨rfl,_,⟨3,(0,rrO ws q3 b3)::[(2,rdO 3 0 nm pl .nils .nils),(1,dz)]⟩,rfl,rfl,?_⟩
   have hb2:∀ {d:De} {q9:Nat} {b9:Bool},Out b3 q3 (qBs ws F nm pl q3) d q9 b9->Out b0 q0 (qB3 ws F q0) d q9 b9:=fun ho=>hb (Out.yes c4 (o3a.then (o3.then ho)).mv)
   refine(qA8 ws q3 b3 qAu hg q3l (by decide) (by decide)).holds.useT [] [] rfl (sk) (sk) fun e0 H0 hq=>?_
   obtain⟨u4,q4,b4,q4l,o4,rfl,rfl⟩:=hq
   refine⟨rfl,_,⟨3,(0,rrO ws q4 b4)::[(2,rdO 3 0 nm pl .nils .nils),(1,dz)]⟩,rfl,rfl,?_⟩
   refine(qDX ws q4 b4 hg q4l).holds.useT [] [] rfl (sk) (sk) fun e0 H0 hq=>?_
   obtain⟨n,q5,b5,q5l,o5,rfl,rfl⟩:=hq
   refine⟨rfl,_,⟨3,(0,rrO ws q5 b5)::[(2,rdO 3 0 nm pl .nils .nils),(1,dz)]⟩,rfl,rfl,?_⟩
   refine(qJ6 ws F q5 b5 qAg (by decide) (by decide) (by omega) hg q5l).holds.useT [] [] rfl (sk) (sk) fun e0 H0 hq=>?_
   obtain⟨l,q6,b6,q6l,o6,rfl,rfl⟩:=hq
   refine⟨rfl,_,⟨3,(0,rrO ws q6 b6)::[(2,rdO 3 n nm pl .nils .nils),(1,dz)]⟩,rfl,rfl,?_⟩
   refine(qA8 ws q6 b6 tEq hg q6l (by decide) (by decide)).holds.useT [] [] rfl (sk) (sk) fun e0 H0 hq=>?_
   obtain⟨u7,q7,b7,q7l,o7,rfl,rfl⟩:=hq
   refine⟨rfl,_,⟨3,(0,rrO ws q7 b7)::[(2,rdO 3 n nm pl (qB5 l) .nils),(1,dz)]⟩,rfl,rfl,?_⟩
   refine(qMI ws F q7 b7 hF hg q7l).holds.useT [] [] rfl (sk) (sk) fun e0 H0 hq=>?_
   obtain⟨cs,q8,b8,q8l,o8,rfl,rfl⟩:=hq
   refine⟨rfl,_,⟨3,(0,rrO ws q8 b8)::[(2,rdO 3 n nm pl (qB5 l) .nils),(1,dz)]⟩,rfl,rfl,?_⟩
   refine(qA8 ws q8 b8 qAZ hg q8l (by decide) (by decide)).holds.useT [] [] rfl (sk) (sk) fun e0 H0 hq=>?_
   obtain⟨u9,q9,b9,q9l,o9,rfl,rfl⟩:=hq
   refine⟨rfl,_,⟨3,(0,rrO ws q9 b9)::[(2,rdO 3 n nm pl (qB5 l) (css cs)),(1,dz)]⟩,rfl,rfl,?_⟩
   exact⟨[],[],[], .returned (.p (.agg [i64 3,i64 n, .str nm, .str pl,(qB5 l),(css cs)])),rrH ws q9 b9,rfl,sk,sk,⟨3,n,nm,pl,l,cs⟩,q9,b9,q9l,Out.then (hb2 (o4.then (o5.then (o6.then (o7.then (o8.then Out.same)))))) (o9.then Out.same),⟨_,rfl,qFc (by first | exact NilD.refl _ | exact qB1 4) (by first | exact NilD.refl _ | exact qB1 11)⟩,rfl⟩
  ·refine(qA0 ws q2 b2 tLB hg q2l (by decide) (by decide)).holds.useT [] [] rfl (sk) (sk) fun e0 H0 hq=>?_
   obtain⟨rfl,rfl⟩:=hq.2 c4
   refine⟨rfl,_,⟨3,(0,rrO ws q2 b2)::[(2,rdO 3 0 nm [] .nils .nils),(1,dz)]⟩,rfl,rfl,?_⟩
   have hb2:∀ {d:De} {q9:Nat} {b9:Bool},Out b2 q2 (qBs ws F nm [] q2) d q9 b9->Out b0 q0 (qB3 ws F q0) d q9 b9:=fun ho=>hb (Out.no c4 ho)
   refine(qA8 ws q2 b2 qAu hg q2l (by decide) (by decide)).holds.useT [] [] rfl (sk) (sk) fun e0 H0 hq=>?_
   obtain⟨u4,q4,b4,q4l,o4,rfl,rfl⟩:=hq
   refine⟨rfl,_,⟨3,(0,rrO ws q4 b4)::[(2,rdO 3 0 nm [] .nils .nils),(1,dz)]⟩,rfl,rfl,?_⟩
   refine(qDX ws q4 b4 hg q4l).holds.useT [] [] rfl (sk) (sk) fun e0 H0 hq=>?_
   obtain⟨n,q5,b5,q5l,o5,rfl,rfl⟩:=hq
   refine⟨rfl,_,⟨3,(0,rrO ws q5 b5)::[(2,rdO 3 0 nm [] .nils .nils),(1,dz)]⟩,rfl,rfl,?_⟩
   refine(qJ6 ws F q5 b5 qAg (by decide) (by decide) (by omega) hg q5l).holds.useT [] [] rfl (sk) (sk) fun e0 H0 hq=>?_
   obtain⟨l,q6,b6,q6l,o6,rfl,rfl⟩:=hq
   refine⟨rfl,_,⟨3,(0,rrO ws q6 b6)::[(2,rdO 3 n nm [] .nils .nils),(1,dz)]⟩,rfl,rfl,?_⟩
   refine(qA8 ws q6 b6 tEq hg q6l (by decide) (by decide)).holds.useT [] [] rfl (sk) (sk) fun e0 H0 hq=>?_
   obtain⟨u7,q7,b7,q7l,o7,rfl,rfl⟩:=hq
   refine⟨rfl,_,⟨3,(0,rrO ws q7 b7)::[(2,rdO 3 n nm [] (qB5 l) .nils),(1,dz)]⟩,rfl,rfl,?_⟩
   refine(qMI ws F q7 b7 hF hg q7l).holds.useT [] [] rfl (sk) (sk) fun e0 H0 hq=>?_
   obtain⟨cs,q8,b8,q8l,o8,rfl,rfl⟩:=hq
   refine⟨rfl,_,⟨3,(0,rrO ws q8 b8)::[(2,rdO 3 n nm [] (qB5 l) .nils),(1,dz)]⟩,rfl,rfl,?_⟩
   refine(qA8 ws q8 b8 qAZ hg q8l (by decide) (by decide)).holds.useT [] [] rfl (sk) (sk) fun e0 H0 hq=>?_
   obtain⟨u9,q9,b9,q9l,o9,rfl,rfl⟩:=hq
   refine⟨rfl,_,⟨3,(0,rrO ws q9 b9)::[(2,rdO 3 n nm [] (qB5 l) (css cs)),(1,dz)]⟩,rfl,rfl,?_⟩
   exact⟨[],[],[], .returned (.p (.agg [i64 3,i64 n, .str nm, .str [],(qB5 l),(css cs)])),rrH ws q9 b9,rfl,sk,sk,⟨3,n,nm,[],l,cs⟩,q9,b9,q9l,Out.then (hb2 (o4.then (o5.then (o6.then (o7.then (o8.then Out.same)))))) (o9.then Out.same),⟨_,rfl,qFc (by first | exact NilD.refl _ | exact qB1 4) (by first | exact NilD.refl _ | exact qB1 11)⟩,rfl⟩
 refine(qA0 ws q0 b0 qAx hg hq0 (by decide) (by decide)).holds.useT [] [] rfl (sk) (sk) fun e0 H0 hq=>?_
 obtain⟨rfl,rfl⟩:=hq.2 c3
 refine⟨rfl,_,⟨3,(0,rrO ws q0 b0)::[(2,dz),(1,dz)]⟩,rfl,rfl,?_⟩
 by_cases c4:Tk ws b0 q0 qBS
 ·have q1l:q0+1<=ws.length:=qAh (by rw [c4.2];decide)
  refine(qA0 ws q0 b0 qBS hg hq0 (by decide) (by decide)).holds.useT [] [] rfl (sk) (sk) fun e0 H0 hq=>?_
  obtain⟨rfl,rfl⟩:=hq.1 c4
  refine⟨rfl,_,⟨3,(0,rrO ws (q0+1) false)::[(2,dz),(1,dz)]⟩,rfl,rfl,?_⟩
  refine(qFd ws (q0+1) false hg q1l).holds.useT [] [] rfl (sk) (sk) fun e0 H0 hq=>?_
  obtain⟨nm,q2,b2,q2l,o2,rfl,rfl⟩:=hq
  refine⟨rfl,_,⟨3,(0,rrO ws q2 b2)::[(2,dz),(1,dz)]⟩,rfl,rfl,?_⟩
  refine(qA8 ws q2 b2 qAu hg q2l (by decide) (by decide)).holds.useT [] [] rfl (sk) (sk) fun e0 H0 hq=>?_
  obtain⟨u3,q3,b3,q3l,o3,rfl,rfl⟩:=hq
  refine⟨rfl,_,⟨3,(0,rrO ws q3 b3)::[(2,rdO 4 0 nm [] .nils .nils),(1,dz)]⟩,rfl,rfl,?_⟩
  refine(qDX ws q3 b3 hg q3l).holds.useT [] [] rfl (sk) (sk) fun e0 H0 hq=>?_
  obtain⟨n,q4,b4,q4l,o4,rfl,rfl⟩:=hq
  refine⟨rfl,_,⟨3,(0,rrO ws q4 b4)::[(2,rdO 4 0 nm [] .nils .nils),(1,dz)]⟩,rfl,rfl,?_⟩
  refine(qJ6 ws F q4 b4 qBd (by decide) (by decide) (by omega) hg q4l).holds.useT [] [] rfl (sk) (sk) fun e0 H0 hq=>?_
  obtain⟨l,q5,b5,q5l,o5,rfl,rfl⟩:=hq
  refine⟨rfl,_,⟨3,(0,rrO ws q5 b5)::[(2,rdO 4 n nm [] .nils .nils),(1,dz)]⟩,rfl,rfl,?_⟩
  refine(qA8 ws q5 b5 qAZ hg q5l (by decide) (by decide)).holds.useT [] [] rfl (sk) (sk) fun e0 H0 hq=>?_
  obtain⟨u9,q9,b9,q9l,o9,rfl,rfl⟩:=hq
  refine⟨rfl,_,⟨3,(0,rrO ws q9 b9)::[(2,rdO 4 n nm [] (qB5 l) .nils),(1,dz)]⟩,rfl,rfl,?_⟩
  exact⟨[],[],[], .returned (.p (.agg [i64 4,i64 n, .str nm, .str [],(qB5 l), .nils])),rrH ws q9 b9,rfl,sk,sk,⟨4,n,nm,[],l,[]⟩,q9,b9,q9l,Out.then (by rw [qB3];exact Out.no c1 (Out.no c2 (Out.no c3 (Out.yes c4 (o2.then (o3.then (o4.then (o5.then Out.same)))).mv)))) (o9.then Out.same),⟨_,rfl,qFc (by first | exact NilD.refl _ | exact qB1 4) (by first | exact NilD.refl _ | exact qB1 11)⟩,rfl⟩
 refine(qA0 ws q0 b0 qBS hg hq0 (by decide) (by decide)).holds.useT [] [] rfl (sk) (sk) fun e0 H0 hq=>?_
 obtain⟨rfl,rfl⟩:=hq.2 c4
 refine⟨rfl,_,⟨3,(0,rrO ws q0 b0)::[(2,dz),(1,dz)]⟩,rfl,rfl,?_⟩
 by_cases c5:Tk ws b0 q0 qB4
 ·have q1l:q0+1<=ws.length:=qAh (by rw [c5.2];decide)
  refine(qA0 ws q0 b0 qB4 hg hq0 (by decide) (by decide)).holds.useT [] [] rfl (sk) (sk) fun e0 H0 hq=>?_
  obtain⟨rfl,rfl⟩:=hq.1 c5
  refine⟨rfl,_,⟨3,(0,rrO ws (q0+1) false)::[(2,dz),(1,dz)]⟩,rfl,rfl,?_⟩
  refine(qJ6 ws F (q0+1) false qAg (by decide) (by decide) (by omega) hg q1l).holds.useT [] [] rfl (sk) (sk) fun e0 H0 hq=>?_
  obtain⟨l,q2,b2,q2l,o2,rfl,rfl⟩:=hq
  refine⟨rfl,_,⟨3,(0,rrO ws q2 b2)::[(2,rdO 5 0 [] [] .nils .nils),(1,dz)]⟩,rfl,rfl,?_⟩
  refine(qA8 ws q2 b2 tEq hg q2l (by decide) (by decide)).holds.useT [] [] rfl (sk) (sk) fun e0 H0 hq=>?_
  obtain⟨u3,q3,b3,q3l,o3,rfl,rfl⟩:=hq
  refine⟨rfl,_,⟨3,(0,rrO ws q3 b3)::[(2,rdO 5 0 [] [] (qB5 l) .nils),(1,dz)]⟩,rfl,rfl,?_⟩
  refine(qMI ws F q3 b3 hF hg q3l).holds.useT [] [] rfl (sk) (sk) fun e0 H0 hq=>?_
  obtain⟨cs,q4,b4,q4l,o4,rfl,rfl⟩:=hq
  refine⟨rfl,_,⟨3,(0,rrO ws q4 b4)::[(2,rdO 5 0 [] [] (qB5 l) .nils),(1,dz)]⟩,rfl,rfl,?_⟩
  refine(qA8 ws q4 b4 qAZ hg q4l (by decide) (by decide)).holds.useT [] [] rfl (sk) (sk) fun e0 H0 hq=>?_
  obtain⟨u9,q9,b9,q9l,o9,rfl,rfl⟩:=hq
  refine⟨rfl,_,⟨3,(0,rrO ws q9 b9)::[(2,rdO 5 0 [] [] (qB5 l) (css cs)),(1,dz)]⟩,rfl,rfl,?_⟩
  exact⟨[],[],[], .returned (.p (.agg [i64 5,i64 0, .str [], .str [],(qB5 l),(css cs)])),rrH ws q9 b9,rfl,sk,sk,⟨5,0,[],[],l,cs⟩,q9,b9,q9l,Out.then (by rw [qB3];exact Out.no c1 (Out.no c2 (Out.no c3 (Out.no c4 (Out.yes c5 (o2.then (o3.then (o4.then Out.same))).mv))))) (o9.then Out.same),⟨_,rfl,qFc (by first | exact NilD.refl _ | exact qB1 4) (by first | exact NilD.refl _ | exact qB1 11)⟩,rfl⟩
 refine(qA0 ws q0 b0 qB4 hg hq0 (by decide) (by decide)).holds.useT [] [] rfl (sk) (sk) fun e0 H0 hq=>?_
 obtain⟨rfl,rfl⟩:=hq.2 c5
 refine⟨rfl,_,⟨3,(0,rrO ws q0 b0)::[(2,dz),(1,dz)]⟩,rfl,rfl,?_⟩
 have od:Out b0 q0 (qB3 ws F q0) (⟨0,0,[],[],[],[]⟩:De) q0 true:=by
  cases b0
  ·show qB3 ws F q0=.inl q0
   rw [qB3,if_neg (fun h=>c1 ⟨rfl,h⟩),if_neg (fun h=>c2 ⟨rfl,h⟩),if_neg (fun h=>c3 ⟨rfl,h⟩),if_neg (fun h=>c4 ⟨rfl,h⟩),if_neg (fun h=>c5 ⟨rfl,h⟩)]
  ·exact Out.bad
 have q0l:=hq0
 refine(qA8 ws q0 true qAZ hg q0l (by decide) (by decide)).holds.useT [] [] rfl (sk) (sk) fun e0 H0 hq=>?_
 obtain⟨u9,q9,b9,q9l,o9,rfl,rfl⟩:=hq
 refine⟨rfl,_,⟨3,(0,rrO ws q9 b9)::[(2,rdO 0 0 [] [] .nils .nils),(1,dz)]⟩,rfl,rfl,?_⟩
 exact⟨[],[],[], .returned (.p (.agg [i64 0,i64 0, .str [], .str [], .nils, .nils])),rrH ws q9 b9,rfl,sk,sk,⟨0,0,[],[],[],[]⟩,q9,b9,q9l,Out.then od (o9.then Out.same),⟨_,rfl,qFc (by first | exact NilD.refl _ | exact qB1 4) (by first | exact NilD.refl _ | exact qB1 11)⟩,rfl⟩
theorem qTM {ws:List Wd} {F q q':Nat} {d:De} (h:qRl ws F q=.inr (d,q')):q<q':=by
 rw [qRl] at h
 cases h1:qB3 ws F q with
 | inl e=>rw [h1] at h;cases h
 | inr x=>
  obtain⟨a,p⟩:=x
  rw [h1] at h
  have h:(qBP ws qAZ p).then _=_:=h
  have:=qG0 h1
  cases h2:qBP ws qAZ p with
  | inl e=>rw [h2] at h;cases h
  | inr x=>
   obtain⟨u,p2⟩:=x
   rw [h2] at h
   have h:Sum.inr (a,p2)=(Sum.inr (d,q'):Rd De):=h
   have:=qAv h2
   injection h with h
   injection h with _ h
   omega
abbrev rpH (ws:List Wd) (acc:List De) (q:Nat) (b:Bool):Hp:=⟨4,[(3,qM2 acc),(2,srO (.sl 3 6 0 acc.length)),(1,rrO ws q b),(0,srO (.p .nils))]⟩
theorem qSr (s:List UInt8):Pure cx 23 [.str s] (·=.ret (qYN (qDn s))):=by
 have hRd:=qUt s
 refine qAC Tryz.func23 rfl rfl rfl ?_
 by_cases h0:8000<s.length
 ·rw [qC2,if_pos h0] at hRd
  refine hRd.eq rfl ?_
  have e:qDn s=.inl ((0,0),3):=by rw [qDn,if_pos h0]
  refine And.intro (fun h=>absurd (show(3:Int)=0 from h) (by decide)) (fun _=>?_)
  exact qKZ (qCn []) (i64 0) (i64 0) (i64 3) rfl ⟨_,rfl,_,_,rfl, .inr (.inr ⟨6,rfl⟩),rfl⟩ rfl rfl rfl (by rw [e] <;> rfl)
 cases hr:qFf s with
 | err p c=>
  rw [qC2,if_neg h0,hr] at hRd
  refine hRd.eq rfl ?_
  have e:qDn s=.inl ((p.1,p.2),c):=by rw [qDn,if_neg h0,hr]
  have hc:¬ c=0:=by
   have:=qE5 s _ _ _ _ _ hr
   omega
  refine And.intro (fun h=>absurd (show c=0 from h) hc) (fun _=>?_)
  exact qKZ (qCn []) (i64 p.1) (i64 p.2) (i64 c) rfl ⟨_,rfl,_,_,rfl, .inr (.inr ⟨6,rfl⟩),rfl⟩ rfl rfl rfl (by rw [e] <;> rfl)
 | ok ws=>
  have hg:=qGB hr
  have hl:=hg.len
  have hl':(ws.map Wd.cells).length=ws.length:=List.length_map ..
  rw [qC2,if_neg h0,hr] at hRd
  refine hRd.eq rfl ?_
  refine And.intro (fun _=>?_) (fun h=>absurd rfl h)
  obtain⟨F,hF⟩:∃ F,F=qFI ws:=⟨_,rfl⟩
  have hF8:4 * ws.length+8<=F:=by rw [hF];exact Nat.le_refl _
  have hFb:F<=100000:=by rw [hF,qFI];omega
  have e:qDn s=match qCq ws F F [] 0 with
    | .inl q=>.inl (((wat ws q).line,(wat ws q).col),381)
    | .inr (ds,_)=>if qBH ds=true then .inr ds else .inl ((0,0),3):=by rw [qDn,if_neg h0,hr,hF] <;> rfl
  clear hF
  refine⟨List De × Nat × Bool,fun x=>[(2, .ptr 0 0 0),(6, .p (.lsts 4 (ws.map Wd.cells))),(10, .ptr 1 0 0),(11, .ptr 2 0 0)],fun x=>rpH ws x.1 x.2.1 x.2.2,fun x=>x.2.1<=ws.length/\(x.2.2=false->x.1.length<=x.2.1)/\x.1.length<=1501/\LK false 0 (qCq ws F F [] 0) (fun f=>qCq ws F f x.1 x.2.1) ws.length x.2.1 x.2.2,fun x=>if x.2.2=true then 0 else ws.length+1 - x.2.1,?_,?_⟩
  ·exact⟨([],0,false),⟨Nat.zero_le _,fun _=>by simp,by simp,F,fun _=>by simp only [];omega,fun l q' b' ho=>ho⟩,qAB [] [] [(3,6)] rfl (sk) (sk) rfl⟩
  rintro⟨acc,q,b⟩ ⟨k1,k2,k3,k4⟩
  simp only [] at k1 k2 k3 k4
  cases b
  rotate_left
  ·have o:qCq ws F F [] 0=.inl q:=k4.stop (l:=[]) (fun e=>by cases e)
   rw [o] at e
   by_cases hq:q<ws.length
   ·refine And.intro (fun _=>?_) (fun h=>absurd (show(q:Int)<((ws.map Wd.cells).length:Nat) by rw [hl'];omega) h)
    refine VDraw.seq rfl ?_
    refine⟨_,⟨by omega,(wat ws q).cells,qCl hq,rfl⟩,?_⟩
    refine⟨_,⟨by omega,(wat ws q).cells,qCl hq,rfl⟩,?_⟩
    refine⟨sk,?_⟩
    exact qKZ (qCn []) (i64 (wat ws q).line) (i64 (wat ws q).col) (i64 381) rfl ⟨_,rfl,_,_,rfl, .inr (.inr ⟨6,rfl⟩),rfl⟩ rfl rfl rfl (by rw [e] <;> rfl)
   ·refine And.intro (fun h=>absurd (show(q:Int)<((ws.map Wd.cells).length:Nat) from h) (by rw [hl'];omega)) (fun _=>?_)
    have hw:wat ws q=wd0:=qGc (by omega)
    have e:qDn s=.inl (((wat ws q).line,(wat ws q).col),381):=e
    rw [hw] at e
    exact qKZ (qCn []) (i64 0) (i64 0) (i64 381) rfl ⟨_,rfl,_,_,rfl, .inr (.inr ⟨6,rfl⟩),rfl⟩ rfl rfl rfl (by rw [e] <;> rfl)
  by_cases hq:q<ws.length
  rotate_left
  ·have o:qCq ws F F [] 0=.inr (acc,q):=k4.stop (fun _ f=>by rw [qCq,if_neg hq])
   refine And.intro (fun h=>absurd (show(q:Int)<((ws.map Wd.cells).length:Nat) from h) (by rw [hl'];omega)) (fun _=>?_)
   have hC:=qXk acc (qH3 hg hFb o)
   rw [o] at e
   have hR:qCW (Res (marks (rpH ws acc q false).l [3]) 5) [.agg [.sl 3 6 0 acc.length]] [qCn acc]:=⟨_,_,rfl,⟨_,rfl,_,_,rfl,⟨_,rfl,by show 0+acc.length<=(acc.map De.cells).length;simp,qAD (by simp)⟩,rfl⟩,rfl⟩
   by_cases hv:qBH acc=true
   ·rw [hv] at hC
    refine hC.lends [3] rfl hR ?_
    have e:qDn s=.inr acc:=e.trans (if_pos hv)
    exact qKZ (qCn acc) (i64 0) (i64 0) (i64 0) rfl ⟨_,rfl,_,_,rfl,⟨_,rfl,by show 0+acc.length<=(acc.map De.cells).length;simp,qAD (by simp)⟩,rfl⟩ rfl rfl rfl (by rw [e] <;> rfl)
   ·have e:qDn s=.inl ((0,0),3):=e.trans (if_neg hv)
    rw [Bool.not_eq_true] at hv
    rw [hv] at hC
    refine hC.lends [3] rfl hR ?_
    exact qKZ (qCn []) (i64 0) (i64 0) (i64 3) rfl ⟨_,rfl,_,_,rfl, .inr (.inr ⟨6,rfl⟩),rfl⟩ rfl rfl rfl (by rw [e] <;> rfl)
  refine And.intro (fun _=>?_) (fun h=>absurd (show(q:Int)<((ws.map Wd.cells).length:Nat) by rw [hl'];omega) h)
  refine VDraw.seq rfl ?_
  have hal:=k2 rfl
  refine(qUo ws F q false hF8 hg k1).holds.useT [] [(0,1)] rfl (sk) (sk) fun e0 H0 hq0=>?_
  obtain⟨d,q2,b2,q2l,o2,rfl,rfl⟩:=hq0
  refine⟨rfl,_,⟨4,(1,rrO ws q2 b2)::[(3,qM2 acc),(2,srO (.sl 3 6 0 acc.length)),(0,srO (.p .nils))]⟩,rfl,rfl,?_⟩
  refine⟨sk,?_⟩
  refine⟨sk,?_⟩
  refine⟨by show 0+1<=1;omega,[d.cells],rfl,?_⟩
  refine⟨by show 0+acc.length<=(acc.map De.cells).length;simp,acc.map De.cells,qAD (by simp),by show(acc.length+1) * 96<=140737488355328;omega,(acc++[d]).map De.cells,by simp,?_⟩
  have hlt:b2=false->q<q2:=fun e=>by subst e;exact qTM (qBi o2)
  exact⟨(acc++[d],q2,b2),⟨q2l,fun e=>by have:=hlt e;show(acc++[d]).length<=q2;rw [qAK];omega,by show(acc++[d]).length<=1501;rw [qAK];omega,k4.step (fun f l q' b' ho=>by
   have e1:qCq ws F (f+1) acc q=(qRl ws F q).then fun d q=>qCq ws F f (acc++[d]) q:=by
    rw [qCq,if_pos hq,qRl,qI1]
    congr 1
    funext d q
    rw [qI1];rfl
   rw [e1]
   exact o2.then ho) (fun e=>⟨hlt e,q2l⟩)⟩,qAB [] [(3,5)] [] rfl (sk) ⟨⟨_,rfl,rfl,rfl,rfl⟩,⟨_,rfl,rfl,rfl,_,rfl,_,_,rfl,congrArg (fun k:Nat=>AV.sl 5 6 0 k) (qAK acc d).symm,rfl⟩,sk⟩ rfl,by show(if b2=true then 0 else ws.length+1 - q2)<(if false=true then 0 else ws.length+1 - q);cases b2 <;> simp <;> (try have:=hlt rfl) <;> omega⟩
set_option maxHeartbeats 40000000
abbrev otS:OT:=(.pure 0 (.pure 1 (.pure 2 (.pure 3 (.pure 4 (.pure 5 (.pure 6 (.pure 7 (.pure 8 (.pure 9 (.pure 10 (.pure 11 (.eff 12 [] (.pure 13 (.pure 14 (.pure 15 (.pure 16 (.pure 17 (.pure 18 (.pure 19 (.pure 20 (.pure 21 (.pure 22 (.pure 23 (.pure 24 (.pure 25 (.pure 26 (.eff 27 [] (.pure 28 (.pure 29 .fin)) .nil))))))))))))))) .nil)))))))))))))
theorem qIt {k n k' n':Int} {nm pl nm' pl':List UInt8} {rs rs':List Rf} {cs cs':List Cs}:((⟨k,n,nm,pl,rs,cs⟩:De)=⟨k',n',nm',pl',rs',cs'⟩) ↔ (k=k'/\n=n'/\nm=nm'/\pl=pl'/\rs=rs'/\cs=cs'):=by
 constructor
 ·intro h;injection h with h1 h2 h3 h4 h5 h6;exact⟨h1,h2,h3,h4,h5,h6⟩
 ·rintro⟨rfl,rfl,rfl,rfl,rfl,rfl⟩;rfl
theorem qVX {c c':Cd} {l l':List Int}:((⟨c,l⟩:Cs)=⟨c',l'⟩) ↔ (c=c'/\l=l'):=by
 constructor
 ·intro h;injection h with h1 h2;exact⟨h1,h2⟩
 ·rintro⟨rfl,rfl⟩;rfl
abbrev smH (a b:List De) (x y:De):Hp:=⟨4,[(3,deO y),(2,deO x),(1,srO (.p (des b))),(0,srO (.p (des a)))]⟩
theorem qHt (a b:List De) (ha:BigP a) (hb:BigP b):Pure cx 24 [qCn a,qCn b] (·=.ret [.bool (cb (a=b))]):=by
 have hla:(a.map De.cells).length=a.length:=List.length_map ..
 have hlb:(b.map De.cells).length=b.length:=List.length_map ..
 have a1:=ha.len
 refine qAC Tryz.func24 rfl rfl rfl ?_
 refine And.intro (fun h1=>?_) (fun h1=>?_)
 rotate_left
 ·have h1:¬ ((a.map De.cells).length:Int)=((b.map De.cells).length:Nat):=h1
  rw [hla,hlb] at h1
  exact qAG _ rfl rfl (by rw [qG4 (fun e=>h1 (by rw [e]))])
 have h1:((a.map De.cells).length:Int)=((b.map De.cells).length:Nat):=h1
 rw [hla,hlb] at h1
 have hl:a.length=b.length:=by omega
 refine⟨Nat,fun k=>[(2, .ptr 0 0 0),(3, .ptr 1 0 0),(5, .p (i64 k))],fun _=>⟨2,[(1,srO (.p (des b))),(0,srO (.p (des a)))]⟩,fun k=>k<=a.length/\a.take k=b.take k,fun k=>a.length - k,?_,?_⟩
 ·exact⟨0,⟨Nat.zero_le _,rfl⟩,qAB [] [] [] rfl (sk) (sk) rfl⟩
 rintro k ⟨k1,k2⟩
 refine And.intro (fun m1=>?_) (fun m1=>?_)
 rotate_left
 ·have m1:¬ (k:Int)<((a.map De.cells).length:Nat):=m1
  rw [hla] at m1
  exact qAG _ rfl rfl (by rw [qPk (qF5 hl (by omega) k2)])
 have m1:(k:Int)<((a.map De.cells).length:Nat):=m1
 rw [hla] at m1
 have hk:k<a.length:=by omega
 have hk':k<b.length:=by omega
 have c1:=qJj hk
 have c2:=qJj hk'
 have bx:=ha.decl _ (qAL de0 hk)
 have bY:=hb.decl _ (qAL de0 hk')
 have hn:=qEf de0 hk hk' k2
 have hd:¬ a.getD k de0=b.getD k de0->¬ a=b:=fun h e=>h (by rw [e])
 generalize a.getD k de0=x at c1 bx hn hd
 generalize b.getD k de0=y at c2 bY hn hd
 obtain⟨x1,x2,x3,x4,x5,x6⟩:=x
 obtain⟨y1,y2,y3,y4,y5,y6⟩:=y
 have l5:(x5.map Rf.cells).length=x5.length:=List.length_map ..
 have l5':(y5.map Rf.cells).length=y5.length:=List.length_map ..
 have l6:(x6.map Cs.cells).length=x6.length:=List.length_map ..
 have l6':(y6.map Cs.cells).length=y6.length:=List.length_map ..
 have bx5:=bx.len
 have bx6:=bx.cases
 have by6:=bY.cases
 simp only [] at bx5 bx6 by6
 refine VDraw.altTo [(2, .ptr 0 0 0),(3, .ptr 1 0 0),(5, .p (i64 k)),(6, .ptr 2 0 0),(7, .ptr 3 0 0)] (smH a b ⟨x1,x2,x3,x4,x5,x6⟩ ⟨y1,y2,y3,y4,y5,y6⟩) (by kernel_rfl) ?_ ?_
 ·refine⟨_,⟨by omega,(⟨x1,x2,x3,x4,x5,x6⟩:De).cells,c1,rfl⟩,?_⟩
  refine⟨_,⟨by omega,(⟨y1,y2,y3,y4,y5,y6⟩:De).cells,c2,rfl⟩,?_⟩
  refine And.intro ?_ ?_
  ·refine⟨(by repeat' first | exact trivial | exact rfl | exact⟨rfl,rfl⟩ | exact⟨by omega,_,c1,rfl⟩ | exact⟨by omega,_,c2,rfl⟩ | refine And.intro ?_ ?_),?_⟩
   refine⟨(by repeat' first | exact trivial | exact rfl | exact⟨rfl,rfl⟩ | exact⟨by omega,_,c1,rfl⟩ | exact⟨by omega,_,c2,rfl⟩ | refine And.intro ?_ ?_),?_⟩
   refine⟨(by repeat' first | exact trivial | exact rfl | exact⟨rfl,rfl⟩ | exact⟨by omega,_,c1,rfl⟩ | exact⟨by omega,_,c2,rfl⟩ | refine And.intro ?_ ?_),?_⟩
   exact qAB [] [] [] rfl (sk) (sk) rfl
  ·refine⟨(by repeat' first | exact trivial | exact rfl | exact⟨rfl,rfl⟩ | exact⟨by omega,_,c1,rfl⟩ | exact⟨by omega,_,c2,rfl⟩ | refine And.intro ?_ ?_),?_⟩
   refine⟨(by repeat' first | exact trivial | exact rfl | exact⟨rfl,rfl⟩ | exact⟨by omega,_,c1,rfl⟩ | exact⟨by omega,_,c2,rfl⟩ | refine And.intro ?_ ?_),?_⟩
   refine⟨(by repeat' first | exact trivial | exact rfl | exact⟨rfl,rfl⟩ | exact⟨by omega,_,c1,rfl⟩ | exact⟨by omega,_,c2,rfl⟩ | refine And.intro ?_ ?_),?_⟩
   exact qAB [] [(2,3),(3,2)] [] rfl (sk) (sk) rfl
 refine And.intro (fun h1=>?_) (fun h1=>qAG _ rfl rfl (by rw [qG4 (hd (fun e=>h1 (qIt.1 e).1))]))
 have h1:x1=y1:=h1
 refine And.intro (fun h2=>?_) (fun h2=>qAG _ rfl rfl (by rw [qG4 (hd (fun e=>h2 (qIt.1 e).2.1))]))
 have h2:x2=y2:=h2
 refine And.intro (fun h3=>?_) (fun h3=>qAG _ rfl rfl (by rw [qG4 (hd (fun e=>h3 (qIt.1 e).2.2.1))]))
 have h3:x3=y3:=h3
 refine And.intro (fun h4=>?_) (fun h4=>qAG _ rfl rfl (by rw [qG4 (hd (fun e=>h4 (qIt.1 e).2.2.2.1))]))
 have h4:x4=y4:=h4
 refine And.intro (fun h5=>?_) (fun h5=>?_)
 rotate_left
 ·have h5:¬ ((x5.map Rf.cells).length:Int)=((y5.map Rf.cells).length:Nat):=h5
  rw [l5,l5'] at h5
  exact qAG _ rfl rfl (by rw [qG4 (hd (fun e=>h5 (by rw [(qIt.1 e).2.2.2.2.1])))])
 have h5:((x5.map Rf.cells).length:Int)=((y5.map Rf.cells).length:Nat):=h5
 rw [l5,l5'] at h5
 have hl5:x5.length=y5.length:=by omega
 refine And.intro (fun h6=>?_) (fun h6=>?_)
 rotate_left
 ·have h6:¬ ((x6.map Cs.cells).length:Int)=((y6.map Cs.cells).length:Nat):=h6
  rw [l6,l6'] at h6
  exact qAG _ rfl rfl (by rw [qG4 (hd (fun e=>h6 (by rw [(qIt.1 e).2.2.2.2.2])))])
 have h6:((x6.map Cs.cells).length:Int)=((y6.map Cs.cells).length:Nat):=h6
 rw [l6,l6'] at h6
 have hl6:x6.length=y6.length:=by omega
 refine⟨Nat,fun j=>[(2, .ptr 0 0 0),(3, .ptr 1 0 0),(5, .p (i64 k)),(6, .ptr 2 0 0),(7, .ptr 3 0 0),(8, .p (i64 j))],fun _=>smH a b ⟨x1,x2,x3,x4,x5,x6⟩ ⟨y1,y2,y3,y4,y5,y6⟩,fun j=>j<=x5.length/\x5.take j=y5.take j,fun j=>x5.length - j,?_,?_⟩
 ·exact⟨0,⟨Nat.zero_le _,rfl⟩,qAB [] [] [] rfl (sk) (sk) rfl⟩
 rintro j ⟨j1,j2⟩
 refine And.intro (fun m2=>?_) (fun m2=>?_)
 ·have m2:(j:Int)<((x5.map Rf.cells).length:Nat):=m2
  rw [l5] at m2
  have hj:j<x5.length:=by omega
  have hj':j<y5.length:=by omega
  have r1:=qK8 hj
  have r2:=qK8 hj'
  have hn2:=qEf rf0 hj hj' j2
  have hd2:¬ x5.getD j rf0=y5.getD j rf0->¬ x5=y5:=fun h e=>h (by rw [e])
  generalize x5.getD j rf0=u at r1 hn2 hd2
  generalize y5.getD j rf0=w at r2 hn2 hd2
  refine VDraw.seq rfl ?_
  refine⟨_,⟨by omega,u.cells,r1,rfl⟩,?_⟩
  refine⟨_,⟨by omega,w.cells,r2,rfl⟩,?_⟩
  refine⟨⟨by kernel_rfl,by kernel_rfl⟩,fun h7=>?_,fun h7=>?_⟩
  rotate_left
  ·exact qAG _ rfl rfl (by rw [qG4 (hd (fun e=>hd2 (fun e=>h7 (by rw [e])) (qIt.1 e).2.2.2.2.1))])
  have h7:u=w:=qTs (by first | exact h7 | (injection h7))
  refine⟨_,w6z,?_⟩
  exact⟨j+1,⟨hj,hn2 h7⟩,qAB [] [] [] rfl (sk) (sk) rfl,by show x5.length - (j+1)<x5.length - j;omega⟩
 have m2:¬ (j:Int)<((x5.map Rf.cells).length:Nat):=m2
 rw [l5] at m2
 have h7:x5=y5:=qF5 hl5 (by omega) j2
 refine⟨Nat,fun j=>[(2, .ptr 0 0 0),(3, .ptr 1 0 0),(5, .p (i64 k)),(6, .ptr 2 0 0),(7, .ptr 3 0 0),(9, .p (i64 j))],fun _=>smH a b ⟨x1,x2,x3,x4,x5,x6⟩ ⟨y1,y2,y3,y4,y5,y6⟩,fun j=>j<=x6.length/\x6.take j=y6.take j,fun j=>x6.length - j,?_,?_⟩
 ·exact⟨0,⟨Nat.zero_le _,rfl⟩,qAB [] [] [] rfl (sk) (sk) rfl⟩
 rintro j ⟨j1,j2⟩
 refine And.intro (fun m2=>?_) (fun m2=>?_)
 rotate_left
 ·have m2:¬ (j:Int)<((x6.map Cs.cells).length:Nat):=m2
  rw [l6] at m2
  have h8:x6=y6:=qF5 hl6 (by omega) j2
  refine⟨_,w6z,?_⟩
  exact⟨k+1,⟨hk,hn (qIt.2 ⟨h1,h2,h3,h4,h7,h8⟩)⟩,qAB [] [] [] rfl (sk) (sk) rfl,by show a.length - (k+1)<a.length - k;omega⟩
 have m2:(j:Int)<((x6.map Cs.cells).length:Nat):=m2
 rw [l6] at m2
 have hj:j<x6.length:=by omega
 have hj':j<y6.length:=by omega
 have hlx:=bx6.len
 have s1:=qMG hj
 have s2:=qMG hj'
 have hm:=qAL cs0 hj
 have hm':=qAL cs0 hj'
 have hn2:=qEf cs0 hj hj' j2
 have hd2:¬ x6.getD j cs0=y6.getD j cs0->¬ x6=y6:=fun h e=>h (by rw [e])
 have hC:=qUc _ _ (bx6.cond _ hm) (by6.cond _ hm')
 have hI:=qQA _ _ (bx6.nums _ hm) (by6.nums _ hm')
 generalize x6.getD j cs0=u at s1 hn2 hd2 hC hI
 generalize y6.getD j cs0=w at s2 hn2 hd2 hC hI
 obtain⟨⟨u1,u2,u3,u4,u5,u6,u7⟩,u8⟩:=u
 obtain⟨⟨w1,w2,w3,w4,w5,w6,w7⟩,w8⟩:=w
 simp only [] at hC hI
 refine qAf otS (by kernel_rfl) ?_
 refine⟨_,⟨by omega,(⟨.mk u1 u2 u3 u4 u5 u6 u7,u8⟩:Cs).cells,s1,rfl⟩,?_⟩
 refine⟨_,⟨by omega,(⟨.mk w1 w2 w3 w4 w5 w6 w7,w8⟩:Cs).cells,s2,rfl⟩,?_⟩
 refine(Classical.em (Cd.mk u1 u2 u3 u4 u5 u6 u7=.mk w1 w2 w3 w4 w5 w6 w7)).elim (fun e1=>?_) (fun e1=>?_)
 rotate_left
 ·rw [qG4 e1] at hC
  refine hC.eq rfl ?_
  exact qAG _ rfl rfl (by rw [qG4 (hd (fun e=>hd2 (fun e=>e1 (qVX.1 e).1) (qIt.1 e).2.2.2.2.2))])
 rw [qPk e1] at hC
 refine hC.eq rfl ?_
 refine⟨_,⟨by omega,(⟨.mk u1 u2 u3 u4 u5 u6 u7,u8⟩:Cs).cells,s1,rfl⟩,?_⟩
 refine⟨_,⟨by omega,(⟨.mk w1 w2 w3 w4 w5 w6 w7,w8⟩:Cs).cells,s2,rfl⟩,?_⟩
 refine(Classical.em (u8=w8)).elim (fun e2=>?_) (fun e2=>?_)
 rotate_left
 ·rw [qG4 e2] at hI
  refine hI.eq rfl ?_
  exact qAG _ rfl rfl (by rw [qG4 (hd (fun e=>hd2 (fun e=>e2 (qVX.1 e).2) (qIt.1 e).2.2.2.2.2))])
 rw [qPk e2] at hI
 refine hI.eq rfl ?_
 refine⟨_,w6z,?_⟩
 exact⟨j+1,⟨hj,hn2 (qVX.2 ⟨e1,e2⟩)⟩,qAB [] [] [] rfl (sk) (sk) rfl,by show x6.length - (j+1)<x6.length - j;omega⟩
set_option maxHeartbeats 4000000
def qXX:List UInt8:=[103,114,97,105,110,32,49,50,32,59,32,110,111,100,101,32,120,32,58,32,50,32,61,32,123,32,101,108,115,101,32,58,32,51,32,57,32,125,32,59]
def qYp:List De:=[⟨1,12,[],[],[],[]⟩,⟨3,2,[120],[],[],[⟨cd0,[3,9]⟩]⟩]
theorem qXy:qDn qXX=.inr qYp:=by kernel_rfl
def qXW:List UInt8:=[110,111,100,101,32,121,32,91,32,112,32,93,32,58,32,50,32,102,114,111,109,32,120,32,44,32,121,32,91,32,112,32,43,32,49,32,93,32,61,32,123,32,120,32,61,32,49,32,97,110,100,32,110,111,116,32,121,32,91,32,112,32,43,32,49,32,93,32,105,110,32,123,32,49,32,44,32,48,32,44,32,49,32,125,32,58,32,49,32,59,32,101,108,115,101,32,58,32,45,32,50,32,125,32,59]
def qYo:List De:=[⟨3,2,[121],[112],[⟨[120],0,[],0⟩,⟨[121],1,[112],1⟩],[⟨.mk 8 0 0 0 rf0 [] [.mk 1 1 0 0 ⟨[120],0,[],0⟩ [] [], .mk 7 0 0 0 rf0 [] [.mk 5 0 0 0 ⟨[121],1,[112],1⟩ [0,1] []]],[1]⟩,⟨cd0,[(-2)]⟩]⟩]
theorem qXx:qDn qXW=.inr qYo:=by kernel_rfl
def qYm:List UInt8:=[103,97,105,110,32,61,32,123,32,99,111,117,110,116,32,40,32,120,32,91,32,97,108,108,32,93,32,61,32,49,32,41,32,60,61,32,50,32,58,32,53,32,59,32,101,108,115,101,32,58,32,48,32,125,32,59]
def qYn:List De:=[⟨5,0,[],[],[],[⟨.mk 6 2 4 1 ⟨[120],3,[],0⟩ [] [],[5]⟩,⟨cd0,[0]⟩]⟩]
theorem qXw:qDn qYm=.inr qYn:=by kernel_rfl
theorem qX3:qDn [110,111,100,101,32,120,32,58,32,50,32,59]=.inl ((1,12),381):=by kernel_rfl
theorem qX2:qDn [103,97,105,110,32,61,32,123,32,120,32,61,32,49,32,58,32,50,32,125,32,59]=.inl ((1,20),381):=by kernel_rfl
theorem qX1:qDn [112,108,97,116,101,32,112,32,61,32,59]=.inl ((1,11),381):=by kernel_rfl
theorem qX0:qDn [99,104,111,111,115,101,32,100,32,58,32,50,32,115,101,101,105,110,103,32,120]=.inl ((0,0),381):=by kernel_rfl
theorem qXz:qDn [99,111,117,110,116]=.inl ((1,1),381):=by kernel_rfl
def qX5:Cd:=.mk 8 0 0 0 rf0 [] [.mk 9 0 0 0 rf0 [] [.mk 1 1 0 0 ⟨[97],0,[],0⟩ [] [], .mk 1 1 0 0 ⟨[98],0,[],0⟩ [] []], .mk 1 1 0 0 ⟨[99],0,[],0⟩ [] []]
theorem qXv:txtV [⟨5,0,[],[],[],[⟨qX5,[5]⟩,⟨cd0,[0]⟩]⟩]=[.str [103,97,105,110,32,61,32,123,32,40,32,97,32,61,32,49,32,111,114,32,98,32,61,32,49,32,41,32,97,110,100,32,99,32,61,32,49,32,58,32,53,32,59,32,101,108,115,101,32,58,32,48,32,125,32,59,10],i64 0]:=by kernel_rfl
def qX4:Cd:=.mk 7 0 0 0 rf0 [] [.mk 8 0 0 0 rf0 [] [.mk 1 1 0 0 ⟨[97],0,[],0⟩ [] [], .mk 3 2 0 0 ⟨[98],0,[],0⟩ [] []]]
theorem qXu:txtV [⟨5,0,[],[],[],[⟨qX4,[5]⟩,⟨cd0,[0]⟩]⟩]=[.str [103,97,105,110,32,61,32,123,32,110,111,116,32,40,32,97,32,61,32,49,32,97,110,100,32,98,32,60,32,50,32,41,32,58,32,53,32,59,32,101,108,115,101,32,58,32,48,32,125,32,59,10],i64 0]:=by kernel_rfl
set_option maxHeartbeats 40000000
abbrev otW:OT:=(.pure 0 (.pure 1 (.pure 2 (.pure 4 (.pure 5 (.pure 6 (.pure 7 (.pure 11 (.pure 13 (.pure 14 (.eff 3 [4,1] (.eff 8 [1] (.pure 9 (.eff 10 [1] (.pure 12 (.pure 15 (.pure 16 (.pure 17 (.eff 18 [] (.pure 19 .fin) .nil))))) .nil)) .nil) .nil)))))))))))
theorem qXC {p q:Prop} (h:p ↔ q):cb p=cb q:=by rw [propext h]
theorem qHa {s:List UInt8} {ds:List De} (h:qDn s=.inr ds):BigP ds:=by
 unfold qDn at h
 split at h
 ·cases h
 ·cases hr:qFf s with
  | err p c=>rw [hr] at h;cases h
  | ok ws=>
   rw [hr] at h
   have hg:=qGB hr
   have hl:=hg.len
   cases hp:qCq ws (qFI ws) (qFI ws) [] 0 with
   | inl q=>simp only [hp] at h;cases h
   | inr x=>
    obtain⟨l,q⟩:=x
    simp only [hp] at h
    split at h
    ·injection h with h
     subst h
     exact qH3 hg (by rw [qFI];omega) hp
    ·cases h
theorem qSy {s:List UInt8} {p:Int × Int} {e:Int} (h:qDn s=.inl (p,e)):e=3∨e=370∨e=381:=by
 unfold qDn at h
 split at h
 ·injection h with h;injection h with _ h;exact .inl h.symm
 ·cases hr:qFf s with
  | err p c=>
   rw [hr] at h
   injection h with h;injection h with _ h
   have:=qE5 s _ _ _ _ _ hr
   omega
  | ok ws=>
   rw [hr] at h
   cases hp:qCq ws (qFI ws) (qFI ws) [] 0 with
   | inl q=>simp only [hp] at h;injection h with h;injection h with _ h;omega
   | inr x=>
    obtain⟨l,q⟩:=x
    simp only [hp] at h
    split at h
    ·cases h
    ·injection h with h;injection h with _ h;omega
theorem qDK (s:List UInt8) (l c e:Int) (h:qDn s=.inl ((l,c),e)):Pure cx 28 [.str s,i64 l,i64 c,i64 e] (·=.ret [.bool true]):=by
 have hP:=qMU s
 rw [h] at hP
 refine qAC Tryz.func28 rfl rfl rfl ?_
 refine hP.eq rfl ?_
 refine And.intro (fun _=>?_) (fun h=>absurd rfl h)
 refine And.intro (fun _=>?_) (fun h=>absurd rfl h)
 refine And.intro (fun _=>?_) (fun h=>absurd rfl h)
 refine And.intro (fun _=>?_) (fun h=>absurd rfl h)
 exact qAG _ rfl rfl rfl
theorem qUm (s:List UInt8) (want:List De) (hw:BigP want):Pure cx 37 [.str s,des want] (·=.ret [.bool (cb (qDn s=.inr want))]):=by
 have hP:=qMU s
 cases hp:qDn s with
 | inl x=>
  obtain⟨⟨l,c⟩,e⟩:=x
  rw [hp] at hP
  have he:=qSy hp
  refine qAC Tryz.func37 rfl rfl rfl ?_
  refine hP.eq rfl ?_
  refine And.intro (fun h=>absurd (show e=0 from h) (by omega)) (fun _=>?_)
  exact qAG _ rfl rfl (by rw [qG4 (fun e=>by cases e)])
 | inr ds=>
  rw [hp] at hP
  have hS:=qHt ds want (qHa hp) hw
  rw [qXC (q:=(Sum.inr ds:Sum ((Int × Int) × Int) (List De))=.inr want) ⟨fun e=>by rw [e],fun e=>by injection e⟩] at hS
  refine qAC Tryz.func37 rfl rfl rfl ?_
  refine hP.eq rfl ?_
  refine And.intro (fun _=>?_) (fun h=>absurd rfl h)
  refine And.intro (fun _=>?_) (fun h=>absurd rfl h)
  refine And.intro (fun _=>?_) (fun h=>absurd rfl h)
  refine hS.eq rfl ?_
  exact qAG _ rfl rfl rfl
theorem qEm {s:List UInt8} {want:List De} (h:qDn s=.inr want):Pure cx 37 [.str s,des want] (·=.ret [.bool true]):=by
 have:=qUm s want (qHa h)
 rw [qPk h] at this
 exact this
theorem qV6 (nm:List UInt8) (op n:Int):Pure cx 31 [.str nm,i64 op,i64 n] (·=.ret [(Cd.mk op n 0 0 ⟨nm,0,[],0⟩ [] []).pv]):=by
 refine Pure.nil (r:=.ret [.agg [i64 op,i64 n,i64 0,i64 0, .str nm,i64 0, .str [],i64 0, .nils, .nils]]) ?_ ⟨_,rfl,_,_,rfl,qAr op n 0 0 ⟨nm,0,[],0⟩,rfl⟩
 refine qAC Tryz.func31 rfl rfl rfl ?_
 exact qAG _ rfl rfl rfl
theorem qJn (op:Int) (l:List Cd):Pure cx 32 [i64 op, .lsts 10 (qBX l)] (·=.ret [(Cd.mk op 0 0 0 rf0 [] l).pv]):=by
 refine Pure.nil (r:=.ret [.agg [i64 op,i64 0,i64 0,i64 0, .str [],i64 0, .str [],i64 0, .nils, .lsts 10 (qBX l)]]) ?_ ⟨_,rfl,_,_,rfl,?_,rfl⟩
 ·refine qAC Tryz.func32 rfl rfl rfl ?_
  exact qAG _ rfl rfl rfl
 ·show NilD _ (.agg [i64 op,i64 0,i64 0,i64 0, .str [],i64 0, .str [],i64 0, .lst [], .lsts 10 (qBX l)])
  simp only [NilD,NilDL]
  exact⟨_,rfl,_,_,rfl,rfl,_,_,rfl,rfl,_,_,rfl,rfl,_,_,rfl,rfl,_,_,rfl,rfl,_,_,rfl,rfl,_,_,rfl,rfl,_,_,rfl,rfl,_,_,rfl, .inr (.inl rfl),_,_,rfl,⟨_,rfl,NilDLL.refl _⟩,rfl⟩
def qTE (c:Cd):De:=⟨5,0,[],[],[],[⟨c,[5]⟩,⟨cd0,[0]⟩]⟩
abbrev zc0:List PV:=[i64 0,i64 0,i64 0,i64 0, .str [],i64 0, .str [],i64 0, .nils, .nils]
theorem qN1 (l:List Int):NilDL (zc0++[.lst (l.map i64)]) (⟨cd0,l⟩:Cs).cells:=by
 show NilDL [i64 0,i64 0,i64 0,i64 0, .str [],i64 0, .str [],i64 0, .nils, .nils, .lst (l.map i64)] [i64 0,i64 0,i64 0,i64 0, .str [],i64 0, .str [],i64 0, .lst [], .lsts 10 [], .lst (l.map i64)]
 simp only [NilD,NilDL]
 exact⟨_,_,rfl,rfl,_,_,rfl,rfl,_,_,rfl,rfl,_,_,rfl,rfl,_,_,rfl,rfl,_,_,rfl,rfl,_,_,rfl,rfl,_,_,rfl,rfl,_,_,rfl, .inr (.inl rfl),_,_,rfl, .inr (.inr ⟨10,rfl⟩),_,_,rfl,⟨_,rfl,NilDL.refl _⟩,rfl⟩
theorem qUC (c:Cd):Pure cx 30 [c.pv] (·=.ret [(qTE c).pv]):=by
 refine Pure.nil (r:=.ret [.agg [i64 5,i64 0, .str [], .str [], .nils, .lsts 11 [c.cells++[.lst [i64 5]],zc0++[.lst [i64 0]]]]]) ?_ ⟨_,rfl,_,_,rfl,?_,rfl⟩
 ·obtain⟨o,n,r,v,rf,st,ar⟩:=c
  refine qAC Tryz.func30 rfl rfl rfl ?_
  refine qAG _ rfl ⟨_,rfl,_,_,rfl,rfl,_,_,rfl,rfl,_,_,rfl,rfl,_,_,rfl,rfl,_,_,rfl, .inl rfl,_,_,rfl,⟨_,rfl,Nat.le_refl _,⟨_,_,rfl,?_,_,_,rfl,?_,rfl⟩⟩,rfl⟩ rfl
  ·exact⟨_,_,rfl,rfl,_,_,rfl,rfl,_,_,rfl,rfl,_,_,rfl,rfl,_,_,rfl,rfl,_,_,rfl,rfl,_,_,rfl,rfl,_,_,rfl,rfl,_,_,rfl,rfl,_,_,rfl,rfl,_,_,rfl,⟨_,rfl,Nat.le_refl _,rfl⟩,rfl⟩
  ·exact⟨_,_,rfl,rfl,_,_,rfl,rfl,_,_,rfl,rfl,_,_,rfl,rfl,_,_,rfl,rfl,_,_,rfl,rfl,_,_,rfl,rfl,_,_,rfl,rfl,_,_,rfl, .inl rfl,_,_,rfl, .inl rfl,_,_,rfl,⟨_,rfl,Nat.le_refl _,rfl⟩,rfl⟩
 ·show NilD _ (.agg [i64 5,i64 0, .str [], .str [], .lsts 4 [], .lsts 11 [(⟨c,[5]⟩:Cs).cells,(⟨cd0,[0]⟩:Cs).cells]])
  simp only [NilD,NilDL]
  refine⟨_,rfl,_,_,rfl,rfl,_,_,rfl,rfl,_,_,rfl,rfl,_,_,rfl,rfl,_,_,rfl, .inr (.inr ⟨4,rfl⟩),_,_,rfl,⟨_,rfl,?_⟩,rfl⟩
  simp only [NilDLL]
  exact⟨_,_,rfl,NilDL.refl _,_,_,rfl,qN1 [0],rfl⟩
theorem qTD {c:Cd} (h:qC1 c):BigP [qTE c]:=by
 refine⟨by show 1<=9223372036854775807;decide,fun d hd=>?_⟩
 rw [List.mem_singleton] at hd
 subst hd
 have hl:BigL [⟨c,[5]⟩,⟨cd0,[0]⟩]:=by
  refine⟨by show 2<=9223372036854775807;decide,fun x hx=>?_,fun x hx=>?_⟩
  ·rcases List.mem_cons.1 hx with rfl | hx
   ·exact h
   ·rw [List.mem_singleton.1 hx]
    exact qC6 ⟨qBT,qBT⟩ (by decide)
  ·rcases List.mem_cons.1 hx with rfl | hx
   ·show 1<=9223372036854775807;decide
   ·rw [List.mem_singleton.1 hx];show 1<=9223372036854775807;decide
 exact⟨qBT,qBT,by show 0<=9223372036854775807;decide,(fun r hr=>by cases hr),hl⟩
abbrev gnA:List UInt8:=[103,97,105,110,32,61,32,123,32]
abbrev gnB:List UInt8:=[32,58,32,53,32,59,32,101,108,115,101,32,58,32,48,32,125,32,59,10]
theorem qIw (c:Cd) (want:List UInt8) (hb:qC1 c) (hl:want.length<=8000) (h:txtV [qTE c]=[.str ((gnA++want)++gnB),i64 0]):Pure cx 49 [c.pv, .str want] (·=.ret [.bool true]):=by
 have hT:=qFg [qTE c] (qTD hb)
 rw [h] at hT
 have hG:=qUC c
 clear h hb
 obtain⟨o,n,r,v,rf,st,ar⟩:=c
 refine qAC Tryz.func49 rfl rfl rfl ?_
 refine hG.eq rfl ?_
 refine hT.lends [1] rfl ⟨_,_,rfl,⟨_,rfl,_,_,rfl,⟨_,rfl,Nat.le_refl _,rfl⟩,rfl⟩,rfl⟩ ?_
 refine And.intro (fun _=>?_) (fun h=>absurd rfl h)
 refine⟨QAC,?_⟩
 refine⟨QAC,?_⟩
 refine And.intro (fun _=>?_) (fun h=>absurd rfl h)
 exact qAG _ rfl rfl rfl
theorem qGJ {nm:List UInt8} {op n:Int} (h:qKq nm):qC1 (.mk op n 0 0 ⟨nm,0,[],0⟩ [] []):=qC6 ⟨h,qBT⟩ (by decide)
theorem qXG:qC1 qX5:=qG6 (qG6 (qGJ (by decide)) (qGJ (by decide))) (qGJ (by decide))
theorem qXF:qC1 qX4:=qNC (qG6 (qGJ (by decide)) (qGJ (by decide)))
theorem works_c:Pure cx 17 [] (·=.ret [.bool true]):=by
 have w0:=qIw qX5 [40,32,97,32,61,32,49,32,111,114,32,98,32,61,32,49,32,41,32,97,110,100,32,99,32,61,32,49] qXG (by decide) qXv
 have w1:=qIw qX4 [110,111,116,32,40,32,97,32,61,32,49,32,97,110,100,32,98,32,60,32,50,32,41] qXF (by decide) qXu
 refine qAC Tryz.func17 rfl rfl rfl ?_
 refine((qEm qXy).arg (args':=[.str qXX, .lsts 6 [[i64 1,i64 12, .str [], .str [], .nils, .nils],[i64 3,i64 2, .str [120], .str [], .nils, .lsts 11 [zc0++[.lst [i64 3,i64 9]]]]]]) ?_).lends [0,1,2] rfl ?_ ?_
 ·show NilDL [.str qXX, .lsts 6 [[i64 1,i64 12, .str [], .str [], .nils, .nils],[i64 3,i64 2, .str [120], .str [], .nils, .lsts 11 [zc0++[.lst [i64 3,i64 9]]]]]] [.str qXX, .lsts 6 [[i64 1,i64 12, .str [], .str [], .lsts 4 [], .lsts 11 []],[i64 3,i64 2, .str [120], .str [], .lsts 4 [], .lsts 11 [(⟨cd0,[3,9]⟩:Cs).cells]]]]
  simp only [NilDL,NilD,NilDLL]
  exact⟨_,_,rfl,rfl,_,_,rfl,⟨_,rfl,⟨_,_,rfl,⟨_,_,rfl,rfl,_,_,rfl,rfl,_,_,rfl,rfl,_,_,rfl,rfl,_,_,rfl, .inr (.inr ⟨4,rfl⟩),_,_,rfl, .inr (.inr ⟨11,rfl⟩),rfl⟩,_,_,rfl,⟨_,_,rfl,rfl,_,_,rfl,rfl,_,_,rfl,rfl,_,_,rfl,rfl,_,_,rfl, .inr (.inr ⟨4,rfl⟩),_,_,rfl,⟨_,rfl,⟨_,_,rfl,qN1 [3,9],rfl⟩⟩,rfl⟩,rfl⟩⟩,rfl⟩
 ·refine⟨_,_,rfl,rfl,_,_,rfl,⟨_,rfl,Nat.le_refl _,⟨_,_,rfl,?_,_,_,rfl,?_,rfl⟩⟩,rfl⟩
  ·exact⟨_,_,rfl,rfl,_,_,rfl,rfl,_,_,rfl,rfl,_,_,rfl,rfl,_,_,rfl, .inl rfl,_,_,rfl, .inl rfl,rfl⟩
  ·refine⟨_,_,rfl,rfl,_,_,rfl,rfl,_,_,rfl,rfl,_,_,rfl,rfl,_,_,rfl, .inl rfl,_,_,rfl,⟨_,rfl,Nat.le_refl _,⟨_,_,rfl,?_,rfl⟩⟩,rfl⟩
   exact⟨_,_,rfl,rfl,_,_,rfl,rfl,_,_,rfl,rfl,_,_,rfl,rfl,_,_,rfl,rfl,_,_,rfl,rfl,_,_,rfl,rfl,_,_,rfl,rfl,_,_,rfl, .inl rfl,_,_,rfl, .inl rfl,_,_,rfl,⟨_,rfl,Nat.le_refl _,rfl⟩,rfl⟩
 refine qAf otW (by kernel_rfl) ?_
 refine(qV6 [120] 1 1).eq rfl ?_
 refine⟨sk,?_⟩
 refine((qJn 7 [.mk 5 0 0 0 ⟨[121],1,[112],1⟩ [0,1] []]).arg (args':=[i64 7, .lsts 10 [[i64 5,i64 0,i64 0,i64 0, .str [121],i64 1, .str [112],i64 1, .lst [i64 0,i64 1], .nils]]]) ?_).eq rfl ?_
 ·simp only [NilD,NilDL,NilDLL]
  repeat' first | exact rfl | exact NilDL.refl _ | exact NilD.refl _ | exact .inr (.inl rfl) | exact .inr (.inr ⟨_,rfl⟩) | refine⟨_,_,rfl,?_,?_⟩ | refine⟨_,rfl,?_⟩ | refine And.intro ?_ ?_
 refine⟨sk,?_⟩
 refine(qJn 8 [.mk 1 1 0 0 ⟨[120],0,[],0⟩ [] [], .mk 7 0 0 0 rf0 [] [.mk 5 0 0 0 ⟨[121],1,[112],1⟩ [0,1] []]]).eq rfl ?_
 refine⟨sk,?_⟩
 refine((qEm qXx).arg (args':=[.str qXW, .lsts 6 [[i64 3,i64 2, .str [121], .str [112], .lsts 4 [[.str [120],i64 0, .str [],i64 0],[.str [121],i64 1, .str [112],i64 1]], .lsts 11 [(Cd.cells (.mk 8 0 0 0 rf0 [] [.mk 1 1 0 0 ⟨[120],0,[],0⟩ [] [], .mk 7 0 0 0 rf0 [] [.mk 5 0 0 0 ⟨[121],1,[112],1⟩ [0,1] []]]))++[.lst [i64 1]],zc0++[.lst [i64 (-2)]]]]]]) ?_).eq rfl ?_
 ·show NilDL [.str qXW, .lsts 6 [[i64 3,i64 2, .str [121], .str [112], .lsts 4 [[.str [120],i64 0, .str [],i64 0],[.str [121],i64 1, .str [112],i64 1]], .lsts 11 [(Cd.cells (.mk 8 0 0 0 rf0 [] [.mk 1 1 0 0 ⟨[120],0,[],0⟩ [] [], .mk 7 0 0 0 rf0 [] [.mk 5 0 0 0 ⟨[121],1,[112],1⟩ [0,1] []]]))++[.lst [i64 1]],zc0++[.lst [i64 (-2)]]]]]] [.str qXW, .lsts 6 [[i64 3,i64 2, .str [121], .str [112], .lsts 4 [[.str [120],i64 0, .str [],i64 0],[.str [121],i64 1, .str [112],i64 1]], .lsts 11 [(⟨.mk 8 0 0 0 rf0 [] [.mk 1 1 0 0 ⟨[120],0,[],0⟩ [] [], .mk 7 0 0 0 rf0 [] [.mk 5 0 0 0 ⟨[121],1,[112],1⟩ [0,1] []]],[1]⟩:Cs).cells,(⟨cd0,[-2]⟩:Cs).cells]]]]
  simp only [NilD,NilDL,NilDLL]
  repeat' first | exact rfl | exact NilDL.refl _ | exact NilD.refl _ | exact .inr (.inl rfl) | exact .inr (.inr ⟨_,rfl⟩) | refine⟨_,_,rfl,?_,?_⟩ | refine⟨_,rfl,?_⟩ | refine And.intro ?_ ?_
 refine(qV6 [97] 1 1).eq rfl ?_
 refine(qV6 [98] 1 1).eq rfl ?_
 refine(qJn 9 [.mk 1 1 0 0 ⟨[97],0,[],0⟩ [] [], .mk 1 1 0 0 ⟨[98],0,[],0⟩ [] []]).uses [4] rfl ⟨_,_,rfl,rfl,_,_,rfl,⟨_,rfl,Nat.le_refl _,rfl⟩,rfl⟩ ?_
 refine(qV6 [99] 1 1).eq rfl ?_
 refine(qJn 8 [.mk 9 0 0 0 rf0 [] [.mk 1 1 0 0 ⟨[97],0,[],0⟩ [] [], .mk 1 1 0 0 ⟨[98],0,[],0⟩ [] []], .mk 1 1 0 0 ⟨[99],0,[],0⟩ [] []]).uses [5] rfl ⟨_,_,rfl,rfl,_,_,rfl,⟨_,rfl,Nat.le_refl _,rfl⟩,rfl⟩ ?_
 refine w0.eq rfl ?_
 refine(qV6 [97] 1 1).eq rfl ?_
 refine(qV6 [98] 3 2).eq rfl ?_
 refine(qJn 8 [.mk 1 1 0 0 ⟨[97],0,[],0⟩ [] [], .mk 3 2 0 0 ⟨[98],0,[],0⟩ [] []]).uses [6] rfl ⟨_,_,rfl,rfl,_,_,rfl,⟨_,rfl,Nat.le_refl _,rfl⟩,rfl⟩ ?_
 refine(qJn 7 [.mk 8 0 0 0 rf0 [] [.mk 1 1 0 0 ⟨[97],0,[],0⟩ [] [], .mk 3 2 0 0 ⟨[98],0,[],0⟩ [] []]]).uses [7] rfl ⟨_,_,rfl,rfl,_,_,rfl,⟨_,rfl,Nat.le_refl _,rfl⟩,rfl⟩ ?_
 refine w1.eq rfl ?_
 refine(qDK _ _ _ _ qX3).eq rfl ?_
 refine(qDK _ _ _ _ qX2).eq rfl ?_
 refine(qDK _ _ _ _ qX1).eq rfl ?_
 refine(qDK _ _ _ _ qX0).eq rfl ?_
 refine(qDK _ _ _ _ qXz).eq rfl ?_
 refine((qUC (.mk 6 2 4 1 ⟨[120],3,[],0⟩ [] [])).arg (args':=[.agg [i64 6,i64 2,i64 4,i64 1, .str [120],i64 3, .str [],i64 0, .nils, .nils]]) ⟨_,_,rfl,qAr 6 2 4 1 ⟨[120],3,[],0⟩,rfl⟩).eq rfl ?_
 refine(qEm qXw).lends [8] rfl ⟨_,_,rfl,rfl,_,_,rfl,⟨_,rfl,Nat.le_refl _,rfl⟩,rfl⟩ ?_
 exact qAG _ rfl rfl rfl
structure Small (d:Nat) (c:Cd) (n:Nat):Prop where
 pos:1<=n
 valid:∀ left,n<=left->qAs d c left=some (left - n)
 big:qC1 c
 len:(spW true (qAm c)).length<=240 * n
theorem qS5 {op n rel val:Int} {r:Rf} {st:List Int} (hb:qAQ op n rel val r st=true) (hs:st.length<=4):(qB2 op n rel val r st).length<=21:=by
 unfold qAQ at hb
 unfold qB2
 by_cases c6:op=6
 ·rw [if_neg (by omega),if_neg (by omega),if_pos c6] at hb
  simp only [Bool.and_eq_true,decide_eq_true_eq] at hb
  have hr:=qEA hb.1.1.1.1.1.1
  rw [if_pos c6]
  simp only [List.length_append,List.length_cons,List.length_nil];omega
 ·rw [if_neg c6]
  by_cases c5:op=5
  ·rw [if_neg (by omega),if_pos c5] at hb
   simp only [Bool.and_eq_true,decide_eq_true_eq] at hb
   obtain⟨⟨⟨⟨b1,b2⟩,b3⟩,b4⟩,b5⟩:=hb
   rw [if_pos c5]
   have hr:=qEA b1
   have hset:=qDq b5
   have hs:=qJ4 (f:=fun n=>[qAe n]) (b:=1) (l:=st) fun a ha=>⟨qAI (qDi (hset.2.1 a ha)) qA6,by simp⟩
   simp only [List.length_append,List.length_cons,List.length_nil];omega
  ·rw [if_neg c5]
   by_cases c1:op=1∨op=2∨op=3∨op=4
   ·rw [if_pos c1] at hb
    simp only [Bool.and_eq_true,decide_eq_true_eq] at hb
    have hr:=qEA hb.1.1.1.1
    simp only [List.length_append,List.length_cons,List.length_nil];omega
   ·rw [if_neg c1,if_neg c5,if_neg c6] at hb
    cases hb
theorem qNo {r:Rf} (h:qBl r=true):BigR r:=by
 obtain⟨nm,m,pl,n⟩:=r
 rw [qBl,Bool.and_eq_true] at h
 have h1:=qN6 h.1
 refine⟨by show nm.length<=_;have h1:nm.length<=10:=h1;omega,?_⟩
 have h2:=h.2
 simp only [] at h2
 show pl.length<=_
 split at h2
 ·simp only [Bool.and_eq_true,decide_eq_true_eq] at h2
  rw [h2.1];simp
 ·split at h2
  ·simp only [Bool.and_eq_true] at h2
   have:=qN6 h2.1
   omega
  ·split at h2
   ·simp only [Bool.and_eq_true,decide_eq_true_eq] at h2
    rw [h2.1];simp
   ·cases h2
theorem qRF {op n rel val:Int} {r:Rf} {st:List Int} (hb:qAQ op n rel val r st=true):qBl r=true:=(qIJ hb).1
theorem qBv {op n rel val:Int} {r:Rf} {st:List Int} (h7:¬ op=7) (h8:¬ op=8) (h9:¬ op=9) (hb:qAQ op n rel val r st=true) (hs:st.length<=4) (d:Nat):Small (d+1) (.mk op n rel val r st []) 1:=by
 refine⟨Nat.le_refl _,fun left hl=>?_,qC6 (qNo (qRF hb)) (by omega),?_⟩
 ·rw [qAs,if_neg (by omega),if_pos]
  ·rfl
  ·have h0:qAc op=0:=by rw [qAc,if_neg h7,if_neg (by omega)]
   rw [qAb,if_pos h0,hb];rfl
 ·rw [qCK h7 h8 h9]
  have h1:=qS5 hb hs
  have h2:=qMC true (qLS hb).1
  omega
theorem qLR (k:Nat) (p:Int × qBb):(spW true (inT k p)).length<=(spW true p.2).length+4:=by
 unfold inT
 split
 ·show(spW true ([tLP]++(p.2++[tRP]))).length<=_
  rw [qJ1,qJ1]
  simp [spW]
 ·omega
theorem qKu {d na nb:Nat} {a b:Cd} {op:Int} (ho:op=8∨op=9) (ha:Small d a na) (hb:Small d b nb):Small (d+1) (.mk op 0 0 0 rf0 [] [a,b]) (1+na+nb):=by
 have h1:=ha.pos
 have h2:=hb.pos
 have l1:=ha.len
 have l2:=hb.len
 refine⟨by omega,fun left hl=>?_,qG6 ha.big hb.big,?_⟩
 ·rw [qAs,if_neg (by omega),if_pos]
  ·show(do
    let l <- qAs d a (left - 1)
    let l <- qAs d b l
    some l)=_
   rw [ha.valid _ (by omega)]
   show(do
    let l <- qAs d b (left - 1 - na)
    some l)=_
   rw [hb.valid _ (by omega)]
   show some _=some _
   congr 1;omega
  ·rcases ho with rfl | rfl <;> rfl
 ·rcases ho with rfl | rfl
  ·rw [qCM,qJ1]
   have k1:=qLR 2 (a.op,qAm a)
   have k2:=qLR 3 (b.op,qAm b)
   simp only [] at k1 k2
   show((spW true (inT 2 (a.op,qAm a)))++spW true ([qDA]++inT 3 (b.op,qAm b))).length<=_
   rw [qJ1,List.length_append,List.length_append]
   have k3:(spW true [qDA]).length=4:=rfl
   omega
  ·rw [qCL,qJ1]
   have k1:=qLR 1 (a.op,qAm a)
   have k2:=qLR 2 (b.op,qAm b)
   simp only [] at k1 k2
   show((spW true (inT 1 (a.op,qAm a)))++spW true ([tOr]++inT 2 (b.op,qAm b))).length<=_
   rw [qJ1,List.length_append,List.length_append]
   have k3:(spW true [tOr]).length=3:=rfl
   omega
theorem qLJ {d na:Nat} {a:Cd} (ha:Small d a na):Small (d+1) (.mk 7 0 0 0 rf0 [] [a]) (1+na):=by
 have h1:=ha.pos
 have l1:=ha.len
 refine⟨by omega,fun left hl=>?_,qNC ha.big,?_⟩
 ·rw [qAs,if_neg (by omega),if_pos]
  ·show(do
    let l <- qAs d a (left - 1)
    some l)=_
   rw [ha.valid _ (by omega)]
   show some _=some _
   congr 1;omega
  ·rfl
 ·rw [qCw]
  have k1:=qLR 3 (a.op,qAm a)
  simp only [] at k1
  show(spW true ([qGX]++inT 3 (a.op,qAm a))).length<=_
  rw [qJ1,List.length_append]
  have k3:(spW true [qGX]).length=4:=rfl
  omega
def abxy:List UInt8:=[97,98,120,121]
def GrQ (d:Nat) (l:List UInt8) (r:PEnd):Prop:=∃ (c:Cd) (n:Nat) (rest:List UInt8),r=.ret [c.pv, .lst (rest.map u8)]/\Small d c n/\n+2 * rest.length<=2 * l.length+1
def qYF (d:Nat):Prop:=∀ (p:Nat) (l:List UInt8),p+d=9->l.length<=1000->Pure cx 68 [.lst (l.map u8),i64 p] (GrQ d l)
def GrN (d:Nat) (l:List UInt8) (r:PEnd):Prop:=∃ (y z:PV) (c:Cd) (n:Nat) (rest:List UInt8),r=.ret [y,z]/\NilD y c.pv/\NilD z (.lst (rest.map u8))/\Small d c n/\n+2 * rest.length<=2 * l.length+1
theorem qVK {d:Nat} {l:List UInt8} {g:FuncId} {args:List PV} (h:Pure cx g args (GrN d l)):Pure cx g args (GrQ d l):=
 h.weak fun r hr=>by
  obtain⟨y,z,c,n,rest,rfl,h1,h2,h3,h4⟩:=hr
  exact⟨.ret [c.pv, .lst (rest.map u8)],⟨_,rfl,_,_,rfl,h1,_,_,rfl,h2,rfl⟩,c,n,rest,rfl,h3,h4⟩
theorem qXM:qAj [97]=true:=by decide
theorem qQm:qAj [112]=true:=by decide
theorem qSl {nm:List UInt8} (h:qAj nm=true):qBl ⟨nm,0,[],0⟩=true:=by rw [qBl,h];rfl
theorem qWU {nm:List UInt8} (h:qAj nm=true):qBl ⟨nm,3,[],0⟩=true:=by rw [qBl,h];rfl
theorem qUk {nm:List UInt8} {n:Int} (h:qAj nm=true) (hn:qBt n=true):qBl ⟨nm,2,[],n⟩=true:=by
 show(qAj nm && (decide (([]:List UInt8)=[]) && qBt n))=true
 rw [h,hn];rfl
theorem qUl {nm pl:List UInt8} {n:Int} (h:qAj nm=true) (hp:qAj pl=true) (hn:qBt n=true):qBl ⟨nm,1,pl,n⟩=true:=by
 show(qAj nm && (qAj pl && qBt n))=true
 rw [h,hp,hn];rfl
theorem qIK {op n:Int} {r:Rf} (ho:1<=op/\op<=4) (hr:qBl r=true) (hn:qBt n=true):qAQ op n 0 0 r []=true:=by
 unfold qAQ
 rw [if_pos (by omega),hr,hn];rfl
theorem qT6 {n rel val:Int} {nm:List UInt8} (h:qAj nm=true) (hn:qBt n=true) (hv:qBt val=true) (hr:1<=rel/\rel<=4):qAQ 6 n rel val ⟨nm,3,[],0⟩ []=true:=by
 unfold qAQ
 rw [if_neg (by decide),if_neg (by decide),if_pos rfl,qWU h,hn,hv,decide_eq_true hr.1,decide_eq_true hr.2];rfl
theorem qOC {r:Rf} {st:List Int} (hr:qBl r=true) (hs:qHr st=true):qAQ 5 0 0 0 r st=true:=by
 unfold qAQ
 rw [if_neg (by decide),if_pos rfl,hr,hs];rfl
abbrev otG:OT:=(.pure 0 (.pure 1 (.pure 2 (.pure 3 (.pure 4 (.pure 5 (.pure 6 (.pure 7 (.eff 8 [] (.pure 9 .fin) .nil)))))))))
theorem qK1:∀ j,j<4->qHr (([0,1,2,9999]:List Int).drop j)=true:=by decide
theorem qYA:∀ j,j<4->qAj ((abxy.drop j).take (j+1 - j))=true:=by decide
theorem qPE (v k:Nat) (hv:v<256):qBt ((v / k:Nat):Int)=true:=qDc (Int.natCast_nonneg _) (Int.le_trans (Int.ofNat_le.2 (Nat.div_le_self v k)) (by omega))
theorem qJT (v a k:Nat) (hv:v<256):qBt ((v / a % k:Nat):Int)=true:=qDc (Int.natCast_nonneg _) (Int.le_trans (Int.ofNat_le.2 (Nat.le_trans (Nat.mod_le (v / a) k) (Nat.div_le_self v a))) (by omega))
theorem qDM (rf:Rf) (L:List Int) (j:Nat):NilD (.agg [i64 5,i64 0,i64 0,i64 0, .str rf.name,i64 rf.mode, .str rf.plate,i64 rf.n, .lst ((L.map i64).drop j), .nils]) (Cd.mk 5 0 0 0 rf (L.drop j) []).pv:=by
 rw [<- List.map_drop]
 exact qN2 5 0 0 0 rf (L.drop j)
theorem qQw (op:Int) (l:List Cd):NilD (.agg [i64 op,i64 0,i64 0,i64 0, .str [],i64 0, .str [],i64 0, .nils, .lsts 10 (qBX l)]) (Cd.mk op 0 0 0 rf0 [] l).pv:=by
 show NilD _ (.agg [i64 op,i64 0,i64 0,i64 0, .str [],i64 0, .str [],i64 0, .lst [], .lsts 10 (qBX l)])
 simp only [NilD,NilDL]
 exact⟨_,rfl,_,_,rfl,rfl,_,_,rfl,rfl,_,_,rfl,rfl,_,_,rfl,rfl,_,_,rfl,rfl,_,_,rfl,rfl,_,_,rfl,rfl,_,_,rfl,rfl,_,_,rfl, .inr (.inl rfl),_,_,rfl,⟨_,rfl,NilDLL.refl _⟩,rfl⟩
def nmV (v:Nat):List UInt8:=(abxy.drop (v / 16 % 4)).take (v / 16 % 4+1 - v / 16 % 4)
abbrev l9:List Int:=[0,1,2,9999]
theorem grow_step (d:Nat) (ih:d ≠ 0->qYF d):qYF (d+1):=by
 intro p l hp hl
 refine qVK ?_
 have hl':(l.map u8).length=l.length:=List.length_map ..
 refine qAC Tryz.func68 rfl rfl rfl ?_
 by_cases h0:l=[]
 ·subst h0
  refine And.intro (fun _=>?_) (fun h=>absurd rfl h)
  refine qEc (.agg [i64 1,i64 0,i64 0,i64 0, .str [97],i64 0, .str [],i64 0, .nils, .nils]) .nils rfl rfl (.inl rfl) ?_
  exact⟨_,_, .mk 1 0 0 0 ⟨[97],0,[],0⟩ [] [],1,[],rfl,qAr 1 0 0 0 ⟨[97],0,[],0⟩,by simp [NilD],qBv (by decide) (by decide) (by decide) (qIK (by decide) (qSl qXM) (by decide)) (by decide) d,by simp⟩
 obtain⟨b,t,rfl⟩:∃ b t,l=b::t:=by
  cases l with
  | nil=>exact absurd rfl h0
  | cons b t=>exact⟨b,t,rfl⟩
 refine And.intro (fun h=>absurd (show(((b::t).map u8).length:Int)=0 from h) (by rw [hl'];simp only [List.length_cons];omega)) (fun _=>?_)
 have hv:b.toNat<256:=b.toNat_lt
 obtain⟨v,hve⟩:∃ v,v=b.toNat:=⟨_,rfl⟩
 rw [<- hve] at hv
 simp only [List.length_cons] at hl
 refine⟨_,⟨by decide,u8 b,rfl,rfl⟩,?_⟩
 refine⟨(v:Int),by rw [hve];exact w6z,?_⟩
 clear hve
 refine⟨by show(0:Int)<=1/\(1:Int)<=(((b::t).map u8).length:Nat);rw [hl'];simp only [List.length_cons];omega,?_⟩
 have e8:(v:Int).tmod 8=((v % 8:Nat):Int):=rfl
 have e4:((v / 16:Nat):Int).tmod 4=((v / 16 % 4:Nat):Int):=rfl
 have hn:qAj (nmV v)=true:=qYA _ (by omega)
 refine⟨by decide,((v / 16:Nat):Int),by show _=IntKind.i64.wrap ((v:Int).tdiv 16);rw [show(v:Int).tdiv 16=((v / 16:Nat):Int) from rfl];exact w6z,?_⟩
 refine⟨by decide,?_⟩
 refine⟨by decide,((v / 16:Nat):Int),by show _=IntKind.i64.wrap ((v:Int).tdiv 16);rw [show(v:Int).tdiv 16=((v / 16:Nat):Int) from rfl];exact w6z,?_⟩
 refine⟨by decide,?_⟩
 refine⟨((v / 16 % 4+1:Nat):Int),by show _=IntKind.i64.wrap (((v / 16:Nat):Int).tmod 4+1);rw [e4,Int.natCast_add];exact w6z,?_⟩
 refine⟨by show(0:Int)<=((v / 16:Nat):Int).tmod 4/\((v / 16:Nat):Int).tmod 4<=((v / 16 % 4+1:Nat):Int)/\((v / 16 % 4+1:Nat):Int)<=4;rw [e4];omega,?_⟩
 by_cases c1:p<8
 ·refine And.intro (fun _=>?_) (fun h=>absurd (show(p:Int)<8 by first | (rw [e8];omega) | omega) h)
  refine⟨by decide,?_⟩
  by_cases c2:v % 8<2
  ·refine And.intro (fun _=>?_) (fun h=>absurd (show(v:Int).tmod 8<2 by first | (rw [e8];omega) | omega) h)
   refine⟨((p+1:Nat):Int),by rw [Int.natCast_add];exact w6z,?_⟩
   refine(ih (by omega) (p+1) t (by omega) (by omega)).at fun r hr=>?_
   obtain⟨⟨ao,an,ar,av,af,as',aa⟩,na,t2,rfl,sa,la⟩:=hr
   refine⟨((p+1:Nat):Int),by rw [Int.natCast_add];exact w6z,?_⟩
   refine(ih (by omega) (p+1) t2 (by omega) (by omega)).at fun r hr=>?_
   obtain⟨⟨bo,bn,br,bv,bf,bs,ba⟩,nb,t3,rfl,sb,lb⟩:=hr
   refine⟨by decide,?_⟩
   refine⟨8+((v % 2:Nat):Int),by show _=IntKind.i64.wrap (8+(v:Int).tmod 2);rw [show(v:Int).tmod 2=((v % 2:Nat):Int) from rfl];exact w6z,?_⟩
   refine qEc (.agg [i64 (8+((v % 2:Nat):Int)),i64 0,i64 0,i64 0, .str [],i64 0, .str [],i64 0, .nils, .lsts 10 (qBX [.mk ao an ar av af as' aa, .mk bo bn br bv bf bs ba])]) (.lst (t3.map u8)) rfl ⟨_,rfl,_,_,rfl,rfl,_,_,rfl,rfl,_,_,rfl,rfl,_,_,rfl,rfl,_,_,rfl,rfl,_,_,rfl,rfl,_,_,rfl,rfl,_,_,rfl,rfl,_,_,rfl, .inl rfl,_,_,rfl,⟨_,rfl,Nat.le_refl _,rfl⟩,rfl⟩ rfl ?_
   exact⟨_,_, .mk (8+((v % 2:Nat):Int)) 0 0 0 rf0 [] [.mk ao an ar av af as' aa, .mk bo bn br bv bf bs ba],_,t3,rfl,qQw _ _,NilD.refl _,qKu (by omega) sa sb,by simp only [List.length_cons];omega⟩
  ·refine And.intro (fun h=>absurd (show(v:Int).tmod 8<2 from h) (by first | (rw [e8];omega) | omega)) (fun _=>?_)
   refine And.intro (fun _=>?_) (fun h=>absurd (show(p:Int)<8 by first | (rw [e8];omega) | omega) h)
   refine⟨by decide,?_⟩
   by_cases c3:v % 8=2
   ·refine And.intro (fun _=>?_) (fun h=>absurd (show(v:Int).tmod 8=2 by first | (rw [e8];omega) | omega) h)
    refine⟨((p+1:Nat):Int),by rw [Int.natCast_add];exact w6z,?_⟩
    refine(ih (by omega) (p+1) t (by omega) (by omega)).at fun r hr=>?_
    obtain⟨⟨ao,an,ar,av,af,as',aa⟩,na,t2,rfl,sa,la⟩:=hr
    refine qEc (.agg [i64 7,i64 0,i64 0,i64 0, .str [],i64 0, .str [],i64 0, .nils, .lsts 10 (qBX [.mk ao an ar av af as' aa])]) (.lst (t2.map u8)) rfl ⟨_,rfl,_,_,rfl,rfl,_,_,rfl,rfl,_,_,rfl,rfl,_,_,rfl,rfl,_,_,rfl,rfl,_,_,rfl,rfl,_,_,rfl,rfl,_,_,rfl,rfl,_,_,rfl, .inl rfl,_,_,rfl,⟨_,rfl,Nat.le_refl _,rfl⟩,rfl⟩ rfl ?_
    exact⟨_,_, .mk 7 0 0 0 rf0 [] [.mk ao an ar av af as' aa],_,t2,rfl,qQw 7 _,NilD.refl _,qLJ sa,by simp only [List.length_cons];omega⟩
   ·refine And.intro (fun h=>absurd (show(v:Int).tmod 8=2 from h) (by first | (rw [e8];omega) | omega)) (fun _=>?_)
    refine⟨by decide,?_⟩
    by_cases k3:v % 8=3
    ·refine And.intro (fun _=>?_) (fun h=>absurd (show(v:Int).tmod 8=3 by first | (rw [e8];omega) | omega) h)
     refine⟨by decide,((v / 64:Nat):Int),by show _=IntKind.i64.wrap ((v:Int).tdiv 64);rw [show(v:Int).tdiv 64=((v / 64:Nat):Int) from rfl];exact w6z,?_⟩
     refine⟨by decide,((v / 8:Nat):Int),by show _=IntKind.i64.wrap ((v:Int).tdiv 8);rw [show(v:Int).tdiv 8=((v / 8:Nat):Int) from rfl];exact w6z,?_⟩
     refine⟨by decide,?_⟩
     refine⟨1+((v / 8 % 4:Nat):Int),by show _=IntKind.i64.wrap (1+((v / 8:Nat):Int).tmod 4);rw [show((v / 8:Nat):Int).tmod 4=((v / 8 % 4:Nat):Int) from rfl];exact w6z,?_⟩
     refine⟨by decide,((v / 32:Nat):Int),by show _=IntKind.i64.wrap ((v:Int).tdiv 32);rw [show(v:Int).tdiv 32=((v / 32:Nat):Int) from rfl];exact w6z,?_⟩
     refine⟨by decide,?_⟩
     refine qEc (.agg [i64 6,i64 ((v / 32 % 3:Nat):Int),i64 (1+((v / 8 % 4:Nat):Int)),i64 ((v / 64:Nat):Int), .str (nmV v),i64 3, .str [],i64 0, .nils, .nils]) (.lst (t.map u8)) rfl rfl rfl ?_
     exact⟨_,_, .mk 6 ((v / 32 % 3:Nat):Int) (1+((v / 8 % 4:Nat):Int)) ((v / 64:Nat):Int) ⟨nmV v,3,[],0⟩ [] [],1,t,rfl,qAr 6 _ _ _ ⟨nmV v,3,[],0⟩,NilD.refl _,qBv (by decide) (by decide) (by decide) (qT6 hn (qJT v 32 3 hv) (qPE v 64 hv) (by omega)) (by decide) d,by simp only [List.length_cons];omega⟩
    refine And.intro (fun h=>absurd (show(v:Int).tmod 8=3 from h) (by first | (rw [e8];omega) | omega)) (fun _=>?_)
    refine⟨by decide,?_⟩
    by_cases k4:v % 8=4
    ·refine And.intro (fun _=>?_) (fun h=>absurd (show(v:Int).tmod 8=4 by first | (rw [e8];omega) | omega) h)
     refine⟨by decide,((v / 32:Nat):Int),by show _=IntKind.i64.wrap ((v:Int).tdiv 32);rw [show(v:Int).tdiv 32=((v / 32:Nat):Int) from rfl];exact w6z,?_⟩
     refine⟨by decide,?_⟩
     refine qAf otG (by kernel_rfl) ?_
     refine⟨by decide,((v / 8:Nat):Int),by show _=IntKind.i64.wrap ((v:Int).tdiv 8);rw [show(v:Int).tdiv 8=((v / 8:Nat):Int) from rfl];exact w6z,?_⟩
     refine⟨by decide,?_⟩
     refine⟨by show(0:Int)<=((v / 8:Nat):Int).tmod 4/\((v / 8:Nat):Int).tmod 4<=4;rw [show((v / 8:Nat):Int).tmod 4=((v / 8 % 4:Nat):Int) from rfl];omega,?_⟩
     refine qEc (.agg [i64 5,i64 0,i64 0,i64 0, .str (nmV v),i64 1, .str [112],i64 ((v / 32 % 3:Nat):Int), .lst ((l9.map i64).drop (v / 8 % 4)), .nils]) (.lst (t.map u8)) rfl rfl rfl ?_
     exact⟨_,_, .mk 5 0 0 0 ⟨nmV v,1,[112],((v / 32 % 3:Nat):Int)⟩ (l9.drop (v / 8 % 4)) [],1,t,rfl,qDM ⟨nmV v,1,[112],((v / 32 % 3:Nat):Int)⟩ l9 (v / 8 % 4),NilD.refl _,qBv (by decide) (by decide) (by decide) (qOC (qUl hn qQm (qJT v 32 3 hv)) (qK1 _ (by omega))) (by rw [List.length_drop];show 4 - _<=4;omega) d,by simp only [List.length_cons];omega⟩
    refine And.intro (fun h=>absurd (show(v:Int).tmod 8=4 from h) (by first | (rw [e8];omega) | omega)) (fun _=>?_)
    refine⟨by decide,?_⟩
    by_cases k5:v % 8=5
    ·refine And.intro (fun _=>?_) (fun h=>absurd (show(v:Int).tmod 8=5 by first | (rw [e8];omega) | omega) h)
     refine⟨by decide,((v / 8:Nat):Int),by show _=IntKind.i64.wrap ((v:Int).tdiv 8);rw [show(v:Int).tdiv 8=((v / 8:Nat):Int) from rfl];exact w6z,?_⟩
     refine⟨by decide,?_⟩
     refine⟨by decide,((v / 8:Nat):Int),by show _=IntKind.i64.wrap ((v:Int).tdiv 8);rw [show(v:Int).tdiv 8=((v / 8:Nat):Int) from rfl];exact w6z,?_⟩
     refine⟨by decide,?_⟩
     refine⟨1+((v / 8 % 4:Nat):Int),by show _=IntKind.i64.wrap (1+((v / 8:Nat):Int).tmod 4);rw [show((v / 8:Nat):Int).tmod 4=((v / 8 % 4:Nat):Int) from rfl];exact w6z,?_⟩
     refine⟨by decide,((v / 64:Nat):Int),by show _=IntKind.i64.wrap ((v:Int).tdiv 64);rw [show(v:Int).tdiv 64=((v / 64:Nat):Int) from rfl];exact w6z,?_⟩
     refine qEc (.agg [i64 (1+((v / 8 % 4:Nat):Int)),i64 ((v / 64:Nat):Int),i64 0,i64 0, .str (nmV v),i64 2, .str [],i64 ((v / 8 % 4:Nat):Int), .nils, .nils]) (.lst (t.map u8)) rfl rfl rfl ?_
     exact⟨_,_, .mk (1+((v / 8 % 4:Nat):Int)) ((v / 64:Nat):Int) 0 0 ⟨nmV v,2,[],((v / 8 % 4:Nat):Int)⟩ [] [],1,t,rfl,qAr _ _ 0 0 ⟨nmV v,2,[],((v / 8 % 4:Nat):Int)⟩,NilD.refl _,qBv (by omega) (by omega) (by omega) (qIK (by omega) (qUk hn (qJT v 8 4 hv)) (qPE v 64 hv)) (by decide) d,by simp only [List.length_cons];omega⟩
    refine And.intro (fun h=>absurd (show(v:Int).tmod 8=5 from h) (by first | (rw [e8];omega) | omega)) (fun _=>?_)
    refine⟨by decide,((v / 8:Nat):Int),by show _=IntKind.i64.wrap ((v:Int).tdiv 8);rw [show(v:Int).tdiv 8=((v / 8:Nat):Int) from rfl];exact w6z,?_⟩
    refine⟨by decide,?_⟩
    refine⟨1+((v / 8 % 4:Nat):Int),by show _=IntKind.i64.wrap (1+((v / 8:Nat):Int).tmod 4);rw [show((v / 8:Nat):Int).tmod 4=((v / 8 % 4:Nat):Int) from rfl];exact w6z,?_⟩
    refine⟨by decide,((v / 64:Nat):Int),by show _=IntKind.i64.wrap ((v:Int).tdiv 64);rw [show(v:Int).tdiv 64=((v / 64:Nat):Int) from rfl];exact w6z,?_⟩
    refine qEc (.agg [i64 (1+((v / 8 % 4:Nat):Int)),i64 ((v / 64:Nat):Int),i64 0,i64 0, .str (nmV v),i64 0, .str [],i64 0, .nils, .nils]) (.lst (t.map u8)) rfl rfl rfl ?_
    exact⟨_,_, .mk (1+((v / 8 % 4:Nat):Int)) ((v / 64:Nat):Int) 0 0 ⟨nmV v,0,[],0⟩ [] [],1,t,rfl,qAr _ _ 0 0 ⟨nmV v,0,[],0⟩,NilD.refl _,qBv (by omega) (by omega) (by omega) (qIK (by omega) (qSl hn) (qPE v 64 hv)) (by decide) d,by simp only [List.length_cons];omega⟩
 ·refine And.intro (fun h=>absurd (show(p:Int)<8 from h) (by first | (rw [e8];omega) | omega)) (fun _=>?_)
  refine And.intro (fun h=>absurd (show(p:Int)<8 from h) (by first | (rw [e8];omega) | omega)) (fun _=>?_)
  refine⟨by decide,?_⟩
  by_cases k3:v % 8=3
  ·refine And.intro (fun _=>?_) (fun h=>absurd (show(v:Int).tmod 8=3 by first | (rw [e8];omega) | omega) h)
   refine⟨by decide,((v / 64:Nat):Int),by show _=IntKind.i64.wrap ((v:Int).tdiv 64);rw [show(v:Int).tdiv 64=((v / 64:Nat):Int) from rfl];exact w6z,?_⟩
   refine⟨by decide,((v / 8:Nat):Int),by show _=IntKind.i64.wrap ((v:Int).tdiv 8);rw [show(v:Int).tdiv 8=((v / 8:Nat):Int) from rfl];exact w6z,?_⟩
   refine⟨by decide,?_⟩
   refine⟨1+((v / 8 % 4:Nat):Int),by show _=IntKind.i64.wrap (1+((v / 8:Nat):Int).tmod 4);rw [show((v / 8:Nat):Int).tmod 4=((v / 8 % 4:Nat):Int) from rfl];exact w6z,?_⟩
   refine⟨by decide,((v / 32:Nat):Int),by show _=IntKind.i64.wrap ((v:Int).tdiv 32);rw [show(v:Int).tdiv 32=((v / 32:Nat):Int) from rfl];exact w6z,?_⟩
   refine⟨by decide,?_⟩
   refine qEc (.agg [i64 6,i64 ((v / 32 % 3:Nat):Int),i64 (1+((v / 8 % 4:Nat):Int)),i64 ((v / 64:Nat):Int), .str (nmV v),i64 3, .str [],i64 0, .nils, .nils]) (.lst (t.map u8)) rfl rfl rfl ?_
   exact⟨_,_, .mk 6 ((v / 32 % 3:Nat):Int) (1+((v / 8 % 4:Nat):Int)) ((v / 64:Nat):Int) ⟨nmV v,3,[],0⟩ [] [],1,t,rfl,qAr 6 _ _ _ ⟨nmV v,3,[],0⟩,NilD.refl _,qBv (by decide) (by decide) (by decide) (qT6 hn (qJT v 32 3 hv) (qPE v 64 hv) (by omega)) (by decide) d,by simp only [List.length_cons];omega⟩
  refine And.intro (fun h=>absurd (show(v:Int).tmod 8=3 from h) (by first | (rw [e8];omega) | omega)) (fun _=>?_)
  refine⟨by decide,?_⟩
  by_cases k4:v % 8=4
  ·refine And.intro (fun _=>?_) (fun h=>absurd (show(v:Int).tmod 8=4 by first | (rw [e8];omega) | omega) h)
   refine⟨by decide,((v / 32:Nat):Int),by show _=IntKind.i64.wrap ((v:Int).tdiv 32);rw [show(v:Int).tdiv 32=((v / 32:Nat):Int) from rfl];exact w6z,?_⟩
   refine⟨by decide,?_⟩
   refine qAf otG (by kernel_rfl) ?_
   refine⟨by decide,((v / 8:Nat):Int),by show _=IntKind.i64.wrap ((v:Int).tdiv 8);rw [show(v:Int).tdiv 8=((v / 8:Nat):Int) from rfl];exact w6z,?_⟩
   refine⟨by decide,?_⟩
   refine⟨by show(0:Int)<=((v / 8:Nat):Int).tmod 4/\((v / 8:Nat):Int).tmod 4<=4;rw [show((v / 8:Nat):Int).tmod 4=((v / 8 % 4:Nat):Int) from rfl];omega,?_⟩
   refine qEc (.agg [i64 5,i64 0,i64 0,i64 0, .str (nmV v),i64 1, .str [112],i64 ((v / 32 % 3:Nat):Int), .lst ((l9.map i64).drop (v / 8 % 4)), .nils]) (.lst (t.map u8)) rfl rfl rfl ?_
   exact⟨_,_, .mk 5 0 0 0 ⟨nmV v,1,[112],((v / 32 % 3:Nat):Int)⟩ (l9.drop (v / 8 % 4)) [],1,t,rfl,qDM ⟨nmV v,1,[112],((v / 32 % 3:Nat):Int)⟩ l9 (v / 8 % 4),NilD.refl _,qBv (by decide) (by decide) (by decide) (qOC (qUl hn qQm (qJT v 32 3 hv)) (qK1 _ (by omega))) (by rw [List.length_drop];show 4 - _<=4;omega) d,by simp only [List.length_cons];omega⟩
  refine And.intro (fun h=>absurd (show(v:Int).tmod 8=4 from h) (by first | (rw [e8];omega) | omega)) (fun _=>?_)
  refine⟨by decide,?_⟩
  by_cases k5:v % 8=5
  ·refine And.intro (fun _=>?_) (fun h=>absurd (show(v:Int).tmod 8=5 by first | (rw [e8];omega) | omega) h)
   refine⟨by decide,((v / 8:Nat):Int),by show _=IntKind.i64.wrap ((v:Int).tdiv 8);rw [show(v:Int).tdiv 8=((v / 8:Nat):Int) from rfl];exact w6z,?_⟩
   refine⟨by decide,?_⟩
   refine⟨by decide,((v / 8:Nat):Int),by show _=IntKind.i64.wrap ((v:Int).tdiv 8);rw [show(v:Int).tdiv 8=((v / 8:Nat):Int) from rfl];exact w6z,?_⟩
   refine⟨by decide,?_⟩
   refine⟨1+((v / 8 % 4:Nat):Int),by show _=IntKind.i64.wrap (1+((v / 8:Nat):Int).tmod 4);rw [show((v / 8:Nat):Int).tmod 4=((v / 8 % 4:Nat):Int) from rfl];exact w6z,?_⟩
   refine⟨by decide,((v / 64:Nat):Int),by show _=IntKind.i64.wrap ((v:Int).tdiv 64);rw [show(v:Int).tdiv 64=((v / 64:Nat):Int) from rfl];exact w6z,?_⟩
   refine qEc (.agg [i64 (1+((v / 8 % 4:Nat):Int)),i64 ((v / 64:Nat):Int),i64 0,i64 0, .str (nmV v),i64 2, .str [],i64 ((v / 8 % 4:Nat):Int), .nils, .nils]) (.lst (t.map u8)) rfl rfl rfl ?_
   exact⟨_,_, .mk (1+((v / 8 % 4:Nat):Int)) ((v / 64:Nat):Int) 0 0 ⟨nmV v,2,[],((v / 8 % 4:Nat):Int)⟩ [] [],1,t,rfl,qAr _ _ 0 0 ⟨nmV v,2,[],((v / 8 % 4:Nat):Int)⟩,NilD.refl _,qBv (by omega) (by omega) (by omega) (qIK (by omega) (qUk hn (qJT v 8 4 hv)) (qPE v 64 hv)) (by decide) d,by simp only [List.length_cons];omega⟩
  refine And.intro (fun h=>absurd (show(v:Int).tmod 8=5 from h) (by first | (rw [e8];omega) | omega)) (fun _=>?_)
  refine⟨by decide,((v / 8:Nat):Int),by show _=IntKind.i64.wrap ((v:Int).tdiv 8);rw [show(v:Int).tdiv 8=((v / 8:Nat):Int) from rfl];exact w6z,?_⟩
  refine⟨by decide,?_⟩
  refine⟨1+((v / 8 % 4:Nat):Int),by show _=IntKind.i64.wrap (1+((v / 8:Nat):Int).tmod 4);rw [show((v / 8:Nat):Int).tmod 4=((v / 8 % 4:Nat):Int) from rfl];exact w6z,?_⟩
  refine⟨by decide,((v / 64:Nat):Int),by show _=IntKind.i64.wrap ((v:Int).tdiv 64);rw [show(v:Int).tdiv 64=((v / 64:Nat):Int) from rfl];exact w6z,?_⟩
  refine qEc (.agg [i64 (1+((v / 8 % 4:Nat):Int)),i64 ((v / 64:Nat):Int),i64 0,i64 0, .str (nmV v),i64 0, .str [],i64 0, .nils, .nils]) (.lst (t.map u8)) rfl rfl rfl ?_
  exact⟨_,_, .mk (1+((v / 8 % 4:Nat):Int)) ((v / 64:Nat):Int) 0 0 ⟨nmV v,0,[],0⟩ [] [],1,t,rfl,qAr _ _ 0 0 ⟨nmV v,0,[],0⟩,NilD.refl _,qBv (by omega) (by omega) (by omega) (qIK (by omega) (qSl hn) (qPE v 64 hv)) (by decide) d,by simp only [List.length_cons];omega⟩
theorem qOP:∀ d,qYF (d+1)
 | 0=>grow_step 0 fun h=>absurd rfl h
 | d+1=>grow_step (d+1) fun _=>qOP d
theorem qTd (l:List UInt8) (hl:l.length<=9223372036854775807):Pure cx 41 [.lst (l.map u8)] fun r=>∃ (c:Cd) (n:Nat),r=.ret [c.pv]/\Small 8 c n/\n<=29:=by
 refine qAC Tryz.func41 rfl rfl rfl ?_
 have hl':(l.map u8).length=l.length:=List.length_map ..
 obtain⟨k,hk⟩:∃ k,k=min l.length 14:=⟨_,rfl⟩
 have em:(if (14:Int)<((l.map u8).length:Nat) then(14:Int) else((l.map u8).length:Nat))=(k:Nat):=by
  rw [hl',hk];split <;> omega
 refine⟨by show(0:Int)<=(if (14:Int)<((l.map u8).length:Nat) then(14:Int) else((l.map u8).length:Nat))/\(if (14:Int)<((l.map u8).length:Nat) then(14:Int) else((l.map u8).length:Nat))<=((l.map u8).length:Nat);rw [em,hl'];omega,?_⟩
 have hg:=qOP 7 1 (l.take k) rfl (by rw [List.length_take];omega)
 have ea:[PV.lst ((l.take k).map u8),i64 ((1:Nat):Int)]=[PV.lst ((l.map u8).take (if (14:Int)<((l.map u8).length:Nat) then(14:Int) else((l.map u8).length:Nat)).toNat),i64 1]:=by
  rw [em,List.map_take];rfl
 rw [ea] at hg
 refine hg.at fun r hr=>?_
 obtain⟨⟨ao,an,ar,av,af,as',aa⟩,n,rest,rfl,hs,hn⟩:=hr
 exact qAG _ rfl rfl ⟨_,n,rfl,hs,by rw [List.length_take] at hn;omega⟩
abbrev qDh (c:Cd):De:=⟨5,0,[],[],[],[⟨c,[1]⟩,⟨cd0,[-1,0]⟩]⟩
theorem qTb (l:List UInt8) (hl:l.length<=9223372036854775807):Pure cx 12 [.lst (l.map u8)] fun r=>∃ (c:Cd) (n:Nat),r=.ret [qCn [qDh c]]/\Small 8 c n/\n<=29:=by
 refine Pure.weak (Q:=fun r=>∃ (c:Cd) (n:Nat),r=.ret [.agg [.lsts 6 [[i64 5,i64 0, .str [], .str [], .nils, .lsts 11 [c.cells++[.lst [i64 1]],zc0++[.lst [i64 (-1),i64 0]]]]]]]/\Small 8 c n/\n<=29) ?_ ?_
 ·refine qAC Tryz.func12 rfl rfl rfl ?_
  refine(qTd l hl).at fun r hr=>?_
  obtain⟨⟨ao,an,ar,av,af,as',aa⟩,n,rfl,hs,hn⟩:=hr
  refine qAG _ rfl ⟨_,rfl,_,_,rfl,⟨_,rfl,Nat.le_refl _,⟨_,_,rfl,⟨_,_,rfl,rfl,_,_,rfl,rfl,_,_,rfl,rfl,_,_,rfl,rfl,_,_,rfl, .inl rfl,_,_,rfl,⟨_,rfl,Nat.le_refl _,⟨_,_,rfl,?_,_,_,rfl,?_,rfl⟩⟩,rfl⟩,rfl⟩⟩,rfl⟩ ⟨_,n,rfl,hs,hn⟩
  ·exact⟨_,_,rfl,rfl,_,_,rfl,rfl,_,_,rfl,rfl,_,_,rfl,rfl,_,_,rfl,rfl,_,_,rfl,rfl,_,_,rfl,rfl,_,_,rfl,rfl,_,_,rfl,rfl,_,_,rfl,rfl,_,_,rfl,⟨_,rfl,Nat.le_refl _,rfl⟩,rfl⟩
  ·exact⟨_,_,rfl,rfl,_,_,rfl,rfl,_,_,rfl,rfl,_,_,rfl,rfl,_,_,rfl,rfl,_,_,rfl,rfl,_,_,rfl,rfl,_,_,rfl,rfl,_,_,rfl, .inl rfl,_,_,rfl, .inl rfl,_,_,rfl,⟨_,rfl,Nat.le_refl _,rfl⟩,rfl⟩
 ·rintro r ⟨c,n,rfl,hs,hn⟩
  refine⟨_,⟨_,rfl,_,_,rfl,?_,rfl⟩,c,n,rfl,hs,hn⟩
  show NilD _ (.agg [.lsts 6 [[i64 5,i64 0, .str [], .str [], .lsts 4 [], .lsts 11 [(⟨c,[1]⟩:Cs).cells,(⟨cd0,[-1,0]⟩:Cs).cells]]]])
  simp only [NilD,NilDL,NilDLL]
  exact⟨_,rfl,_,_,rfl,⟨_,rfl,_,_,rfl,⟨_,_,rfl,rfl,_,_,rfl,rfl,_,_,rfl,rfl,_,_,rfl,rfl,_,_,rfl, .inr (.inr ⟨4,rfl⟩),_,_,rfl,⟨_,rfl,_,_,rfl,NilDL.refl _,_,_,rfl,qN1 [-1,0],rfl⟩,rfl⟩,rfl⟩,rfl⟩
set_option maxHeartbeats 4000000
def qUA (t:List UInt8):Nat:=if t=tLP then 1 else 0
def lpP (ws:List Wd):Nat->Nat
 | 0=>0
 | q+1=>lpP ws q+qUA (txt ws q)
def pn (k:Nat) (p:Int × Nat):Nat:=p.2+if lvl p.1<k then 1 else 0
def cpJ (op:Int) (ps:List (Int × Nat)):Nat:=
 if op=9 then pn 1 (ps.getD 0 (0,0))+pn 2 (ps.getD 1 (0,0)) else if op=8 then pn 2 (ps.getD 0 (0,0))+pn 3 (ps.getD 1 (0,0)) else if op=7 then pn 3 (ps.getD 0 (0,0)) else if op=6 then 1 else 0
mutual
def cp:Cd->Nat
 | .mk op _ _ _ _ _ ar=>cpJ op (cpL ar)
def cpL:List Cd->List (Int × Nat)
 | []=>[]
 | c::r=>(c.op,cp c)::cpL r
end
def pin (k:Nat) (c:Cd):Nat:=pn k (c.op,cp c)
theorem qVY (a b:Cd):cp (.mk 9 0 0 0 rf0 [] [a,b])=pin 1 a+pin 2 b:=by rw [cp,cpL,cpL,cpL];rfl
theorem qVZ (a b:Cd):cp (.mk 8 0 0 0 rf0 [] [a,b])=pin 2 a+pin 3 b:=by rw [cp,cpL,cpL,cpL];rfl
theorem qW6 (a:Cd):cp (.mk 7 0 0 0 rf0 [] [a])=pin 3 a:=by rw [cp,cpL,cpL];rfl
theorem qRo {op n rel val:Int} {r:Rf} {st:List Int} (h7:¬ op=7) (h8:¬ op=8) (h9:¬ op=9):cp (.mk op n rel val r st [])=if op=6 then 1 else 0:=by
 rw [cp,cpJ,if_neg h9,if_neg h8,if_neg h7]
theorem qWa {k:Nat} {c:Cd} (h:¬ lvl c.op<k):pin k c=cp c:=by
 unfold pin pn
 rw [if_neg h];rfl
structure CLp (ws:List Wd) (F:Nat):Prop where
 cond:∀ {q c q'},qCa ws F q=.inr (c,q')->lpP ws q+pin 1 c<=lpP ws q'
 orr:∀ {d q c q'},orR ws F d q=.inr (c,q')->∀ s,s+pin 1 d<=lpP ws q->s+pin 1 c<=lpP ws q'
 conj:∀ {q c q'},qCZ ws F q=.inr (c,q')->lpP ws q+pin 2 c<=lpP ws q'
 andr:∀ {d q c q'},qIh ws F d q=.inr (c,q')->∀ s,s+pin 2 d<=lpP ws q->s+pin 2 c<=lpP ws q'
 neg:∀ {q c q'},qFk ws F q=.inr (c,q')->lpP ws q+pin 3 c<=lpP ws q'
 test:∀ {q c q'},qDF ws F q=.inr (c,q')->lpP ws q+pin 4 c<=lpP ws q'
def lpT (x:qBb):Nat:=(x.map qUA).sum
def wgh (t:List UInt8):Int:=if t=tLP then 1 else if t=tRP then -1 else 0
def tot (x:qBb):Int:=(x.map wgh).sum
theorem qGt (x y:qBb):lpT (x++y)=lpT x+lpT y:=by rw [lpT,List.map_append,List.sum_append];rfl
theorem qJx (x y:qBb):tot (x++y)=tot x+tot y:=by rw [tot,List.map_append,List.sum_append];rfl
theorem qFA (t:List UInt8) (x:qBb):lpT (t::x)=qUA t+lpT x:=by simp [lpT]
theorem qJw (t:List UInt8) (x:qBb):tot (t::x)=wgh t+tot x:=by simp [tot]
structure Bal (x:qBb):Prop where
 all:tot x=0
 pre:∀ n,0<=tot (x.take n)
theorem Bal.app {x y:qBb} (hx:Bal x) (hy:Bal y):Bal (x++y):=by
 refine⟨by rw [qJx,hx.all,hy.all];rfl,fun n=>?_⟩
 rw [List.take_append,qJx]
 have:=hx.pre n
 have:=hy.pre (n - x.length)
 omega
def Pl (t:List UInt8):Prop:=t ≠ tLP/\t ≠ tRP
theorem qWX {t:List UInt8} (h:Pl t):wgh t=0:=by rw [wgh,if_neg h.1,if_neg h.2]
theorem qXm {t:List UInt8} (h:Pl t):qUA t=0:=if_neg h.1
theorem qFC:∀ {x:qBb},(∀ t∈x,Pl t)->tot x=0/\lpT x=0
 | [],_=>⟨rfl,rfl⟩
 | t::x,h=>by
  have h1:=h t (List.mem_cons_self ..)
  have h2:=qFC (x:=x) fun u hu=>h u (List.mem_cons_of_mem _ hu)
  rw [qJw,qFA,qWX h1,qXm h1,h2.1,h2.2];exact⟨rfl,rfl⟩
theorem qHf {x:qBb} (h:∀ t∈x,Pl t):Bal x:=
 ⟨(qFC h).1,fun n=>by rw [(qFC fun t ht=>h t (List.mem_of_mem_take ht)).1];exact Int.le_refl _⟩
theorem Bal.par {x:qBb} (h:Bal x):Bal (tLP::(x++[tRP])):=by
 have e1:wgh tLP=1:=rfl
 have e2:tot [tRP]=-1:=rfl
 refine⟨by rw [qJw,qJx,h.all,e1,e2];rfl,fun n=>?_⟩
 cases n with
 | zero=>exact Int.le_refl _
 | succ n=>
  rw [List.take_succ_cons,qJw,e1,List.take_append,qJx]
  have:=h.pre n
  have h3:-1<=tot ([tRP].take (n - x.length)):=by
   cases n - x.length with
   | zero=>decide
   | succ m=>rw [List.take_of_length_le (by simp)];decide
  omega
theorem qMT {t:List UInt8} (h:qAj t=true):Pl t:=⟨qDN h (by decide),qDN h (by decide)⟩
theorem qH7 {n:Int} (h:qBt n=true):Pl (qAe n):=⟨qNz (qEL h).1 (by decide),qNz (qEL h).1 (by decide)⟩
theorem qA4 {t:List UInt8} {x:qBb} (h:Pl t) (hx:∀ u∈x,Pl u):∀ u∈t::x,Pl u:=fun u hu=>by
 rcases List.mem_cons.1 hu with rfl | hu
 ·exact h
 ·exact hx u hu
theorem qDa:∀ u∈([]:qBb),Pl u:=fun u hu=>by cases hu
theorem qJE {x y:qBb} (hx:∀ u∈x,Pl u) (hy:∀ u∈y,Pl u):∀ u∈x++y,Pl u:=fun u hu=>by
 rcases List.mem_append.1 hu with hu | hu
 ·exact hx u hu
 ·exact hy u hu
theorem qWZ {r:Rf} (h:qBl r=true):∀ u∈qBy r,Pl u:=by
 obtain⟨nm,m,pl,n⟩:=r
 rw [qBl,Bool.and_eq_true] at h
 obtain⟨hn,h⟩:=h
 simp only [] at h hn
 refine qA4 (qMT hn) ?_
 unfold qGf
 simp only []
 by_cases h3:m=3
 ·rw [if_pos h3]
  exact qA4 ⟨by decide,by decide⟩ (qA4 ⟨by decide,by decide⟩ (qA4 ⟨by decide,by decide⟩ qDa))
 rw [if_neg h3]
 by_cases h2:m=2
 ·rw [if_neg (by omega),if_neg (by omega),if_pos h2,Bool.and_eq_true] at h
  rw [if_pos h2]
  exact qA4 ⟨by decide,by decide⟩ (qA4 (qH7 h.2) (qA4 ⟨by decide,by decide⟩ qDa))
 rw [if_neg h2]
 by_cases h1:m=1
 ·rw [if_neg (by omega),if_pos h1,Bool.and_eq_true] at h
  rw [if_pos h1]
  split
  ·exact qA4 ⟨by decide,by decide⟩ (qA4 (qMT h.1) (qA4 ⟨by decide,by decide⟩ (qA4 (qH7 h.2) (qA4 ⟨by decide,by decide⟩ qDa))))
  ·exact qA4 ⟨by decide,by decide⟩ (qA4 (qMT h.1) (qA4 ⟨by decide,by decide⟩ qDa))
 ·rw [if_neg h1];exact qDa
theorem qT2 (k:Int):Pl (qHI k):=by
 unfold qHI
 split
 ·exact⟨by decide,by decide⟩
 ·split
  ·exact⟨by decide,by decide⟩
  ·split <;> exact⟨by decide,by decide⟩
theorem qUw {l:List Int} (h:∀ n∈l,qBt n=true):∀ u∈l.flatMap (fun b=>qAi::[qAe b]),Pl u:=fun u hu=>by
 obtain⟨b,hb,hu⟩:=List.mem_flatMap.1 hu
 exact qA4 ⟨by decide,by decide⟩ (qA4 (qH7 (h b hb)) qDa) u hu
theorem qWY {l:List Int} (h:∀ n∈l,qBt n=true):∀ u∈qFM (fun n=>[qAe n]) l,Pl u:=by
 cases l with
 | nil=>exact qDa
 | cons a l=>exact qJE (qA4 (qH7 (h a (List.mem_cons_self ..))) qDa) (qUw fun n hn=>h n (List.mem_cons_of_mem _ hn))
structure CanP (c:Cd):Prop where
 bal:Bal (qAm c)
 lp:lpT (qAm c)=cp c
theorem qLl {c:Cd} (h:CanP c) (k:Nat):Bal (qAF k c)/\lpT (qAF k c)=pin k c:=by
 by_cases hl:lvl c.op<k
 ·rw [qGb hl]
  refine⟨h.bal.par,?_⟩
  rw [qFA,qGt,h.lp,pin,pn,if_pos hl]
  have e1:qUA tLP=1:=rfl
  have e2:lpT [tRP]=0:=rfl
  rw [e1,e2];show 1+(cp c+0)=cp c+1;omega
 ·rw [qBh hl,qWa hl]
  exact⟨h.bal,h.lp⟩
theorem qKj {t:List UInt8} (h:Pl t):Bal [t]:=qHf (qA4 h qDa)
theorem qTQ {c:Cd} (h:Sh CanP c):CanP c:=by
 cases h with
 | leaf op n rel val r st h7 h8 h9 hb=>
  obtain⟨f1,f2,f3,f4⟩:=qIJ hb
  have hr:=qWZ f1
  rw [show CanP (.mk op n rel val r st []) ↔ Bal (qB2 op n rel val r st)/\lpT (qB2 op n rel val r st)=if op=6 then 1 else 0 from⟨fun h=>by rw [<- qCK h7 h8 h9,<- qRo (n:=n) (rel:=rel) (val:=val) (r:=r) (st:=st) h7 h8 h9];exact⟨h.bal,h.lp⟩,fun h=>by rw [<- qCK h7 h8 h9,<- qRo (n:=n) (rel:=rel) (val:=val) (r:=r) (st:=st) h7 h8 h9] at h;exact⟨h.1,h.2⟩⟩]
  by_cases h6:op=6
  ·obtain⟨g1,g2,g3⟩:=f2 h6
   have e:qB2 op n rel val r st=[qBo]++((tLP::((qBy r++[tEq,qAe val])++[tRP]))++[qHI rel,qAe n]):=by
    rw [qB2,if_pos h6];simp
   have hx:∀ u∈qBy r++[tEq,qAe val],Pl u:=qJE hr (qA4 ⟨by decide,by decide⟩ (qA4 (qH7 g2) qDa))
   have hy:∀ u∈[qHI rel,qAe n],Pl u:=qA4 (qT2 rel) (qA4 (qH7 g1) qDa)
   rw [e,if_pos h6]
   refine⟨(qKj ⟨by decide,by decide⟩).app ((qHf hx).par.app (qHf hy)),?_⟩
   have h1:lpT [qBo]=0:=rfl
   rw [qGt,qGt,h1,qFA,qGt,(qFC hx).2,(qFC hy).2];rfl
  ·rw [if_neg h6]
   have hall:∀ u∈qB2 op n rel val r st,Pl u:=by
    rw [qB2,if_neg h6]
    by_cases h5:op=5
    ·rw [if_pos h5]
     exact qJE hr (qJE (qA4 ⟨by decide,by decide⟩ (qA4 ⟨by decide,by decide⟩ qDa)) (qJE (qWY (qDq (f3 h5)).2.1) (qA4 ⟨by decide,by decide⟩ qDa)))
    ·rw [if_neg h5]
     exact qJE hr (qA4 (qT2 op) (qA4 (qH7 (f4 h5 h6).1) qDa))
   exact⟨qHf hall,(qFC hall).2⟩
 | neg a ha=>
  have h3:=qLl ha 3
  refine⟨?_,?_⟩
  ·rw [qCw]
   exact(qKj (t:=qGX) ⟨by decide,by decide⟩).app h3.1
  ·rw [qCw,qW6,qFA,h3.2]
   have:qUA qGX=0:=rfl
   omega
 | conj a b ha hb=>
  have h2:=qLl ha 2
  have h3:=qLl hb 3
  refine⟨?_,?_⟩
  ·rw [qCM]
   exact h2.1.app ((qKj (t:=qDA) ⟨by decide,by decide⟩).app h3.1)
  ·rw [qCM,qVZ,qGt,qFA,h2.2,h3.2]
   have:qUA qDA=0:=rfl
   omega
 | disj a b ha hb=>
  have h2:=qLl ha 1
  have h3:=qLl hb 2
  refine⟨?_,?_⟩
  ·rw [qCL]
   exact h2.1.app ((qKj (t:=tOr) ⟨by decide,by decide⟩).app h3.1)
  ·rw [qCL,qVY,qGt,qFA,h2.2,h3.2]
   have:qUA tOr=0:=rfl
   omega
theorem qRw:∀ (d:Nat) (c:Cd) (left k:Nat),qAs d c left=some k->CanP c
 | 0,_,_,_,h=>by cases h
 | d+1,c,left,k,h=>qTQ ((qG1 h).mono fun a ⟨l,k,h⟩=>qRw d a l k h)
theorem qWC (c:Cd):declT (qDh c)=[qB4,tEq,tLC]++(qAm c++[qAu,[49],qAZ,qCQ,qAu,qAn,[49],[48],tRC,qAZ]):=by
 show(qB4::(qAT qAg []++(tEq::qBL [⟨c,[1]⟩,⟨cd0,[-1,0]⟩])))++[qAZ]=_
 have e:qBf [⟨c,[1]⟩,⟨cd0,[-1,0]⟩]=qAm c++[qAu,[49],qAZ,qCQ,qAu,qAn,[49],[48]]:=rfl
 rw [qBL,e]
 simp [qAT]
def qOz (x:qBb):List UInt8:=x.flatMap fun t=>t++[32]
set_option maxHeartbeats 40000000
inductive ParS (s:List UInt8):Prop
 | no (l c e:Int) (h:qDn s=.inl ((l,c),e)) (h1:Pure cx 22 [.str s] (·=.ret [qCn [],i64 l,i64 c,i64 e])) (h2:Pure cx 23 [.str s] (·=.ret [qCn [],i64 l,i64 c,i64 e])) (h3:Pure cx 24 [qCn [],qCn []] (·=.ret [.bool true])):ParS s
 | yes (ds:List De) (h:qDn s=.inr ds) (h1:Pure cx 22 [.str s] (·=.ret [qCn ds,i64 0,i64 0,i64 0])) (h2:Pure cx 23 [.str s] (·=.ret [qCn ds,i64 0,i64 0,i64 0])) (h3:Pure cx 24 [qCn ds,qCn ds] (·=.ret [.bool true])):ParS s
theorem qN4:BigP []:=⟨by simp,fun d hd=>by cases hd⟩
theorem parS (s:List UInt8):ParS s:=by
 have h1:=qMU s
 have h2:=qSr s
 cases hp:qDn s with
 | inl x=>
  obtain⟨⟨l,c⟩,e⟩:=x
  rw [hp] at h1 h2
  have h3:=qHt [] [] qN4 qN4
  rw [qPk rfl] at h3
  exact .no l c e hp h1 h2 h3
 | inr ds=>
  rw [hp] at h1 h2
  have h3:=qHt ds ds (qHa hp) (qHa hp)
  rw [qPk rfl] at h3
  exact .yes ds hp h1 h2 h3
theorem qNj:∀ x:qBb,qOz x=[]∨(qOz x).length=(spW true x).length
 | []=>.inl rfl
 | t::x=>by
  refine .inr ?_
  rcases qNj x with h | h
  ·cases x with
   | nil=>show(t++[32]++[]).length=([32]++(t++[])).length;simp
   | cons u y=>rw [show qOz (u::y)=(u++[32])++qOz y from rfl] at h;simp at h
  ·show(t++[32]++qOz x).length=([32]++(t++spW true x)).length
   simp only [List.length_append,List.length_cons,List.length_nil];omega
structure WithF (c:Cd):Prop where
 valid:qBH [qDh c]=true
 all:qFv (declT (qDh c))
 num:(declT (qDh c)).length<=1500
 txt:(qBF [qDh c]).length<=8000
 len:(qOz (declT (qDh c))).length<=8000
 can:CanP c
 big:BigP [qDh c]
theorem qOs {c:Cd} (h:(qAs 8 c 30).isSome=true):qBH [qDh c]=true:=by
 have e1:qCX [1]=true:=by decide
 have e2:qBj [⟨cd0,[-1,0]⟩]=true:=by decide
 have e3:qBM [⟨c,[1]⟩,⟨cd0,[-1,0]⟩]=true:=by
  rw [qBM,qBj]
  show(_ && (qCX [1] && (qAs 8 c 30).isSome && qBj [⟨cd0,[-1,0]⟩]))=true
  rw [e1,e2,h];rfl
 have e4:qAt (qDh c)=true:=by
  simp [qAt,e3]
 have e5:qBa (qDh c)=true:=by
  rw [qBa,e4];rfl
 rw [qBH,List.all_cons,e5];rfl
theorem qIx {c:Cd} {n:Nat} (hs:Small 8 c n) (hn:n<=29):WithF c:=by
 have hc:=hs.valid 30 (by omega)
 have hv:=qOs (c:=c) (by rw [hc];rfl)
 have hd:=qDR (d:=qDh c) ((qE1 hv).2 _ (List.mem_singleton.2 rfl))
 have hk:=(qDS 8 c 30 _ hc).2
 have hlen:(declT (qDh c)).length<=1500:=by
  rw [qWC]
  simp only [List.length_append,List.length_cons,List.length_nil];omega
 have hsp:(spW true (declT (qDh c))).length<=7500:=by
  rw [qWC,qJ1,qJ1,List.length_append,List.length_append]
  have h1:(spW true [qB4,tEq,tLC]).length=9:=rfl
  have h2:(spW true [qAu,[49],qAZ,qCQ,qAu,qAn,[49],[48],tRC,qAZ]).length=23:=rfl
  have h3:=hs.len
  omega
 refine⟨hv,hd.1,hlen,?_,?_,qRw 8 c 30 _ hc,?_⟩
 ·have:qBF [qDh c]=(spW false (declT (qDh c))++[10])++[]:=rfl
  rw [qTi (qKd _),List.length_cons] at hsp
  rw [this]
  simp only [List.length_append,List.length_cons,List.length_nil];omega
 ·rcases qNj (declT (qDh c)) with h | h
  ·rw [h];decide
  ·omega
 ·refine⟨by show 1<=9223372036854775807;decide,fun d hd=>?_⟩
  rw [List.mem_singleton] at hd
  subst hd
  refine⟨by simp,by simp,by simp,fun r hr=>(by cases hr),?_⟩
  refine⟨by show 2<=9223372036854775807;decide,fun x hx=>?_,fun x hx=>?_⟩
  ·rcases List.mem_cons.1 hx with rfl | hx
   ·exact hs.big
   ·rw [List.mem_singleton.1 hx];exact qC6 ⟨by decide,by decide⟩ (by decide)
  ·rcases List.mem_cons.1 hx with rfl | hx
   ·show 1<=9223372036854775807;decide
   ·rw [List.mem_singleton.1 hx];show 2<=9223372036854775807;decide
set_option maxHeartbeats 4000000
def lw:qBb->Nat
 | []=>0
 | x::l=>x.length+lw l
theorem qBE (t:List UInt8) (x:qBb):lw (t::x)=t.length+lw x:=rfl
theorem qMd:lw []=0:=rfl
theorem qC0:∀ a b:qBb,lw (a++b)=lw a+lw b
 | [],b=>by simp [lw]
 | x::a,b=>by rw [List.cons_append,lw,lw,qC0 a b];omega
def nbB (c:UInt8):Bool:=decide (c.toNat ≠ 32) && decide (c.toNat ≠ 10)
def nb (s:List UInt8):Nat:=(s.filter nbB).length
def PLt (p q:Nat × Nat):Prop:=p.1<q.1∨(p.1=q.1/\p.2<q.2)
theorem PLt.trans {p q r:Nat × Nat} (h:PLt p q) (k:PLt q r):PLt p r:=by
 unfold PLt at *;omega
structure WSp (s:List UInt8) (k:Nat) (acc:List Wd):Prop where
 pl:∀ w∈acc,∃ o,o<k/\o<=s.length/\w.line=(at_ s o).1/\w.col=(at_ s o).2
 ne:∀ i j,i<j->j<acc.length->¬ ((wat acc i).line=(wat acc j).line/\(wat acc i).col=(wat acc j).col)
 lw:lw (acc.map Wd.text)<=nb (s.take k)
theorem qJY (n:Int):(qAe n).length<=4:=qRi 4 _
theorem qKP {n:Int} (h:n<=9):(qAe n).length<=1:=by
 rw [qAe,qPQ,if_pos (by omega)]
 exact Nat.le_refl _
theorem qMe {α:Type} {f:α->qBb} {b:Nat}:∀ {l:List α},(∀ a∈l,lw (f a)<=b)->lw (l.flatMap f)<=b * l.length
 | [],_=>Nat.zero_le _
 | a::l,h=>by
  have h1:=h a (List.mem_cons_self ..)
  have h2:=qMe (l:=l) fun x hx=>h x (List.mem_cons_of_mem _ hx)
  rw [List.flatMap_cons,qC0,List.length_cons,Nat.mul_succ];omega
theorem qT3 {α:Type} {f:α->qBb} {b:Nat}:∀ {l:List α},(∀ a∈l,lw (f a)<=b)->lw (qFM f l)<=(b+1) * l.length
 | [],_=>Nat.zero_le _
 | a::l,h=>by
  have h1:=h a (List.mem_cons_self ..)
  have h2:=qMe (l:=l) (f:=fun b=>qAi::f b) (b:=b+1) fun x hx=>by
   have:=h x (List.mem_cons_of_mem _ hx)
   simp only [qBE,List.length_cons,List.length_nil];omega
  show lw (f a++l.flatMap fun b=>qAi::f b)<=_
  rw [qC0,List.length_cons,Nat.mul_succ];omega
structure RfS (r:Rf):Prop where
 ok:qBl r=true
 nm:r.name.length=1
 pl:r.plate.length<=1
 n:r.n<=9
theorem qU8 {r:Rf} (h:r.plate.length<=1) (hn:r.n<=9):lw (qGf r)<=5:=by
 have h1:=qKP hn
 unfold qGf
 split
 ·decide
 ·split
  ·simp only [qBE,qMd,List.length_cons,List.length_nil];omega
  ·split
   ·split <;> simp only [qBE,qMd,List.length_cons,List.length_nil] <;> omega
   ·exact Nat.zero_le _
theorem qT5 {r:Rf} (h:RfS r):lw (qBy r)<=6:=by
 have h1:=qU8 h.pl h.n
 have h2:=h.nm
 rw [qBy,qBE];omega
theorem qT4 (k:Int):(qHI k).length<=2:=by
 unfold qHI
 split
 ·decide
 ·split
  ·decide
  ·split <;> decide
theorem qU9 {op n rel val:Int} {r:Rf} {st:List Int} (h:RfS r) (hn:n<=9) (hv:val<=9) (hs:st.length<=2/\∀ a∈st,a<=9):lw (qB2 op n rel val r st)<=18:=by
 have h0:=qT5 h
 have h1:=qKP hn
 have h2:=qKP hv
 have h3:=qT4 rel
 have h4:=qT4 op
 have h5:=qT3 (f:=fun n=>[qAe n]) (b:=1) (l:=st) fun a ha=>by
  have:=qKP (hs.2 a ha)
  simp only [qBE,qMd];omega
 have hs1:=hs.1
 unfold qB2
 split
 ·simp only [qC0,qBE,qMd,List.length_cons,List.length_nil];omega
 ·split
  ·simp only [qC0,qBE,qMd,List.length_cons,List.length_nil];omega
  ·simp only [qC0,qBE,qMd];omega
structure CdS (d:Nat) (c:Cd) (n k:Nat):Prop where
 sm:Small d c n
 wt:lw (qAm c)<=k
theorem CdS.leaf {op n rel val:Int} {r:Rf} {st:List Int} (h7:¬ op=7) (h8:¬ op=8) (h9:¬ op=9) (hb:qAQ op n rel val r st=true) (hr:RfS r) (hn:n<=9) (hv:val<=9) (hs:st.length<=2/\∀ a∈st,a<=9) (d:Nat):CdS (d+1) (.mk op n rel val r st []) 1 18:=
 ⟨qBv h7 h8 h9 hb (by have:=hs.1;omega) d,by rw [qCK h7 h8 h9];exact qU9 hr hn hv hs⟩
theorem qQ6 (k:Nat) (p:Int × qBb):lw (inT k p)<=lw p.2+2:=by
 unfold inT
 split
 ·simp only [qC0,qBE,qMd,List.length_cons,List.length_nil];omega
 ·omega
theorem CdS.neg {d n k:Nat} {a:Cd} (ha:CdS d a n k):CdS (d+1) (.mk 7 0 0 0 rf0 [] [a]) (1+n) (k+5):=by
 refine⟨qLJ ha.sm,?_⟩
 rw [qCw]
 have h1:=ha.wt
 have h2:=qQ6 3 (a.op,qAm a)
 simp only [] at h2
 show lw (qGX::inT 3 (a.op,qAm a))<=_
 rw [qBE]
 simp only [List.length_cons,List.length_nil];omega
theorem CdS.two {d na nb ka kb:Nat} {a b:Cd} {op:Int} (ho:op=8∨op=9) (ha:CdS d a na ka) (hb:CdS d b nb kb):CdS (d+1) (.mk op 0 0 0 rf0 [] [a,b]) (1+na+nb) (ka+kb+7):=by
 refine⟨qKu ho ha.sm hb.sm,?_⟩
 have h1:=ha.wt
 have h2:=hb.wt
 rcases ho with rfl | rfl
 ·rw [qCM]
  have k1:=qQ6 2 (a.op,qAm a)
  have k2:=qQ6 3 (b.op,qAm b)
  simp only [] at k1 k2
  show lw (inT 2 (a.op,qAm a)++(qDA::inT 3 (b.op,qAm b)))<=_
  rw [qC0,qBE]
  simp only [List.length_cons,List.length_nil];omega
 ·rw [qCL]
  have k1:=qQ6 1 (a.op,qAm a)
  have k2:=qQ6 2 (b.op,qAm b)
  simp only [] at k1 k2
  show lw (inT 1 (a.op,qAm a)++(tOr::inT 2 (b.op,qAm b)))<=_
  rw [qC0,qBE]
  simp only [List.length_cons,List.length_nil];omega
theorem CdS.le {d n k k':Nat} {a:Cd} (h:CdS d a n k) (hk:k<=k'):CdS d a n k':=⟨h.sm,Nat.le_trans h.wt hk⟩
structure NuS (l:List Int):Prop where
 ok:qCX l=true
 wt:lw (qBr l)<=6
theorem NuS.len {l:List Int} (h:NuS l):l.length<=8:=by
 have:=h.ok
 simp only [qCX,Bool.and_eq_true,decide_eq_true_eq] at this
 exact this.1.2
structure CsS (c:Cs):Prop where
 cd:∃ n,n<=3/\CdS 8 c.cond n 43
 nu:NuS c.nums
structure LsS (c:Cs):Prop where
 cd:c.cond=cd0
 nu:NuS c.nums
theorem qVh:qC1 cd0:=qC6 ⟨by decide,by decide⟩ (by decide)
structure RuS (l:List Cs):Prop where
 ok:qBM l=true
 wt:lw (qBL l)<=166
 big:BigL l
theorem qTz (last:Cs) (hl:LsS last):∀ pre:List Cs,(∀ c∈pre,CsS c)->qBj (pre++[last])=true/\lw (qBf (pre++[last]))<=51 * pre.length+11/\(∀ c∈pre++[last],qC1 c.cond/\c.nums.length<=9223372036854775807)
 | [],_=>by
  refine⟨?_,?_,fun c hc=>?_⟩
  ·show(qCX last.nums && qEZ last.cond)=true
   rw [hl.nu.ok,hl.cd];rfl
  ·have:=hl.nu.wt
   show lw (qCQ::qAu::qBr last.nums)<=_
   simp only [qBE,List.length_cons,List.length_nil];omega
  ·have:=List.mem_singleton.1 hc
   subst this
   have:=hl.nu.len
   exact⟨by rw [hl.cd];exact qVh,by omega⟩
 | c::pre,h=>by
  obtain⟨h1,h2,h3⟩:=qTz last hl pre fun x hx=>h x (List.mem_cons_of_mem _ hx)
  obtain⟨⟨n,hn,hc⟩,hu⟩:=h c (List.mem_cons_self ..)
  obtain⟨y,t,e⟩:∃ y t,pre++[last]=y::t:=by
   cases pre with
   | nil=>exact⟨_,_,rfl⟩
   | cons a b=>exact⟨_,_,rfl⟩
  rw [e] at h1 h2 h3
  rw [List.cons_append,e]
  refine⟨?_,?_,fun x hx=>?_⟩
  ·rw [qBj,hu.ok,hc.sm.valid 30 (by omega),h1];rfl
  ·have h4:=hc.wt
   have h5:=hu.wt
   rw [qBf]
   simp only [qC0,qBE,List.length_cons,List.length_nil];omega
  ·rcases List.mem_cons.1 hx with rfl | hx
   ·have:=hu.len
    exact⟨hc.sm.big,by omega⟩
   ·exact h3 x hx
theorem qGj {pre:List Cs} {last:Cs} (hp:pre.length<=3) (h:∀ c∈pre,CsS c) (hl:LsS last):RuS (pre++[last]):=by
 obtain⟨h1,h2,h3⟩:=qTz last hl pre h
 have e:(pre++[last]).length=pre.length+1:=by simp
 refine⟨?_,?_,⟨by omega,fun c hc=>(h3 c hc).1,fun c hc=>(h3 c hc).2⟩⟩
 ·rw [qBM,h1,decide_eq_true (by omega),decide_eq_true (by omega)];rfl
 ·rw [qBL,qBE,qC0]
  simp only [qBE,qMd,List.length_cons,List.length_nil];omega
structure DeS (d:De) (k:Nat):Prop where
 ok:qBa d=true
 big:BigD d
 wt:lw (declT d)<=k
theorem qMM {key:List UInt8} {l:List Rf} (hk:key.length<=6) (h:∀ r∈l,RfS r) (hl:l.length<=2):lw (qAT key l)<=20:=by
 unfold qAT
 split
 ·exact Nat.zero_le _
 ·have:=qT3 (f:=qBy) (b:=6) (l:=l) fun r hr=>qT5 (h r hr)
  rw [qBE];omega
theorem qKB {l:List Rf} (h:∀ r∈l,RfS r):l.all qBl=true:=List.all_eq_true.2 fun r hr=>(h r hr).ok
theorem qML {l:List Rf} (h:∀ r∈l,RfS r):∀ r∈l,BigR r:=fun r hr=>qNo (h r hr).ok
theorem bS0:qKq []:=qBT
theorem bS1:qKq [112]:=by rw [qKq];simp
theorem bN0:([]:List Rf).length<=9223372036854775807:=by simp
theorem qTB {n:Int} (hn:qBt n=true):DeS ⟨1,n,[],[],[],[]⟩ 10:=by
 refine⟨?_,⟨bS0,bS0,bN0,fun r hr=>(by cases hr),qGr⟩,?_⟩
 ·rw [qBa,hn];rfl
 ·have:=qJY n
  show lw [qCP,qAe n,qAZ]<=_
  simp only [qBE,qMd,List.length_cons,List.length_nil];omega
theorem qSx {n:Int} (hn:qBt n=true):DeS ⟨2,n,[112],[],[],[]⟩ 12:=by
 refine⟨?_,⟨bS1,bS0,bN0,fun r hr=>(by cases hr),qGr⟩,?_⟩
 ·rw [qBa,hn];rfl
 ·have:=qJY n
  show lw [qCO,[112],tEq,qAe n,qAZ]<=_
  simp only [qBE,qMd,List.length_cons,List.length_nil];omega
theorem qLh {n:Int} {nm:List UInt8} {rs:List Rf} (hn:qBt n=true) (h1:qAj nm=true) (h2:nm.length=1) (hr:∀ r∈rs,RfS r) (hl:rs.length<=2):DeS ⟨4,n,nm,[],rs,[]⟩ 33:=by
 refine⟨?_,⟨by show nm.length<=9223372036854775807;omega,bS0,by show rs.length<=9223372036854775807;omega,qML hr,qGr⟩,?_⟩
 ·rw [qBa,hn,qKB hr,decide_eq_true (by show rs.length<=8;omega),qAt,if_neg (by show ¬ (4:Int)=1;decide),if_neg (by show ¬ (4:Int)=2;decide),if_neg (by show ¬ (4:Int)=3;decide),if_pos rfl,h1];rfl
 ·have h3:=qJY n
  have h4:=qMM (key:=qBd) (by decide) hr hl
  show lw (([qBS,nm,qAu,qAe n]++qAT qBd rs)++[qAZ])<=_
  simp only [qC0,qBE,qMd,List.length_cons,List.length_nil];omega
theorem qRU {rs:List Rf} {cs:List Cs} (hr:∀ r∈rs,RfS r) (hl:rs.length<=2) (hc:RuS cs):DeS ⟨5,0,[],[],rs,cs⟩ 192:=by
 refine⟨?_,⟨bS0,bS0,by show rs.length<=9223372036854775807;omega,qML hr,hc.big⟩,?_⟩
 ·rw [qBa,qKB hr,decide_eq_true (by show rs.length<=8;omega),qAt,if_neg (by show ¬ (5:Int)=1;decide),if_neg (by show ¬ (5:Int)=2;decide),if_neg (by show ¬ (5:Int)=3;decide),if_neg (by show ¬ (5:Int)=4;decide),if_pos rfl,hc.ok];rfl
 ·have h4:=qMM (key:=qAg) (by decide) hr hl
  have h5:=hc.wt
  show lw ((qB4::(qAT qAg rs++(tEq::qBL cs)))++[qAZ])<=_
  simp only [qC0,qBE,qMd,List.length_cons,List.length_nil];omega
theorem qQv {n:Int} {nm pl:List UInt8} {rs:List Rf} {cs:List Cs} (hn:qBt n=true) (h1:qAj nm=true) (h2:nm.length=1) (hp:pl=[]∨pl=[112]) (hr:∀ r∈rs,RfS r) (hl:rs.length<=2) (hc:RuS cs):DeS ⟨3,n,nm,pl,rs,cs⟩ 201:=by
 refine⟨?_,⟨by show nm.length<=9223372036854775807;omega,by rcases hp with rfl | rfl;exact bS0;exact bS1,by show rs.length<=9223372036854775807;omega,qML hr,hc.big⟩,?_⟩
 ·rw [qBa,hn,qKB hr,decide_eq_true (by show rs.length<=8;omega),qAt,if_neg (by show ¬ (3:Int)=1;decide),if_neg (by show ¬ (3:Int)=2;decide),if_pos rfl,h1,hc.ok]
  rcases hp with rfl | rfl <;> rfl
 ·have h3:=qJY n
  have h4:=qMM (key:=qAg) (by decide) hr hl
  have h5:=hc.wt
  have h6:lw (if pl=[] then [] else [tLB,pl,tRB])<=3:=by rcases hp with rfl | rfl <;> decide
  show lw (([qAx,nm]++((if pl=[] then [] else [tLB,pl,tRB])++([qAu,qAe n]++(qAT qAg rs++(tEq::qBL cs)))))++[qAZ])<=_
  simp only [qC0,qBE,qMd,List.length_cons,List.length_nil];omega
theorem qTe:∀ {x:qBb},qFv x->x.length<=lw x
 | [],_=>Nat.le_refl _
 | t::x,h=>by
  have h1:=(qJy (h t (List.mem_cons_self ..))).1
  have h2:=qTe (x:=x) fun u hu=>h u (List.mem_cons_of_mem _ hu)
  rw [qBE,List.length_cons];omega
theorem qTk:∀ x:qBb,(spW true x).length<=lw x+x.length
 | []=>Nat.le_refl _
 | t::x=>by
  have:=qTk x
  show([32]++(t++spW true x)).length<=_
  simp only [List.length_append,List.length_cons,List.length_nil,qBE];omega
structure PrS (ds:List De) (k:Nat):Prop where
 ok:∀ d∈ds,qBa d=true/\BigD d
 wt:lw (ds.flatMap declT)<=k
theorem PrS.nil:PrS [] 0:=⟨fun d hd=>(by cases hd),Nat.le_refl _⟩
theorem PrS.snoc {ds:List De} {d:De} {k j:Nat} (h:PrS ds k) (hd:DeS d j):PrS (ds++[d]) (k+j):=by
 refine⟨fun x hx=>?_,?_⟩
 ·rcases List.mem_append.1 hx with hx | hx
  ·exact h.ok x hx
  ·rw [List.mem_singleton.1 hx];exact⟨hd.ok,hd.big⟩
 ·have h1:=h.wt
  have h2:=hd.wt
  rw [List.flatMap_append,qC0,List.flatMap_cons,List.flatMap_nil,List.append_nil];omega
theorem PrS.le {ds:List De} {k k':Nat} (h:PrS ds k) (hk:k<=k'):PrS ds k':=⟨h.ok,Nat.le_trans h.wt hk⟩
theorem qPz:∀ ds:List De,(qBF ds).length<=lw (ds.flatMap declT)+qGa ds
 | []=>Nat.le_refl _
 | d::ds=>by
  have h1:=qPz ds
  have h2:=qTk (declT d)
  rw [qTi (qKd d),List.length_cons] at h2
  have h3:qGa (d::ds)=(declT d).length+qGa ds:=rfl
  show((spW false (declT d)++[10])++qBF ds).length<=_
  rw [List.flatMap_cons,qC0,h3]
  simp only [List.length_append,List.length_cons,List.length_nil];omega
theorem qRj {ds:List De} (h:∀ d∈ds,qBa d=true):qFv (ds.flatMap declT):=fun t ht=>by
 obtain⟨d,hd,ht⟩:=List.mem_flatMap.1 ht
 exact(qDR (h d hd)).1 t ht
structure DrP (ds:List De):Prop where
 valid:qBH ds=true
 big:BigP ds
 txt:(qBF ds).length<=2600
 cnt:qGa ds<=1300
 lw:lw (ds.flatMap declT)<=1300
theorem PrS.fin {ds:List De} {k:Nat} (h:PrS ds k) (hl:ds.length<=30) (hk:k<=1300):DrP ds:=by
 have h1:=qPz ds
 have h2:=h.wt
 have h3:=qTe (qRj fun d hd=>(h.ok d hd).1)
 rw [qHe] at h3
 refine⟨?_,⟨by omega,fun d hd=>(h.ok d hd).2⟩,by omega,by omega,by omega⟩
 rw [qBH,decide_eq_true hl,List.all_eq_true.2 fun d hd=>(h.ok d hd).1];rfl
theorem DrP.txtV {ds:List De} (h:DrP ds):txtV ds=[.str (qBF ds),i64 0]:=by
 rw [Go.Proofs.YtohfoaplnjcihaaGreatDoor.txtV,if_pos h.valid,if_pos ⟨by have:=h.txt;omega,by have:=h.cnt;omega⟩]
structure Pc where
 w:UInt8
 o:UInt8
 n:UInt8
 m:UInt8
 x:UInt8
 y:UInt8
 z:UInt8
abbrev Pc.cells (p:Pc):List PV:=[u8 p.w,u8 p.o,u8 p.n,u8 p.m,u8 p.x,u8 p.y,u8 p.z]
def wO3 (a b c:UInt8):AObj:=⟨27,false, .bx [.p (u8 a), .p (u8 b), .p (u8 c)]⟩
structure Wgt (l:List Int) (k:Nat):Prop where
 len:l.length=k
 bd:∀ x∈l,0<=x/\x<=12
theorem Wgt.snoc {l:List Int} {k:Nat} {v:Int} (h:Wgt l k) (h1:0<=v) (h2:v<=12):Wgt (l++[v]) (k+1):=by
 refine⟨by rw [List.length_append,h.len];rfl,fun x hx=>?_⟩
 rcases List.mem_append.1 hx with hx | hx
 ·exact h.bd x hx
 ·rw [List.mem_singleton.1 hx];exact⟨h1,h2⟩
theorem qWn {n:Int} (h:0<=n/\n<=12):lw (qHc n)<=2:=by
 rw [qHc,if_neg (by omega),qBE,qMd,qAe,qPQ]
 split
 ·exact Nat.le_succ_of_le (Nat.le_refl _)
 ·rw [qPQ,if_pos (by omega)]
  exact Nat.le_refl _
theorem Wgt.nu {l:List Int} {k:Nat} (h:Wgt l k) (hk:k=2∨k=3):NuS l:=by
 have h1:=h.len
 refine⟨?_,?_⟩
 ·rw [qCX,decide_eq_true (by omega),decide_eq_true (by omega),List.all_eq_true.2]
  ·rfl
  ·intro x hx
   have:=h.bd x hx
   rw [qGW,decide_eq_true (by omega),decide_eq_true (by omega)];rfl
 ·have:=qMe (f:=qHc) (b:=2) (l:=l) fun x hx=>qWn (h.bd x hx)
  rw [qBr];omega
theorem qPy (n:Nat) {g:Int} (h:0<=g):0<=(n:Int).tmod (g+1)/\(n:Int).tmod (g+1)<=g:=by
 have h1:=Int.tmod_nonneg (g+1) (Int.natCast_nonneg n)
 have h2:=Int.tmod_lt_of_pos (n:Int) (show 0<g+1 by omega)
 omega
theorem qFz (a b c:UInt8) (k:Nat) (g:Int) (hk:k=2∨k=3) (hg:0<=g/\g<=12):Pure cx 67 [.agg [u8 a,u8 b,u8 c],i64 (k:Int),i64 g] fun r=>∃ l,r=.ret [ints l]/\Wgt l k:=by
 refine qAC Tryz.func67 rfl rfl rfl ?_
 refine⟨Nat × List Int × Int,fun x=>[(1, .p (i64 (k:Int))),(3, .ptr 0 0 0),(7, .sl 1 1 0 x.2.1.length),(8, .p (i64 x.2.2)),(9, .p (i64 x.1))],fun x=>⟨2,[(1,iO x.2.1),(0,wO3 a b c)]⟩,fun x=>x.1+1<=k/\Wgt x.2.1 x.1/\0<=x.2.2/\x.2.2<=12,fun x=>k - x.1,?_,?_⟩
 ·exact⟨(0,[],g),⟨by show 0+1<=k;omega,⟨rfl,fun x hx=>by cases hx⟩,hg⟩,qAB [] [] [(1,1)] rfl (sk) (sk) rfl⟩
 rintro⟨i,acc,g⟩ ⟨k1,k2,k3,k4⟩
 simp only [] at k1 k2 k3 k4
 clear hg
 by_cases i2:i+1=k
 ·refine⟨(i:Int),by rw [<- i2];rw [show((i+1:Nat):Int) - 1=(i:Int) by omega];exact w6z,?_⟩
  refine And.intro (fun h=>absurd (show(i:Int)<(i:Int) from h) (by omega)) (fun _=>?_)
  refine⟨by show 0+1<=1;omega,[i64 g],rfl,?_⟩
  refine⟨by show 0+acc.length<=(acc.map i64).length;simp,acc.map i64,qAD (by simp),by show(acc.length+1) * 8<=140737488355328;have:=k2.len;omega,(acc++[g]).map i64,by simp,?_⟩
  refine qAG (ints (acc++[g])) rfl ⟨_,rfl,by show 0+(acc.length+1)<=((acc++[g]).map i64).length;simp,qAD (by simp)⟩ ⟨_,rfl,by rw [<- i2];exact k2.snoc k3 k4⟩
 refine⟨(k:Int) - 1,w6z,?_⟩
 refine And.intro (fun _=>?_) (fun h=>absurd (show(i:Int)<(k:Int) - 1 by omega) h)
 by_cases i0:i=0
 ·subst i0
  refine⟨by show(0:Int)<=_/\_<_;exact⟨by omega,by omega⟩,?_⟩
  refine⟨.p (u8 a),qPL (by kernel_rfl) rfl,?_⟩
  refine⟨((a).toNat:Int),wrap_i64 (by omega) (by have:=(a).toNat_lt;omega),?_⟩
  refine⟨g+1,w6z,?_⟩
  have hv:=qPy (a).toNat k3
  refine⟨by show ¬ g+1=0;omega,?_⟩
  generalize (((a).toNat:Int)).tmod (g+1)=v at hv ⊢
  refine⟨by show 0+1<=1;omega,[i64 v],rfl,?_⟩
  refine⟨by show 0+acc.length<=(acc.map i64).length;simp,acc.map i64,qAD (by simp),by show(acc.length+1) * 8<=140737488355328;have:=k2.len;omega,(acc++[v]).map i64,by simp,?_⟩
  refine⟨g - v,w6z,?_⟩
  refine⟨((1:Nat):Int),by show((1:Nat):Int)=IntKind.i64.wrap (((0:Nat):Int)+1);exact w6z,?_⟩
  exact⟨(1,acc++[v],g - v),⟨by show 1+1<=k;omega,k2.snoc hv.1 (by omega),by show 0<=g - v;omega,by show g - v<=12;omega⟩,qAB [] [(1,3)] [] rfl ⟨rfl,⟨rfl,rfl⟩,congrArg (fun k:Nat=>AV.sl 3 1 0 k) (qAK acc v).symm,rfl,rfl,trivial⟩ (sk) rfl,by show k - 1<k - 0;omega⟩
 ·obtain rfl:i=1:=by omega
  refine⟨by show(0:Int)<=_/\_<_;exact⟨by omega,by omega⟩,?_⟩
  refine⟨.p (u8 b),qPL (by kernel_rfl) rfl,?_⟩
  refine⟨((b).toNat:Int),wrap_i64 (by omega) (by have:=(b).toNat_lt;omega),?_⟩
  refine⟨g+1,w6z,?_⟩
  have hv:=qPy (b).toNat k3
  refine⟨by show ¬ g+1=0;omega,?_⟩
  generalize (((b).toNat:Int)).tmod (g+1)=v at hv ⊢
  refine⟨by show 0+1<=1;omega,[i64 v],rfl,?_⟩
  refine⟨by show 0+acc.length<=(acc.map i64).length;simp,acc.map i64,qAD (by simp),by show(acc.length+1) * 8<=140737488355328;have:=k2.len;omega,(acc++[v]).map i64,by simp,?_⟩
  refine⟨g - v,w6z,?_⟩
  refine⟨((2:Nat):Int),by show((2:Nat):Int)=IntKind.i64.wrap (((1:Nat):Int)+1);exact w6z,?_⟩
  exact⟨(2,acc++[v],g - v),⟨by show 2+1<=k;omega,k2.snoc hv.1 (by omega),by show 0<=g - v;omega,by show g - v<=12;omega⟩,qAB [] [(1,3)] [] rfl ⟨rfl,⟨rfl,rfl⟩,congrArg (fun k:Nat=>AV.sl 3 1 0 k) (qAK acc v).symm,rfl,rfl,trivial⟩ (sk) rfl,by show k - 2<k - 1;omega⟩
set_option maxHeartbeats 40000000
structure Pt where
 kind:UInt8
 card:UInt8
 frm:UInt8
 modes:UInt8
 pl:Bool
 cases:List Pc
 x:UInt8
 y:UInt8
 z:UInt8
abbrev Pt.cells (p:Pt):List PV:=[u8 p.kind,u8 p.card,u8 p.frm,u8 p.modes, .bool p.pl, .lsts 7 (p.cases.map Pc.cells),u8 p.x,u8 p.y,u8 p.z]
structure Kn where
 nm:List UInt8
 card:Int
 pl:Bool
abbrev Kn.cells (k:Kn):List PV:=[.str k.nm,i64 k.card, .bool k.pl]
def kn0:Kn:=⟨[],0,false⟩
structure KnS (k:Kn):Prop where
 ok:qAj k.nm=true
 len:k.nm.length=1
 card:k.card=2∨k.card=3
structure RcS (rs:List Rf) (cs:List Int):Prop where
 refs:∀ r∈rs,RfS r
 nums:∀ c∈cs,c=2∨c=3
 eq:rs.length=cs.length
 len:rs.length<=2
theorem RcS.snoc {rs:List Rf} {cs:List Int} {r:Rf} {c:Int} (h:RcS rs cs) (hr:RfS r) (hc:c=2∨c=3) (hl:rs.length<2):RcS (rs++[r]) (cs++[c]):=by
 have h1:=h.eq
 refine⟨fun x hx=>?_,fun x hx=>?_,by rw [List.length_append,List.length_append];simp only [List.length_cons,List.length_nil];omega,by rw [List.length_append];simp only [List.length_cons,List.length_nil];omega⟩
 ·rcases List.mem_append.1 hx with hx | hx
  ·exact h.refs x hx
  ·rw [List.mem_singleton.1 hx];exact hr
 ·rcases List.mem_append.1 hx with hx | hx
  ·exact h.nums x hx
  ·rw [List.mem_singleton.1 hx];exact hc
def ptO (p:Pt):AObj:=⟨29,false, .bx (p.cells.map .p)⟩
def qPi (rs:List Rf):AObj:=⟨qTV,false, .pus (rs.map Rf.cells)⟩
theorem wrap_u64 {n:Int} (h0:0<=n) (h1:n<18446744073709551616):n=IntKind.u64.wrap n:=by
 show n=n % 18446744073709551616
 omega
def RfQ (e:AE) (H':Hp):Prop:=∃ rs cs,e=.returned (.tup [.sl 0 4 0 rs.length, .sl 1 1 0 cs.length])/\H'=⟨2,[(0,qPi rs),(1,iO cs)]⟩/\RcS rs cs
theorem qWq {l:List Kn} {k:Nat} (h:k<l.length):(l.map Kn.cells)[k]?=some (l.getD k kn0).cells:=qDz kn0 h
theorem qGz (v:Nat) (e:Int) (he:0<e) (hv:v<256):0<=(v:Int).fdiv e/\(v:Int).fdiv e<=255:=by
 have h1:=Int.fdiv_nonneg (Int.natCast_nonneg v) (Int.le_of_lt he)
 have h2:(v:Int).fdiv e<=v:=by
  rw [Int.fdiv_eq_ediv_of_nonneg _ (Int.le_of_lt he)]
  exact Int.ediv_le_self _ (Int.natCast_nonneg v)
 omega
theorem qE7 (e:Nat):(0:Int)<2 ^ e:=Int.pow_pos (by decide)
theorem qCd {n g:Int} (h:0<=n) (hg:0<g):0<=n.tmod g/\n.tmod g<g:=⟨Int.tmod_nonneg _ h,Int.tmod_lt_of_pos _ hg⟩
theorem qYZ {nm:List UInt8} (h:qAj nm=true) (hl:nm.length=1):RfS ⟨nm,0,[],0⟩:=⟨qSl h,hl,Nat.zero_le _,by show(0:Int)<=9;decide⟩
theorem qYK {nm:List UInt8} (h:qAj nm=true) (hl:nm.length=1):RfS ⟨nm,3,[],0⟩:=⟨qWU h,hl,Nat.zero_le _,by show(0:Int)<=9;decide⟩
theorem qYX {nm:List UInt8} {n:Int} (h:qAj nm=true) (hl:nm.length=1) (hn:0<=n/\n<2):RfS ⟨nm,2,[],n⟩:=⟨qUk h (qDc hn.1 (by omega)),hl,Nat.zero_le _,by show n<=9;omega⟩
theorem qYY {nm:List UInt8} {n:Int} (h:qAj nm=true) (hl:nm.length=1) (hn:0<=n/\n<2):RfS ⟨nm,1,[112],n⟩:=⟨qUl h qQm (qDc hn.1 (by omega)),hl,Nat.le_refl _,by show n<=9;omega⟩
abbrev qYe:OT:=(.pure 0 (.pure 1 (.pure 2 (.pure 3 (.eff 4 [] (.pure 5 (.eff 6 [] .fin .nil)) .nil)))))
theorem qGo (p:Pt) (l:List Kn) (hl:∀ k∈l,KnS k) (h5:l.length<=5) (g:Bool) (sz:Int) (hs:sz=1∨sz=2):HoldsG cx 39 [.p (.agg p.cells), .p (.lsts 3 (l.map Kn.cells)),vB g, .p (i64 sz)] ⟨0,[]⟩ (RfQ):=by
 refine qAA Tryz.func39 rfl rfl rfl ?_
 have hl':(l.map Kn.cells).length=l.length:=List.length_map ..
 refine⟨Nat × List Rf × List Int,fun x=>[(1, .p (.lsts 3 (l.map Kn.cells))),(2,vB g),(3, .p (i64 sz)),(4, .ptr 0 0 0),(10, .sl 1 4 0 x.2.1.length),(11, .sl 2 1 0 x.2.2.length),(12, .p (i64 x.1))],fun x=>⟨3,[(2,iO x.2.2),(1,qPi x.2.1),(0,ptO p)]⟩,fun x=>x.1<=l.length/\RcS x.2.1 x.2.2,fun x=>l.length - x.1,?_,?_⟩
 ·exact⟨(0,[],[]),⟨Nat.zero_le _,⟨fun r hr=>(by cases hr),fun r hr=>(by cases hr),rfl,by decide⟩⟩,qAB [] [] [(1,4),(2,1)] rfl (sk) (sk) rfl⟩
 rintro⟨i,rs,cs⟩ ⟨k1,k2⟩
 simp only [] at k1 k2
 by_cases hi:i<l.length
 rotate_left
 ·refine And.intro (fun h=>absurd (show(i:Int)<((l.map Kn.cells).length:Nat) from h) (by rw [hl'];omega)) (fun _=>?_)
  exact⟨[],[(0,1),(1,2)],[], .returned (.tup [.sl 0 4 0 rs.length, .sl 1 1 0 cs.length]),⟨2,[(0,qPi rs),(1,iO cs)]⟩,rfl,sk,sk,rs,cs,rfl,rfl,k2⟩
 refine And.intro (fun _=>?_) (fun h=>absurd (show(i:Int)<((l.map Kn.cells).length:Nat) by rw [hl'];omega) h)
 by_cases h2:rs.length<2
 rotate_left
 ·refine And.intro (fun h=>absurd (show(rs.length:Int)<2 from h) (by omega)) (fun _=>?_)
  exact⟨[],[(0,1),(1,2)],[], .returned (.tup [.sl 0 4 0 rs.length, .sl 1 1 0 cs.length]),⟨2,[(0,qPi rs),(1,iO cs)]⟩,rfl,sk,sk,rs,cs,rfl,rfl,k2⟩
 refine And.intro (fun _=>?_) (fun h=>absurd (show(rs.length:Int)<2 by omega) h)
 have hcell:=qWq hi
 have hS:=hl _ (qAL kn0 hi)
 generalize l.getD i kn0=kn at hcell hS
 obtain⟨nm,card,b⟩:=kn
 have hm:=p.modes.toNat_lt
 have hf:=p.frm.toNat_lt
 cases b
 ·refine⟨(i:Int),wrap_u64 (by omega) (by omega),?_⟩
  refine⟨by omega,?_⟩
  have hs1:=qGz p.frm.toNat _ (qE7 (min ((i:Int).toNat) (IntKind.u8.bits))) hf
  generalize (p.frm.toNat:Int).fdiv (2 ^ (min ((i:Int).toNat) (IntKind.u8.bits)))=sf at hs1 ⊢
  refine⟨by decide,?_⟩
  by_cases hz:sf.tmod 2=0
  ·refine And.intro (fun _=>?_) (fun h=>absurd hz h)
   refine⟨((i+1:Nat):Int),by rw [Int.natCast_add];exact w6z,?_⟩
   exact⟨(i+1,rs,cs),⟨by show i+1<=l.length;omega,k2⟩,qAB [] [] [] rfl (sk) (sk) rfl,by show l.length - (i+1)<l.length - i;omega⟩
  refine And.intro (fun h=>absurd h hz) (fun _=>?_)
  clear hz hs1
  refine⟨_,⟨by omega,(Kn.mk nm card _).cells,hcell,rfl⟩,?_⟩
  refine⟨((2 * i:Nat):Int),by show _=IntKind.i64.wrap (2 * (i:Int));rw [Int.natCast_mul];exact w6z,?_⟩
  refine⟨((2 * i:Nat):Int),wrap_u64 (by omega) (by omega),?_⟩
  refine⟨by omega,?_⟩
  have hs2:=qGz p.modes.toNat _ (qE7 (min (((2 * i:Nat):Int).toNat) (IntKind.u8.bits))) hm
  generalize (p.modes.toNat:Int).fdiv (2 ^ (min (((2 * i:Nat):Int).toNat) (IntKind.u8.bits)))=sm at hs2 ⊢
  refine⟨sm,w6z,?_⟩
  refine⟨by decide,?_⟩
  have hs3:=qCd hs2.1 (show(0:Int)<4 by decide)
  generalize sm.tmod 4=m at hs3 ⊢
  refine⟨_,⟨by omega,(Kn.mk nm card _).cells,hcell,rfl⟩,?_⟩
  refine⟨by show 0+1<=1;omega,[[.str nm,i64 0, .str [],i64 0]],rfl,?_⟩
  refine⟨by show 0+rs.length<=(rs.map Rf.cells).length;simp,rs.map Rf.cells,qAD (by simp),by show(rs.length+1) * 48<=140737488355328;omega,(rs++[Rf.mk nm 0 [] 0]).map Rf.cells,by simp,?_⟩
  refine⟨_,⟨by omega,(Kn.mk nm card _).cells,hcell,rfl⟩,?_⟩
  refine⟨by show 0+1<=1;omega,[i64 card],rfl,?_⟩
  refine⟨by show 0+cs.length<=(cs.map i64).length;simp,cs.map i64,qAD (by simp),by show(cs.length+1) * 8<=140737488355328;have:=k2.eq;omega,(cs++[card]).map i64,by simp,?_⟩
  refine⟨((i+1:Nat):Int),by rw [Int.natCast_add];exact w6z,?_⟩
  exact⟨(i+1,rs++[Rf.mk nm 0 [] 0],cs++[card]),⟨by show i+1<=l.length;omega,k2.snoc (qYZ hS.ok hS.len) hS.card h2⟩,qAB [] [(1,5),(2,7)] [] rfl ⟨rfl,rfl,rfl,⟨rfl,rfl⟩,congrArg (fun k:Nat=>AV.sl 5 4 0 k) (qAK rs _).symm,congrArg (fun k:Nat=>AV.sl 7 1 0 k) (qAK cs card).symm,rfl,trivial⟩ (sk) rfl,by show l.length - (i+1)<l.length - i;omega⟩
 cases g
 ·refine⟨(i:Int),wrap_u64 (by omega) (by omega),?_⟩
  refine⟨by omega,?_⟩
  have hs1:=qGz p.frm.toNat _ (qE7 (min ((i:Int).toNat) (IntKind.u8.bits))) hf
  generalize (p.frm.toNat:Int).fdiv (2 ^ (min ((i:Int).toNat) (IntKind.u8.bits)))=sf at hs1 ⊢
  refine⟨by decide,?_⟩
  by_cases hz:sf.tmod 2=0
  ·refine And.intro (fun _=>?_) (fun h=>absurd hz h)
   refine⟨((i+1:Nat):Int),by rw [Int.natCast_add];exact w6z,?_⟩
   exact⟨(i+1,rs,cs),⟨by show i+1<=l.length;omega,k2⟩,qAB [] [] [] rfl (sk) (sk) rfl,by show l.length - (i+1)<l.length - i;omega⟩
  refine And.intro (fun h=>absurd h hz) (fun _=>?_)
  clear hz hs1
  refine⟨_,⟨by omega,(Kn.mk nm card _).cells,hcell,rfl⟩,?_⟩
  refine⟨((2 * i:Nat):Int),by show _=IntKind.i64.wrap (2 * (i:Int));rw [Int.natCast_mul];exact w6z,?_⟩
  refine⟨((2 * i:Nat):Int),wrap_u64 (by omega) (by omega),?_⟩
  refine⟨by omega,?_⟩
  have hs2:=qGz p.modes.toNat _ (qE7 (min (((2 * i:Nat):Int).toNat) (IntKind.u8.bits))) hm
  generalize (p.modes.toNat:Int).fdiv (2 ^ (min (((2 * i:Nat):Int).toNat) (IntKind.u8.bits)))=sm at hs2 ⊢
  refine⟨sm,w6z,?_⟩
  refine⟨by decide,?_⟩
  have hs3:=qCd hs2.1 (show(0:Int)<4 by decide)
  generalize sm.tmod 4=m at hs3 ⊢
  refine⟨_,⟨by omega,(Kn.mk nm card _).cells,hcell,rfl⟩,?_⟩
  refine And.intro (fun h3=>?_) (fun h3=>?_)
  ·refine⟨by show 0+1<=1;omega,[[.str nm,i64 3, .str [],i64 0]],rfl,?_⟩
   refine⟨by show 0+rs.length<=(rs.map Rf.cells).length;simp,rs.map Rf.cells,qAD (by simp),by show(rs.length+1) * 48<=140737488355328;omega,(rs++[Rf.mk nm 3 [] 0]).map Rf.cells,by simp,?_⟩
   refine⟨_,⟨by omega,(Kn.mk nm card _).cells,hcell,rfl⟩,?_⟩
   refine⟨by show 0+1<=1;omega,[i64 card],rfl,?_⟩
   refine⟨by show 0+cs.length<=(cs.map i64).length;simp,cs.map i64,qAD (by simp),by show(cs.length+1) * 8<=140737488355328;have:=k2.eq;omega,(cs++[card]).map i64,by simp,?_⟩
   refine⟨((i+1:Nat):Int),by rw [Int.natCast_add];exact w6z,?_⟩
   exact⟨(i+1,rs++[Rf.mk nm 3 [] 0],cs++[card]),⟨by show i+1<=l.length;omega,k2.snoc (qYK hS.ok hS.len) hS.card h2⟩,qAB [] [(1,5),(2,7)] [] rfl ⟨rfl,rfl,rfl,⟨rfl,rfl⟩,congrArg (fun k:Nat=>AV.sl 5 4 0 k) (qAK rs _).symm,congrArg (fun k:Nat=>AV.sl 7 1 0 k) (qAK cs card).symm,rfl,trivial⟩ (sk) rfl,by show l.length - (i+1)<l.length - i;omega⟩
  ·refine qAf qYe (by kernel_rfl) ?_
   refine⟨by show ¬ sz=0;omega,?_⟩
   have hn:=qCd hs3.1 (show 0<sz by omega)
   generalize m.tmod sz=n at hn ⊢
   refine⟨by show 0+1<=1;omega,[[.str nm,i64 2, .str [],i64 n]],rfl,?_⟩
   refine⟨by show 0+rs.length<=(rs.map Rf.cells).length;simp,rs.map Rf.cells,qAD (by simp),by show(rs.length+1) * 48<=140737488355328;omega,(rs++[Rf.mk nm 2 [] n]).map Rf.cells,by simp,?_⟩
   refine⟨_,⟨by omega,(Kn.mk nm card _).cells,hcell,rfl⟩,?_⟩
   refine⟨by show 0+1<=1;omega,[i64 card],rfl,?_⟩
   refine⟨by show 0+cs.length<=(cs.map i64).length;simp,cs.map i64,qAD (by simp),by show(cs.length+1) * 8<=140737488355328;have:=k2.eq;omega,(cs++[card]).map i64,by simp,?_⟩
   refine⟨((i+1:Nat):Int),by rw [Int.natCast_add];exact w6z,?_⟩
   exact⟨(i+1,rs++[Rf.mk nm 2 [] n],cs++[card]),⟨by show i+1<=l.length;omega,k2.snoc (qYX hS.ok hS.len ⟨hn.1,by omega⟩) hS.card h2⟩,qAB [] [(1,5),(2,7)] [] rfl ⟨rfl,rfl,rfl,⟨rfl,rfl⟩,congrArg (fun k:Nat=>AV.sl 5 4 0 k) (qAK rs _).symm,congrArg (fun k:Nat=>AV.sl 7 1 0 k) (qAK cs card).symm,rfl,trivial⟩ (sk) rfl,by show l.length - (i+1)<l.length - i;omega⟩
 ·refine⟨(i:Int),wrap_u64 (by omega) (by omega),?_⟩
  refine⟨by omega,?_⟩
  have hs1:=qGz p.frm.toNat _ (qE7 (min ((i:Int).toNat) (IntKind.u8.bits))) hf
  generalize (p.frm.toNat:Int).fdiv (2 ^ (min ((i:Int).toNat) (IntKind.u8.bits)))=sf at hs1 ⊢
  refine⟨by decide,?_⟩
  by_cases hz:sf.tmod 2=0
  ·refine And.intro (fun _=>?_) (fun h=>absurd hz h)
   refine⟨((i+1:Nat):Int),by rw [Int.natCast_add];exact w6z,?_⟩
   exact⟨(i+1,rs,cs),⟨by show i+1<=l.length;omega,k2⟩,qAB [] [] [] rfl (sk) (sk) rfl,by show l.length - (i+1)<l.length - i;omega⟩
  refine And.intro (fun h=>absurd h hz) (fun _=>?_)
  clear hz hs1
  refine⟨_,⟨by omega,(Kn.mk nm card _).cells,hcell,rfl⟩,?_⟩
  refine⟨((2 * i:Nat):Int),by show _=IntKind.i64.wrap (2 * (i:Int));rw [Int.natCast_mul];exact w6z,?_⟩
  refine⟨((2 * i:Nat):Int),wrap_u64 (by omega) (by omega),?_⟩
  refine⟨by omega,?_⟩
  have hs2:=qGz p.modes.toNat _ (qE7 (min (((2 * i:Nat):Int).toNat) (IntKind.u8.bits))) hm
  generalize (p.modes.toNat:Int).fdiv (2 ^ (min (((2 * i:Nat):Int).toNat) (IntKind.u8.bits)))=sm at hs2 ⊢
  refine⟨sm,w6z,?_⟩
  refine⟨by decide,?_⟩
  have hs3:=qCd hs2.1 (show(0:Int)<4 by decide)
  generalize sm.tmod 4=m at hs3 ⊢
  refine⟨_,⟨by omega,(Kn.mk nm card _).cells,hcell,rfl⟩,?_⟩
  refine And.intro (fun h3=>?_) (fun h3=>?_)
  ·refine⟨by decide,?_⟩
   have hn:=qCd hs3.1 (show(0:Int)<2 by decide)
   generalize m.tmod 2=n at hn ⊢
   refine⟨by show 0+1<=1;omega,[[.str nm,i64 1, .str [112],i64 n]],rfl,?_⟩
   refine⟨by show 0+rs.length<=(rs.map Rf.cells).length;simp,rs.map Rf.cells,qAD (by simp),by show(rs.length+1) * 48<=140737488355328;omega,(rs++[Rf.mk nm 1 [112] n]).map Rf.cells,by simp,?_⟩
   refine⟨_,⟨by omega,(Kn.mk nm card _).cells,hcell,rfl⟩,?_⟩
   refine⟨by show 0+1<=1;omega,[i64 card],rfl,?_⟩
   refine⟨by show 0+cs.length<=(cs.map i64).length;simp,cs.map i64,qAD (by simp),by show(cs.length+1) * 8<=140737488355328;have:=k2.eq;omega,(cs++[card]).map i64,by simp,?_⟩
   refine⟨((i+1:Nat):Int),by rw [Int.natCast_add];exact w6z,?_⟩
   exact⟨(i+1,rs++[Rf.mk nm 1 [112] n],cs++[card]),⟨by show i+1<=l.length;omega,k2.snoc (qYY hS.ok hS.len hn) hS.card h2⟩,qAB [] [(1,5),(2,7)] [] rfl ⟨rfl,rfl,rfl,⟨rfl,rfl⟩,congrArg (fun k:Nat=>AV.sl 5 4 0 k) (qAK rs _).symm,congrArg (fun k:Nat=>AV.sl 7 1 0 k) (qAK cs card).symm,rfl,trivial⟩ (sk) rfl,by show l.length - (i+1)<l.length - i;omega⟩
  ·have h3:¬ m<3:=h3
   refine And.intro (fun h4=>?_) (fun h4=>absurd (show m=3 by omega) h4)
   refine⟨by show 0+1<=1;omega,[[.str nm,i64 3, .str [],i64 0]],rfl,?_⟩
   refine⟨by show 0+rs.length<=(rs.map Rf.cells).length;simp,rs.map Rf.cells,qAD (by simp),by show(rs.length+1) * 48<=140737488355328;omega,(rs++[Rf.mk nm 3 [] 0]).map Rf.cells,by simp,?_⟩
   refine⟨_,⟨by omega,(Kn.mk nm card _).cells,hcell,rfl⟩,?_⟩
   refine⟨by show 0+1<=1;omega,[i64 card],rfl,?_⟩
   refine⟨by show 0+cs.length<=(cs.map i64).length;simp,cs.map i64,qAD (by simp),by show(cs.length+1) * 8<=140737488355328;have:=k2.eq;omega,(cs++[card]).map i64,by simp,?_⟩
   refine⟨((i+1:Nat):Int),by rw [Int.natCast_add];exact w6z,?_⟩
   exact⟨(i+1,rs++[Rf.mk nm 3 [] 0],cs++[card]),⟨by show i+1<=l.length;omega,k2.snoc (qYK hS.ok hS.len) hS.card h2⟩,qAB [] [(1,5),(2,7)] [] rfl ⟨rfl,rfl,rfl,⟨rfl,rfl⟩,congrArg (fun k:Nat=>AV.sl 5 4 0 k) (qAK rs _).symm,congrArg (fun k:Nat=>AV.sl 7 1 0 k) (qAK cs card).symm,rfl,trivial⟩ (sk) rfl,by show l.length - (i+1)<l.length - i;omega⟩
abbrev qYR:OT:=(.pure 0 (.pure 1 (.pure 2 (.pure 3 (.pure 4 (.pure 5 (.pure 6 (.pure 7 (.pure 8 (.pure 9 (.pure 10 (.pure 11 (.pure 12 (.pure 13 (.pure 14 (.pure 15 (.pure 16 (.pure 17 (.eff 18 [15,11,10,8,3,1] (.eff 19 [] .fin .nil) .nil)))))))))))))))))))
abbrev qYQ:OT:=(.pure 0 (.pure 1 (.pure 2 (.pure 3 (.pure 4 (.pure 5 (.pure 6 (.pure 7 (.pure 8 (.pure 9 (.pure 10 (.pure 11 (.pure 12 (.pure 13 (.pure 14 (.pure 15 (.pure 16 (.pure 17 (.pure 18 (.pure 19 (.pure 20 (.pure 21 (.pure 22 (.eff 23 [] .fin .nil))))))))))))))))))))))))
abbrev qYP:OT:=(.pure 0 (.pure 1 (.pure 2 (.pure 3 (.pure 4 (.pure 5 (.pure 6 (.eff 7 [3,2] (.pure 8 (.eff 9 [3,2] (.pure 10 (.eff 11 [] .fin .nil)) .nil)) .nil))))))))
abbrev qPB:OT:=(.pure 0 (.pure 1 (.pure 2 (.pure 3 (.pure 4 (.pure 5 (.pure 6 (.eff 7 [4,1] (.pure 8 (.eff 9 [4] (.pure 10 (.eff 11 [] .fin .nil)) .nil)) .nil))))))))
abbrev qPA:OT:=(.pure 0 (.pure 1 (.pure 2 (.pure 3 (.pure 4 (.pure 5 (.pure 6 (.pure 7 (.pure 8 (.eff 9 [5,3,1] (.eff 10 [3,1] (.pure 11 (.eff 12 [] .fin .nil)) .nil) .nil))))))))))
def LfQ (r:PEnd):Prop:=∃ (y:PV) (c:Cd),r=.ret [y]/\NilD y c.pv/\∀ d,CdS (d+1) c 1 18
def CdQ (r:PEnd):Prop:=∃ (y:PV) (c:Cd) (n:Nat),r=.ret [y]/\NilD y c.pv/\n<=3/\CdS 8 c n 43
structure RcA (rs:List Rf) (cs:List Int):Prop where
 ok:RcS rs cs
 pos:1<=rs.length
theorem qWO:∀ j,j<2->qHr (([0,1]:List Int).drop j)=true/\(([0,1]:List Int).drop j).length<=2/\∀ a∈([0,1]:List Int).drop j,a<=9:=by decide
theorem qUB {l:List Int} {k:Nat} (h:k<l.length):(l.map i64)[k]?=some (i64 (l.getD k 0)):=qDz 0 h
theorem qGF (op:Int) {ys:List (List PV)} {l:List Cd} (h:NilDLL ys (qBX l)):NilD (.agg [i64 op,i64 0,i64 0,i64 0, .str [],i64 0, .str [],i64 0, .nils, .lsts 10 ys]) (Cd.mk op 0 0 0 rf0 [] l).pv:=by
 show NilD _ (.agg [i64 op,i64 0,i64 0,i64 0, .str [],i64 0, .str [],i64 0, .lst [], .lsts 10 (qBX l)])
 simp only [NilD,NilDL]
 exact⟨_,rfl,_,_,rfl,rfl,_,_,rfl,rfl,_,_,rfl,rfl,_,_,rfl,rfl,_,_,rfl,rfl,_,_,rfl,rfl,_,_,rfl,rfl,_,_,rfl,rfl,_,_,rfl, .inr (.inl rfl),_,_,rfl,⟨_,rfl,h⟩,rfl⟩
theorem qMa {a b:List PV} (h:NilD (.agg a) (.agg b)):NilDL a b:=by
 simp only [NilD] at h
 obtain⟨z,e,h⟩:=h
 injection e with e
 subst e
 exact h
theorem qMY {a:List PV} {c:Cd} (h:NilD (.agg a) c.pv):NilDLL [a] (qBX [c]):=by
 simp only [NilDLL,qBX]
 exact⟨_,_,rfl,qMa h,rfl⟩
theorem qGs {a b:List PV} {c d:Cd} (h:NilD (.agg a) c.pv) (h2:NilD (.agg b) d.pv):NilDLL [a,b] (qBX [c,d]):=by
 simp only [NilDLL,qBX]
 exact⟨_,_,rfl,qMa h,_,_,rfl,qMa h2,rfl⟩
theorem wrap_u8' {n:Nat} (h:n<256):(n:Int)=IntKind.u8.wrap (n:Int):=by
 show(n:Int)=(n:Int) % 256
 omega
theorem qGd (w:UInt8):((UInt8.ofNat (w.toNat+1)).toNat:Int)=IntKind.u8.wrap ((w.toNat:Int)+1):=by
 show((UInt8.ofNat (w.toNat+1)).toNat:Int)=((w.toNat:Int)+1) % 256
 rw [UInt8.toNat_ofNat']
 omega
theorem qGe (n:UInt8):((UInt8.ofNat (n.toNat / 2)).toNat:Int)=IntKind.u8.wrap ((n.toNat:Int).tdiv 2):=by
 have hn:=n.toNat_lt
 rw [show(n.toNat:Int).tdiv 2=((n.toNat / 2:Nat):Int) from rfl,<- wrap_u8' (by omega),UInt8.toNat_ofNat']
 omega
theorem qPW (p:Pc) (rs:List Rf) (cs:List Int) (h:RcA rs cs) (hm3:3<=p.m.toNat % 8):Pure cx 66 [.agg p.cells,qB5 rs,ints cs] LfQ:=by
 refine qAC Tryz.func66 rfl rfl rfl ?_
 obtain⟨w,o,n,m,x,y,z⟩:=p
 simp only [] at hm3
 have hl':(rs.map Rf.cells).length=rs.length:=List.length_map ..
 have hpos:=h.pos
 have hk:(w.toNat:Int).tmod ((rs.map Rf.cells).length:Nat)=((w.toNat % rs.length:Nat):Int):=by rw [hl'];rfl
 have hkl:w.toNat % rs.length<rs.length:=Nat.mod_lt _ (by omega)
 generalize w.toNat % rs.length=k at hk hkl
 have hcell:=qK8 hkl
 have hkc:k<cs.length:=by have:=h.ok.eq;omega
 have qDU:=qUB hkc
 have hrf:=h.ok.refs _ (qAL rf0 hkl)
 have hcd:=h.ok.nums _ (qAL 0 hkc)
 generalize rs.getD k rf0=rf at hcell hrf
 generalize cs.getD k 0=cd at qDU hcd
 obtain⟨nm,md,pl,rn⟩:=rf
 have hw:=w.toNat_lt
 have ho:=o.toNat_lt
 have hn:=n.toNat_lt
 have hm:=m.toNat_lt
 have eo:((o.toNat % 4:Nat):Int)=IntKind.i64.wrap ((o.toNat:Int).tmod 4):=by
  rw [show(o.toNat:Int).tmod 4=((o.toNat % 4:Nat):Int) from rfl];exact w6z
 have en:(n.toNat:Int)=IntKind.i64.wrap (n.toNat:Int):=w6z
 have hv0:=qCd (Int.natCast_nonneg n.toNat) (show 0<cd by omega)
 have hv:=hv0
 have e8:(m.toNat:Int).tmod 8=((m.toNat % 8:Nat):Int):=rfl
 have f8:(o.toNat:Int).tmod 8=((o.toNat % 8:Nat):Int):=rfl
 have hok:=hrf.ok
 refine⟨(w.toNat:Int),w6z,?_⟩
 refine⟨by show ¬ (((rs.map Rf.cells).length:Nat):Int)=0;rw [hl'];omega,?_⟩
 generalize (w.toNat:Int).tmod ((rs.map Rf.cells).length:Nat)=kk at hk ⊢
 subst hk
 refine qAf qYR (by kernel_rfl) ?_
 refine⟨by decide,?_⟩
 refine⟨((o.toNat % 4:Nat):Int),eo,?_⟩
 refine⟨1+((o.toNat % 4:Nat):Int),w6z,?_⟩
 refine⟨_,⟨by omega,(⟨nm,md,pl,rn⟩:Rf).cells,hcell,rfl⟩,?_⟩
 refine⟨(n.toNat:Int),en,?_⟩
 refine⟨_,⟨by omega,i64 cd,qDU,rfl⟩,?_⟩
 refine⟨by show ¬ cd=0;omega,?_⟩
 generalize (n.toNat:Int).tmod cd=v at hv ⊢
 refine⟨⟨rfl,congrArg (fun z:Int=>AV.p (.int .i64 z)) en,rfl,rfl,congrArg (fun z:Int=>AV.p (.int .i64 z)) eo,rfl,trivial⟩,?_⟩
 refine⟨_,⟨by omega,(⟨nm,md,pl,rn⟩:Rf).cells,hcell,rfl⟩,?_⟩
 refine And.intro (fun h3=>?_) (fun h3=>?_)
 ·have h3:md=3:=h3
  refine qAf qYQ (by kernel_rfl) ?_
  refine⟨_,⟨by omega,(⟨nm,md,pl,rn⟩:Rf).cells,hcell,rfl⟩,?_⟩
  refine⟨(n.toNat:Int),en,?_⟩
  refine⟨_,⟨by omega,i64 cd,qDU,rfl⟩,?_⟩
  refine⟨by show ¬ cd=0;omega,?_⟩
  clear hv
  have hv:=hv0
  generalize (n.toNat:Int).tmod cd=v at hv ⊢
  refine⟨by decide,?_⟩
  refine⟨((o.toNat % 4:Nat):Int),eo,?_⟩
  refine⟨1+((o.toNat % 4:Nat):Int),w6z,?_⟩
  refine⟨by decide,((n.toNat / 8:Nat):Int),wrap_u8' (by omega),?_⟩
  refine⟨((n.toNat / 8:Nat):Int),w6z,?_⟩
  refine⟨by decide,?_⟩
  have hq:=qCd (Int.natCast_nonneg (n.toNat / 8)) (show(0:Int)<4 by decide)
  generalize ((n.toNat / 8:Nat):Int).tmod 4=q at hq ⊢
  have hC1:∀ d,CdS (d+1) (.mk 6 q (1+((o.toNat % 4:Nat):Int)) v ⟨nm,md,pl,rn⟩ [] []) 1 18:=CdS.leaf (by decide) (by decide) (by decide) (by rw [qAQ,if_neg (by decide),if_neg (by decide),if_pos rfl,hok,decide_eq_true h3,qDc hq.1 (by omega),qDc hv.1 (by omega),decide_eq_true (by omega),decide_eq_true (by omega)];rfl) hrf (by omega) (by omega) ⟨by decide,fun a ha=>by cases ha⟩
  refine⟨by decide,?_⟩
  refine And.intro (fun h=>absurd (show(m.toNat:Int).tmod 8=0 from h) (by rw [e8];omega)) (fun _=>?_)
  refine And.intro (fun h=>absurd (show(m.toNat:Int).tmod 8=1 from h) (by rw [e8];omega)) (fun _=>?_)
  refine And.intro (fun h=>absurd (show(m.toNat:Int).tmod 8=2 from h) (by rw [e8];omega)) (fun _=>?_)
  refine qAG (.agg [i64 6,i64 q,i64 (1+((o.toNat % 4:Nat):Int)),i64 v, .str nm,i64 md, .str pl,i64 rn, .nils, .nils]) rfl rfl ?_
  exact⟨_, .mk 6 q (1+((o.toNat % 4:Nat):Int)) v ⟨nm,md,pl,rn⟩ [] [],rfl,qAr 6 q (1+((o.toNat % 4:Nat):Int)) v ⟨nm,md,pl,rn⟩,hC1⟩
 ·refine⟨by decide,?_⟩
  by_cases h6:5<o.toNat % 8
  rotate_left
  ·refine And.intro (fun h=>absurd (show(5:Int)<(o.toNat:Int).tmod 8 from h) (by rw [f8];omega)) (fun _=>?_)
   have hC2:∀ d,CdS (d+1) (.mk (1+((o.toNat % 4:Nat):Int)) v 0 0 ⟨nm,md,pl,rn⟩ [] []) 1 18:=CdS.leaf (by omega) (by omega) (by omega) (qIK (by omega) hok (qDc hv.1 (by omega))) hrf (by omega) (by decide) ⟨by decide,fun a ha=>by cases ha⟩
   refine⟨by decide,?_⟩
   refine And.intro (fun h=>absurd (show(m.toNat:Int).tmod 8=0 from h) (by rw [e8];omega)) (fun _=>?_)
   refine And.intro (fun h=>absurd (show(m.toNat:Int).tmod 8=1 from h) (by rw [e8];omega)) (fun _=>?_)
   refine And.intro (fun h=>absurd (show(m.toNat:Int).tmod 8=2 from h) (by rw [e8];omega)) (fun _=>?_)
   refine qAG (.agg [i64 (1+((o.toNat % 4:Nat):Int)),i64 v,i64 0,i64 0, .str nm,i64 md, .str pl,i64 rn, .nils, .nils]) rfl rfl ?_
   exact⟨_, .mk (1+((o.toNat % 4:Nat):Int)) v 0 0 ⟨nm,md,pl,rn⟩ [] [],rfl,qAr (1+((o.toNat % 4:Nat):Int)) v 0 0 ⟨nm,md,pl,rn⟩,hC2⟩
  refine And.intro (fun _=>?_) (fun h=>absurd (show(5:Int)<(o.toNat:Int).tmod 8 by rw [f8];omega) h)
  refine qAf qYP (by kernel_rfl) ?_
  refine⟨(n.toNat:Int),en,?_⟩
  refine⟨by decide,?_⟩
  have hj:(n.toNat:Int).tmod 2=((n.toNat % 2:Nat):Int):=rfl
  have hj2:n.toNat % 2<2:=Nat.mod_lt _ (by decide)
  generalize n.toNat % 2=j at hj hj2
  generalize (n.toNat:Int).tmod 2=jj at hj ⊢
  subst hj
  have s01:=qWO j hj2
  refine⟨by show(0:Int)<=((j:Nat):Int)/\((j:Nat):Int)<=2;omega,?_⟩
  refine⟨⟨congrArg (fun z:Int=>AV.p (.int .i64 z)) en,rfl,trivial⟩,?_⟩
  refine⟨⟨congrArg (fun z:Int=>AV.p (.int .i64 z)) en,rfl,trivial⟩,?_⟩
  have hC3:∀ d,CdS (d+1) (.mk 5 0 0 0 ⟨nm,md,pl,rn⟩ (([0,1]:List Int).drop j) []) 1 18:=CdS.leaf (by decide) (by decide) (by decide) (qOC hok s01.1) hrf (by decide) (by decide) s01.2
  refine⟨by decide,?_⟩
  refine And.intro (fun h=>absurd (show(m.toNat:Int).tmod 8=0 from h) (by rw [e8];omega)) (fun _=>?_)
  refine And.intro (fun h=>absurd (show(m.toNat:Int).tmod 8=1 from h) (by rw [e8];omega)) (fun _=>?_)
  refine And.intro (fun h=>absurd (show(m.toNat:Int).tmod 8=2 from h) (by rw [e8];omega)) (fun _=>?_)
  refine qAG (.agg [i64 5,i64 0,i64 0,i64 0, .str nm,i64 md, .str pl,i64 rn, .lst ((([0,1]:List Int).map i64).drop j), .nils]) rfl rfl ?_
  exact⟨_, .mk 5 0 0 0 ⟨nm,md,pl,rn⟩ (([0,1]:List Int).drop j) [],rfl,qDM ⟨nm,md,pl,rn⟩ [0,1] j,hC3⟩
end Go.Proofs.YtohfoaplnjcihaaGreatDoor

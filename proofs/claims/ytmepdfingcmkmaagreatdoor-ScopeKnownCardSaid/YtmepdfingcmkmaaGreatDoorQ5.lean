/- ScopeKnown: the row and the card. The examples,each kind of issue,and limits. Conditions: those of the card. -/
import Derived.Shelf.Strings.Builder1
import Derived.Shelf.Strings.Builder2
import Derived.Shelf.Small.Bits
import Derived.Shelf.Strings.BuilderF
import Derived.Shelf.Strconv.Itoa0
import Derived.Shelf.Sort.Plain
import Derived.Shelf.Strings.Prefix
import Derived.Shelf.Bits.Mul64
import Derived.Shelf.Strings.Repeat
import Derived.Ground.Names2Prog
import Derived.Shelf.Slices.CompactI
import Derived.Shelf.Slices.SearchI
import Derived.Shelf.Slices.Cells
import Derived.Shelf.Slices.In.SortNone
import Derived.Test.YtmepdfingcmkmaaGreatDoorProg
import Derived.Below
import Derived.Test.YtmepdfingcmkmaaGreatDoorRows
import Derived.Lay
import Derived.Test.YtmepdfingcmkmaaGreatDoorCards
import Derived.Test.YtmepdfingcmkmaaGreatDoorTie
import Derived.SevenTiedAt
import Derived.Test.YtmepdfingcmkmaaGreatDoorQ4
namespace Go.Proofs.YtmepdfingcmkmaaGreatDoor
open Go Y
def forceP (x:PV) (K:PV→Prop):Prop:=
 match x with
 | .int k n=>K (.int k n)
 | .bool b=>K (.bool b)
 | .str s=>K (.str s)
 | .agg cs=>K (.agg cs)
 | .nils=>K .nils
 | .lst xs=>K (.lst xs)
 | .lsts s xs=>K (.lsts s xs)
 | .fp cs=>K (.fp cs)
 | x=>K x
theorem forceP_eq (x:PV) (K:PV→Prop):forceP x K=K x:=by unfold forceP;split <;> rfl
def forceA (v:AV) (K:AV→Prop):Prop:=
 match v with
 | .p x=>forceP x fun x=>K (.p x)
 | .ptr n i f=>K (.ptr n i f)
 | .sl n s off len=>K (.sl n s off len)
 | .agg cs=>K (.agg cs)
 | .tup cs=>K (.tup cs)
 | v=>K v
theorem forceA_eq (v:AV) (K:AV→Prop):forceA v K=K v:=by
 unfold forceA
 split
 ·rw [forceP_eq]
 all_goals rfl
theorem then_mono {r:PRes} {P K:AV→Prop} (h:r.Then P) (hk:∀ v,P v→K v):r.Then K:=by
 cases r with
 | val v=>exact hk _ h
 | cond c v=>exact⟨h.1,hk _ h.2⟩
 | split c a b=>exact⟨fun x=>hk _ (h.1 x),fun x=>hk _ (h.2 x)⟩
 | splitc g c a b=>exact⟨h.1,fun x=>hk _ (h.2.1 x),fun x=>hk _ (h.2.2 x)⟩
 | wrap k n=>obtain⟨m,e,hm⟩:=h;exact⟨m,e,hk _ hm⟩
 | wrapc c k n=>obtain⟨hc,m,e,hm⟩:=h;exact⟨hc,m,e,hk _ hm⟩
 | ex p=>obtain⟨v,hp,hv⟩:=h;exact⟨v,hp,hk _ hv⟩
 | bad=>exact h.elim
section
variable {C:Cx} {rd:Bool} {all:List Oper} {σ0:Sg} {K:Sg→List AD→Hp→Prop} {X:List AP→Sg→List AD→Hp→Prop} {i:Nat} {t:OT} {L:List En} {ds:List AD} {H:Hp} {o:Oper} {v:AV} {hs:List Nat}
theorem pstep (h1:onth all i=some o) (h2:gd all o (rst (looks all o) (ap σ0 L))=some true)
  (h3:(popX C o.op (evl C (rst (looks all o) (ap σ0 L))) (lkO o.op H)).Then fun u=>forceA u fun u=>u=v) (hk:vD C rd all σ0 K X t (⟨i,o,v,false⟩::L) ds H):vD C rd all σ0 K X (.pure i t) L ds H:=by
 rw [vD_pure,h1]
 simp only []
 rw [h2]
 refine then_mono h3 fun u hu=>?_
 rw [forceA_eq] at hu
 rw [hu]
 exact hk
theorem estep0 (h1:onth all i=some o) (h2:gd all o (rst (looks all o) (ap σ0 L))=some true)
  (hv:vOp C rd o (rst (looks all o) (ap σ0 L)) ds H (fun v ds' H'=>vD C rd all σ0 K X t (⟨i,o,v,true⟩::L) ds' H') (fun ch H'=>X ch (unw all σ0) ds H')):vD C rd all σ0 K X (.eff i [] t .nil) L ds H:=by
 rw [vD_eff,h1]
 simp only []
 rw [h2]
 exact hv
theorem estep {x:Nat} (h1:onth all i=some o) (h2:gd all o (rst (looks all o) (ap σ0 L))=some true)
  (hv:vOp C rd o (rst (looks all o) (ap σ0 L)) ds H (fun v ds' H'=>Held C all σ0 (x::hs) H' L∧vD C rd all σ0 K X t (⟨i,o,v,true⟩::L) ds' H') (fun ch H'=>X ch (unw all σ0) ds H')):vD C rd all σ0 K X (.eff i (x::hs) t .nil) L ds H:=by
 rw [vD_eff,h1]
 simp only []
 rw [h2]
 exact hv
theorem ecall0 {g:FuncId} {pargs:List PV} {x:PV} (h1:onth all i=some o) (h2:gd all o (rst (looks all o) (ap σ0 L))=some true) (hP:Pure C g pargs (·=.ret [x]))
  (hv:∀ K' X',vOp C rd o (rst (looks all o) (ap σ0 L)) ds H K' X'=Holds C g (pargs.map .p) H (onE (fun v H'=>K' v ds H') X')) (hk:vD C rd all σ0 K X t (⟨i,o, .p x,true⟩::L) ds H):vD C rd all σ0 K X (.eff i [] t .nil) L ds H:=by
 refine estep0 h1 h2 ?_
 rw [hv]
 exact hP.eq rfl hk
theorem ecall {g:FuncId} {pargs:List PV} {x:PV} {y:Nat} (h1:onth all i=some o) (h2:gd all o (rst (looks all o) (ap σ0 L))=some true) (hP:Pure C g pargs (·=.ret [x]))
  (hv:∀ K' X',vOp C rd o (rst (looks all o) (ap σ0 L)) ds H K' X'=Holds C g (pargs.map .p) H (onE (fun v H'=>K' v ds H') X')) (hh:Held C all σ0 (y::hs) H L) (hk:vD C rd all σ0 K X t (⟨i,o, .p x,true⟩::L) ds H):vD C rd all σ0 K X (.eff i (y::hs) t .nil) L ds H:=by
 refine estep h1 h2 ?_
 rw [hv]
 exact hP.eq rfl ⟨hh,hk⟩
end
end Go.Proofs.YtmepdfingcmkmaaGreatDoor
namespace Go.Proofs
open Go.Shelf
def Tryz.lays105_ren:Go.Shelf.Ren:=⟨fun | 105=>25 | 212=>38 | 99=>39 | 165=>40 | 166=>41 | 170=>42 | 169=>43 | 263=>62 | 264=>63 | 206=>64 | 240=>65 | 241=>66 | 276=>96 | 277=>97 | n=>n,fun | 9=>9 | 3=>3 | 4=>4 | 20=>20 | 0=>0 | 46=>105 | 109=>106 | 5=>5 | 72=>111 | 76=>115 | 51=>143 | 146=>144 | 53=>146 | 148=>147 | 70=>109 | 37=>93 | 75=>114 | 127=>149 | 164=>180 | 80=>78 | n=>n,fun | n=>n⟩
theorem Tryz.lays105:Go.Proofs.Lays.n105 Tryz.prog Tryz.lays105_ren:={
 mixed:=by kernel_rfl
 f99:=Tryz.func39.trans (congrArg some (by kernel_rfl))
 f105:=Tryz.func25.trans (congrArg some (by kernel_rfl))
 f165:=Tryz.func40.trans (congrArg some (by kernel_rfl))
 f166:=Tryz.func41.trans (congrArg some (by kernel_rfl))
 f169:=Tryz.func43.trans (congrArg some (by kernel_rfl))
 f170:=Tryz.func42.trans (congrArg some (by kernel_rfl))
 f206:=Tryz.func64.trans (congrArg some (by kernel_rfl))
 f212:=Tryz.func38.trans (congrArg some (by kernel_rfl))
 f240:=Tryz.func65.trans (congrArg some (by kernel_rfl))
 f241:=Tryz.func66.trans (congrArg some (by kernel_rfl))
 f263:=Tryz.func62.trans (congrArg some (by kernel_rfl))
 f264:=Tryz.func63.trans (congrArg some (by kernel_rfl))
 f276:=Tryz.func96.trans (congrArg some (by kernel_rfl))
 f277:=Tryz.func97.trans (congrArg some (by kernel_rfl))
 t0:=Tryz.underlying0
 a0:=Tryz.isAgg0
 z0:=Tryz.sizeOf0
 v0:=Tryz.zeroValue0
 t3:=Tryz.underlying3
 a3:=Tryz.isAgg3
 z3:=Tryz.sizeOf3
 v3:=Tryz.zeroValue3
 t4:=Tryz.underlying4
 a4:=Tryz.isAgg4
 z4:=Tryz.sizeOf4
 v4:=Tryz.zeroValue4
 t5:=Tryz.underlying5
 a5:=Tryz.isAgg5
 z5:=Tryz.sizeOf5
 v5:=Tryz.zeroValue5
 t9:=Tryz.underlying9
 a9:=Tryz.isAgg9
 z9:=Tryz.sizeOf9
 v9:=Tryz.zeroValue9
 t20:=Tryz.underlying20
 a20:=Tryz.isAgg20
 z20:=Tryz.sizeOf20
 v20:=Tryz.zeroValue20
 t37:=Tryz.underlying93
 a37:=Tryz.isAgg93
 z37:=Tryz.sizeOf93
 v37:=Tryz.zeroValue93
 t46:=Tryz.underlying105
 a46:=Tryz.isAgg105
 z46:=Tryz.sizeOf105
 v46:=Tryz.zeroValue105
 t51:=Tryz.underlying143
 a51:=Tryz.isAgg143
 z51:=Tryz.sizeOf143
 v51:=Tryz.zeroValue143
 t53:=Tryz.underlying146
 a53:=Tryz.isAgg146
 z53:=Tryz.sizeOf146
 v53:=Tryz.zeroValue146
 t70:=Tryz.underlying109
 a70:=Tryz.isAgg109
 z70:=Tryz.sizeOf109
 v70:=Tryz.zeroValue109
 t72:=Tryz.underlying111
 a72:=Tryz.isAgg111
 z72:=Tryz.sizeOf111
 v72:=Tryz.zeroValue111
 t75:=Tryz.underlying114
 a75:=Tryz.isAgg114
 z75:=Tryz.sizeOf114
 v75:=Tryz.zeroValue114
 t76:=Tryz.underlying115
 a76:=Tryz.isAgg115
 z76:=Tryz.sizeOf115
 v76:=Tryz.zeroValue115
 t109:=Tryz.underlying106
 a109:=Tryz.isAgg106
 z109:=Tryz.sizeOf106
 v109:=Tryz.zeroValue106
 t127:=Tryz.underlying149
 a127:=Tryz.isAgg149
 z127:=Tryz.sizeOf149
 v127:=Tryz.zeroValue149
 t146:=Tryz.underlying144
 a146:=Tryz.isAgg144
 z146:=Tryz.sizeOf144
 v146:=Tryz.zeroValue144
 t148:=Tryz.underlying147
 a148:=Tryz.isAgg147
 z148:=Tryz.sizeOf147
 v148:=Tryz.zeroValue147
 t164:=Tryz.underlying180
 a164:=Tryz.isAgg180
 z164:=Tryz.sizeOf180
 v164:=Tryz.zeroValue180 }
theorem Tryz.Builder_Extra_105:Builder.Extra Tryz.prog Tryz.lays105_ren:={
 sizeBuilder:=by kernel_rfl
 liesBuilder:=by kernel_rfl
 t5:=Tryz.underlying5
 a5:=Tryz.isAgg5
 z5:=Tryz.sizeOf5
 v5:=Tryz.zeroValue5
 infoByte:=by kernel_rfl
 cellsByte:=by kernel_rfl
 sizeByte:=by kernel_rfl
 neB5:=by decide }
open Go.RowKit Go.Lib in
theorem Tryz.strings_Repeat (s:ByteArray) (c:Nat) (w:World) (hc:c≤9223372036854775807) (hlen:s.size * c≤140737488355328) :
  Calls Tryz.prog 25 #[.string s, .int .i64 c] w fun e w'=>e=.returned (.string ⟨(Lib.repeatL s.data.toList c).toArray⟩)∧Below w.heap.size w w':=Any.strings_Repeat Tryz.lays105 Tryz.Builder_Extra_105 s c w hc hlen
end Go.Proofs
namespace Go.Proofs.YtmepdfingcmkmaaGreatDoor
open Go Y RowKit
set_option maxRecDepth 100000
set_option maxHeartbeats 4000000
theorem later_below {Γ:Gm} {w w':World} (hR:R cx Γ ⟨0,[]⟩ w) (hb:Below w.heap.size w w'):Later cx 0 Γ ⟨0,[]⟩ w Γ ⟨0,[]⟩ w':=by
 have hfz:∀ b arr,Γ.fz b=some arr→∃ t z,w'.heap[b]?=some (.cells ⟨arr⟩ t z):=by
  intro b arr h
  obtain⟨t,z,e⟩:=hR.fzok b arr h
  have hlt:b<w.heap.size:=by
   rcases Nat.lt_or_ge b w.heap.size with h1 | h1
   ·exact h1
   ·rw [Array.getElem?_eq_none h1] at e;cases e
  exact⟨t,z,by rw [hb.block b hlt];exact e⟩
 refine⟨⟨hR.glob,hR.fresh,hfz,fun n o hn=>by simp [lget] at hn,fun n o q hn=>by simp [lget] at hn,fun n o m p q q' hn=>by simp [lget] at hn⟩,Ext.refl _ _,Nat.le_refl _,⟨hb.os,hb.tape,hb.output,hb.size,fun k hk _=>hb.block k hk,fun k hk=>.inr hk,Fzn.le_refl _,fun k a h=>.inl h⟩⟩
theorem pure_below {g : FuncId} {fn : Func} {c : Code} {args : List PV} {x : PV} (hf : cx.P.funcs[g]? = some fn) (hname : (fn.name == "runtime.NumGoroutine") = false) (hbd : fn.body = some c) (hx : Res [] 5 (.p x) x)
  (h:∀ (Γ:Gm) (w:World) (args':List Value),R cx Γ ⟨0,[]⟩ w→VRL Γ (args.map .p) args'→∃ v',VP Γ.fz x v'∧Calls cx.P g ⟨args'⟩ w fun e w'=>e=.returned v'∧Below w.heap.size w w'):Pure cx g args (·=.ret [x]):=by
 intro Γ w args' hR hA
 obtain⟨v',h1,h2⟩:=h Γ w args' hR hA
 refine .inl ⟨run_enter hf hname hbd _ _,h2.mono fun e w' ⟨he,hw⟩=>?_⟩
 subst he
 exact⟨.returned (.p x),⟨0,[]⟩,Γ,⟨.ret [x],⟨rfl,_,rfl,hx⟩,rfl⟩,⟨v',rfl,h1⟩,later_below hR hw⟩
theorem repeat_c (s:List UInt8) (n:Nat) (hn:n≤100000) (hs:s.length≤100000):Pure cx 25 [.str s,i64 n] (·=.ret [.str (Lib.repeatL s n)]):=by
 refine pure_below Tryz.func25 rfl rfl rfl fun Γ w args' hR hA=>?_
 simp only [List.map,VRL,VR,VP] at hA
 obtain⟨a,as',rfl,rfl,b,bs',rfl,rfl,rfl⟩:=hA
 have hm:s.length * n≤100000 * 100000:=Nat.mul_le_mul hs hn
 exact⟨_,rfl,Tryz.strings_Repeat ⟨⟨s⟩⟩ n w (by omega) (by show s.length * n≤_;omega)⟩
end Go.Proofs.YtmepdfingcmkmaaGreatDoor
namespace Go.Proofs.YtmepdfingcmkmaaGreatDoor
open Go Y
set_option maxRecDepth 100000
set_option maxHeartbeats 40000000
abbrev klN:List UInt8:=[110,111,100,101,32,98,32,58,32,50,32]
abbrev klS:List UInt8:=[32,59]
abbrev klG:List UInt8:=[103,97,105,110,32,61,32,123,32,101,108,115,101,32,58,32,49,32,125,32,59,32]
abbrev klR4:List UInt8:=klG++(klG++(klG++klG))
abbrev klR5:List UInt8:=klG++(klG++(klG++(klG++klG)))
abbrev kl0:List UInt8:=[61,32,123,32,101,108,115,101,32,58,32,50,32,50,32,125]
abbrev kl1:List UInt8:=[103,114,97,105,110,32,48,32,59]
abbrev kl2:List UInt8:=[103,114,97,105,110,32,54,49,32,59,32,99,104,111,111,115,101,32,100,32,58,32,50,32,59]
abbrev kl3:List UInt8:=[103,114,97,105,110,32,54,48,32,59,32,99,104,111,111,115,101,32,100,32,58,32,50,32,59]
abbrev kl4:List UInt8:=[99,104,111,111,115,101,32,100,32,58,32,50,32,59,32,103,114,97,105,110,32,52,32,59]
abbrev kl5:List UInt8:=[103,114,97,105,110,32,52,32,59,32,103,114,97,105,110,32,52,32,59,32,99,104,111,111,115,101,32,100,32,58,32,50,32,59]
abbrev kl6:List UInt8:=[103,114,97,105,110,32,52,32,59]
abbrev kl7:List UInt8:=[99,104,111,111,115,101,32,100,32,58,32,50,32,59,32,110,111,100,101,32,97,32,58,32,50,32,61,32,123,32,101,108,115,101,32,58,32,48,32,48,32,125,32,59]
abbrev kl8:List UInt8:=[112,108,97,116,101,32,97,32,61,32,49,32,59]
abbrev kl9:List UInt8:=[102,114,111,109,32,97,32,91,32,48,32,93,32,44,32,97,32,91,32,48,32,93,32]
abbrev kl10:List UInt8:=[102,114,111,109,32,120,32,44,32,120,32]
abbrev kl11:List UInt8:=[102,114,111,109,32,112,32]
abbrev kl12:List UInt8:=[102,114,111,109,32,98,32]
abbrev kl13:List UInt8:=[110,111,100,101,32,98,32,91,32,97,32,93,32,58,32,50,32]
abbrev kl14:List UInt8:=[32,59]
abbrev kl15:List UInt8:=[110,111,100,101,32,98,32,91,32,113,32,93,32,58,32,50,32]
abbrev kl16:List UInt8:=[110,111,100,101,32,98,32,91,32,112,32,93,32,58,32,50,32,102,114,111,109,32,98,32,91,32,112,32,93,32]
abbrev kl17:List UInt8:=[110,111,100,101,32,98,32,91,32,112,32,93,32,58,32,50,32,102,114,111,109,32,98,32,91,32,49,32,93,32]
abbrev kl18:List UInt8:=[110,111,100,101,32,98,32,91,32,112,32,93,32,58,32,50,32,102,114,111,109,32,98,32,91,32,112,32,43,32,57,57,57,57,32,93,32]
abbrev kl19:List UInt8:=[102,114,111,109,32,97,32,91,32,50,32,93,32]
abbrev kl20:List UInt8:=[102,114,111,109,32,97,32,91,32,112,32,93,32]
abbrev kl21:List UInt8:=[102,114,111,109,32,97,32,91,32,97,108,108,32,93,32]
abbrev kl22:List UInt8:=[99,104,111,111,115,101,32,100,32,58,32,50,32,115,101,101,105,110,103,32,97,32,91,32,97,108,108,32,93,32,44,32,97,32,91,32,49,32,93,32,59,32,110,111,100,101,32,98,32,58,32,50,32,102,114,111,109,32,100,32,91,32,48,32,93,32]
abbrev kl23:List UInt8:=[102,114,111,109,32,97,32,91,32,97,108,108,32,93,32,61,32,123,32,97,32,91,32,97,108,108,32,93,32,61,32,49,32,58,32,50,32,50,32,59,32,101,108,115,101,32,58,32,50,32,50,32,125]
abbrev kl24:List UInt8:=[112,108,97,116,101,32,113,32,61,32,50,32,59,32,110,111,100,101,32,98,32,91,32,113,32,93,32,58,32,50,32,102,114,111,109,32,97,32,91,32,112,32,93,32,44,32,97,32,91,32,113,32,93,32]
abbrev kl25:List UInt8:=[102,114,111,109,32,97,32,91,32,48,32,93,32,61,32,123,32,97,32,91,32,48,32,93,32,60,61,32,50,32,58,32,50,32,50,32,59,32,97,32,91,32,48,32,93,32,105,110,32,123,32,48,32,44,32,50,32,125,32,58,32,50,32,50,32,59,32,97,32,91,32,48,32,93,32,60,32,49,32,97,110,100,32,110,111,116,32,97,32,91,32,49,32,93,32,61,32,48,32,58,32,50,32,50,32,59,32,101,108,115,101,32,58,32,50,32,50,32,125]
abbrev kl26:List UInt8:=[102,114,111,109,32,97,32,91,32,97,108,108,32,93,32,61,32,123,32,99,111,117,110,116,32,40,32,97,32,91,32,97,108,108,32,93,32,61,32,50,32,41,32,61,32,57,57,57,57,32,58,32,50,32,50,32,59,32,101,108,115,101,32,58,32,50,32,50,32,125]
abbrev kl27:List UInt8:=[102,114,111,109,32,97,32,91,32,97,108,108,32,93,32,61,32,123,32,99,111,117,110,116,32,40,32,97,32,91,32,97,108,108,32,93,32,61,32,49,32,41,32,61,32,57,57,57,57,32,58,32,50,32,50,32,59,32,101,108,115,101,32,58,32,50,32,50,32,125]
abbrev kl28:List UInt8:=[102,114,111,109,32,112,32,61,32,123,32,112,32,61,32,57,32,58,32,50,32,50,32,59,32,101,108,115,101,32,58,32,50,32,50,32,125]
abbrev kl29:List UInt8:=[61,32,123,32,101,108,115,101,32,58,32,52,32,125]
abbrev kl30:List UInt8:=[61,32,123,32,101,108,115,101,32,58,32,53,32,45,32,49,32,125]
abbrev kl31:List UInt8:=[61,32,123,32,101,108,115,101,32,58,32,48,32,52,32,125]
abbrev kl32:List UInt8:=[61,32,123,32,101,108,115,101,32,58,32,49,32,49,32,50,32,125]
abbrev kl33:List UInt8:=[103,97,105,110,32,61,32,123,32,101,108,115,101,32,58,32,49,32,50,32,125,32,59]
abbrev kl34:List UInt8:=[103,97,105,110,32,61,32,123,32,101,108,115,101,32,58,32,45,32,49,48,48,32,125,32,59,32,103,97,105,110,32,61,32,123,32,101,108,115,101,32,58,32,45,32,49,48,49,32,125,32,59]
abbrev kl35:List UInt8:=[110,111,100,101,32,98,32,58,32,53,32,61,32,123,32,101,108,115,101,32,58,32,49,32,49,32,49,32,49,32,48,32,125,32,59,32,99,104,111,111,115,101,32,100,32,58,32,52,32,59,32,99,104,111,111,115,101,32,101,32,58,32,49,32,59]
abbrev kl36:List UInt8:=[103,114,97,105,110,32,49,32,59,32,112,108,97,116,101,32,112,32,61,32,54,32,59,32,110,111,100,101,32,97,32,91,32,112,32,93,32,58,32,50,32,61,32,123,32,101,108,115,101,32,58,32,48,32,49,32,125,32,59,32,110,111,100,101,32,98,32,58,32,52,32,61,32,123,32,101,108,115,101,32,58,32,48,32,48,32,48,32,49,32,125,32,59,32,99,104,111,111,115,101,32,100,32,58,32,52,32,59]
abbrev kl37:List UInt8:=[103,114,97,105,110,32,49,32,59,32,112,108,97,116,101,32,112,32,61,32,54,32,59,32,110,111,100,101,32,97,32,91,32,112,32,93,32,58,32,50,32,61,32,123,32,101,108,115,101,32,58,32,48,32,49,32,125,32,59,32,112,108,97,116,101,32,113,32,61,32,51,32,59,32,99,104,111,111,115,101,32,98,32,58,32,50,32,59,32,110,111,100,101,32,99,32,91,32,113,32,93,32,58,32,50,32,61,32,123,32,101,108,115,101,32,58,32,49,32,48,32,125,32,59]
abbrev kl38:List UInt8:=[103,114,97,105,110,32,52,32,59,32,112,108,97,116,101,32,112,32,61,32,48,32,59]
abbrev kw0:List Iss:=[⟨1,0,[]⟩]
theorem kf0:okS [] kw0=true:=by kernel_rfl
abbrev kw1:List Iss:=[⟨1,0,[]⟩]
theorem kf1:okS kl1 kw1=true:=by kernel_rfl
abbrev kw2:List Iss:=[⟨1,0,[]⟩]
theorem kf2:okS kl2 kw2=true:=by kernel_rfl
abbrev kw3:List Iss:=[]
theorem kf3:okS kl3 kw3=true:=by kernel_rfl
abbrev kw4:List Iss:=[⟨1,0,[]⟩,⟨1,1,[]⟩]
theorem kf4:okS kl4 kw4=true:=by kernel_rfl
abbrev kw5:List Iss:=[⟨1,1,[]⟩]
theorem kf5:okS kl5 kw5=true:=by kernel_rfl
abbrev kw6:List Iss:=[⟨10,1,[]⟩]
theorem kf6:okS kl6 kw6=true:=by kernel_rfl
abbrev kw7:List Iss:=[⟨1,0,[]⟩]
theorem kf7:okS kl7 kw7=true:=by kernel_rfl
abbrev kw8:List Iss:=[⟨2,3,[97]⟩]
theorem kf8:okS (hdS++kl8) kw8=true:=by kernel_rfl
abbrev kw9:List Iss:=[⟨2,3,[97]⟩]
theorem kf9:okS (((hdS++klN)++(kl9++kl0))++klS) kw9=true:=by kernel_rfl
abbrev kw10:List Iss:=[⟨3,3,[120]⟩,⟨2,3,[120]⟩,⟨3,3,[120]⟩]
theorem kf10:okS (((hdS++klN)++(kl10++kl0))++klS) kw10=true:=by kernel_rfl
abbrev kw11:List Iss:=[⟨4,3,[112]⟩]
theorem kf11:okS (((hdS++klN)++(kl11++kl0))++klS) kw11=true:=by kernel_rfl
abbrev kw12:List Iss:=[⟨3,3,[98]⟩]
theorem kf12:okS (((hdS++klN)++(kl12++kl0))++klS) kw12=true:=by kernel_rfl
abbrev kw13:List Iss:=[⟨4,3,[97]⟩]
theorem kf13:okS (((hdS++kl13)++kl0)++kl14) kw13=true:=by kernel_rfl
abbrev kw14:List Iss:=[⟨3,3,[113]⟩]
theorem kf14:okS (((hdS++kl15)++kl0)++kl14) kw14=true:=by kernel_rfl
abbrev kw15:List Iss:=[⟨3,3,[98]⟩]
theorem kf15:okS (((hdS++kl16)++kl0)++kl14) kw15=true:=by kernel_rfl
abbrev kw16:List Iss:=[⟨3,3,[98]⟩]
theorem kf16:okS (((hdS++kl17)++kl0)++kl14) kw16=true:=by kernel_rfl
abbrev kw17:List Iss:=[]
theorem kf17:okS (((hdS++kl18)++kl0)++kl14) kw17=true:=by kernel_rfl
abbrev kw18:List Iss:=[⟨4,3,[97]⟩]
theorem kf18:okS (((hdS++klN)++(kl19++kl0))++klS) kw18=true:=by kernel_rfl
abbrev kw19:List Iss:=[⟨4,3,[97]⟩]
theorem kf19:okS (((hdS++klN)++(kl20++kl0))++klS) kw19=true:=by kernel_rfl
abbrev kw20:List Iss:=[]
theorem kf20:okS (((hdS++klN)++(kl21++kl0))++klS) kw20=true:=by kernel_rfl
abbrev kw21:List Iss:=[⟨4,4,[100]⟩]
theorem kf21:okS (((hdS++kl22)++kl0)++kl14) kw21=true:=by kernel_rfl
abbrev kw22:List Iss:=[⟨4,3,[97]⟩]
theorem kf22:okS (((hdS++klN)++kl23)++klS) kw22=true:=by kernel_rfl
abbrev kw23:List Iss:=[⟨4,4,[97]⟩,⟨4,4,[97]⟩]
theorem kf23:okS (((hdS++kl24)++kl0)++kl14) kw23=true:=by kernel_rfl
abbrev kw24:List Iss:=[⟨8,3,[97]⟩,⟨8,3,[97]⟩,⟨7,3,[97]⟩]
theorem kf24:okS (((hdS++klN)++kl25)++klS) kw24=true:=by kernel_rfl
abbrev kw25:List Iss:=[⟨8,3,[97]⟩]
theorem kf25:okS (((hdS++klN)++kl26)++klS) kw25=true:=by kernel_rfl
abbrev kw26:List Iss:=[]
theorem kf26:okS (((hdS++klN)++kl27)++klS) kw26=true:=by kernel_rfl
abbrev kw27:List Iss:=[⟨4,3,[112]⟩]
theorem kf27:okS (((hdS++klN)++kl28)++klS) kw27=true:=by kernel_rfl
abbrev kw28:List Iss:=[⟨9,3,[]⟩]
theorem kf28:okS (((hdS++klN)++kl29)++klS) kw28=true:=by kernel_rfl
abbrev kw29:List Iss:=[⟨9,3,[]⟩]
theorem kf29:okS (((hdS++klN)++kl30)++klS) kw29=true:=by kernel_rfl
abbrev kw30:List Iss:=[]
theorem kf30:okS (((hdS++klN)++kl31)++klS) kw30=true:=by kernel_rfl
abbrev kw31:List Iss:=[⟨9,3,[]⟩]
theorem kf31:okS (((hdS++klN)++kl32)++klS) kw31=true:=by kernel_rfl
abbrev kw32:List Iss:=[⟨9,3,[]⟩]
theorem kf32:okS (hdS++kl33) kw32=true:=by kernel_rfl
abbrev kw33:List Iss:=[⟨9,4,[]⟩]
theorem kf33:okS (hdS++kl34) kw33=true:=by kernel_rfl
abbrev kw34:List Iss:=[⟨6,3,[98]⟩,⟨6,5,[101]⟩]
theorem kf34:okS (hdS++kl35) kw34=true:=by kernel_rfl
abbrev kw35:List Iss:=[]
theorem kf35:okS kl36 kw35=true:=by kernel_rfl
abbrev kw36:List Iss:=[⟨10,6,[]⟩]
theorem kf36:okS kl37 kw36=true:=by kernel_rfl
abbrev kw37:List Iss:=[]
theorem kf37:okS (hdS++klR4) kw37=true:=by kernel_rfl
abbrev kw38:List Iss:=[⟨10,8,[]⟩]
theorem kf38:okS (hdS++klR5) kw38=true:=by kernel_rfl
abbrev kw39:List Iss:=[⟨5,1,[112]⟩]
theorem kf39:okS kl38 kw39=true:=by kernel_rfl
abbrev klD:List UInt8:=[99,104,111,111,115,101,32,100,32,58,32,51,32,115,101,101,105,110,103,32,97,32,91,32,48,32,93,32,59,32,103,97,105,110,32,102,114,111,109,32,100,32,61,32,123,32,101,108,115,101,32,58,32,48,32,125,32,59]
def kD:List De:=match parR (hdS++klD) with
 | .inr ds=>ds
 | .inl _=>[]
theorem kD_p:parR (hdS++klD)=.inr kD:=by kernel_rfl
abbrev kSy:List Sy:=[⟨[112],2,[],0,2⟩,⟨[97],3,[112],2,2⟩,⟨[100],4,[],3,1⟩]
theorem kD_s:symV kD=[syl kSy,i64 0]:=by kernel_rfl
theorem kE_s:symV []=[syl [],i64 390]:=by kernel_rfl
theorem kZ_i:issV [de0]=[isl [],i64 380]:=by kernel_rfl
theorem kZ_e:scopeE [de0]=380:=by kernel_rfl
theorem rep_4:Pure cx 25 [.str klG,i64 4] (·=.ret [.str klR4]):=by
 have h:=repeat_c klG 4 (by decide) (by decide)
 rw [show Lib.repeatL klG 4=klR4 from by kernel_rfl] at h
 exact h
theorem rep_5:Pure cx 25 [.str klG,i64 5] (·=.ret [.str klR5]):=by
 have h:=repeat_c klG 5 (by decide) (by decide)
 rw [show Lib.repeatL klG 5=klR5 from by kernel_rfl] at h
 exact h
theorem node_c (x:List UInt8) (hx:x.length≤1000):Pure cx 23 [.str x, .fp [.str hdS]] (·=.ret [.str (((hdS++klN)++x)++klS)]):=by
 refine pure_of_vc Tryz.func23 rfl rfl rfl ?_
 have h1:(hdS++klN).length=71:=by decide
 refine⟨by decide,?_⟩
 refine⟨by show(hdS++klN).length+x.length≤9223372036854775807;omega,?_⟩
 refine⟨by show((hdS++klN)++x).length+2≤9223372036854775807;rw [List.length_append];omega,?_⟩
 exact end1 _ rfl rfl rfl
section
variable {C:Cx} {rd:Bool} {all:List Oper} {σ0:Sg} {K:Sg→List AD→Hp→Prop} {X:List AP→Sg→List AD→Hp→Prop} {i:Nat} {t:OT} {L:List En} {ds:List AD} {H:Hp} {o:Oper} {hs:List Nat}
theorem ecallL0 {g:FuncId} {pargs:List PV} {args:List AV} {x:PV} (h1:onth all i=some o) (h2:gd all o (rst (looks all o) (ap σ0 L))=some true) (hP:Pure C g pargs (·=.ret [x])) (fs:List Nat) (hm:(marksOK H.l fs && flatE (.ret [x]))=true) (ha:ResL (Res (marks H.l fs) 5) args pargs)
  (hv:∀ K' X',vOp C rd o (rst (looks all o) (ap σ0 L)) ds H K' X'=Holds C g args H (onE (fun v H'=>K' v ds H') X')) (hk:vD C rd all σ0 K X t (⟨i,o, .p x,true⟩::L) ds H):vD C rd all σ0 K X (.eff i [] t .nil) L ds H:=by
 refine estep0 h1 h2 ?_
 rw [hv]
 exact hP.lends fs hm ha hk
end
end Go.Proofs.YtmepdfingcmkmaaGreatDoor
namespace Go.Proofs.YtmepdfingcmkmaaGreatDoor
open Go Y
set_option maxRecDepth 100000
set_option maxHeartbeats 40000000
abbrev otN7:OT:=(.pure 0 (.pure 1 (.eff 2 [0] (.pure 3 (.eff 4 [] (.pure 5 (.pure 6 (.pure 7 (.pure 8 (.eff 9 [] (.eff 10 [] (.pure 11 (.eff 12 [] (.pure 13 (.pure 14 (.pure 15 (.pure 16 (.pure 17 (.eff 18 [] (.eff 19 [] (.eff 20 [] (.eff 21 [] (.pure 22 (.eff 23 [] (.pure 24 (.pure 25 (.pure 26 (.pure 27 (.pure 28 (.eff 29 [] (.eff 30 [] (.pure 31 (.eff 32 [] (.pure 33 (.pure 34 (.pure 35 (.pure 36 (.pure 37 (.eff 38 [] (.eff 39 [] (.pure 40 (.eff 41 [] (.pure 42 (.pure 43 (.pure 44 (.pure 45 (.pure 46 (.pure 47 (.pure 48 (.eff 49 [44] (.pure 50 (.eff 51 [] (.pure 52 (.pure 53 (.pure 54 (.pure 55 (.pure 56 (.pure 57 (.pure 58 (.eff 59 [54] (.pure 60 (.eff 61 [] (.pure 62 (.pure 63 (.pure 64 (.pure 65 (.pure 66 (.pure 67 (.pure 68 (.eff 69 [64] (.pure 70 (.eff 71 [] (.pure 72 (.pure 73 (.pure 74 (.pure 75 (.pure 76 (.pure 77 (.pure 78 (.eff 79 [74] (.pure 80 (.eff 81 [] (.pure 82 (.pure 83 (.pure 84 (.pure 85 (.pure 86 (.pure 87 (.pure 88 (.eff 89 [] (.pure 90 (.pure 91 .fin)) .nil)))))))) .nil)) .nil)))))))) .nil)) .nil)))))))) .nil)) .nil)))))))) .nil)) .nil)))))))) .nil)) .nil) .nil)))))) .nil)) .nil) .nil)))))) .nil)) .nil) .nil) .nil) .nil)))))) .nil)) .nil) .nil))))) .nil)) .nil)))
abbrev otN8:OT:=(.pure 0 (.pure 1 (.pure 2 (.eff 3 [] (.eff 4 [] (.pure 5 (.eff 6 [] (.pure 7 (.pure 8 (.pure 9 (.pure 10 (.eff 11 [] (.eff 12 [] (.pure 13 (.eff 14 [] (.pure 15 (.pure 16 (.pure 17 (.pure 18 (.pure 19 (.eff 20 [] (.eff 21 [] (.pure 22 (.pure 23 (.pure 24 (.pure 25 (.pure 26 (.pure 27 (.pure 28 (.eff 29 [24] (.pure 30 (.eff 31 [] (.pure 32 (.pure 33 (.pure 34 (.eff 35 [] (.eff 36 [] (.pure 37 (.eff 38 [] (.pure 39 (.pure 40 (.pure 41 (.pure 42 (.pure 43 (.pure 44 (.pure 45 (.eff 46 [41] (.eff 47 [41] (.pure 48 (.eff 49 [] (.pure 50 (.pure 51 .fin)) .nil)) .nil) .nil)))))))) .nil)) .nil) .nil)))) .nil)) .nil)))))))) .nil) .nil)))))) .nil)) .nil) .nil))))) .nil)) .nil) .nil))))
abbrev otN10:OT:=(.pure 0 (.eff 1 [] (.eff 2 [] (.pure 3 (.eff 4 [] (.pure 5 (.pure 6 (.eff 7 [] (.eff 8 [] (.pure 9 (.eff 10 [] (.pure 11 (.pure 12 (.pure 13 (.eff 14 [] (.eff 15 [] (.pure 16 (.pure 17 (.pure 18 (.eff 19 [] (.eff 20 [] (.pure 21 (.eff 22 [] (.pure 23 (.pure 24 (.pure 25 (.pure 26 (.eff 27 [25] (.pure 28 (.eff 29 [] (.pure 30 (.pure 31 (.pure 32 (.pure 33 (.eff 34 [32] (.pure 35 (.eff 36 [] (.pure 37 (.pure 38 (.pure 39 (.pure 40 (.eff 41 [39] (.eff 42 [39] (.pure 43 (.eff 44 [] (.pure 45 (.pure 46 .fin)) .nil)) .nil) .nil))))) .nil)) .nil))))) .nil)) .nil))))) .nil)) .nil) .nil)))) .nil) .nil)))) .nil)) .nil) .nil))) .nil)) .nil) .nil))
abbrev otN11:OT:=(.eff 0 [] (.pure 1 (.eff 2 [] (.pure 3 (.eff 4 [] (.pure 5 (.pure 6 (.pure 7 (.eff 8 [7] (.pure 9 (.eff 10 [] (.pure 11 (.pure 12 (.pure 13 (.eff 14 [13] (.pure 15 (.eff 16 [13] (.pure 17 (.eff 18 [] (.pure 19 (.pure 20 (.eff 21 [] (.pure 22 (.eff 23 [] (.pure 24 (.pure 25 .fin)) .nil)) .nil))) .nil)) .nil)) .nil)))) .nil)) .nil)))) .nil)) .nil)) .nil)
abbrev knG:AObj:=⟨9,false, .bx [.p (.str hdS)]⟩
abbrev knS:List (Nat × AV):=[(1, .ptr 0 0 0),(2, .fn (.func 23) [] [.ptr 0 0 0]),(3, .p (.str kl0))]
theorem scopeKnown_c:Pure cx 8 [] (·=.ret [.bool true]):=by
 refine pure_of_vc Tryz.func8 rfl rfl rfl ?_
 refine works39_c.eq rfl ?_
 refine headc_c.eq rfl ?_
 refine(issue_c 1 0 []).eq rfl ?_
 refine(says_yes _ kw0 kf0 (by decide)).lends [1] rfl ⟨_,_,rfl,rfl,_,_,rfl,⟨_,rfl,Nat.le_refl _,rfl⟩,rfl⟩ ?_
 refine(issue_c 1 0 []).eq rfl ?_
 refine(says_yes _ kw1 kf1 (by decide)).lends [2] rfl ⟨_,_,rfl,rfl,_,_,rfl,⟨_,rfl,Nat.le_refl _,rfl⟩,rfl⟩ ?_
 refine(issue_c 1 0 []).eq rfl ?_
 refine(says_yes _ kw2 kf2 (by decide)).lends [3] rfl ⟨_,_,rfl,rfl,_,_,rfl,⟨_,rfl,Nat.le_refl _,rfl⟩,rfl⟩ ?_
 refine((says_yes _ kw3 kf3 (by decide)).arg (args':=[.str kl3, .nils]) ⟨_,_,rfl,NilD.refl _,_,_,rfl, .inr (.inr ⟨3,rfl⟩),rfl⟩).eq rfl ?_
 refine(issue_c 1 0 []).eq rfl ?_
 refine(issue_c 1 1 []).eq rfl ?_
 refine(says_yes _ kw4 kf4 (by decide)).lends [4] rfl ⟨_,_,rfl,rfl,_,_,rfl,⟨_,rfl,Nat.le_refl _,rfl⟩,rfl⟩ ?_
 refine(issue_c 1 1 []).eq rfl ?_
 refine(says_yes _ kw5 kf5 (by decide)).lends [5] rfl ⟨_,_,rfl,rfl,_,_,rfl,⟨_,rfl,Nat.le_refl _,rfl⟩,rfl⟩ ?_
 refine(issue_c 10 1 []).eq rfl ?_
 refine(says_yes _ kw6 kf6 (by decide)).lends [6] rfl ⟨_,_,rfl,rfl,_,_,rfl,⟨_,rfl,Nat.le_refl _,rfl⟩,rfl⟩ ?_
 refine(issue_c 1 0 []).eq rfl ?_
 refine(says_yes _ kw7 kf7 (by decide)).lends [7] rfl ⟨_,_,rfl,rfl,_,_,rfl,⟨_,rfl,Nat.le_refl _,rfl⟩,rfl⟩ ?_
 refine vdraw_otTo (knS++[(4, .p (.bool true)),(5, .p (.bool true))]) ⟨1,[(0,knG)]⟩ otN7 (by kernel_rfl) ?_ ?_
 ·skip
  refine pstep rfl rfl rfl ?_
  refine pstep rfl rfl ⟨(by show List.length hdS+List.length kl8≤9223372036854775807;decide),rfl⟩ ?_
  refine ecall rfl rfl (issue_c 2 3 [97]) (fun _ _=>rfl) (sk) ?_
  refine pstep rfl rfl rfl ?_
  refine ecall0 rfl rfl (says_yes _ kw8 kf8 (by decide)) (fun _ _=>rfl) ?_
  refine pstep rfl rfl rfl ?_
  refine pstep rfl rfl rfl ?_
  refine pstep rfl rfl rfl ?_
  refine pstep rfl rfl ⟨(by show List.length kl9+List.length kl0≤9223372036854775807;decide),rfl⟩ ?_
  refine ecallL0 (args:=[.p (.str (kl9++kl0)), .ptr 0 0 0]) rfl rfl (node_c (kl9++kl0) (by decide)) [0] rfl ⟨_,_,rfl,rfl,_,_,rfl,⟨_,rfl,_,_,rfl,rfl,rfl⟩,rfl⟩ (fun _ _=>rfl) ?_
  refine ecall0 rfl rfl (issue_c 2 3 [97]) (fun _ _=>rfl) ?_
  refine pstep rfl rfl rfl ?_
  refine ecall0 rfl rfl (says_yes _ kw9 kf9 (by decide)) (fun _ _=>rfl) ?_
  refine pstep rfl rfl rfl ?_
  refine pstep rfl rfl rfl ?_
  refine pstep rfl rfl rfl ?_
  refine pstep rfl rfl rfl ?_
  refine pstep rfl rfl ⟨(by show List.length kl10+List.length kl0≤9223372036854775807;decide),rfl⟩ ?_
  refine ecallL0 (args:=[.p (.str (kl10++kl0)), .ptr 0 0 0]) rfl rfl (node_c (kl10++kl0) (by decide)) [0] rfl ⟨_,_,rfl,rfl,_,_,rfl,⟨_,rfl,_,_,rfl,rfl,rfl⟩,rfl⟩ (fun _ _=>rfl) ?_
  refine ecall0 rfl rfl (issue_c 3 3 [120]) (fun _ _=>rfl) ?_
  refine ecall0 rfl rfl (issue_c 2 3 [120]) (fun _ _=>rfl) ?_
  refine ecall0 rfl rfl (issue_c 3 3 [120]) (fun _ _=>rfl) ?_
  refine pstep rfl rfl rfl ?_
  refine ecall0 rfl rfl (says_yes _ kw10 kf10 (by decide)) (fun _ _=>rfl) ?_
  refine pstep rfl rfl rfl ?_
  refine pstep rfl rfl rfl ?_
  refine pstep rfl rfl rfl ?_
  refine pstep rfl rfl rfl ?_
  refine pstep rfl rfl ⟨(by show List.length kl11+List.length kl0≤9223372036854775807;decide),rfl⟩ ?_
  refine ecallL0 (args:=[.p (.str (kl11++kl0)), .ptr 0 0 0]) rfl rfl (node_c (kl11++kl0) (by decide)) [0] rfl ⟨_,_,rfl,rfl,_,_,rfl,⟨_,rfl,_,_,rfl,rfl,rfl⟩,rfl⟩ (fun _ _=>rfl) ?_
  refine ecall0 rfl rfl (issue_c 4 3 [112]) (fun _ _=>rfl) ?_
  refine pstep rfl rfl rfl ?_
  refine ecall0 rfl rfl (says_yes _ kw11 kf11 (by decide)) (fun _ _=>rfl) ?_
  refine pstep rfl rfl rfl ?_
  refine pstep rfl rfl rfl ?_
  refine pstep rfl rfl rfl ?_
  refine pstep rfl rfl rfl ?_
  refine pstep rfl rfl ⟨(by show List.length kl12+List.length kl0≤9223372036854775807;decide),rfl⟩ ?_
  refine ecallL0 (args:=[.p (.str (kl12++kl0)), .ptr 0 0 0]) rfl rfl (node_c (kl12++kl0) (by decide)) [0] rfl ⟨_,_,rfl,rfl,_,_,rfl,⟨_,rfl,_,_,rfl,rfl,rfl⟩,rfl⟩ (fun _ _=>rfl) ?_
  refine ecall0 rfl rfl (issue_c 3 3 [98]) (fun _ _=>rfl) ?_
  refine pstep rfl rfl rfl ?_
  refine ecall0 rfl rfl (says_yes _ kw12 kf12 (by decide)) (fun _ _=>rfl) ?_
  refine pstep rfl rfl rfl ?_
  refine pstep rfl rfl rfl ?_
  refine pstep rfl rfl rfl ?_
  refine pstep rfl rfl ⟨(by show List.length hdS+List.length kl13≤9223372036854775807;decide),rfl⟩ ?_
  refine pstep rfl rfl rfl ?_
  refine pstep rfl rfl ⟨(by show List.length (hdS++kl13)+List.length kl0≤9223372036854775807;decide),rfl⟩ ?_
  refine pstep rfl rfl ⟨(by show List.length ((hdS++kl13)++kl0)+List.length kl14≤9223372036854775807;decide),rfl⟩ ?_
  refine ecall rfl rfl (issue_c 4 3 [97]) (fun _ _=>rfl) (sk) ?_
  refine pstep rfl rfl rfl ?_
  refine ecall0 rfl rfl (says_yes _ kw13 kf13 (by decide)) (fun _ _=>rfl) ?_
  refine pstep rfl rfl rfl ?_
  refine pstep rfl rfl rfl ?_
  refine pstep rfl rfl rfl ?_
  refine pstep rfl rfl ⟨(by show List.length hdS+List.length kl15≤9223372036854775807;decide),rfl⟩ ?_
  refine pstep rfl rfl rfl ?_
  refine pstep rfl rfl ⟨(by show List.length (hdS++kl15)+List.length kl0≤9223372036854775807;decide),rfl⟩ ?_
  refine pstep rfl rfl ⟨(by show List.length ((hdS++kl15)++kl0)+List.length kl14≤9223372036854775807;decide),rfl⟩ ?_
  refine ecall rfl rfl (issue_c 3 3 [113]) (fun _ _=>rfl) (sk) ?_
  refine pstep rfl rfl rfl ?_
  refine ecall0 rfl rfl (says_yes _ kw14 kf14 (by decide)) (fun _ _=>rfl) ?_
  refine pstep rfl rfl rfl ?_
  refine pstep rfl rfl rfl ?_
  refine pstep rfl rfl rfl ?_
  refine pstep rfl rfl ⟨(by show List.length hdS+List.length kl16≤9223372036854775807;decide),rfl⟩ ?_
  refine pstep rfl rfl rfl ?_
  refine pstep rfl rfl ⟨(by show List.length (hdS++kl16)+List.length kl0≤9223372036854775807;decide),rfl⟩ ?_
  refine pstep rfl rfl ⟨(by show List.length ((hdS++kl16)++kl0)+List.length kl14≤9223372036854775807;decide),rfl⟩ ?_
  refine ecall rfl rfl (issue_c 3 3 [98]) (fun _ _=>rfl) (sk) ?_
  refine pstep rfl rfl rfl ?_
  refine ecall0 rfl rfl (says_yes _ kw15 kf15 (by decide)) (fun _ _=>rfl) ?_
  refine pstep rfl rfl rfl ?_
  refine pstep rfl rfl rfl ?_
  refine pstep rfl rfl rfl ?_
  refine pstep rfl rfl ⟨(by show List.length hdS+List.length kl17≤9223372036854775807;decide),rfl⟩ ?_
  refine pstep rfl rfl rfl ?_
  refine pstep rfl rfl ⟨(by show List.length (hdS++kl17)+List.length kl0≤9223372036854775807;decide),rfl⟩ ?_
  refine pstep rfl rfl ⟨(by show List.length ((hdS++kl17)++kl0)+List.length kl14≤9223372036854775807;decide),rfl⟩ ?_
  refine ecall rfl rfl (issue_c 3 3 [98]) (fun _ _=>rfl) (sk) ?_
  refine pstep rfl rfl rfl ?_
  refine ecall0 rfl rfl (says_yes _ kw16 kf16 (by decide)) (fun _ _=>rfl) ?_
  refine pstep rfl rfl rfl ?_
  refine pstep rfl rfl rfl ?_
  refine pstep rfl rfl rfl ?_
  refine pstep rfl rfl ⟨(by show List.length hdS+List.length kl18≤9223372036854775807;decide),rfl⟩ ?_
  refine pstep rfl rfl rfl ?_
  refine pstep rfl rfl ⟨(by show List.length (hdS++kl18)+List.length kl0≤9223372036854775807;decide),rfl⟩ ?_
  refine pstep rfl rfl ⟨(by show List.length ((hdS++kl18)++kl0)+List.length kl14≤9223372036854775807;decide),rfl⟩ ?_
  refine ecall0 rfl rfl ((says_yes _ kw17 kf17 (by decide)).arg (args':=[.str (((hdS++kl18)++kl0)++kl14), .nils]) ⟨_,_,rfl,NilD.refl _,_,_,rfl, .inr (.inr ⟨3,rfl⟩),rfl⟩) (fun _ _=>rfl) ?_
  refine pstep rfl rfl rfl ?_
  refine pstep rfl rfl rfl ?_
  exact ent_of [] [] [] rfl (sk) (sk) rfl
 refine vdraw_otTo (knS++[(4, .p (.bool true)),(5, .p (.bool true)),(6, .p (.bool true))]) ⟨1,[(0,knG)]⟩ otN8 (by kernel_rfl) ?_ ?_
 ·skip
  refine pstep rfl rfl rfl ?_
  refine pstep rfl rfl rfl ?_
  refine pstep rfl rfl ⟨(by show List.length kl19+List.length kl0≤9223372036854775807;decide),rfl⟩ ?_
  refine ecallL0 (args:=[.p (.str (kl19++kl0)), .ptr 0 0 0]) rfl rfl (node_c (kl19++kl0) (by decide)) [0] rfl ⟨_,_,rfl,rfl,_,_,rfl,⟨_,rfl,_,_,rfl,rfl,rfl⟩,rfl⟩ (fun _ _=>rfl) ?_
  refine ecall0 rfl rfl (issue_c 4 3 [97]) (fun _ _=>rfl) ?_
  refine pstep rfl rfl rfl ?_
  refine ecall0 rfl rfl (says_yes _ kw18 kf18 (by decide)) (fun _ _=>rfl) ?_
  refine pstep rfl rfl rfl ?_
  refine pstep rfl rfl rfl ?_
  refine pstep rfl rfl rfl ?_
  refine pstep rfl rfl ⟨(by show List.length kl20+List.length kl0≤9223372036854775807;decide),rfl⟩ ?_
  refine ecallL0 (args:=[.p (.str (kl20++kl0)), .ptr 0 0 0]) rfl rfl (node_c (kl20++kl0) (by decide)) [0] rfl ⟨_,_,rfl,rfl,_,_,rfl,⟨_,rfl,_,_,rfl,rfl,rfl⟩,rfl⟩ (fun _ _=>rfl) ?_
  refine ecall0 rfl rfl (issue_c 4 3 [97]) (fun _ _=>rfl) ?_
  refine pstep rfl rfl rfl ?_
  refine ecall0 rfl rfl (says_yes _ kw19 kf19 (by decide)) (fun _ _=>rfl) ?_
  refine pstep rfl rfl rfl ?_
  refine pstep rfl rfl rfl ?_
  refine pstep rfl rfl rfl ?_
  refine pstep rfl rfl rfl ?_
  refine pstep rfl rfl ⟨(by show List.length kl21+List.length kl0≤9223372036854775807;decide),rfl⟩ ?_
  refine ecallL0 (args:=[.p (.str (kl21++kl0)), .ptr 0 0 0]) rfl rfl (node_c (kl21++kl0) (by decide)) [0] rfl ⟨_,_,rfl,rfl,_,_,rfl,⟨_,rfl,_,_,rfl,rfl,rfl⟩,rfl⟩ (fun _ _=>rfl) ?_
  refine ecall0 rfl rfl ((says_yes _ kw20 kf20 (by decide)).arg (args':=[.str (((hdS++klN)++(kl21++kl0))++klS), .nils]) ⟨_,_,rfl,NilD.refl _,_,_,rfl, .inr (.inr ⟨3,rfl⟩),rfl⟩) (fun _ _=>rfl) ?_
  refine pstep rfl rfl rfl ?_
  refine pstep rfl rfl rfl ?_
  refine pstep rfl rfl rfl ?_
  refine pstep rfl rfl ⟨(by show List.length hdS+List.length kl22≤9223372036854775807;decide),rfl⟩ ?_
  refine pstep rfl rfl rfl ?_
  refine pstep rfl rfl ⟨(by show List.length (hdS++kl22)+List.length kl0≤9223372036854775807;decide),rfl⟩ ?_
  refine pstep rfl rfl ⟨(by show List.length ((hdS++kl22)++kl0)+List.length kl14≤9223372036854775807;decide),rfl⟩ ?_
  refine ecall rfl rfl (issue_c 4 4 [100]) (fun _ _=>rfl) (sk) ?_
  refine pstep rfl rfl rfl ?_
  refine ecall0 rfl rfl (says_yes _ kw21 kf21 (by decide)) (fun _ _=>rfl) ?_
  refine pstep rfl rfl rfl ?_
  refine pstep rfl rfl rfl ?_
  refine pstep rfl rfl rfl ?_
  refine ecallL0 (args:=[.p (.str kl23), .ptr 0 0 0]) rfl rfl (node_c kl23 (by decide)) [0] rfl ⟨_,_,rfl,rfl,_,_,rfl,⟨_,rfl,_,_,rfl,rfl,rfl⟩,rfl⟩ (fun _ _=>rfl) ?_
  refine ecall0 rfl rfl (issue_c 4 3 [97]) (fun _ _=>rfl) ?_
  refine pstep rfl rfl rfl ?_
  refine ecall0 rfl rfl (says_yes _ kw22 kf22 (by decide)) (fun _ _=>rfl) ?_
  refine pstep rfl rfl rfl ?_
  refine pstep rfl rfl rfl ?_
  refine pstep rfl rfl rfl ?_
  refine pstep rfl rfl ⟨(by show List.length hdS+List.length kl24≤9223372036854775807;decide),rfl⟩ ?_
  refine pstep rfl rfl rfl ?_
  refine pstep rfl rfl ⟨(by show List.length (hdS++kl24)+List.length kl0≤9223372036854775807;decide),rfl⟩ ?_
  refine pstep rfl rfl ⟨(by show List.length ((hdS++kl24)++kl0)+List.length kl14≤9223372036854775807;decide),rfl⟩ ?_
  refine ecall rfl rfl (issue_c 4 4 [97]) (fun _ _=>rfl) (sk) ?_
  refine ecall rfl rfl (issue_c 4 4 [97]) (fun _ _=>rfl) (sk) ?_
  refine pstep rfl rfl rfl ?_
  refine ecall0 rfl rfl (says_yes _ kw23 kf23 (by decide)) (fun _ _=>rfl) ?_
  refine pstep rfl rfl rfl ?_
  refine pstep rfl rfl rfl ?_
  exact ent_of [] [] [] rfl (sk) (sk) rfl
 refine(node_c kl25 (by decide)).lends [0] rfl ⟨_,_,rfl,rfl,_,_,rfl,⟨_,rfl,_,_,rfl,rfl,rfl⟩,rfl⟩ ?_
 refine(issue_c 8 3 [97]).eq rfl ?_
 refine(issue_c 8 3 [97]).eq rfl ?_
 refine(issue_c 7 3 [97]).eq rfl ?_
 refine(says_yes _ kw24 kf24 (by decide)).lends [1] rfl ⟨_,_,rfl,rfl,_,_,rfl,⟨_,rfl,Nat.le_refl _,rfl⟩,rfl⟩ ?_
 refine(node_c kl26 (by decide)).lends [0] rfl ⟨_,_,rfl,rfl,_,_,rfl,⟨_,rfl,_,_,rfl,rfl,rfl⟩,rfl⟩ ?_
 refine(issue_c 8 3 [97]).eq rfl ?_
 refine(says_yes _ kw25 kf25 (by decide)).lends [2] rfl ⟨_,_,rfl,rfl,_,_,rfl,⟨_,rfl,Nat.le_refl _,rfl⟩,rfl⟩ ?_
 refine(node_c kl27 (by decide)).lends [0] rfl ⟨_,_,rfl,rfl,_,_,rfl,⟨_,rfl,_,_,rfl,rfl,rfl⟩,rfl⟩ ?_
 refine((says_yes _ kw26 kf26 (by decide)).arg (args':=[.str (((hdS++klN)++kl27)++klS), .nils]) ⟨_,_,rfl,NilD.refl _,_,_,rfl, .inr (.inr ⟨3,rfl⟩),rfl⟩).eq rfl ?_
 refine(node_c kl28 (by decide)).lends [0] rfl ⟨_,_,rfl,rfl,_,_,rfl,⟨_,rfl,_,_,rfl,rfl,rfl⟩,rfl⟩ ?_
 refine(issue_c 4 3 [112]).eq rfl ?_
 refine(says_yes _ kw27 kf27 (by decide)).lends [3] rfl ⟨_,_,rfl,rfl,_,_,rfl,⟨_,rfl,Nat.le_refl _,rfl⟩,rfl⟩ ?_
 refine vdraw_otTo (knS++[(4, .p (.bool true)),(5, .p (.bool true)),(6, .p (.bool true)),(7, .p (.bool true)),(8, .p (.bool true))]) ⟨1,[(0,knG)]⟩ otN10 (by kernel_rfl) ?_ ?_
 ·skip
  refine pstep rfl rfl rfl ?_
  refine ecallL0 (args:=[.p (.str kl29), .ptr 0 0 0]) rfl rfl (node_c kl29 (by decide)) [0] rfl ⟨_,_,rfl,rfl,_,_,rfl,⟨_,rfl,_,_,rfl,rfl,rfl⟩,rfl⟩ (fun _ _=>rfl) ?_
  refine ecall0 rfl rfl (issue_c 9 3 []) (fun _ _=>rfl) ?_
  refine pstep rfl rfl rfl ?_
  refine ecall0 rfl rfl (says_yes _ kw28 kf28 (by decide)) (fun _ _=>rfl) ?_
  refine pstep rfl rfl rfl ?_
  refine pstep rfl rfl rfl ?_
  refine ecallL0 (args:=[.p (.str kl30), .ptr 0 0 0]) rfl rfl (node_c kl30 (by decide)) [0] rfl ⟨_,_,rfl,rfl,_,_,rfl,⟨_,rfl,_,_,rfl,rfl,rfl⟩,rfl⟩ (fun _ _=>rfl) ?_
  refine ecall0 rfl rfl (issue_c 9 3 []) (fun _ _=>rfl) ?_
  refine pstep rfl rfl rfl ?_
  refine ecall0 rfl rfl (says_yes _ kw29 kf29 (by decide)) (fun _ _=>rfl) ?_
  refine pstep rfl rfl rfl ?_
  refine pstep rfl rfl rfl ?_
  refine pstep rfl rfl rfl ?_
  refine ecallL0 (args:=[.p (.str kl31), .ptr 0 0 0]) rfl rfl (node_c kl31 (by decide)) [0] rfl ⟨_,_,rfl,rfl,_,_,rfl,⟨_,rfl,_,_,rfl,rfl,rfl⟩,rfl⟩ (fun _ _=>rfl) ?_
  refine ecall0 rfl rfl ((says_yes _ kw30 kf30 (by decide)).arg (args':=[.str (((hdS++klN)++kl31)++klS), .nils]) ⟨_,_,rfl,NilD.refl _,_,_,rfl, .inr (.inr ⟨3,rfl⟩),rfl⟩) (fun _ _=>rfl) ?_
  refine pstep rfl rfl rfl ?_
  refine pstep rfl rfl rfl ?_
  refine pstep rfl rfl rfl ?_
  refine ecallL0 (args:=[.p (.str kl32), .ptr 0 0 0]) rfl rfl (node_c kl32 (by decide)) [0] rfl ⟨_,_,rfl,rfl,_,_,rfl,⟨_,rfl,_,_,rfl,rfl,rfl⟩,rfl⟩ (fun _ _=>rfl) ?_
  refine ecall0 rfl rfl (issue_c 9 3 []) (fun _ _=>rfl) ?_
  refine pstep rfl rfl rfl ?_
  refine ecall0 rfl rfl (says_yes _ kw31 kf31 (by decide)) (fun _ _=>rfl) ?_
  refine pstep rfl rfl rfl ?_
  refine pstep rfl rfl rfl ?_
  refine pstep rfl rfl rfl ?_
  refine pstep rfl rfl ⟨(by show List.length hdS+List.length kl33≤9223372036854775807;decide),rfl⟩ ?_
  refine ecall rfl rfl (issue_c 9 3 []) (fun _ _=>rfl) (sk) ?_
  refine pstep rfl rfl rfl ?_
  refine ecall0 rfl rfl (says_yes _ kw32 kf32 (by decide)) (fun _ _=>rfl) ?_
  refine pstep rfl rfl rfl ?_
  refine pstep rfl rfl rfl ?_
  refine pstep rfl rfl rfl ?_
  refine pstep rfl rfl ⟨(by show List.length hdS+List.length kl34≤9223372036854775807;decide),rfl⟩ ?_
  refine ecall rfl rfl (issue_c 9 4 []) (fun _ _=>rfl) (sk) ?_
  refine pstep rfl rfl rfl ?_
  refine ecall0 rfl rfl (says_yes _ kw33 kf33 (by decide)) (fun _ _=>rfl) ?_
  refine pstep rfl rfl rfl ?_
  refine pstep rfl rfl rfl ?_
  refine pstep rfl rfl rfl ?_
  refine pstep rfl rfl ⟨(by show List.length hdS+List.length kl35≤9223372036854775807;decide),rfl⟩ ?_
  refine ecall rfl rfl (issue_c 6 3 [98]) (fun _ _=>rfl) (sk) ?_
  refine ecall rfl rfl (issue_c 6 5 [101]) (fun _ _=>rfl) (sk) ?_
  refine pstep rfl rfl rfl ?_
  refine ecall0 rfl rfl (says_yes _ kw34 kf34 (by decide)) (fun _ _=>rfl) ?_
  refine pstep rfl rfl rfl ?_
  refine pstep rfl rfl rfl ?_
  exact ent_of [] [] [] rfl (sk) (sk) rfl
 refine vdraw_otTo (knS++[(4, .p (.bool true)),(5, .p (.bool true)),(6, .p (.bool true)),(7, .p (.bool true)),(8, .p (.bool true)),(9, .p (.bool true))]) ⟨1,[(0,knG)]⟩ otN11 (by kernel_rfl) ?_ ?_
 ·skip
  refine ecall0 rfl rfl ((says_yes _ kw35 kf35 (by decide)).arg (args':=[.str kl36, .nils]) ⟨_,_,rfl,NilD.refl _,_,_,rfl, .inr (.inr ⟨3,rfl⟩),rfl⟩) (fun _ _=>rfl) ?_
  refine pstep rfl rfl rfl ?_
  refine ecall0 rfl rfl (issue_c 10 6 []) (fun _ _=>rfl) ?_
  refine pstep rfl rfl rfl ?_
  refine ecall0 rfl rfl (says_yes _ kw36 kf36 (by decide)) (fun _ _=>rfl) ?_
  refine pstep rfl rfl rfl ?_
  refine pstep rfl rfl rfl ?_
  refine pstep rfl rfl rfl ?_
  refine ecall rfl rfl (rep_4) (fun _ _=>rfl) (sk) ?_
  refine pstep rfl rfl ⟨(by show List.length hdS+List.length klR4≤9223372036854775807;decide),rfl⟩ ?_
  refine ecall0 rfl rfl ((says_yes _ kw37 kf37 (by decide)).arg (args':=[.str (hdS++klR4), .nils]) ⟨_,_,rfl,NilD.refl _,_,_,rfl, .inr (.inr ⟨3,rfl⟩),rfl⟩) (fun _ _=>rfl) ?_
  refine pstep rfl rfl rfl ?_
  refine pstep rfl rfl rfl ?_
  refine pstep rfl rfl rfl ?_
  refine ecall rfl rfl (rep_5) (fun _ _=>rfl) (sk) ?_
  refine pstep rfl rfl ⟨(by show List.length hdS+List.length klR5≤9223372036854775807;decide),rfl⟩ ?_
  refine ecall rfl rfl (issue_c 10 8 []) (fun _ _=>rfl) (sk) ?_
  refine pstep rfl rfl rfl ?_
  refine ecall0 rfl rfl (says_yes _ kw38 kf38 (by decide)) (fun _ _=>rfl) ?_
  refine pstep rfl rfl rfl ?_
  refine pstep rfl rfl rfl ?_
  refine ecall0 rfl rfl (issue_c 5 1 [112]) (fun _ _=>rfl) ?_
  refine pstep rfl rfl rfl ?_
  refine ecall0 rfl rfl (says_yes _ kw39 kf39 (by decide)) (fun _ _=>rfl) ?_
  refine pstep rfl rfl rfl ?_
  refine pstep rfl rfl rfl ?_
  exact ent_of [] [] [] rfl (sk) (sk) rfl
 have hP:=parse_c (hdS++klD)
 rw [kD_p] at hP
 have hP:Pure cx 26 [.str (hdS++klD)] (·=.ret [srcV kD,i64 0,i64 0,i64 0]):=hP
 have hY:=symbols_c kD (parR_big kD_p)
 rw [kD_s] at hY
 have hE:=symbols_c [] nil_bigP
 rw [kE_s] at hE
 have hbz:BigP [de0]:=⟨by decide,fun d hd=>by rw [List.mem_singleton.1 hd];exact⟨Nat.zero_le _,Nat.zero_le _,Nat.zero_le _,fun r hr=>(by cases hr),Nat.zero_le _,fun x hx=>(by cases hx),fun x hx=>(by cases hx)⟩⟩
 have hZ:=issues_c [de0] hbz
 rw [kZ_i] at hZ
 have hC:=scheck_c [de0] hbz
 rw [kZ_e] at hC
 have hn:NilDL [.agg [.lsts 6 [[i64 0,i64 0, .str [], .str [], .nils, .nils]]]] [srcV [de0]]:=by
  have:=nil_de (k:=0) (n:=0) (nm:=[]) (pl:=[]) nil_4 nil_11
  simp only [NilD] at this
  obtain⟨z,e,h⟩:=this
  injection e with e
  subst e
  show NilDL [.agg [.lsts 6 [[i64 0,i64 0, .str [], .str [], .nils, .nils]]]] [.agg [.lsts 6 [De.cells ⟨0,0,[],[],[],[]⟩]]]
  simp only [NilDL,NilD,NilDLL]
  exact⟨_,_,rfl,⟨_,rfl,_,_,rfl,⟨_,rfl,_,_,rfl,h,rfl⟩,rfl⟩,rfl⟩
 have hZ:=hZ.arg hn
 have hC:=hC.arg hn
 generalize kD=D at hP hY
 refine⟨(by show List.length hdS+List.length klD≤9223372036854775807;decide),?_⟩
 refine hP.eq rfl ?_
 refine hY.eq rfl ?_
 refine(hE.arg (args':=[.agg [.nils]]) ⟨_,_,rfl,⟨_,rfl,_,_,rfl, .inr (.inr ⟨6,rfl⟩),rfl⟩,rfl⟩).eq rfl ?_
 refine⟨⟨by show(0:Int)≤1;decide,by show(1:Int)≤1;decide,by show(1:Int) * 96≤281474976710656;decide,by show(1:Int)≤281474976710656;decide⟩,?_⟩
 refine hZ.uses [2] rfl ⟨_,_,rfl,⟨_,rfl,_,_,rfl,⟨_,rfl,Nat.le_refl _,rfl⟩,rfl⟩,rfl⟩ ?_
 refine And.intro (fun _=>?_) (fun h=>absurd rfl h)
 refine And.intro (fun _=>?_) (fun h=>absurd rfl h)
 refine⟨_,⟨by decide,_,rfl,rfl⟩,?_⟩
 refine⟨⟨by kernel_rfl,by kernel_rfl⟩,fun _=>?_,fun e1=>absurd rfl e1⟩
 refine⟨_,⟨by decide,_,rfl,rfl⟩,?_⟩
 refine⟨⟨by kernel_rfl,by kernel_rfl⟩,fun _=>?_,fun e1=>absurd rfl e1⟩
 refine⟨_,⟨by decide,_,rfl,rfl⟩,?_⟩
 refine⟨⟨by kernel_rfl,by kernel_rfl⟩,fun _=>?_,fun e1=>absurd rfl e1⟩
 refine And.intro (fun _=>?_) (fun h=>absurd rfl h)
 refine And.intro (fun _=>?_) (fun h=>absurd rfl h)
 refine And.intro (fun _=>?_) (fun h=>absurd rfl h)
 refine⟨⟨by show(0:Int)≤1;decide,by show(1:Int)≤1;decide,by show(1:Int) * 96≤281474976710656;decide,by show(1:Int)≤281474976710656;decide⟩,?_⟩
 refine hC.uses [3] rfl ⟨_,_,rfl,⟨_,rfl,_,_,rfl,⟨_,rfl,Nat.le_refl _,rfl⟩,rfl⟩,rfl⟩ ?_
 refine And.intro (fun _=>?_) (fun h=>absurd rfl h)
 exact end1 _ rfl rfl rfl
theorem own:ownKnob Tryz.prog.godebug=none:=by kernel_rfl
abbrev laidP : List (String × DataW Unit) := [("haruspex/lex.keys", Rows.laid_haruspex_lex_keys), ("haruspex/lex.marks", Rows.laid_haruspex_lex_marks)]
theorem door_metP (os:Os) (args:Array Value):laidMetH Tryz.prog laidP ((World.laidAll Tryz.prog os laidP).forCall (fun _ _=>0) ⟨#[],args,[]⟩).memory:=by
 rw [MakeChecks.laidMetH_plain _ _ _ (by kernel_rfl)]
 exact laidMet_laidAll _ (by kernel_rfl) (by kernel_rfl)
theorem gt_okP:gtOK Tryz.prog 4 cx.gt laidP:=
 ⟨by kernel_rfl,⟨213,by kernel_rfl,by kernel_rfl⟩,rfl,by kernel_rfl,⟨214,by kernel_rfl,by kernel_rfl⟩,rfl,trivial⟩
theorem glob_okP {W:World} (h:laidMetH Tryz.prog laidP W):∀ g cs,gget cx.gt g=some cs→GlobV (fzOf W) g cs:=by
 rw [MakeChecks.laidMetH_plain _ _ _ (by kernel_rfl)] at h
 obtain⟨ps,h,_⟩:=h
 exact glob_of_laid gt_okP h
theorem scopeKnown_pure:∀ xs,ArgsT Tryz.prog 8 Tryz.f8.params.toList xs→Pure cx 8 xs (·=.ret [.bool true]):=by
 intro xs h
 rw [Tryz.params8] at h
 obtain rfl:=h
 exact scopeKnown_c 
theorem scopeKnown_lifted (os:Os) (started:os.Started) (H:Type) (enc:TypeId × Value→H) :
  ReturnsInHanded {} Tryz.checked os 8 .any (fun w args=>(Rows.scopeKnownSpec.pre enc Tryz.prog Tryz.f8 [] false w args∧laidMetH Tryz.prog laidP w)∧sizedMet enc Tryz.prog Tryz.f8 (OpenSpec.ofChange Rows.scopeKnownSpec) false w args)
   (Rows.scopeKnownSpec.post enc Tryz.prog Tryz.f8 false true false false):=by
 refine returnsInHanded_of_change_and (C:=Tryz.checked) (X:=fun w _=>laidMetH Tryz.prog laidP w) (fun _ _ _ hh h=>h.of_heap hh) own started (by kernel_rfl) Tryz.func8
  (ChangeSpec.witness_shaped (enc:=enc) (C:=Tryz.checked) (os:=os) (X:=fun w _=>laidMetH Tryz.prog laidP w) false (World.laidAll Tryz.prog os laidP) #[] 8 (World.laidAll_os _ _ _) (World.shaped_of_ZipB (by kernel_rfl) (by kernel_rfl)) (by kernel_rfl) (by kernel_rfl) (by kernel_rfl) (door_metP os _)) ?_
 intro W base args ds gs before hval hW _ _ hL _
 obtain⟨p,q,hA,hV,_⟩:=id hW
 have hs:Tryz.f8.params.toList.all (supp Tryz.prog 8)=true:=by kernel_rfl
 obtain⟨_,_,_,hlen⟩:=args_of (base:=base) hs (fun j t v ht _=>by simp at ht) hA
 refine(calls_of_pure (cx:=cx) Tryz.func8 (by kernel_rfl) rfl hs scopeKnown_pure hval hA (glob_okP hL)).mono fun e W' ⟨he,h1,h2,h3⟩=>?_
 subst he
 exact⟨_,rfl,post_of_kept (cx:=cx) (m:=8) hs rfl (by kernel_rfl) Tryz.underlying4 (fun ds h=>by
  rw [Tryz.params8] at h
  match ds,h with
  | [],_=>rfl) hW hlen h1 h2 h3⟩
theorem scopeKnown_holds:Rows.ScopeKnownSaid:=
 OpenClaim.holds_of_wide 8 Tryz.f8 rfl rfl rfl rfl rfl rfl rfl ⟨rfl,rfl,rfl,rfl,rfl⟩ rfl rfl rfl rfl rfl (by kernel_rfl) Tryz.func8 (by kernel_rfl)
  (of_decide_eq_true (by kernel_rfl)) (by unfold Func.isWrapper;first | (rw [if_pos (by decide +kernel)];kernel_rfl) | (rw [if_neg (by decide +kernel)];exact⟨rfl,rfl⟩))
  (fun os started H enc _=>scopeKnown_lifted os started H enc)
theorem scopeKnown_card:Rows.ScopeKnownCardSaid:=
 Claim7.holds_tied_plain_at .later [] [.data, .data] true (true, "2fbbf534a6e22c1c9b79bfd1496d202898ccabc8df399125808e88f9538ac76c") true
  scopeKnown_holds (fun _ h=>by cases h) (by kernel_rfl) (fun _ h=>by cases h) scopeKnown_row_tie rfl ⟨rfl,rfl⟩ (by kernel_rfl) rfl
  (fun f fn hf hfn=>by
   obtain rfl : f = 8 := Option.some.inj ((show Tryz.prog.funcNamed "haruspex/haruspexlaw39.ScopeKnown" = some 8 by kernel_rfl).symm.trans hf) |>.symm
   obtain rfl:fn=Tryz.f8:=(Option.some.inj (Tryz.func8.symm.trans hfn)).symm
   exact⟨by kernel_rfl,fun j t ht=>by
    have hall:(Tryz.f8.params.toList.all fun u=>!Tryz.prog.wantsStandIn u)=true:=by kernel_rfl
    exact(show Tryz.prog.wantsStandIn t=false by simpa using List.all_eq_true.1 hall t (by simpa using Array.mem_of_getElem? ht))⟩)
  (by kernel_rfl)
#print axioms scopeKnown_card
end Go.Proofs.YtmepdfingcmkmaaGreatDoor

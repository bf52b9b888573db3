/- ScopeNames: the row and the card. Issues do not depend on names. Conditions: those of the card. -/
import Derived.ChangeArms
import Derived.OpenShut
import Derived.WideHanded
import Derived.ChangeSame
import Derived.ProofKit
import Derived.LaidMore
import Derived.LaidLaws
import Derived.Stop.Joined
import Derived.MakeChecks
import Derived.Test.YtmepdfingcmkmaaGreatDoorRows
import Derived.Lay
import Derived.Test.YtmepdfingcmkmaaGreatDoorCards
import Derived.Test.YtmepdfingcmkmaaGreatDoorTie
import Derived.SevenTiedAt
import Derived.Test.YtmepdfingcmkmaaGreatDoorQ4
namespace Go.Proofs.YtmepdfingcmkmaaGreatDoor
open Go Y
set_option maxRecDepth 100000
set_option maxHeartbeats 40000000
structure DcZ (d:De):Prop where
 two:d.kind=2→d.refs=[]∧d.cases=[]
 four:d.kind=4→d.cases=[]
abbrev otS6:OT:=(.pure 0 (.pure 1 (.pure 2 (.pure 3 (.pure 4 (.pure 5 (.pure 6 (.pure 7 (.pure 8 .fin)))))))))
def is0:Iss:=⟨0,0,[]⟩
theorem iscell {l:List Iss} {k:Nat} (h:k<l.length):(l.map Iss.cells)[k]?=some (l.getD k is0).cells:=map_at is0 h
theorem is_ext {a b:Iss} (h:a.cells=b.cells):a=b:=by
 obtain⟨x,y,z⟩:=a
 obtain⟨x',y',z'⟩:=b
 injection h with h1 h
 injection h with h2 h
 injection h with h3 h
 injection h1 with _ h1
 injection h2 with _ h2
 injection h3 with h3
 subst h1 h2 h3
 rfl
theorem issame_c (a b:List Iss) (_ha:a.length≤1000000) (hb:b.length≤1000000):Pure cx 11 [isl a,isl b] (·=.ret [.bool (decide (a=b))]):=by
 have hma:(a.map Iss.cells).length=a.length:=List.length_map ..
 have hmb:(b.map Iss.cells).length=b.length:=List.length_map ..
 refine pure_of_vc Tryz.func11 rfl rfl rfl ?_
 refine And.intro (fun h1=>?_) (fun h1=>?_)
 rotate_left
 ·have h1:¬ ((a.map Iss.cells).length:Int)=((b.map Iss.cells).length:Nat):=h1
  rw [hma,hmb] at h1
  exact end1 _ rfl rfl (retB (decide_eq_false fun e=>h1 (by rw [e])).symm)
 have h1:((a.map Iss.cells).length:Int)=((b.map Iss.cells).length:Nat):=h1
 rw [hma,hmb] at h1
 refine⟨Nat,fun k=>[(0, .p (isl a)),(1, .p (isl b)),(5, .p (i64 k))],fun _=>⟨0,[]⟩,fun k=>k≤a.length∧a.take k=b.take k,fun k=>a.length - k,?_,?_⟩
 ·exact⟨0,⟨Nat.zero_le _,by simp⟩,ent_of [] [] [] rfl (sk) trivial rfl⟩
 rintro k ⟨k1,k2⟩
 (first | refine brLt (fun m1=>?_) (fun m1=>?_) | refine brLe (fun m1=>?_) (fun m1=>?_) | refine brEq (fun m1=>?_) (fun m1=>?_))
 rotate_left
 ·have m1:¬ (k:Int)<((a.map Iss.cells).length:Nat):=m1
  rw [hma] at m1
  rw [take_all (by omega),take_all (by omega)] at k2
  exact end1 _ rfl rfl (retB (decide_eq_true k2).symm)
 have m1:(k:Int)<((a.map Iss.cells).length:Nat):=m1
 rw [hma] at m1
 have hk:k<a.length:=by omega
 have hkb:k<b.length:=by omega
 have ca:=iscell hk
 have cb':=iscell hkb
 have hs:a.take (k+1)=b.take (k+1) ↔ a.getD k is0=b.getD k is0:=by
  rw [take_succ_getD is0 hk,take_succ_getD is0 hkb,k2]
  constructor
  ·intro h;have:=List.append_cancel_left h;injection this
  ·intro h;rw [h]
 have hne:¬ a.getD k is0=b.getD k is0→¬ a=b:=fun h e=>h (by rw [e])
 generalize a.getD k is0=x at ca hs hne
 generalize b.getD k is0=y at cb' hs hne
 refine vdraw_ot otS6 (by kernel_rfl) ?_
 refine⟨_,⟨by omega,x.cells,ca,rfl⟩,?_⟩
 refine⟨_,⟨by omega,y.cells,cb',rfl⟩,?_⟩
 refine⟨⟨by kernel_rfl,by kernel_rfl⟩,fun e1=>?_,fun e1=>?_⟩
 ·have e1:x=y:=is_ext (by first | exact e1 | (injection e1))
  refine⟨_,wrap_i64 (by omega) (by omega),?_⟩
  exact⟨k+1,⟨by omega,hs.2 e1⟩,ent_of [] [] [] rfl (sk) trivial rfl,by show a.length - (k+1)<a.length - k;omega⟩
 ·have e1:¬ x=y:=fun e=>e1 (by rw [e])
  exact end1 _ rfl rfl (retB (decide_eq_false (hne e1)).symm)
structure WI (W P:Nat):Prop where
 eq:W≤1024→W=P
 big:1024<W→1024<P
 hi:W≤4096
set_option maxHeartbeats 4000000
set_option maxHeartbeats 40000000
theorem parR_big {s:List UInt8} {ds:List De} (h:parR s=.inr ds):BigP ds:=by
 unfold parR at h
 split at h
 ·cases h
 ·cases hr:readR s with
  | err p c=>rw [hr] at h;cases h
  | ok ws=>
   rw [hr] at h
   have hg:=read_good hr
   have hl:=hg.len
   cases hp:progR ws (fuelW ws) (fuelW ws) [] 0 with
   | inl q=>simp only [hp] at h;cases h
   | inr x=>
    obtain⟨l,q⟩:=x
    simp only [hp] at h
    split at h
    ·injection h with h
     subst h
     exact prog_bigP hg (by rw [fuelW];omega) hp
    ·cases h
abbrev zc0:List PV:=[i64 0,i64 0,i64 0,i64 0, .str [],i64 0, .str [],i64 0, .nils, .nils]
theorem nil_zc (l:List Int):NilDL (zc0++[.lst (l.map i64)]) (⟨cd0,l⟩:Cs).cells:=by
 show NilDL [i64 0,i64 0,i64 0,i64 0, .str [],i64 0, .str [],i64 0, .nils, .nils, .lst (l.map i64)] [i64 0,i64 0,i64 0,i64 0, .str [],i64 0, .str [],i64 0, .lst [], .lsts 10 [], .lst (l.map i64)]
 simp only [NilD,NilDL]
 exact⟨_,_,rfl,rfl,_,_,rfl,rfl,_,_,rfl,rfl,_,_,rfl,rfl,_,_,rfl,rfl,_,_,rfl,rfl,_,_,rfl,rfl,_,_,rfl,rfl,_,_,rfl, .inr (.inl rfl),_,_,rfl, .inr (.inr ⟨10,rfl⟩),_,_,rfl,⟨_,rfl,NilDL.refl _⟩,rfl⟩
theorem parR_valid {s:List UInt8} {ds:List De} (h:parR s=.inr ds):validB ds=true:=by
 unfold parR at h
 split at h
 ·cases h
 ·cases hr:readR s with
  | err p c=>rw [hr] at h;cases h
  | ok ws=>
   rw [hr] at h
   cases hp:progR ws (fuelW ws) (fuelW ws) [] 0 with
   | inl q=>simp only [hp] at h;cases h
   | inr x=>
    obtain⟨l,q⟩:=x
    simp only [hp] at h
    split at h
    ·rename_i hv
     injection h with h
     subst h
     exact hv
    ·cases h
abbrev hdS:List UInt8:=[103,114,97,105,110,32,52,32,59,32,112,108,97,116,101,32,112,32,61,32,50,32,59,32,110,111,100,101,32,97,32,91,32,112,32,93,32,58,32,50,32,61,32,123,32,101,108,115,101,32,58,32,49,32,51,32,125,32,59,32]
theorem headc_c:Pure cx 22 [] (·=.ret [.str hdS]):=by
 refine pure_of_vc Tryz.func22 rfl rfl rfl ?_
 exact end1 _ rfl rfl rfl
theorem issue_c (k d:Int) (nm:List UInt8):Pure cx 15 [i64 k,i64 d, .str nm] (·=.ret [.agg (Iss.mk k d nm).cells]):=by
 refine pure_of_vc Tryz.func15 rfl rfl rfl ?_
 exact end1 _ rfl rfl rfl
def okS (s:List UInt8) (want:List Iss):Bool:=match parR s with
 | .inl _=>false
 | .inr ds=>decide (allI ds=want)
theorem says_yes (s:List UInt8) (want:List Iss) (h:okS s want=true) (hl:want.length≤1000000):Pure cx 24 [.str s,isl want] (·=.ret [.bool true]):=by
 have hP:=parse_c s
 rw [okS] at h
 cases hp:parR s with
 | inl x=>rw [hp] at h;cases h
 | inr ds=>
  rw [hp] at h hP
  have ha:allI ds=want:=of_decide_eq_true h
  have hb:=parR_big hp
  have hv:=parR_valid hp
  have hI:=issues_c ds hb
  have hC:=scheck_c ds hb
  have hS:=issame_c want want hl hl
  rw [decide_eq_true (show want=want from rfl)] at hS
  rw [issV,if_pos hv,ha] at hI
  rw [scopeE,if_pos hv,ha] at hC
  clear h hp
  by_cases hn:want=[]
  ·rw [if_pos hn] at hC
   subst hn
   refine pure_of_vc Tryz.func24 rfl rfl rfl ?_
   refine hP.eq rfl ?_
   refine hI.eq rfl ?_
   refine hC.eq rfl ?_
   refine And.intro (fun _=>?_) (fun h=>absurd rfl h)
   refine And.intro (fun _=>?_) (fun h=>absurd rfl h)
   refine hS.eq rfl ?_
   refine And.intro (fun _=>?_) (fun h=>absurd rfl h)
   refine And.intro (fun _=>?_) (fun h=>absurd rfl h)
   refine And.intro (fun _=>?_) (fun h=>absurd rfl h)
   refine And.intro (fun _=>?_) (fun h=>absurd rfl h)
   exact end1 _ rfl rfl rfl
  ·rw [if_neg hn] at hC
   have hp1:1≤want.length:=List.length_pos_iff.2 hn
   have hm:(want.map Iss.cells).length=want.length:=List.length_map ..
   refine pure_of_vc Tryz.func24 rfl rfl rfl ?_
   refine hP.eq rfl ?_
   refine hI.eq rfl ?_
   refine hC.eq rfl ?_
   refine And.intro (fun _=>?_) (fun h=>absurd rfl h)
   refine And.intro (fun _=>?_) (fun h=>absurd rfl h)
   refine hS.eq rfl ?_
   refine And.intro (fun h=>absurd (show(390:Int)=0 from h) (by decide)) (fun _=>?_)
   refine And.intro (fun h=>absurd (show((want.map Iss.cells).length:Int)=0 from h) (by rw [hm];omega)) (fun _=>?_)
   refine And.intro (fun _=>?_) (fun h=>absurd rfl h)
   refine And.intro (fun h=>absurd (show(390:Int)=0 from h) (by decide)) (fun _=>?_)
   refine And.intro (fun _=>?_) (fun h=>absurd rfl h)
   exact end1 _ rfl rfl rfl
theorem sy_h:okS hdS []=true:=by kernel_rfl
abbrev syT0:List UInt8:=[110,111,100,101,32,98,32,58,32,51,32,102,114,111,109,32,97,32,91,32,49,32,93,32,44,32,99,32,61,32,123,32,97,32,91,32,49,32,93,32,61,32,50,32,58,32,52,32,48,32,48,32,59,32,101,108,115,101,32,58,32,49,32,51,32,125,32,59]
abbrev syW0:List Iss:=[⟨3,3,[99]⟩,⟨8,3,[97]⟩,⟨9,3,[]⟩]
theorem sy_0:okS (hdS++syT0) syW0=true:=by kernel_rfl
abbrev syT1:List UInt8:=[110,111,100,101,32,98,32,58,32,50,32,102,114,111,109,32,97,32,61,32,123,32,97,32,91,32,48,32,93,32,61,32,49,32,58,32,52,32,48,32,59,32,101,108,115,101,32,58,32,48,32,52,32,125,32,59]
abbrev syW1:List Iss:=[⟨4,3,[97]⟩,⟨7,3,[97]⟩]
theorem sy_1:okS (hdS++syT1) syW1=true:=by kernel_rfl
abbrev syT2:List UInt8:=[110,111,100,101,32,98,32,91,32,112,32,93,32,58,32,50,32,102,114,111,109,32,97,32,91,32,112,32,43,32,49,32,93,32,44,32,98,32,91,32,112,32,43,32,49,32,93,32,61,32,123,32,101,108,115,101,32,58,32,50,32,50,32,125,32,59,32,103,97,105,110,32,102,114,111,109,32,98,32,91,32,112,32,93,32,61,32,123,32,101,108,115,101,32,58,32,49,48,49,32,125,32,59]
abbrev syW2:List Iss:=[⟨4,4,[98]⟩,⟨9,4,[]⟩]
theorem sy_2:okS (hdS++syT2) syW2=true:=by kernel_rfl
abbrev syT3:List UInt8:=[112,108,97,116,101,32,112,32,61,32,55,32,59,32,99,104,111,111,115,101,32,112,32,58,32,49,32,59]
abbrev syW3:List Iss:=[⟨1,0,[]⟩,⟨5,0,[112]⟩,⟨2,1,[112]⟩,⟨6,1,[112]⟩]
theorem sy_3:okS syT3 syW3=true:=by kernel_rfl
abbrev syT4:List UInt8:=[110,111,100,101,32,98,32,58,32,52,32,61,32,123,32,101,108,115,101,32,58,32,49,32,49,32,49,32,49,32,125,32,59,32,110,111,100,101,32,99,32,91,32,112,32,93,32,58,32,52,32,61,32,123,32,101,108,115,101,32,58,32,49,32,49,32,49,32,49,32,125,32,59,32,110,111,100,101,32,100,32,91,32,112,32,93,32,58,32,52,32,61,32,123,32,101,108,115,101,32,58,32,49,32,49,32,49,32,49,32,125,32,59]
abbrev syW4:List Iss:=[⟨10,6,[]⟩]
theorem sy_4:okS (hdS++syT4) syW4=true:=by kernel_rfl
theorem works39_c:Pure cx 12 [] (·=.ret [.bool true]):=by
 refine pure_of_vc Tryz.func12 rfl rfl rfl ?_
 refine headc_c.eq rfl ?_
 refine((says_yes hdS [] sy_h (by decide)).arg (args':=[.str hdS, .nils]) ⟨_,_,rfl,rfl,_,_,rfl, .inr (.inr ⟨3,rfl⟩),rfl⟩).eq rfl ?_
 refine headc_c.eq rfl ?_
 refine⟨by show List.length _+List.length _≤9223372036854775807;(try simp) <;> omega,?_⟩
 refine(issue_c 3 3 [99]).eq rfl ?_
 refine(issue_c 8 3 [97]).eq rfl ?_
 refine(issue_c 9 3 []).eq rfl ?_
 refine(says_yes _ syW0 sy_0 (by decide)).lends [0] rfl ⟨_,_,rfl,rfl,_,_,rfl,⟨_,rfl,Nat.le_refl _,rfl⟩,rfl⟩ ?_
 refine headc_c.eq rfl ?_
 refine⟨by show List.length _+List.length _≤9223372036854775807;(try simp) <;> omega,?_⟩
 refine(issue_c 4 3 [97]).eq rfl ?_
 refine(issue_c 7 3 [97]).eq rfl ?_
 refine(says_yes _ syW1 sy_1 (by decide)).lends [1] rfl ⟨_,_,rfl,rfl,_,_,rfl,⟨_,rfl,Nat.le_refl _,rfl⟩,rfl⟩ ?_
 refine headc_c.eq rfl ?_
 refine⟨by show List.length _+List.length _≤9223372036854775807;(try simp) <;> omega,?_⟩
 refine(issue_c 4 4 [98]).eq rfl ?_
 refine(issue_c 9 4 []).eq rfl ?_
 refine(says_yes _ syW2 sy_2 (by decide)).lends [2] rfl ⟨_,_,rfl,rfl,_,_,rfl,⟨_,rfl,Nat.le_refl _,rfl⟩,rfl⟩ ?_
 refine(issue_c 1 0 []).eq rfl ?_
 refine(issue_c 5 0 [112]).eq rfl ?_
 refine(issue_c 2 1 [112]).eq rfl ?_
 refine(issue_c 6 1 [112]).eq rfl ?_
 refine(says_yes _ syW3 sy_3 (by decide)).lends [3] rfl ⟨_,_,rfl,rfl,_,_,rfl,⟨_,rfl,Nat.le_refl _,rfl⟩,rfl⟩ ?_
 refine headc_c.eq rfl ?_
 refine⟨by show List.length _+List.length _≤9223372036854775807;(try simp) <;> omega,?_⟩
 refine(issue_c 10 6 []).eq rfl ?_
 refine(says_yes _ syW4 sy_4 (by decide)).lends [4] rfl ⟨_,_,rfl,rfl,_,_,rfl,⟨_,rfl,Nat.le_refl _,rfl⟩,rfl⟩ ?_
 exact end1 _ rfl rfl rfl
end Go.Proofs.YtmepdfingcmkmaaGreatDoor
namespace Go.Proofs.YtmepdfingcmkmaaGreatDoor.Y
open Go
def partsOf (P:Program) (t:TypeId):Option (List (TypeId × Nat)):=
 match P.underlying t with
 | some (.struct fs)=>some (fs.toList.map fun f=>(f.type,f.offset))
 | some (.array k e)=>some ((List.range k).map fun i=>(e,i * P.cellsOf e))
 | _=>none
def tiles (P:Program):List (TypeId × Nat)→Nat→Option Nat
 | [],o=>some o
 | f::r,o=>if f.2=o then tiles P r (o+P.cellsOf f.1) else none
theorem tiles_le {P:Program}:∀ {l:List (TypeId × Nat)} {o n:Nat},tiles P l o=some n→o≤n
 | [],o,n,h=>by simp only [tiles,Option.some.injEq] at h;omega
 | f::r,o,n,h=>by
  simp only [tiles] at h
  split at h
  ·have:=tiles_le h;omega
  ·cases h
def basic:TypeDesc→Bool
 | .bool=>true
 | .int _=>true
 | .string=>true
 | _=>false
def supp (P:Program):Nat→TypeId→Bool
 | 0,_=>false
 | n+1,t=>match partsOf P t with
  | some l=>decide (tiles P l 0=some (P.cellsOf t)) && l.all fun f=>supp P n f.1
  | none=>match P.underlying t with
   | some (.slice e)=>decide (0<P.cellsOf e) && supp P n e
   | some d=>basic d
   | none=>false
def Flds (P:Program) (p:TypeId→List PV→Prop):List (TypeId × Nat)→List PV→Prop
 | [],xs=>xs=[]
 | f::r,xs=>∃ ys zs,xs=ys++zs∧ys.length=P.cellsOf f.1∧p f.1 ys∧Flds P p r zs
def TyT (P:Program):Nat→TypeId→List PV→Prop
 | 0,_,_=>False
 | m+1,t,xs=>match partsOf P t with
  | some l=>Flds P (TyT P m) l xs
  | none=>match P.underlying t with
   | some .bool=>∃ b,xs=[.bool b]
   | some (.int k)=>∃ n,xs=[.int k n]∧(Lit.int k n).wf=true
   | some .string=>∃ s,xs=[.str s]∧s.length≤maxLen
   | some (.slice e)=>match Nat.beq (P.cellsOf e) 1 with
    | true=>∃ ys,xs=[.lst ys]∧ys.length≤maxLen∧∀ y∈ys,TyT P m e [y]
    | false=>∃ yss,xs=[.lsts (P.cellsOf e) yss]∧yss.length≤maxLen∧∀ ys∈yss,TyT P m e ys
   | _=>False
section
variable {H:Type} {enc:TypeId × Value→H} {P:Program} {W:World} {sp:Nat→Bool} {held:Bool}
theorem cells_take {a:Addr} {n:Nat} {cs:List Value} (hn:0<n) (h:W.cells? 0 a n=some cs) :
  ∃ c t z,W.heap[a.block]?=some (.cells c t z)∧a.spot=none∧cs.length=n∧a.off+n≤c.toList.length∧cs=(c.toList.drop a.off).take n:=by
 unfold World.cells? at h
 rw [if_pos (Nat.zero_le _)] at h
 have hl:=mapM_some_length h
 rw [List.length_range] at hl
 have hg:∀ i,i<n→W.cell? (a.add i)=cs[i]?:=fun i hi=>mapM_some_get h i i (by simp [hi])
 have h0:=hg 0 hn
 have ha:a.add 0=a:=by simp [Addr.add]
 rw [ha,List.getElem?_eq_getElem (by omega)] at h0
 unfold World.cell? at h0
 split at h0
 ·rename_i c t z hb
  have hs:a.spot=none:=by
   cases hs:a.spot with
   | none=>rfl
   | some _=>simp [hs] at h0
  have hcell:∀ i,i<n→c[a.off+i]?=cs[i]?:=by
   intro i hi
   have:=hg i hi
   unfold World.cell? at this
   have hblk:(a.add i).block=a.block:=by unfold Addr.add;split <;> rfl
   have hsp:(a.add i).spot=none:=by unfold Addr.add;split <;> first | exact hs | rfl
   have hoff:(a.add i).off=a.off+i:=by unfold Addr.add;split <;> simp_all
   rw [hblk,hb] at this
   simp only [hsp,hoff] at this
   simpa using this
  have hlen:a.off+n≤c.toList.length:=by
   have:=hcell (n - 1) (by omega)
   rw [List.getElem?_eq_getElem (by omega)] at this
   have:=(Array.getElem?_eq_some_iff.1 this).1
   simp
   omega
  refine⟨c,t,z,hb,hs,hl,hlen,?_⟩
  refine List.ext_getElem? fun i=>?_
  by_cases hi:i<n
  ·rw [← hcell i hi,List.getElem?_take_of_lt hi,List.getElem?_drop]
   simp
  ·rw [List.getElem?_eq_none (by omega),List.getElem?_eq_none (by simp;omega)]
 ·cases h0
def AllCells (fz:Fzn) (W:World):Prop:=∀ b c t z,W.heap[b]?=some (.cells c t z)→fz b=some c.toList
def Rd (P:Program) (fz:Fzn) (m:Nat) (t:TypeId) (cs:List Value):Prop:=∃ xs,VPL fz xs cs∧(∀ u∈cs,plainV u=true)∧TyT P m t xs
theorem flds_of {fz:Fzn} {m:Nat} {cs:List Value}:∀ (l:List (TypeId × Nat)) (o:Nat),tiles P l o=some cs.length→(∀ f∈l,Rd P fz m f.1 ((cs.drop f.2).take (P.cellsOf f.1))) →
  ∃ xs,VPL fz xs (cs.drop o)∧(∀ u∈cs.drop o,plainV u=true)∧Flds P (TyT P m) l xs
 | [],o,ht,_=>by
  simp only [tiles,Option.some.injEq] at ht
  subst ht
  exact⟨[],by simp [VPL],by simp,rfl⟩
 | f::r,o,ht,hr=>by
  simp only [tiles] at ht
  split at ht
  ·rename_i ho
   have hle:=tiles_le ht
   obtain⟨ys,h1,h2,h3⟩:=hr f (by simp)
   obtain⟨zs,k1,k2,k3⟩:=flds_of r (o+P.cellsOf f.1) ht fun g hg=>hr g (by simp [hg])
   rw [ho] at h1 h2
   have e:cs.drop o=(cs.drop o).take (P.cellsOf f.1)++cs.drop (o+P.cellsOf f.1):=by
    rw [← List.drop_drop,List.take_append_drop]
   refine⟨ys++zs,?_,?_,ys,zs,rfl,?_,h3,k3⟩
   ·rw [e];exact VPL_append h1 k1
   ·rw [e];intro u hu;rcases List.mem_append.1 hu with hu | hu
    ·exact h2 u hu
    ·exact k2 u hu
   ·rw [← VPL_length h1,List.length_take,List.length_drop];omega
  ·cases ht
theorem parts_trod {t:TypeId} {l:List (TypeId × Nat)} (hp:partsOf P t=some l) {n:Nat} {cs:List Value} {x:DataW H × List MemPlace} (h:DataW.trod enc P W 0 sp held n t cs=some x) :
  ∃ (xs:List (DataW H × List MemPlace)) (k:Nat),n=k+1∧x=(.agg (xs.map (·.1)),xs.flatMap (·.2))∧cs.length=P.cellsOf t∧xs.length=l.length ∧
   ∀ (i:Nat) (f:TypeId × Nat),l[i]?=some f→DataW.trod enc P W 0 sp held k f.1 ((cs.drop f.2).take (P.cellsOf f.1))=xs[i]?:=by
 unfold partsOf at hp
 split at hp
 ·rename_i fs hu
  injection hp with hp
  subst hp
  obtain⟨xs,k,h1,h2,h3,h4,h5⟩:=DataW.trod_struct hu h
  refine⟨xs,k,h1,h2,h3,by simpa using h4,fun i f hf=>?_⟩
  rw [List.getElem?_map,Option.map_eq_some_iff] at hf
  obtain⟨g,hg,rfl⟩:=hf
  exact h5 i g (by simpa using hg)
 ·rename_i k' e hu
  injection hp with hp
  subst hp
  obtain⟨xs,k,h1,h2,h3,h4,h5⟩:=DataW.trod_array hu h
  refine⟨xs,k,h1,h2,h3,by simpa using h4,fun i f hf=>?_⟩
  rw [List.getElem?_map,Option.map_eq_some_iff] at hf
  obtain⟨j,hj,rfl⟩:=hf
  have hi:=(List.getElem?_eq_some_iff.1 hj)
  obtain⟨hi,hj⟩:=hi
  simp at hi hj
  subst hj
  exact h5 i hi
 ·cases hp
theorem flat_singles {l:List (List PV)} (h:∀ cs∈l,cs.length=1):l.flatten.length=l.length∧∀ y∈l.flatten,[y]∈l:=by
 induction l with
 | nil=>simp
 | cons x r ih=>
  have hx:=h x (by simp)
  obtain⟨y,rfl⟩:∃ y,x=[y]:=by
   match x,hx with
   | [y],_=>exact⟨y,rfl⟩
  obtain⟨h1,h2⟩:=ih fun c hc=>h c (by simp [hc])
  refine⟨by simp [h1],fun z hz=>?_⟩
  simp at hz
  rcases hz with rfl | hz
  ·simp
  ·have:=h2 z (by simpa using hz)
   simp [this]
mutual
def flatD:DataW H→Option (List PV)
 | .lit (.bool b)=>some [.bool b]
 | .lit (.int k n)=>some [.int k n]
 | .lit (.string s)=>some [.str s]
 | .agg ps=>flatDL ps
 | _=>none
def flatDL:List (DataW H)→Option (List PV)
 | []=>some []
 | d::r=>match flatD d,flatDL r with
  | some xs,some ys=>some (xs++ys)
  | _,_=>none
end
theorem fldsD_of {fz:Fzn} {cs:List Value} {Q:DataW H→List Value→Prop} (hQ:∀ d us xs,Q d us→flatD d=some xs→VPL fz xs us∧∀ u∈us,plainV u=true):∀ (l:List (TypeId × Nat)) (ds:List (DataW H)) (o:Nat) (xs:List PV),tiles P l o=some cs.length→ds.length=l.length →
  (∀ (i:Nat) f d,l[i]?=some f→ds[i]?=some d→Q d ((cs.drop f.2).take (P.cellsOf f.1)))→flatDL ds=some xs→VPL fz xs (cs.drop o)∧∀ u∈cs.drop o,plainV u=true
 | [],ds,o,xs,ht,hl,_,hd=>by
  simp only [tiles,Option.some.injEq] at ht
  subst ht
  obtain rfl:=List.eq_nil_of_length_eq_zero hl
  simp only [flatDL,Option.some.injEq] at hd
  subst hd
  simp [VPL]
 | f::r,[],o,xs,ht,hl,_,hd=>by simp at hl
 | f::r,d::ds,o,xs,ht,hl,hr,hd=>by
  simp only [tiles] at ht
  split at ht
  ·rename_i ho
   simp only [flatDL] at hd
   split at hd
   ·rename_i ys zs e1 e2
    injection hd with hd
    subst hd
    have h1:=hQ d _ ys (hr 0 f d rfl rfl) e1
    have h2:=fldsD_of hQ r ds (o+P.cellsOf f.1) zs ht (by simpa using hl) (fun i g e hg he=>hr (i+1) g e hg he) e2
    rw [ho] at h1
    have e:cs.drop o=(cs.drop o).take (P.cellsOf f.1)++cs.drop (o+P.cellsOf f.1):=by
     rw [← List.drop_drop,List.take_append_drop]
    rw [e]
    refine⟨VPL_append h1.1 h2.1,fun u hu=>?_⟩
    rcases List.mem_append.1 hu with hu | hu
    ·exact h1.2 u hu
    ·exact h2.2 u hu
   ·cases hd
  ·cases ht
theorem laid_of_trod {fz:Fzn}:∀ (m:Nat) (t:TypeId) (n:Nat) (cs:List Value) (x:DataW H × List MemPlace) (xs:List PV),supp P m t=true→DataW.trod enc P W 0 sp held n t cs=some x→flatD x.1=some xs→VPL fz xs cs∧∀ u∈cs,plainV u=true
 | 0,_,_,_,_,_,hs,_,_=>by simp [supp] at hs
 | m+1,t,n,cs,x,xs,hs,h,hd=>by
  have ih:=laid_of_trod (fz:=fz) m
  simp only [supp] at hs
  cases hp:partsOf P t with
  | some l=>
   simp only [hp,Bool.and_eq_true,decide_eq_true_eq,List.all_eq_true] at hs
   obtain⟨ys,k,h1,h2,h3,h4,h5⟩:=parts_trod hp h
   rw [h2] at hd
   simp only [flatD] at hd
   have:=fldsD_of (fz:=fz) (P:=P) (cs:=cs) (Q:=fun d us=>∀ xs,flatD d=some xs→VPL fz xs us∧∀ u∈us,plainV u=true) (fun d us xs hq hx=>hq xs hx) l (ys.map (·.1)) 0 xs (by rw [h3];exact hs.1) (by simpa using h4) (fun i f d hf hd'=>by
    rw [List.getElem?_map,Option.map_eq_some_iff] at hd'
    obtain⟨y,hy,rfl⟩:=hd'
    have e:=h5 i f hf
    rw [hy] at e
    intro xs hx
    exact ih _ _ _ _ xs (hs.2 _ (List.mem_of_getElem? hf)) e hx) hd
   simpa using this
  | none=>
   simp only [hp] at hs
   cases hu:P.underlying t with
   | none=>simp [hu] at hs
   | some d=>
    simp only [hu] at hs
    cases d with
    | bool=>
     obtain⟨b,rfl,rfl⟩:=DataW.trod_bool hu h
     simp only [flatD,Option.some.injEq] at hd
     subst hd
     exact⟨by simp [VPL,VP],by simp [plainV]⟩
    | int k=>
     obtain⟨b,rfl,rfl,hw⟩:=DataW.trod_int hu h
     simp only [flatD,Option.some.injEq] at hd
     subst hd
     exact⟨by simp [VPL,VP],by simp [plainV]⟩
    | string=>
     obtain⟨⟨⟨s⟩⟩,rfl,rfl,hw⟩:=DataW.trod_string hu h
     simp only [flatD,Option.some.injEq] at hd
     subst hd
     exact⟨by simp [VPL,VP],by simp [plainV]⟩
    | slice e=>
     rcases DataW.trod_slice hu h with ⟨rfl,rfl⟩ | ⟨a,len,cap,elems,rest,n',rfl,rfl,rfl,_⟩
     ·simp [flatD] at hd
     ·simp [flatD] at hd
    | _=>simp [basic] at hs
end
end Go.Proofs.YtmepdfingcmkmaaGreatDoor.Y
namespace Go.Proofs.YtmepdfingcmkmaaGreatDoor.Y
open Go
theorem mapM_mono {α β:Type} {f g:α→Option β}:∀ {l:List α} {r:List β},(∀ x∈l,∀ y,f x=some y→g x=some y)→l.mapM f=some r→l.mapM g=some r
 | [],r,_,h=>by simpa using h
 | x::l,r,hfg,h=>by
  simp only [List.mapM_cons,Option.bind_eq_bind,Option.bind_eq_some_iff,Option.pure_def,Option.some.injEq] at h ⊢
  obtain⟨y,h1,ys,h2,h3⟩:=h
  exact⟨y,hfg x (by simp) y h1,ys,mapM_mono (fun z hz=>hfg z (by simp [hz])) h2,h3⟩
def Kept (W W':World):Prop:=∀ (b:Nat) (o:Obj),W.heap[b]?=some o→W'.heap[b]?=some o
section
variable {H:Type} {enc:TypeId × Value→H} {P:Program} {W W':World} {sp':Nat→Bool} {held:Bool}
theorem Kept.cell (hk:Kept W W') {a:Addr} {v:Value} (h:W.cell? a=some v):W'.cell? a=some v:=by
 unfold World.cell? at h ⊢
 split at h
 ·rename_i c t z hb
  rw [hk _ _ hb]
  exact h
 ·cases h
theorem Kept.cells (hk:Kept W W') {a:Addr} {n:Nat} {cs:List Value} (h:W.cells? 0 a n=some cs):W'.cells? 0 a n=some cs:=by
 unfold World.cells? at h ⊢
 rw [if_pos (Nat.zero_le _)] at h ⊢
 exact mapM_mono (fun _ _ _ hx=>hk.cell hx) h
def ArgT (P:Program) (m:Nat) (t:TypeId) (x:PV):Prop:=match partsOf P t with
 | some _=>∃ xs,x=.agg xs∧TyT P m t xs
 | none=>TyT P m t [x]
def fzOf (W:World):Fzn:=fun b=>match W.heap[b]? with
 | some (.cells c _ _)=>some c.toList
 | _=>none
theorem fzOf_all (W:World):AllCells (fzOf W) W:=fun b c t z h=>by simp [fzOf,h]
theorem fzOf_some {b:Nat} {arr:List Value} (h:fzOf W b=some arr):∃ c t z,W.heap[b]?=some (.cells c t z)∧arr=c.toList:=by
 unfold fzOf at h
 split at h
 ·rename_i c t z hb
  injection h with h
  exact⟨c,t,z,hb,h.symm⟩
 ·cases h
end
def gtOK (P:Program) (m:Nat):List (Nat × List PV)→List (String × DataW Unit)→Prop
 | [],_=>True
 | (g,cs)::r,(n,d)::r'=>P.globalNamed n=some g∧(∃ t,(P.globals[g]?).map (·.type)=some t∧supp P m t=true)∧flatD d=some cs∧gtOK P m r r'
 | _::_,[]=>False
theorem glob_of_laid {P:Program} {m:Nat} {W:World}:∀ {gt:List (Nat × List PV)} {laid:List (String × DataW Unit)} {ps:List MemPlace},gtOK P m gt laid→DataW.LaidVars P W laid ps→∀ g cs,gget gt g=some cs→GlobV (fzOf W) g cs
 | [],_,_,_,_,g,cs,h=>by simp [gget] at h
 | (g',cs')::r,[],_,hg,_,g,cs,h=>by simp [gtOK] at hg
 | (g',cs')::r,(n,d)::r',ps,hg,hl,g,cs,h=>by
  obtain⟨h1,⟨t,h2,h3⟩,h4,h5⟩:=hg
  obtain⟨g0,t0,cs0,fuel,p,q,k1,k2,k3,k4,k5,k6⟩:=hl
  rw [h1] at k1
  injection k1 with k1
  subst k1
  rw [h2] at k2
  injection k2 with k2
  subst k2
  simp only [gget] at h
  split at h
  ·rename_i he
   have he:=Nat.eq_of_beq_eq_true he
   subst he
   injection h with h
   subst h
   obtain⟨g1,g2⟩:=laid_of_trod (fz:=fzOf W) m t fuel _ _ _ h3 k4 h4
   have hb:∃ ty z,W.heap[g']?=some (.cells cs0 ty z):=by
    unfold World.var? at k3
    rw [h1] at k3
    simp only [Option.bind_some] at k3
    split at k3
    ·rename_i c ty z hb
     injection k3 with k3
     subst k3
     exact⟨ty,z,hb⟩
    ·cases k3
   obtain⟨ty,z,hb⟩:=hb
   exact⟨by simp only [VP];exact⟨g',0,cs0.toList,cs0.toList,rfl,fzOf_all W _ _ _ _ hb,g1,[],[],by simp,rfl,g2⟩,cs0.toList,fzOf_all W _ _ _ _ hb,VPL_length g1⟩
  ·exact glob_of_laid h5 k5 g cs h
section
variable {cx:Cx}
end
end Go.Proofs.YtmepdfingcmkmaaGreatDoor.Y
namespace Go.Proofs.YtmepdfingcmkmaaGreatDoor
open Go Y
set_option maxRecDepth 100000
set_option maxHeartbeats 4000000
theorem ty_u8 {m:Nat} {xs:List PV} (h:TyT Tryz.prog (m+1) 5 xs):∃ b:UInt8,xs=[u8 b]:=by
 have hp:partsOf Tryz.prog 5=none:=by simp [partsOf,Tryz.underlying5]
 simp only [TyT,hp,Tryz.underlying5] at h
 obtain⟨n,rfl,hw⟩:=h
 have:=bounds_u8 hw
 refine⟨UInt8.ofNat n.toNat,?_⟩
 have e:((UInt8.ofNat n.toNat).toNat:Int)=n:=by
  simp
  omega
 rw [u8,e]
theorem lift_list {α:Type} {f:α→PV} {P:α→Prop} {ys:List PV} (h:∀ y∈ys,∃ a,y=f a∧P a):∃ zs:List α,ys=zs.map f∧∀ z∈zs,P z:=by
 induction ys with
 | nil=>exact⟨[],rfl,by simp⟩
 | cons y r ih=>
  obtain⟨a,rfl,ha⟩:=h y (by simp)
  obtain⟨zs,rfl,hz⟩:=ih fun z hz=>h z (by simp [hz])
  exact⟨a::zs,rfl,fun z hm=>by rcases List.mem_cons.1 hm with rfl | hm;exact ha;exact hz z hm⟩
theorem lift_lists {α:Type} {f:α→List PV} {P:α→Prop} {ys:List (List PV)} (h:∀ y∈ys,∃ a,y=f a∧P a):∃ zs:List α,ys=zs.map f∧∀ z∈zs,P z:=by
 induction ys with
 | nil=>exact⟨[],rfl,by simp⟩
 | cons y r ih=>
  obtain⟨a,rfl,ha⟩:=h y (by simp)
  obtain⟨zs,rfl,hz⟩:=ih fun z hz=>h z (by simp [hz])
  exact⟨a::zs,rfl,fun z hm=>by rcases List.mem_cons.1 hm with rfl | hm;exact ha;exact hz z hm⟩
theorem ty_int {m:Nat} {xs:List PV} (h:TyT Tryz.prog (m+1) 3 xs):∃ n,xs=[i64 n]∧-9223372036854775808≤n∧n≤9223372036854775807:=by
 have hp:partsOf Tryz.prog 3=none:=by simp [partsOf,Tryz.underlying3]
 simp only [TyT,hp,Tryz.underlying3] at h
 obtain⟨n,rfl,hw⟩:=h
 exact⟨n,rfl,bounds_i64 hw⟩
theorem ty_str {m:Nat} {xs:List PV} (h:TyT Tryz.prog (m+1) 9 xs):∃ s,xs=[.str s]∧s.length≤9223372036854775807:=by
 have hp:partsOf Tryz.prog 9=none:=by simp [partsOf,Tryz.underlying9]
 simp only [TyT,hp,Tryz.underlying9] at h
 obtain⟨n,rfl,hl⟩:=h
 exact⟨n,rfl,hl⟩
theorem ty_bool {m:Nat} {xs:List PV} (h:TyT Tryz.prog (m+1) 4 xs):∃ b,xs=[.bool b]:=by
 have hp:partsOf Tryz.prog 4=none:=by simp [partsOf,Tryz.underlying4]
 simp only [TyT,hp,Tryz.underlying4] at h
 exact h
end Go.Proofs.YtmepdfingcmkmaaGreatDoor
namespace Go.Proofs.YtmepdfingcmkmaaGreatDoor.Y
open Go
def okT (P:Program) (S:List TypeId) (t:TypeId):Bool:=match partsOf P t with
 | some l=>decide (tiles P l 0=some (P.cellsOf t)) && l.all fun f=>elemN f.1 S
 | none=>match P.underlying t with
  | some (.slice e)=>decide (0<P.cellsOf e) && elemN e S
  | some d=>basic d
  | none=>false
def closedS (P:Program) (S:List TypeId):Bool:=S.all (okT P S)
theorem elemN_memS {n:Nat}:∀ {l:List Nat},elemN n l=true→n∈l
 | [],h=>by simp [elemN] at h
 | m::r,h=>by
  rw [elemN] at h
  split at h
  ·rename_i e
   rw [Nat.eq_of_beq_eq_true e];exact List.mem_cons_self ..
  ·exact List.mem_cons_of_mem _ (elemN_memS h)
theorem closed_get {P:Program} {S:List TypeId} {t:TypeId} (hS:closedS P S=true) (h:elemN t S=true):okT P S t=true:=List.all_eq_true.1 hS _ (elemN_memS h)
def ArgsE (P:Program):List TypeId→List PV→Prop
 | [],xs=>xs=[]
 | t::ts,xs=>∃ x r,xs=x::r∧(∃ m,ArgT P m t x)∧ArgsE P ts r
theorem Flds_mono {P:Program} {p q:TypeId→List PV→Prop} (h:∀ t xs,p t xs→q t xs):∀ {l:List (TypeId × Nat)} {xs:List PV},Flds P p l xs→Flds P q l xs
 | [],_,hx=>hx
 | _::_,_,⟨ys,zs,e,h1,h2,h3⟩=>⟨ys,zs,e,h1,h _ _ h2,Flds_mono h h3⟩
theorem TyT_up {P:Program}:∀ (m:Nat) (t:TypeId) (xs:List PV),TyT P m t xs→TyT P (m+1) t xs
 | 0,_,_,h=>h.elim
 | m+1,t,xs,h=>by
  have ih:=TyT_up (P:=P) m
  cases hp:partsOf P t with
  | some l=>
   simp only [TyT,hp] at h ⊢
   exact Flds_mono ih h
  | none=>
   cases hu:P.underlying t with
   | none=>simp only [TyT,hp,hu] at h
   | some d=>
    cases d with
    | bool=>simp only [TyT,hp,hu] at h ⊢;exact h
    | int k=>simp only [TyT,hp,hu] at h ⊢;exact h
    | string=>simp only [TyT,hp,hu] at h ⊢;exact h
    | slice e=>
     simp only [TyT,hp,hu] at h ⊢
     cases hb:Nat.beq (P.cellsOf e) 1 with
     | true=>
      simp only [hb] at h ⊢
      obtain⟨ys,h1,h2,h3⟩:=h
      exact⟨ys,h1,h2,fun y hy=>ih _ _ (h3 y hy)⟩
     | false=>
      simp only [hb] at h ⊢
      obtain⟨ys,h1,h2,h3⟩:=h
      exact⟨ys,h1,h2,fun y hy=>ih _ _ (h3 y hy)⟩
    | _=>simp only [TyT,hp,hu] at h
theorem ArgT_up {P:Program} {m:Nat} {t:TypeId} {x:PV} (h:ArgT P m t x):∀ k,ArgT P (m+k) t x
 | 0=>h
 | k+1=>by
  have ih:=ArgT_up h k
  unfold ArgT at ih ⊢
  split at ih
  ·rename_i hp
   obtain⟨xs,e,hx⟩:=ih
   exact⟨xs,e,TyT_up _ _ _ hx⟩
  ·exact TyT_up _ _ _ ih
section
variable {H:Type} {enc:TypeId × Value→H} {P:Program} {W:World} {sp:Nat→Bool} {held:Bool}
theorem typed_of_trodS {fz:Fzn} (hfz:AllCells fz W) {S:List TypeId} (hS:closedS P S=true):∀ (n:Nat) (t:TypeId) (cs:List Value) (x:DataW H × List MemPlace),elemN t S=true→DataW.trod enc P W 0 sp held n t cs=some x→Rd P fz n t cs
 | 0,_,_,_,_,h=>by simp [DataW.trod] at h
 | m+1,t,cs,x,hs,h=>by
  have ih:=typed_of_trodS hfz hS m
  have hs:=closed_get hS hs
  simp only [okT] at hs
  cases hp:partsOf P t with
  | some l=>
   simp only [hp,Bool.and_eq_true,decide_eq_true_eq,List.all_eq_true] at hs
   obtain⟨xs,k,h1,h2,h3,h4,h5⟩:=parts_trod hp h
   obtain rfl:m=k:=by omega
   obtain⟨ys,g1,g2,g3⟩:=flds_of (fz:=fz) (m:=m) (cs:=cs) l 0 (by rw [h3];exact hs.1) fun f hf=>by
    obtain⟨i,hi,rfl⟩:=List.getElem_of_mem hf
    have:=h5 i _ (List.getElem?_eq_getElem hi)
    rw [List.getElem?_eq_getElem (by omega)] at this
    exact ih _ _ _ (hs.2 _ hf) this
   exact⟨ys,by simpa using g1,by simpa using g2,by simp only [TyT,hp];exact g3⟩
  | none=>
   simp only [hp] at hs
   cases hu:P.underlying t with
   | none=>simp [hu] at hs
   | some d=>
    simp only [hu] at hs
    cases d with
    | bool=>
     obtain⟨b,rfl,_⟩:=DataW.trod_bool hu h
     exact⟨[.bool b],by simp [VPL,VP],by simp [plainV],by simp [TyT,hp,hu]⟩
    | int k=>
     obtain⟨b,rfl,_,hw⟩:=DataW.trod_int hu h
     exact⟨[.int k b],by simp [VPL,VP],by simp [plainV],by simp [TyT,hp,hu,hw]⟩
    | string=>
     obtain⟨⟨⟨s⟩⟩,rfl,_,hw⟩:=DataW.trod_string hu h
     exact⟨[.str s],by simp [VPL,VP],by simp [plainV],by simp only [TyT,hp,hu];exact⟨s,rfl,hw⟩⟩
    | slice e=>
     simp only [Bool.and_eq_true,decide_eq_true_eq] at hs
     obtain⟨hs0,hse⟩:=hs
     have fin:∀ (v:Value) (len:Nat) (yss:List (List PV)),len≤maxLen→yss.length=len→(∀ ys∈yss,ys.length=P.cellsOf e∧TyT P m e ys)→plainV v=true →
       (yss=[]→∃ a c,v=.slice a 0 c)→(yss ≠ []→∃ b o c arr us,v=.slice (some ⟨b,o,none⟩) len c∧len≤c∧fz b=some arr∧VPLL fz (P.cellsOf e) yss us∧Seg arr o us)→Rd P fz (m+1) t [v]:=by
      intro v len yss hml hlen hty hpl hnil hcons
      by_cases h1:P.cellsOf e=1
      ·have hfl:=flat_singles (l:=yss) fun c hc=>by rw [(hty c hc).1,h1]
       refine⟨[.lst yss.flatten],?_,by simpa using hpl,?_⟩
       ·simp only [VPL]
        refine⟨v,[],rfl,?_,rfl⟩
        simp only [VP]
        by_cases hy:yss=[]
        ·exact .inl ⟨by simp [hy],hnil hy⟩
        ·obtain⟨b,o,c,arr,us,k1,k2,k3,k4,k5⟩:=hcons hy
         exact .inr ⟨b,o,c,arr,us,by rw [hfl.1,hlen];exact k1,by rw [hfl.1,hlen];exact k2,k3,(VPLL_flat.1 k4).1,k5⟩
       ·simp only [TyT,hp,hu,h1]
        exact⟨_,rfl,by rw [hfl.1,hlen];exact hml,fun y hy=>(hty _ (hfl.2 y hy)).2⟩
      ·refine⟨[.lsts (P.cellsOf e) yss],?_,by simpa using hpl,?_⟩
       ·simp only [VPL]
        refine⟨v,[],rfl,?_,rfl⟩
        simp only [VP]
        by_cases hy:yss=[]
        ·exact .inl ⟨hy,hnil hy⟩
        ·obtain⟨b,o,c,arr,us,k1,k2,k3,k4,k5⟩:=hcons hy
         exact .inr ⟨b,o,c,arr,us,by rw [hlen];exact k1,by rw [hlen];exact k2,k3,k4,k5⟩
       ·have hb:Nat.beq (P.cellsOf e) 1=false:=beq_ne h1
        simp only [TyT,hp,hu,hb]
        exact⟨_,rfl,by rw [hlen];exact hml,fun y hy=>(hty _ hy).2⟩
     rcases DataW.trod_slice hu h with ⟨rfl,_⟩ | ⟨a,len,cap,elems,rest,n',hn',rfl,_,_,hlc,hcm,hel,hE,_,_⟩
     ·exact fin _ 0 [] (by simp [maxLen]) rfl (by simp) rfl (fun _=>⟨none,0,rfl⟩) (by simp)
     ·obtain rfl:m=n':=by omega
      have hcs:∀ i,i<len→∃ cs',W.cells? 0 (a.add (i * P.cellsOf e)) (P.cellsOf e)=some cs'∧Rd P fz m e cs':=by
       intro i hi
       have:=hE i hi
       rw [List.getElem?_eq_getElem (by omega),Option.bind_eq_some_iff] at this
       obtain⟨cs',h1,h2⟩:=this
       exact⟨cs',h1,ih _ _ _ hse h2⟩
      by_cases hl0:len=0
      ·subst hl0
       exact fin _ 0 [] (by simp [maxLen]) rfl (by simp) rfl (fun _=>⟨_,_,rfl⟩) (by simp)
      ·obtain⟨cs0,c1,_⟩:=hcs 0 (by omega)
       have ha:a.add (0 * P.cellsOf e)=a:=by simp [Addr.add]
       rw [ha] at c1
       obtain⟨c,tt,z,hb,hsp,_,_,_⟩:=cells_take hs0 c1
       have key:∀ k,k≤len→∃ yss us,yss.length=k∧VPLL fz (P.cellsOf e) yss us∧(∀ u∈us,plainV u=true)∧(∀ ys∈yss,ys.length=P.cellsOf e∧TyT P m e ys)∧(k ≠ 0→a.off+k * P.cellsOf e≤c.toList.length)∧us=(c.toList.drop a.off).take (k * P.cellsOf e):=by
        intro k
        induction k with
        | zero=>intro _;exact⟨[],[],rfl,by simp [VPLL],by simp,by simp,by simp,by simp⟩
        | succ k ihk=>
         intro hk
         obtain⟨yss,us,k1,k2,k3,k4,k5,k6⟩:=ihk (by omega)
         obtain⟨cs',d1,ys,d2,d3,d4⟩:=hcs k (by omega)
         obtain⟨c',tt',z',e1,e2,e3,e4,e5⟩:=cells_take hs0 d1
         have hblk:(a.add (k * P.cellsOf e)).block=a.block:=by unfold Addr.add;split <;> rfl
         have hoff:(a.add (k * P.cellsOf e)).off=a.off+k * P.cellsOf e:=by unfold Addr.add;split <;> simp_all
         rw [hblk,hb] at e1
         simp only [Option.some.injEq,Obj.cells.injEq] at e1
         obtain⟨rfl,_,_⟩:=e1
         rw [hoff] at e4 e5
         have hys:ys.length=P.cellsOf e:=by rw [← VPL_length d2,e3]
         have hf:=VPLL_flat.1 k2
         refine⟨yss++[ys],us++cs',by simp [k1],VPLL_flat.2 ⟨?_,?_⟩,?_,?_,fun _=>by rw [Nat.succ_mul];omega,?_⟩
         ·simpa using VPL_append hf.1 d2
         ·intro q hq;rcases List.mem_append.1 hq with hq | hq
          ·exact hf.2 q hq
          ·simp at hq;subst hq;exact hys
         ·intro u hu;rcases List.mem_append.1 hu with hu | hu
          ·exact k3 u hu
          ·exact d3 u hu
         ·intro q hq;rcases List.mem_append.1 hq with hq | hq
          ·exact k4 q hq
          ·simp at hq;subst hq;exact⟨hys,d4⟩
         ·rw [k6,e5,Nat.succ_mul,List.take_add,List.drop_drop]
       obtain⟨yss,us,k1,k2,k3,k4,k5,k6⟩:=key len (Nat.le_refl _)
       have k5:=k5 hl0
       have hne:yss ≠ []:=by intro e;subst e;simp at k1;omega
       refine fin _ len yss (by omega) k1 k4 rfl (fun e=>absurd e hne) fun _=>⟨a.block,a.off,cap,c.toList,us,?_,hlc,hfz _ _ _ _ hb,k2,?_⟩
       ·obtain⟨ab,ao,asp⟩:=a;simp only [] at hsp;subst hsp;rfl
       ·refine⟨c.toList.take a.off,c.toList.drop (a.off+len * P.cellsOf e),?_,?_,k3⟩
        ·rw [k6,List.append_assoc,← List.drop_drop,List.take_append_drop,List.take_append_drop]
        ·rw [List.length_take];omega
    | _=>simp [basic] at hs
end
section
variable {H:Type} {enc:TypeId × Value→H} {P:Program} {W W':World} {sp':Nat→Bool} {held:Bool}
theorem trod_keptS (hk:Kept W W') (hsp:∀ b,b<W.heap.size→sp' b=true) {S:List TypeId} (hS:closedS P S=true):∀ (n:Nat) (t:TypeId) (cs:List Value) (x:DataW H × List MemPlace),elemN t S=true→DataW.trod enc P W 0 (fun _=>true) held n t cs=some x→DataW.trod enc P W' 0 sp' held n t cs=some x
 | 0,t,cs,x,hs,h=>by simp [DataW.trod] at h
 | n+1,t,cs,x,hs,h=>by
  have ih:=trod_keptS hk hsp hS n
  have hs:=closed_get hS hs
  simp only [okT] at hs
  cases hu:P.underlying t with
  | none=>
   have hp:partsOf P t=none:=by simp [partsOf,hu]
   simp [hp,hu] at hs
  | some d=>
   cases d with
   | struct fs=>
    have hp:partsOf P t=some (fs.toList.map fun f=>(f.type,f.offset)):=by simp [partsOf,hu]
    simp only [hp,Bool.and_eq_true,List.all_eq_true] at hs
    unfold DataW.trod at h ⊢
    rw [hu] at h ⊢
    simp only [] at h ⊢
    split at h
    ·rename_i hl
     rw [if_pos hl]
     rw [Option.map_eq_some_iff] at h ⊢
     obtain⟨xs,h1,h2⟩:=h
     exact⟨xs,mapM_mono (fun f hf y hy=>ih _ _ _ (hs.2 (f.type,f.offset) (List.mem_map_of_mem hf)) hy) h1,h2⟩
    ·cases h
   | array k e=>
    have hp:partsOf P t=some ((List.range k).map fun i=>(e,i * P.cellsOf e)):=by simp [partsOf,hu]
    simp only [hp,Bool.and_eq_true,List.all_eq_true] at hs
    unfold DataW.trod at h ⊢
    rw [hu] at h ⊢
    simp only [] at h ⊢
    split at h
    ·rename_i hl
     rw [if_pos hl]
     rw [Option.map_eq_some_iff] at h ⊢
     obtain⟨xs,h1,h2⟩:=h
     exact⟨xs,mapM_mono (fun i hi y hy=>ih _ _ _ (hs.2 (e,i * P.cellsOf e) (List.mem_map_of_mem hi)) hy) h1,h2⟩
    ·cases h
   | bool=>
    obtain⟨b,rfl,rfl⟩:=DataW.trod_bool hu h
    unfold DataW.trod;rw [hu]
   | int k=>
    obtain⟨b,rfl,rfl,hw⟩:=DataW.trod_int hu h
    unfold DataW.trod;rw [hu];simp [hw]
   | string=>
    obtain⟨s,rfl,rfl,hw⟩:=DataW.trod_string hu h
    unfold DataW.trod;rw [hu];simp [hw]
   | slice e=>
    have hp:partsOf P t=none:=by simp [partsOf,hu]
    simp only [hp,hu,Bool.and_eq_true,decide_eq_true_eq] at hs
    rcases DataW.trod_slice hu h with ⟨rfl,rfl⟩ | ⟨a,len,cap,_,_,_,_,rfl,_⟩
    ·unfold DataW.trod;rw [hu];rfl
    unfold DataW.trod at h ⊢
    rw [hu] at h ⊢
    simp only [if_true] at h ⊢
    split at h
    rotate_left
    ·cases h
    rename_i hc
    rw [if_pos hc]
    rw [Option.bind_eq_some_iff] at h ⊢
    obtain⟨elems,h1,h2⟩:=h
    rw [Option.map_eq_some_iff] at h2
    obtain⟨rest,h2,h3⟩:=h2
    have el:∀ i y,(W.cells? 0 (a.add (i * P.cellsOf e)) (P.cellsOf e)).bind (DataW.trod enc P W 0 (fun _=>true) held n e)=some y→(W'.cells? 0 (a.add (i * P.cellsOf e)) (P.cellsOf e)).bind (DataW.trod enc P W' 0 sp' held n e)=some y:=by
     intro i y hy
     rw [Option.bind_eq_some_iff] at hy ⊢
     obtain⟨cs',g1,g2⟩:=hy
     exact⟨cs',hk.cells g1,ih _ _ _ hs.2 g2⟩
    refine⟨elems,mapM_mono (fun i _ y hy=>el i y hy) h1,?_⟩
    rw [Option.map_eq_some_iff]
    refine⟨rest,?_,h3⟩
    by_cases hd:cap - len=0
    ·rw [hd] at h2 ⊢
     simp at h2
     subst h2
     cases sp' a.block <;> simp
    ·have hb:a.block<W.heap.size:=by
      have hl:=mapM_some_length h2
      rw [List.length_range] at hl
      have:=mapM_some_get h2 0 0 (by rw [List.getElem?_eq_getElem (by simp;omega)];simp)
      rw [List.getElem?_eq_getElem (by omega),Option.bind_eq_some_iff] at this
      obtain⟨cs',g1,_⟩:=this
      obtain⟨c,t',z,g3,_⟩:=cells_take hs.1 g1
      have hblk:(a.add ((len+0) * P.cellsOf e)).block=a.block:=by unfold Addr.add;split <;> rfl
      rw [hblk] at g3
      exact(Array.getElem?_eq_some_iff.1 g3).1
     rw [if_pos (hsp _ hb)]
     exact mapM_mono (fun i _ y hy=>el (len+i) y hy) h2
   | _=>
    have hp:partsOf P t=none:=by simp [partsOf,hu]
    simp [hp,hu,basic] at hs
theorem trodAll_keptS (hk:Kept W W') (hsp:∀ b,b<W.heap.size→sp' b=true) {S:List TypeId} (hS:closedS P S=true):∀ {ts:List TypeId} {vs:List Value} {ds:List (DataW H)} {ps:List MemPlace},ts.all (fun t=>elemN t S)=true→DataW.TrodAll enc P W 0 (fun _=>true) held ts vs ds ps→DataW.TrodAll enc P W' 0 sp' held ts vs ds ps
 | [],[],[],ps,_,h=>h
 | t::ts,v::vs,d::ds,ps,hs,h=>by
  simp only [List.all_cons,Bool.and_eq_true] at hs
  obtain⟨p,q,⟨fuel,h1⟩,h2,h3⟩:=h
  exact⟨p,q,⟨fuel,trod_keptS hk hsp hS _ _ _ _ hs.1 h1⟩,trodAll_keptS hk hsp hS hs.2 h2,h3⟩
 | [],[],_::_,ps,_,h=>by simp [DataW.TrodAll] at h
 | [],_::_,_,ps,_,h=>by simp [DataW.TrodAll] at h
 | _::_,[],_,ps,_,h=>by simp [DataW.TrodAll] at h
 | _::_,_::_,[],ps,_,h=>by simp [DataW.TrodAll] at h
theorem arg_ofS {S:List TypeId} (hS:closedS P S=true) {base:Nat} {t:TypeId} {v:Value} {d:DataW H} {ps:List MemPlace} (hs:elemN t S=true) (hval:Value.okWide P W .any base t v) (h:DataW.Trod enc P W 0 (fun _=>true) true t v d ps):∃ x,VP (fzOf W) x v∧∃ m,ArgT P m t x:=by
 obtain⟨fuel,h⟩:=h
 obtain⟨xs,h1,h2,h3⟩:=typed_of_trodS (fzOf_all W) hS fuel t _ _ hs h
 unfold Value.okWide at hval
 cases hp:partsOf P t with
 | some l=>
  have:∃ cs,v=.agg cs:=by
   unfold partsOf at hp
   split at hp
   ·rename_i fs hu;simp only [hu] at hval;obtain⟨cs,h,_⟩:=hval;exact⟨cs,h⟩
   ·rename_i k e hu;simp only [hu] at hval;obtain⟨cs,h,_⟩:=hval;exact⟨cs,h⟩
   ·cases hp
  obtain⟨cs,rfl⟩:=this
  exact⟨.agg xs,by simp only [VP];exact⟨cs,rfl,h1⟩,fuel,by simp only [ArgT,hp];exact⟨xs,rfl,h3⟩⟩
 | none=>
  have hv:v.cells=#[v]:=by
   have hs:=closed_get hS hs
   ·simp only [okT,hp] at hs
    cases hu:P.underlying t with
    | none=>simp [hu] at hs
    | some d=>
     simp only [hu] at hs hval
     cases d with
     | struct fs=>simp [partsOf,hu] at hp
     | array k e=>simp [partsOf,hu] at hp
     | bool=>cases v <;> simp_all [Cell.okWide,Cell.ok,Value.cells]
     | int k=>cases v <;> simp_all [Cell.okWide,Cell.ok,Value.cells]
     | string=>cases v <;> simp_all [Cell.okWide,Cell.ok,Value.cells]
     | slice e=>cases v <;> simp_all [Cell.okWide,Cell.ok,Value.cells]
     | _=>simp [basic] at hs
  rw [hv] at h1
  obtain⟨x,rfl,h4⟩:∃ x,xs=[x]∧VP (fzOf W) x v:=by
   match xs,h1 with
   | [],h1=>simp [VPL] at h1
   | x::r,h1=>
    simp only [VPL] at h1
    obtain⟨u,us,e,g1,g2⟩:=h1
    simp only [List.cons.injEq] at e
    obtain⟨rfl,rfl⟩:=e
    match r,g2 with
    | [],_=>exact⟨x,rfl,g1⟩
    | y::r,g2=>simp [VPL] at g2
  exact⟨x,h4,fuel,by simp only [ArgT,hp];exact h3⟩
theorem args_ofS {S:List TypeId} (hS:closedS P S=true) {base:Nat}:∀ {ts:List TypeId} {vs:List Value} {ds:List (DataW H)} {ps:List MemPlace},ts.all (fun t=>elemN t S)=true→(∀ (j:Nat) t v,ts[j]?=some t→vs[j]?=some v→Value.okWide P W .any base t v)→DataW.TrodAll enc P W 0 (fun _=>true) true ts vs ds ps →
  ∃ xs,VPL (fzOf W) xs vs∧ArgsE P ts xs∧ds.length=ts.length
 | [],[],[],ps,_,_,_=>⟨[],by simp [VPL],rfl,rfl⟩
 | t::ts,v::vs,d::ds,ps,hs,hv,h=>by
  simp only [List.all_cons,Bool.and_eq_true] at hs
  obtain⟨p,q,h1,h2,h3⟩:=h
  obtain⟨x,g1,g2⟩:=arg_ofS hS hs.1 (hv 0 t v rfl rfl) h1
  obtain⟨xs,k1,k2,k3⟩:=args_ofS hS hs.2 (fun j t v ht hv'=>hv (j+1) t v ht hv') h2
  exact⟨x::xs,by simp only [VPL];exact⟨v,vs,rfl,g1,k1⟩,⟨x,xs,rfl,g2,k2⟩,by simp [k3]⟩
 | [],[],_::_,ps,_,_,h=>by simp [DataW.TrodAll] at h
 | [],_::_,_,ps,_,_,h=>by simp [DataW.TrodAll] at h
 | _::_,[],_,ps,_,_,h=>by simp [DataW.TrodAll] at h
 | _::_,_::_,[],ps,_,_,h=>by simp [DataW.TrodAll] at h
end
section
variable {cx:Cx}
theorem calls_of_pureS {S:List TypeId} (hS:closedS cx.P S=true) {H:Type} {enc:TypeId × Value→H} {W:World} {f:FuncId} {fn:Func} {c:Code} {base:Nat} {args:Array Value} {ds:List (DataW H)} {ps:List MemPlace}
  (hf : cx.P.funcs[f]? = some fn) (hname : (fn.name == "runtime.NumGoroutine") = false) (hb : fn.body = some c) (hs : fn.params.toList.all (fun t => elemN t S) = true)
  (hpure:∀ xs,ArgsE cx.P fn.params.toList xs→Pure cx f xs (·=.ret [.bool true]))
  (hval:∀ (j:Nat) t v,fn.params[j]?=some t→args[j]?=some v→Value.okWide cx.P W .any base t v)
  (hA:DataW.TrodAll enc cx.P W 0 (fun _=>true) true fn.params.toList args.toList ds ps)
  (hglob:∀ g cs,gget cx.gt g=some cs→GlobV (fzOf W) g cs) :
  Calls cx.P f args W fun e W'=>e=.returned (.bool true)∧W'.os=W.os∧W'.output=W.output∧∀ k,k<W.heap.size→W'.heap[k]?=W.heap[k]?:=by
 obtain⟨xs,h1,h2,_⟩:=args_ofS hS hs (fun j t v ht hv=>hval j t v (by simpa using ht) (by simpa using hv)) hA
 have hR:R cx ⟨fun _=>none,fzOf W⟩ ⟨0,[]⟩ W:=by
  refine⟨hglob,fun _ _=>rfl,fun b arr hb=>?_,fun n o hn=>by simp [lget] at hn,fun n o q hn=>by simp [lget] at hn,fun n o m p q q' hn=>by simp [lget] at hn⟩
  obtain⟨c,t,z,g1,rfl⟩:=fzOf_some hb
  exact⟨t,z,g1⟩
 have key:∀ e w',Post cx ⟨fun _=>none,fzOf W⟩ ⟨0,[]⟩ W (EndP (·=.ret [.bool true])) e w'→e=.returned (.bool true)∧w'.os=W.os∧w'.output=W.output∧∀ k,k<W.heap.size→w'.heap[k]?=W.heap[k]?:=by
  intro e w' hP
  obtain⟨r,Γ',hq,_,hE,_,hT,_⟩:=pure_post hR hP
  subst hq
  obtain⟨v',rfl,hv⟩:=hE
  simp only [VR,VP] at hv
  subst hv
  exact⟨rfl,hT.os,hT.output,fun k hk=>hT.kept k hk own_nil⟩
 have hrun:=run_enter hf hname hb args W
 rcases hpure xs h2 ⟨fun _=>none,fzOf W⟩ W args.toList hR (VRL_p.2 h1) with ⟨_,h4⟩ | ⟨v',w',h4,_⟩
 ·exact h4.mono key
 ·rw [hrun] at h4
  injection h4 with h4
  cases h4
theorem post_of_keptS {S:List TypeId} (hS:closedS cx.P S=true) {H:Type} {enc:TypeId × Value→H} {W W':World} {fn:Func} {s:ChangeSpec} {bt:TypeId} {apart fresh handsOn:Bool} {args:Array Value} {ds gs:List (DataW H)} {before:List MemPlace}
  (hs:fn.params.toList.all (fun t=>elemN t S)=true) (hvars:s.vars=[]) (hres:fn.resultTypes=#[bt]) (hbt:cx.P.underlying bt=some .bool)
  (hfn:∀ ds:List (DataW H),ds.length=fn.params.toList.length→s.fn H ds={ results:=[.lit (.bool true)],args:=ds })
  (hW:DataW.Whole enc cx.P fn.params.toList s.vars apart W args.toList ds gs before) (hlen:ds.length=fn.params.toList.length)
  (hos:W'.os=W.os) (hout:W'.output=W.output) (hkept:∀ k,k<W.heap.size→W'.heap[k]?=W.heap[k]?) :
  s.post enc cx.P fn apart fresh handsOn false W args (.bool true) W':=by
 have hk:Kept W W':=fun b o hb=>by rw [hkept b (Array.getElem?_eq_some_iff.1 hb).1];exact hb
 have hW':=hW
 obtain⟨p,q,h1,h2,_,_,_⟩:=hW'
 rw [hvars] at h2
 obtain⟨rfl,rfl⟩:=Go.ChangeShapes.trodVars_none h2
 have e:s.fn H (ds++[])={ results:=[.lit (.bool true)],args:=ds }:=by rw [List.append_nil];exact hfn ds hlen
 refine⟨ds,[],before,[],p,[],hW,?_,?_,?_,?_,fun h=>by cases h⟩
 ·rw [e,hres]
  exact Go.ChangeShapes.trodAll_mk1 (Go.RowKit.shut_bool hbt true)
 ·rw [e]
  exact trodAll_keptS hk (fun b hb=>by simpa using hb) hS hs h1
 ·rw [e,hvars]
  rfl
 ·refine⟨hos,hout,fun i hi=>?_⟩
  rw [hkept i hi]
  have:=Array.getElem?_eq_getElem hi
  rw [this]
  cases W.heap[i] <;> simp
end
end Go.Proofs.YtmepdfingcmkmaaGreatDoor.Y
namespace Go.Proofs.YtmepdfingcmkmaaGreatDoor
open Go Y
set_option maxRecDepth 100000
set_option maxHeartbeats 4000000
theorem ta_u8:∀ {m:Nat} {xs:List PV},TyT Tryz.prog m 5 xs→∃ b:UInt8,xs=[u8 b]
 | 0,_,h=>h.elim
 | _+1,_,h=>ty_u8 h
theorem ta_int:∀ {m:Nat} {xs:List PV},TyT Tryz.prog m 3 xs→∃ n,xs=[i64 n]∧-9223372036854775808≤n∧n≤9223372036854775807
 | 0,_,h=>h.elim
 | _+1,_,h=>ty_int h
theorem ta_str:∀ {m:Nat} {xs:List PV},TyT Tryz.prog m 9 xs→∃ s,xs=[.str s]∧s.length≤9223372036854775807
 | 0,_,h=>h.elim
 | _+1,_,h=>ty_str h
theorem ta_ints:∀ {m:Nat} {xs:List PV},TyT Tryz.prog m 28 xs→∃ l:List Int,xs=[ints l]∧l.length≤9223372036854775807
 | 0,_,h=>h.elim
 | m+1,xs,h=>by
  have hp:partsOf Tryz.prog 28=none:=by simp [partsOf,Tryz.underlying28]
  have hc:Tryz.prog.cellsOf 3=1:=by kernel_rfl
  rw [TyT] at h
  simp only [hp,Tryz.underlying28,hc] at h
  obtain⟨ys,rfl,hl,hy⟩:=h
  obtain⟨l,rfl,_⟩:=lift_list (f:=i64) (P:=fun _=>True) fun y hy'=>by
   obtain⟨b,hb,_⟩:=ta_int (hy y hy')
   simp at hb
   exact⟨b,hb,trivial⟩
  exact⟨l,rfl,by rw [List.length_map] at hl;exact hl⟩
theorem ta_ref:∀ {m:Nat} {xs:List PV},TyT Tryz.prog m TRef xs→∃ r:Rf,xs=r.cells∧BigR r
 | 0,_,h=>h.elim
 | m+1,xs,h=>by
  have hp:partsOf Tryz.prog TRef=some [(9,0),(3,1),(9,2),(3,3)]:=by kernel_rfl
  rw [TyT] at h
  simp only [hp] at h
  obtain⟨x1,_,rfl,_,h1,x2,_,rfl,_,h2,x3,_,rfl,_,h3,x4,_,rfl,_,h4,rfl⟩:=h
  obtain⟨a,rfl,ha⟩:=ta_str h1
  obtain⟨b,rfl,_⟩:=ta_int h2
  obtain⟨c,rfl,hc⟩:=ta_str h3
  obtain⟨d,rfl,_⟩:=ta_int h4
  exact⟨⟨a,b,c,d⟩,rfl,ha,hc⟩
theorem bigCs_of:∀ {l:List Cd},(∀ c∈l,BigC c)→BigCs l
 | [],_=>by simp only [BigCs]
 | c::l,h=>by
  simp only [BigCs]
  exact⟨h c (List.mem_cons_self ..),bigCs_of fun x hx=>h x (List.mem_cons_of_mem _ hx)⟩
theorem ta_cond:∀ (m:Nat) {xs:List PV},TyT Tryz.prog m TCond xs→∃ c:Cd,xs=c.cells∧BigC c
 | 0,_,h=>h.elim
 | 1,xs,h=>by
  have hp:partsOf Tryz.prog TCond=some [(3,0),(3,1),(3,2),(3,3),(TRef,4),(28,8),(29,9)]:=by kernel_rfl
  rw [TyT] at h
  simp only [hp] at h
  obtain⟨x1,_,rfl,_,h1,_⟩:=h
  exact h1.elim
 | m+2,xs,h=>by
  have hp:partsOf Tryz.prog TCond=some [(3,0),(3,1),(3,2),(3,3),(TRef,4),(28,8),(29,9)]:=by kernel_rfl
  rw [TyT] at h
  simp only [hp] at h
  obtain⟨x1,_,rfl,_,h1,x2,_,rfl,_,h2,x3,_,rfl,_,h3,x4,_,rfl,_,h4,x5,_,rfl,_,h5,x6,_,rfl,_,h6,x7,_,rfl,_,h7,rfl⟩:=h
  obtain⟨a,rfl,_⟩:=ta_int h1
  obtain⟨b,rfl,_⟩:=ta_int h2
  obtain⟨c,rfl,_⟩:=ta_int h3
  obtain⟨d,rfl,_⟩:=ta_int h4
  obtain⟨r,rfl,hr⟩:=ta_ref h5
  obtain⟨s,rfl,hs⟩:=ta_ints h6
  have hp2:partsOf Tryz.prog 29=none:=by simp [partsOf,Tryz.underlying29]
  have hc2:Tryz.prog.cellsOf TCond=10:=by kernel_rfl
  rw [TyT] at h7
  simp only [hp2,Tryz.underlying29,hc2] at h7
  obtain⟨ys,rfl,hn,hy⟩:=h7
  obtain⟨l,rfl,hl⟩:=lift_lists (f:=Cd.cells) (P:=BigC) fun y hy'=>ta_cond m (hy y hy')
  rw [List.length_map] at hn
  refine⟨.mk a b c d r s l,by rw [Cd.cells,cellsL_map];rfl,?_⟩
  simp only [BigC]
  exact⟨hr,hs,hn,bigCs_of hl⟩
structure Be where
 what:UInt8
 place:UInt8
 cse:UInt8
 n:Int
 name:List UInt8
 ref:Rf
 cond:Cd
abbrev Be.cells (b:Be):List PV:=[u8 b.what,u8 b.place,u8 b.cse,i64 b.n, .str b.name]++(b.ref.cells++b.cond.cells)
structure Be.ok (b:Be):Prop where
 n:-9223372036854775808≤b.n∧b.n≤9223372036854775807
 name:BigS b.name
 ref:BigR b.ref
 cond:BigC b.cond
theorem arg_bend38 {m:Nat} {x:PV} (h:ArgT Tryz.prog m 56 x):∃ b:Be,x=.agg b.cells∧b.ok:=by
 have hp:partsOf Tryz.prog 56=some [(5,0),(5,1),(5,2),(3,3),(9,4),(TRef,5),(TCond,9)]:=by kernel_rfl
 simp only [ArgT,hp] at h
 obtain⟨xs,rfl,h⟩:=h
 cases m with
 | zero=>exact h.elim
 | succ m=>
  rw [TyT] at h
  simp only [hp] at h
  obtain⟨x1,_,rfl,_,h1,x2,_,rfl,_,h2,x3,_,rfl,_,h3,x4,_,rfl,_,h4,x5,_,rfl,_,h5,x6,_,rfl,_,h6,x7,_,rfl,_,h7,rfl⟩:=h
  obtain⟨a,rfl⟩:=ta_u8 h1
  obtain⟨b,rfl⟩:=ta_u8 h2
  obtain⟨c,rfl⟩:=ta_u8 h3
  obtain⟨n,rfl,hn⟩:=ta_int h4
  obtain⟨s,rfl,hs⟩:=ta_str h5
  obtain⟨r,rfl,hr⟩:=ta_ref h6
  obtain⟨cd,rfl,hcd⟩:=ta_cond _ h7
  exact⟨⟨a,b,c,n,s,r,cd⟩,by simp [Be.cells],hn,hs,hr,hcd⟩
set_option maxHeartbeats 40000000
structure Small (d:Nat) (c:Cd) (n:Nat):Prop where
 pos:1≤n
 valid:∀ left,n≤left→condV d c left=some (left - n)
 big:BigC c
 len:(spW true (condT c)).length≤240 * n
theorem leaf_few {op n rel val:Int} {r:Rf} {st:List Int} (hb:leafB op n rel val r st=true) (hs:st.length≤4):(leafT op n rel val r st).length≤21:=by
 unfold leafB at hb
 unfold leafT
 by_cases c6:op=6
 ·rw [if_neg (by omega),if_neg (by omega),if_pos c6] at hb
  simp only [Bool.and_eq_true,decide_eq_true_eq] at hb
  have hr:=ref_toks hb.1.1.1.1.1.1
  rw [if_pos c6]
  simp only [List.length_append,List.length_cons,List.length_nil];omega
 ·rw [if_neg c6]
  by_cases c5:op=5
  ·rw [if_neg (by omega),if_pos c5] at hb
   simp only [Bool.and_eq_true,decide_eq_true_eq] at hb
   obtain⟨⟨⟨⟨b1,b2⟩,b3⟩,b4⟩,b5⟩:=hb
   rw [if_pos c5]
   have hr:=ref_toks b1
   have hset:=setB_facts b5
   have hs:=sep_toks (f:=fun n=>[digT n]) (b:=1) (l:=st) fun a ha=>⟨allT_cons (tok_dig (hset.2.1 a ha)) allT_nil,by simp⟩
   simp only [List.length_append,List.length_cons,List.length_nil];omega
  ·rw [if_neg c5]
   by_cases c1:op=1∨op=2∨op=3∨op=4
   ·rw [if_pos c1] at hb
    simp only [Bool.and_eq_true,decide_eq_true_eq] at hb
    have hr:=ref_toks hb.1.1.1.1
    simp only [List.length_append,List.length_cons,List.length_nil];omega
   ·rw [if_neg c1,if_neg c5,if_neg c6] at hb
    cases hb
theorem ref_bigB {r:Rf} (h:refB r=true):BigR r:=by
 obtain⟨nm,m,pl,n⟩:=r
 rw [refB,Bool.and_eq_true] at h
 have h1:=name_len h.1
 refine⟨by show nm.length≤_;have h1:nm.length≤10:=h1;omega,?_⟩
 have h2:=h.2
 simp only [] at h2
 show pl.length≤_
 split at h2
 ·simp only [Bool.and_eq_true,decide_eq_true_eq] at h2
  rw [h2.1];simp
 ·split at h2
  ·simp only [Bool.and_eq_true] at h2
   have:=name_len h2.1
   omega
  ·split at h2
   ·simp only [Bool.and_eq_true,decide_eq_true_eq] at h2
    rw [h2.1];simp
   ·cases h2
theorem leafB_ref {op n rel val:Int} {r:Rf} {st:List Int} (hb:leafB op n rel val r st=true):refB r=true:=(leafB_facts hb).1
theorem leaf_small {op n rel val:Int} {r:Rf} {st:List Int} (h7:¬ op=7) (h8:¬ op=8) (h9:¬ op=9) (hb:leafB op n rel val r st=true) (hs:st.length≤4) (d:Nat):Small (d+1) (.mk op n rel val r st []) 1:=by
 refine⟨Nat.le_refl _,fun left hl=>?_,big_leaf (ref_bigB (leafB_ref hb)) (by omega),?_⟩
 ·rw [condV,if_neg (by omega),if_pos]
  ·rfl
  ·have h0:argsN op=0:=by rw [argsN,if_neg h7,if_neg (by omega)]
   rw [headB,if_pos h0,hb];rfl
 ·rw [condT_leaf h7 h8 h9]
  have h1:=leaf_few hb hs
  have h2:=spW_len true (leaf_toks hb).1
  omega
theorem len_in (k:Nat) (p:Int × Toks):(spW true (inT k p)).length≤(spW true p.2).length+4:=by
 unfold inT
 split
 ·show(spW true ([tLP]++(p.2++[tRP]))).length≤_
  rw [spW_t,spW_t]
  simp [spW]
 ·omega
theorem two_small {d na nb:Nat} {a b:Cd} {op:Int} (ho:op=8∨op=9) (ha:Small d a na) (hb:Small d b nb):Small (d+1) (.mk op 0 0 0 rf0 [] [a,b]) (1+na+nb):=by
 have h1:=ha.pos
 have h2:=hb.pos
 have l1:=ha.len
 have l2:=hb.len
 refine⟨by omega,fun left hl=>?_,big_two ha.big hb.big,?_⟩
 ·rw [condV,if_neg (by omega),if_pos]
  ·show(do
    let l ← condV d a (left - 1)
    let l ← condV d b l
    some l)=_
   rw [ha.valid _ (by omega)]
   show(do
    let l ← condV d b (left - 1 - na)
    some l)=_
   rw [hb.valid _ (by omega)]
   show some _=some _
   congr 1;omega
  ·rcases ho with rfl | rfl <;> rfl
 ·rcases ho with rfl | rfl
  ·rw [condT_conj,spW_t]
   have k1:=len_in 2 (a.op,condT a)
   have k2:=len_in 3 (b.op,condT b)
   simp only [] at k1 k2
   show((spW true (inT 2 (a.op,condT a)))++spW true ([tAnd]++inT 3 (b.op,condT b))).length≤_
   rw [spW_t,List.length_append,List.length_append]
   have k3:(spW true [tAnd]).length=4:=rfl
   omega
  ·rw [condT_disj,spW_t]
   have k1:=len_in 1 (a.op,condT a)
   have k2:=len_in 2 (b.op,condT b)
   simp only [] at k1 k2
   show((spW true (inT 1 (a.op,condT a)))++spW true ([tOr]++inT 2 (b.op,condT b))).length≤_
   rw [spW_t,List.length_append,List.length_append]
   have k3:(spW true [tOr]).length=3:=rfl
   omega
theorem neg_small {d na:Nat} {a:Cd} (ha:Small d a na):Small (d+1) (.mk 7 0 0 0 rf0 [] [a]) (1+na):=by
 have h1:=ha.pos
 have l1:=ha.len
 refine⟨by omega,fun left hl=>?_,big_one ha.big,?_⟩
 ·rw [condV,if_neg (by omega),if_pos]
  ·show(do
    let l ← condV d a (left - 1)
    some l)=_
   rw [ha.valid _ (by omega)]
   show some _=some _
   congr 1;omega
  ·rfl
 ·rw [condT_neg]
  have k1:=len_in 3 (a.op,condT a)
  simp only [] at k1
  show(spW true ([tNot]++inT 3 (a.op,condT a))).length≤_
  rw [spW_t,List.length_append]
  have k3:(spW true [tNot]).length=4:=rfl
  omega
def abxy:List UInt8:=[97,98,120,121]
def GrQ (d:Nat) (l:List UInt8) (r:PEnd):Prop:=∃ (c:Cd) (n:Nat) (rest:List UInt8),r=.ret [c.pv, .lst (rest.map u8)]∧Small d c n∧n+2 * rest.length≤2 * l.length+1
def GrOK (d:Nat):Prop:=∀ (p:Nat) (l:List UInt8),p+d=9→l.length≤1000→Pure cx 58 [.lst (l.map u8),i64 p] (GrQ d l)
def GrN (d:Nat) (l:List UInt8) (r:PEnd):Prop:=∃ (y z:PV) (c:Cd) (n:Nat) (rest:List UInt8),r=.ret [y,z]∧NilD y c.pv∧NilD z (.lst (rest.map u8))∧Small d c n∧n+2 * rest.length≤2 * l.length+1
theorem gr_weak {d:Nat} {l:List UInt8} {g:FuncId} {args:List PV} (h:Pure cx g args (GrN d l)):Pure cx g args (GrQ d l):=
 h.weak fun r hr=>by
  obtain⟨y,z,c,n,rest,rfl,h1,h2,h3,h4⟩:=hr
  exact⟨.ret [c.pv, .lst (rest.map u8)],⟨_,rfl,_,_,rfl,h1,_,_,rfl,h2,rfl⟩,c,n,rest,rfl,h3,h4⟩
theorem a_name:nameN [97]=true:=by decide
theorem p_name:nameN [112]=true:=by decide
theorem refB0 {nm:List UInt8} (h:nameN nm=true):refB ⟨nm,0,[],0⟩=true:=by rw [refB,h];rfl
theorem refB3 {nm:List UInt8} (h:nameN nm=true):refB ⟨nm,3,[],0⟩=true:=by rw [refB,h];rfl
theorem refB2 {nm:List UInt8} {n:Int} (h:nameN nm=true) (hn:natB n=true):refB ⟨nm,2,[],n⟩=true:=by
 show(nameN nm && (decide (([]:List UInt8)=[]) && natB n))=true
 rw [h,hn];rfl
theorem refB1 {nm pl:List UInt8} {n:Int} (h:nameN nm=true) (hp:nameN pl=true) (hn:natB n=true):refB ⟨nm,1,pl,n⟩=true:=by
 show(nameN nm && (nameN pl && natB n))=true
 rw [h,hp,hn];rfl
theorem leafB1 {op n:Int} {r:Rf} (ho:1≤op∧op≤4) (hr:refB r=true) (hn:natB n=true):leafB op n 0 0 r []=true:=by
 unfold leafB
 rw [if_pos (by omega),hr,hn];rfl
theorem leafB6 {n rel val:Int} {nm:List UInt8} (h:nameN nm=true) (hn:natB n=true) (hv:natB val=true) (hr:1≤rel∧rel≤4):leafB 6 n rel val ⟨nm,3,[],0⟩ []=true:=by
 unfold leafB
 rw [if_neg (by decide),if_neg (by decide),if_pos rfl,refB3 h,hn,hv,decide_eq_true hr.1,decide_eq_true hr.2];rfl
theorem leafB5 {r:Rf} {st:List Int} (hr:refB r=true) (hs:setB st=true):leafB 5 0 0 0 r st=true:=by
 unfold leafB
 rw [if_neg (by decide),if_pos rfl,hr,hs];rfl
abbrev otG:OT:=(.pure 0 (.pure 1 (.pure 2 (.pure 3 (.pure 4 (.pure 5 (.pure 6 (.pure 7 (.eff 8 [] (.pure 9 .fin) .nil)))))))))
theorem setB_tail:∀ j,j<4→setB (([0,1,2,9999]:List Int).drop j)=true:=by decide
theorem abxy2:∀ j,j<4→nameN ((abxy.drop j).take (j+1 - j))=true:=by decide
theorem nat_q (v k:Nat) (hv:v<256):natB ((v / k:Nat):Int)=true:=nat_of (Int.natCast_nonneg _) (Int.le_trans (Int.ofNat_le.2 (Nat.div_le_self v k)) (by omega))
theorem nat_qm (v a k:Nat) (hv:v<256):natB ((v / a % k:Nat):Int)=true:=nat_of (Int.natCast_nonneg _) (Int.le_trans (Int.ofNat_le.2 (Nat.le_trans (Nat.mod_le (v / a) k) (Nat.div_le_self v a))) (by omega))
theorem nil_leafD (rf:Rf) (L:List Int) (j:Nat):NilD (.agg [i64 5,i64 0,i64 0,i64 0, .str rf.name,i64 rf.mode, .str rf.plate,i64 rf.n, .lst ((L.map i64).drop j), .nils]) (Cd.mk 5 0 0 0 rf (L.drop j) []).pv:=by
 rw [← List.map_drop]
 exact nil_leaf 5 0 0 0 rf (L.drop j)
theorem nil_two (op:Int) (l:List Cd):NilD (.agg [i64 op,i64 0,i64 0,i64 0, .str [],i64 0, .str [],i64 0, .nils, .lsts 10 (cellsL l)]) (Cd.mk op 0 0 0 rf0 [] l).pv:=by
 show NilD _ (.agg [i64 op,i64 0,i64 0,i64 0, .str [],i64 0, .str [],i64 0, .lst [], .lsts 10 (cellsL l)])
 simp only [NilD,NilDL]
 exact⟨_,rfl,_,_,rfl,rfl,_,_,rfl,rfl,_,_,rfl,rfl,_,_,rfl,rfl,_,_,rfl,rfl,_,_,rfl,rfl,_,_,rfl,rfl,_,_,rfl,rfl,_,_,rfl, .inr (.inl rfl),_,_,rfl,⟨_,rfl,NilDLL.refl _⟩,rfl⟩
def nmV (v:Nat):List UInt8:=(abxy.drop (v / 16 % 4)).take (v / 16 % 4+1 - v / 16 % 4)
abbrev l9:List Int:=[0,1,2,9999]
theorem grow_step (d:Nat) (ih:d ≠ 0→GrOK d):GrOK (d+1):=by
 intro p l hp hl
 refine gr_weak ?_
 have hl':(l.map u8).length=l.length:=List.length_map ..
 refine pure_of_vc Tryz.func58 rfl rfl rfl ?_
 by_cases h0:l=[]
 ·subst h0
  refine And.intro (fun _=>?_) (fun h=>absurd rfl h)
  refine end2 (.agg [i64 1,i64 0,i64 0,i64 0, .str [97],i64 0, .str [],i64 0, .nils, .nils]) .nils rfl rfl (.inl rfl) ?_
  exact⟨_,_, .mk 1 0 0 0 ⟨[97],0,[],0⟩ [] [],1,[],rfl,nil_leaf2 1 0 0 0 ⟨[97],0,[],0⟩,by simp [NilD],leaf_small (by decide) (by decide) (by decide) (leafB1 (by decide) (refB0 a_name) (by decide)) (by decide) d,by simp⟩
 obtain⟨b,t,rfl⟩:∃ b t,l=b::t:=by
  cases l with
  | nil=>exact absurd rfl h0
  | cons b t=>exact⟨b,t,rfl⟩
 refine And.intro (fun h=>absurd (show(((b::t).map u8).length:Int)=0 from h) (by rw [hl'];simp only [List.length_cons];omega)) (fun _=>?_)
 have hv:b.toNat<256:=b.toNat_lt
 obtain⟨v,hve⟩:∃ v,v=b.toNat:=⟨_,rfl⟩
 rw [← hve] at hv
 simp only [List.length_cons] at hl
 refine⟨_,⟨by decide,u8 b,rfl,rfl⟩,?_⟩
 refine⟨(v:Int),by rw [hve];exact wrap_i64 (by omega) (by omega),?_⟩
 clear hve
 refine⟨by show(0:Int)≤1∧(1:Int)≤(((b::t).map u8).length:Nat);rw [hl'];simp only [List.length_cons];omega,?_⟩
 have e8:(v:Int).tmod 8=((v % 8:Nat):Int):=rfl
 have e4:((v / 16:Nat):Int).tmod 4=((v / 16 % 4:Nat):Int):=rfl
 have hn:nameN (nmV v)=true:=abxy2 _ (by omega)
 refine⟨by decide,((v / 16:Nat):Int),by show _=IntKind.i64.wrap ((v:Int).tdiv 16);rw [show(v:Int).tdiv 16=((v / 16:Nat):Int) from rfl];exact wrap_i64 (by omega) (by omega),?_⟩
 refine⟨by decide,?_⟩
 refine⟨by decide,((v / 16:Nat):Int),by show _=IntKind.i64.wrap ((v:Int).tdiv 16);rw [show(v:Int).tdiv 16=((v / 16:Nat):Int) from rfl];exact wrap_i64 (by omega) (by omega),?_⟩
 refine⟨by decide,?_⟩
 refine⟨((v / 16 % 4+1:Nat):Int),by show _=IntKind.i64.wrap (((v / 16:Nat):Int).tmod 4+1);rw [e4,Int.natCast_add];exact wrap_i64 (by omega) (by omega),?_⟩
 refine⟨by show(0:Int)≤((v / 16:Nat):Int).tmod 4∧((v / 16:Nat):Int).tmod 4≤((v / 16 % 4+1:Nat):Int)∧((v / 16 % 4+1:Nat):Int)≤4;rw [e4];omega,?_⟩
 by_cases c1:p<8
 ·refine And.intro (fun _=>?_) (fun h=>absurd (show(p:Int)<8 by first | (rw [e8];omega) | omega) h)
  refine⟨by decide,?_⟩
  by_cases c2:v % 8<2
  ·refine And.intro (fun _=>?_) (fun h=>absurd (show(v:Int).tmod 8<2 by first | (rw [e8];omega) | omega) h)
   refine⟨((p+1:Nat):Int),by rw [Int.natCast_add];exact wrap_i64 (by omega) (by omega),?_⟩
   refine(ih (by omega) (p+1) t (by omega) (by omega)).at fun r hr=>?_
   obtain⟨⟨ao,an,ar,av,af,as',aa⟩,na,t2,rfl,sa,la⟩:=hr
   refine⟨((p+1:Nat):Int),by rw [Int.natCast_add];exact wrap_i64 (by omega) (by omega),?_⟩
   refine(ih (by omega) (p+1) t2 (by omega) (by omega)).at fun r hr=>?_
   obtain⟨⟨bo,bn,br,bv,bf,bs,ba⟩,nb,t3,rfl,sb,lb⟩:=hr
   refine⟨by decide,?_⟩
   refine⟨8+((v % 2:Nat):Int),by show _=IntKind.i64.wrap (8+(v:Int).tmod 2);rw [show(v:Int).tmod 2=((v % 2:Nat):Int) from rfl];exact wrap_i64 (by omega) (by omega),?_⟩
   refine end2 (.agg [i64 (8+((v % 2:Nat):Int)),i64 0,i64 0,i64 0, .str [],i64 0, .str [],i64 0, .nils, .lsts 10 (cellsL [.mk ao an ar av af as' aa, .mk bo bn br bv bf bs ba])]) (.lst (t3.map u8)) rfl ⟨_,rfl,_,_,rfl,rfl,_,_,rfl,rfl,_,_,rfl,rfl,_,_,rfl,rfl,_,_,rfl,rfl,_,_,rfl,rfl,_,_,rfl,rfl,_,_,rfl,rfl,_,_,rfl, .inl rfl,_,_,rfl,⟨_,rfl,Nat.le_refl _,rfl⟩,rfl⟩ rfl ?_
   exact⟨_,_, .mk (8+((v % 2:Nat):Int)) 0 0 0 rf0 [] [.mk ao an ar av af as' aa, .mk bo bn br bv bf bs ba],_,t3,rfl,nil_two _ _,NilD.refl _,two_small (by omega) sa sb,by simp only [List.length_cons];omega⟩
  ·refine And.intro (fun h=>absurd (show(v:Int).tmod 8<2 from h) (by first | (rw [e8];omega) | omega)) (fun _=>?_)
   refine And.intro (fun _=>?_) (fun h=>absurd (show(p:Int)<8 by first | (rw [e8];omega) | omega) h)
   refine⟨by decide,?_⟩
   by_cases c3:v % 8=2
   ·refine And.intro (fun _=>?_) (fun h=>absurd (show(v:Int).tmod 8=2 by first | (rw [e8];omega) | omega) h)
    refine⟨((p+1:Nat):Int),by rw [Int.natCast_add];exact wrap_i64 (by omega) (by omega),?_⟩
    refine(ih (by omega) (p+1) t (by omega) (by omega)).at fun r hr=>?_
    obtain⟨⟨ao,an,ar,av,af,as',aa⟩,na,t2,rfl,sa,la⟩:=hr
    refine end2 (.agg [i64 7,i64 0,i64 0,i64 0, .str [],i64 0, .str [],i64 0, .nils, .lsts 10 (cellsL [.mk ao an ar av af as' aa])]) (.lst (t2.map u8)) rfl ⟨_,rfl,_,_,rfl,rfl,_,_,rfl,rfl,_,_,rfl,rfl,_,_,rfl,rfl,_,_,rfl,rfl,_,_,rfl,rfl,_,_,rfl,rfl,_,_,rfl,rfl,_,_,rfl, .inl rfl,_,_,rfl,⟨_,rfl,Nat.le_refl _,rfl⟩,rfl⟩ rfl ?_
    exact⟨_,_, .mk 7 0 0 0 rf0 [] [.mk ao an ar av af as' aa],_,t2,rfl,nil_two 7 _,NilD.refl _,neg_small sa,by simp only [List.length_cons];omega⟩
   ·refine And.intro (fun h=>absurd (show(v:Int).tmod 8=2 from h) (by first | (rw [e8];omega) | omega)) (fun _=>?_)
    refine⟨by decide,?_⟩
    by_cases k3:v % 8=3
    ·refine And.intro (fun _=>?_) (fun h=>absurd (show(v:Int).tmod 8=3 by first | (rw [e8];omega) | omega) h)
     refine⟨by decide,((v / 64:Nat):Int),by show _=IntKind.i64.wrap ((v:Int).tdiv 64);rw [show(v:Int).tdiv 64=((v / 64:Nat):Int) from rfl];exact wrap_i64 (by omega) (by omega),?_⟩
     refine⟨by decide,((v / 8:Nat):Int),by show _=IntKind.i64.wrap ((v:Int).tdiv 8);rw [show(v:Int).tdiv 8=((v / 8:Nat):Int) from rfl];exact wrap_i64 (by omega) (by omega),?_⟩
     refine⟨by decide,?_⟩
     refine⟨1+((v / 8 % 4:Nat):Int),by show _=IntKind.i64.wrap (1+((v / 8:Nat):Int).tmod 4);rw [show((v / 8:Nat):Int).tmod 4=((v / 8 % 4:Nat):Int) from rfl];exact wrap_i64 (by omega) (by omega),?_⟩
     refine⟨by decide,((v / 32:Nat):Int),by show _=IntKind.i64.wrap ((v:Int).tdiv 32);rw [show(v:Int).tdiv 32=((v / 32:Nat):Int) from rfl];exact wrap_i64 (by omega) (by omega),?_⟩
     refine⟨by decide,?_⟩
     refine end2 (.agg [i64 6,i64 ((v / 32 % 3:Nat):Int),i64 (1+((v / 8 % 4:Nat):Int)),i64 ((v / 64:Nat):Int), .str (nmV v),i64 3, .str [],i64 0, .nils, .nils]) (.lst (t.map u8)) rfl rfl rfl ?_
     exact⟨_,_, .mk 6 ((v / 32 % 3:Nat):Int) (1+((v / 8 % 4:Nat):Int)) ((v / 64:Nat):Int) ⟨nmV v,3,[],0⟩ [] [],1,t,rfl,nil_leaf2 6 _ _ _ ⟨nmV v,3,[],0⟩,NilD.refl _,leaf_small (by decide) (by decide) (by decide) (leafB6 hn (nat_qm v 32 3 hv) (nat_q v 64 hv) (by omega)) (by decide) d,by simp only [List.length_cons];omega⟩
    refine And.intro (fun h=>absurd (show(v:Int).tmod 8=3 from h) (by first | (rw [e8];omega) | omega)) (fun _=>?_)
    refine⟨by decide,?_⟩
    by_cases k4:v % 8=4
    ·refine And.intro (fun _=>?_) (fun h=>absurd (show(v:Int).tmod 8=4 by first | (rw [e8];omega) | omega) h)
     refine⟨by decide,((v / 32:Nat):Int),by show _=IntKind.i64.wrap ((v:Int).tdiv 32);rw [show(v:Int).tdiv 32=((v / 32:Nat):Int) from rfl];exact wrap_i64 (by omega) (by omega),?_⟩
     refine⟨by decide,?_⟩
     refine vdraw_ot otG (by kernel_rfl) ?_
     refine⟨by decide,((v / 8:Nat):Int),by show _=IntKind.i64.wrap ((v:Int).tdiv 8);rw [show(v:Int).tdiv 8=((v / 8:Nat):Int) from rfl];exact wrap_i64 (by omega) (by omega),?_⟩
     refine⟨by decide,?_⟩
     refine⟨by show(0:Int)≤((v / 8:Nat):Int).tmod 4∧((v / 8:Nat):Int).tmod 4≤4;rw [show((v / 8:Nat):Int).tmod 4=((v / 8 % 4:Nat):Int) from rfl];omega,?_⟩
     refine end2 (.agg [i64 5,i64 0,i64 0,i64 0, .str (nmV v),i64 1, .str [112],i64 ((v / 32 % 3:Nat):Int), .lst ((l9.map i64).drop (v / 8 % 4)), .nils]) (.lst (t.map u8)) rfl rfl rfl ?_
     exact⟨_,_, .mk 5 0 0 0 ⟨nmV v,1,[112],((v / 32 % 3:Nat):Int)⟩ (l9.drop (v / 8 % 4)) [],1,t,rfl,nil_leafD ⟨nmV v,1,[112],((v / 32 % 3:Nat):Int)⟩ l9 (v / 8 % 4),NilD.refl _,leaf_small (by decide) (by decide) (by decide) (leafB5 (refB1 hn p_name (nat_qm v 32 3 hv)) (setB_tail _ (by omega))) (by rw [List.length_drop];show 4 - _≤4;omega) d,by simp only [List.length_cons];omega⟩
    refine And.intro (fun h=>absurd (show(v:Int).tmod 8=4 from h) (by first | (rw [e8];omega) | omega)) (fun _=>?_)
    refine⟨by decide,?_⟩
    by_cases k5:v % 8=5
    ·refine And.intro (fun _=>?_) (fun h=>absurd (show(v:Int).tmod 8=5 by first | (rw [e8];omega) | omega) h)
     refine⟨by decide,((v / 8:Nat):Int),by show _=IntKind.i64.wrap ((v:Int).tdiv 8);rw [show(v:Int).tdiv 8=((v / 8:Nat):Int) from rfl];exact wrap_i64 (by omega) (by omega),?_⟩
     refine⟨by decide,?_⟩
     refine⟨by decide,((v / 8:Nat):Int),by show _=IntKind.i64.wrap ((v:Int).tdiv 8);rw [show(v:Int).tdiv 8=((v / 8:Nat):Int) from rfl];exact wrap_i64 (by omega) (by omega),?_⟩
     refine⟨by decide,?_⟩
     refine⟨1+((v / 8 % 4:Nat):Int),by show _=IntKind.i64.wrap (1+((v / 8:Nat):Int).tmod 4);rw [show((v / 8:Nat):Int).tmod 4=((v / 8 % 4:Nat):Int) from rfl];exact wrap_i64 (by omega) (by omega),?_⟩
     refine⟨by decide,((v / 64:Nat):Int),by show _=IntKind.i64.wrap ((v:Int).tdiv 64);rw [show(v:Int).tdiv 64=((v / 64:Nat):Int) from rfl];exact wrap_i64 (by omega) (by omega),?_⟩
     refine end2 (.agg [i64 (1+((v / 8 % 4:Nat):Int)),i64 ((v / 64:Nat):Int),i64 0,i64 0, .str (nmV v),i64 2, .str [],i64 ((v / 8 % 4:Nat):Int), .nils, .nils]) (.lst (t.map u8)) rfl rfl rfl ?_
     exact⟨_,_, .mk (1+((v / 8 % 4:Nat):Int)) ((v / 64:Nat):Int) 0 0 ⟨nmV v,2,[],((v / 8 % 4:Nat):Int)⟩ [] [],1,t,rfl,nil_leaf2 _ _ 0 0 ⟨nmV v,2,[],((v / 8 % 4:Nat):Int)⟩,NilD.refl _,leaf_small (by omega) (by omega) (by omega) (leafB1 (by omega) (refB2 hn (nat_qm v 8 4 hv)) (nat_q v 64 hv)) (by decide) d,by simp only [List.length_cons];omega⟩
    refine And.intro (fun h=>absurd (show(v:Int).tmod 8=5 from h) (by first | (rw [e8];omega) | omega)) (fun _=>?_)
    refine⟨by decide,((v / 8:Nat):Int),by show _=IntKind.i64.wrap ((v:Int).tdiv 8);rw [show(v:Int).tdiv 8=((v / 8:Nat):Int) from rfl];exact wrap_i64 (by omega) (by omega),?_⟩
    refine⟨by decide,?_⟩
    refine⟨1+((v / 8 % 4:Nat):Int),by show _=IntKind.i64.wrap (1+((v / 8:Nat):Int).tmod 4);rw [show((v / 8:Nat):Int).tmod 4=((v / 8 % 4:Nat):Int) from rfl];exact wrap_i64 (by omega) (by omega),?_⟩
    refine⟨by decide,((v / 64:Nat):Int),by show _=IntKind.i64.wrap ((v:Int).tdiv 64);rw [show(v:Int).tdiv 64=((v / 64:Nat):Int) from rfl];exact wrap_i64 (by omega) (by omega),?_⟩
    refine end2 (.agg [i64 (1+((v / 8 % 4:Nat):Int)),i64 ((v / 64:Nat):Int),i64 0,i64 0, .str (nmV v),i64 0, .str [],i64 0, .nils, .nils]) (.lst (t.map u8)) rfl rfl rfl ?_
    exact⟨_,_, .mk (1+((v / 8 % 4:Nat):Int)) ((v / 64:Nat):Int) 0 0 ⟨nmV v,0,[],0⟩ [] [],1,t,rfl,nil_leaf2 _ _ 0 0 ⟨nmV v,0,[],0⟩,NilD.refl _,leaf_small (by omega) (by omega) (by omega) (leafB1 (by omega) (refB0 hn) (nat_q v 64 hv)) (by decide) d,by simp only [List.length_cons];omega⟩
 ·refine And.intro (fun h=>absurd (show(p:Int)<8 from h) (by first | (rw [e8];omega) | omega)) (fun _=>?_)
  refine And.intro (fun h=>absurd (show(p:Int)<8 from h) (by first | (rw [e8];omega) | omega)) (fun _=>?_)
  refine⟨by decide,?_⟩
  by_cases k3:v % 8=3
  ·refine And.intro (fun _=>?_) (fun h=>absurd (show(v:Int).tmod 8=3 by first | (rw [e8];omega) | omega) h)
   refine⟨by decide,((v / 64:Nat):Int),by show _=IntKind.i64.wrap ((v:Int).tdiv 64);rw [show(v:Int).tdiv 64=((v / 64:Nat):Int) from rfl];exact wrap_i64 (by omega) (by omega),?_⟩
   refine⟨by decide,((v / 8:Nat):Int),by show _=IntKind.i64.wrap ((v:Int).tdiv 8);rw [show(v:Int).tdiv 8=((v / 8:Nat):Int) from rfl];exact wrap_i64 (by omega) (by omega),?_⟩
   refine⟨by decide,?_⟩
   refine⟨1+((v / 8 % 4:Nat):Int),by show _=IntKind.i64.wrap (1+((v / 8:Nat):Int).tmod 4);rw [show((v / 8:Nat):Int).tmod 4=((v / 8 % 4:Nat):Int) from rfl];exact wrap_i64 (by omega) (by omega),?_⟩
   refine⟨by decide,((v / 32:Nat):Int),by show _=IntKind.i64.wrap ((v:Int).tdiv 32);rw [show(v:Int).tdiv 32=((v / 32:Nat):Int) from rfl];exact wrap_i64 (by omega) (by omega),?_⟩
   refine⟨by decide,?_⟩
   refine end2 (.agg [i64 6,i64 ((v / 32 % 3:Nat):Int),i64 (1+((v / 8 % 4:Nat):Int)),i64 ((v / 64:Nat):Int), .str (nmV v),i64 3, .str [],i64 0, .nils, .nils]) (.lst (t.map u8)) rfl rfl rfl ?_
   exact⟨_,_, .mk 6 ((v / 32 % 3:Nat):Int) (1+((v / 8 % 4:Nat):Int)) ((v / 64:Nat):Int) ⟨nmV v,3,[],0⟩ [] [],1,t,rfl,nil_leaf2 6 _ _ _ ⟨nmV v,3,[],0⟩,NilD.refl _,leaf_small (by decide) (by decide) (by decide) (leafB6 hn (nat_qm v 32 3 hv) (nat_q v 64 hv) (by omega)) (by decide) d,by simp only [List.length_cons];omega⟩
  refine And.intro (fun h=>absurd (show(v:Int).tmod 8=3 from h) (by first | (rw [e8];omega) | omega)) (fun _=>?_)
  refine⟨by decide,?_⟩
  by_cases k4:v % 8=4
  ·refine And.intro (fun _=>?_) (fun h=>absurd (show(v:Int).tmod 8=4 by first | (rw [e8];omega) | omega) h)
   refine⟨by decide,((v / 32:Nat):Int),by show _=IntKind.i64.wrap ((v:Int).tdiv 32);rw [show(v:Int).tdiv 32=((v / 32:Nat):Int) from rfl];exact wrap_i64 (by omega) (by omega),?_⟩
   refine⟨by decide,?_⟩
   refine vdraw_ot otG (by kernel_rfl) ?_
   refine⟨by decide,((v / 8:Nat):Int),by show _=IntKind.i64.wrap ((v:Int).tdiv 8);rw [show(v:Int).tdiv 8=((v / 8:Nat):Int) from rfl];exact wrap_i64 (by omega) (by omega),?_⟩
   refine⟨by decide,?_⟩
   refine⟨by show(0:Int)≤((v / 8:Nat):Int).tmod 4∧((v / 8:Nat):Int).tmod 4≤4;rw [show((v / 8:Nat):Int).tmod 4=((v / 8 % 4:Nat):Int) from rfl];omega,?_⟩
   refine end2 (.agg [i64 5,i64 0,i64 0,i64 0, .str (nmV v),i64 1, .str [112],i64 ((v / 32 % 3:Nat):Int), .lst ((l9.map i64).drop (v / 8 % 4)), .nils]) (.lst (t.map u8)) rfl rfl rfl ?_
   exact⟨_,_, .mk 5 0 0 0 ⟨nmV v,1,[112],((v / 32 % 3:Nat):Int)⟩ (l9.drop (v / 8 % 4)) [],1,t,rfl,nil_leafD ⟨nmV v,1,[112],((v / 32 % 3:Nat):Int)⟩ l9 (v / 8 % 4),NilD.refl _,leaf_small (by decide) (by decide) (by decide) (leafB5 (refB1 hn p_name (nat_qm v 32 3 hv)) (setB_tail _ (by omega))) (by rw [List.length_drop];show 4 - _≤4;omega) d,by simp only [List.length_cons];omega⟩
  refine And.intro (fun h=>absurd (show(v:Int).tmod 8=4 from h) (by first | (rw [e8];omega) | omega)) (fun _=>?_)
  refine⟨by decide,?_⟩
  by_cases k5:v % 8=5
  ·refine And.intro (fun _=>?_) (fun h=>absurd (show(v:Int).tmod 8=5 by first | (rw [e8];omega) | omega) h)
   refine⟨by decide,((v / 8:Nat):Int),by show _=IntKind.i64.wrap ((v:Int).tdiv 8);rw [show(v:Int).tdiv 8=((v / 8:Nat):Int) from rfl];exact wrap_i64 (by omega) (by omega),?_⟩
   refine⟨by decide,?_⟩
   refine⟨by decide,((v / 8:Nat):Int),by show _=IntKind.i64.wrap ((v:Int).tdiv 8);rw [show(v:Int).tdiv 8=((v / 8:Nat):Int) from rfl];exact wrap_i64 (by omega) (by omega),?_⟩
   refine⟨by decide,?_⟩
   refine⟨1+((v / 8 % 4:Nat):Int),by show _=IntKind.i64.wrap (1+((v / 8:Nat):Int).tmod 4);rw [show((v / 8:Nat):Int).tmod 4=((v / 8 % 4:Nat):Int) from rfl];exact wrap_i64 (by omega) (by omega),?_⟩
   refine⟨by decide,((v / 64:Nat):Int),by show _=IntKind.i64.wrap ((v:Int).tdiv 64);rw [show(v:Int).tdiv 64=((v / 64:Nat):Int) from rfl];exact wrap_i64 (by omega) (by omega),?_⟩
   refine end2 (.agg [i64 (1+((v / 8 % 4:Nat):Int)),i64 ((v / 64:Nat):Int),i64 0,i64 0, .str (nmV v),i64 2, .str [],i64 ((v / 8 % 4:Nat):Int), .nils, .nils]) (.lst (t.map u8)) rfl rfl rfl ?_
   exact⟨_,_, .mk (1+((v / 8 % 4:Nat):Int)) ((v / 64:Nat):Int) 0 0 ⟨nmV v,2,[],((v / 8 % 4:Nat):Int)⟩ [] [],1,t,rfl,nil_leaf2 _ _ 0 0 ⟨nmV v,2,[],((v / 8 % 4:Nat):Int)⟩,NilD.refl _,leaf_small (by omega) (by omega) (by omega) (leafB1 (by omega) (refB2 hn (nat_qm v 8 4 hv)) (nat_q v 64 hv)) (by decide) d,by simp only [List.length_cons];omega⟩
  refine And.intro (fun h=>absurd (show(v:Int).tmod 8=5 from h) (by first | (rw [e8];omega) | omega)) (fun _=>?_)
  refine⟨by decide,((v / 8:Nat):Int),by show _=IntKind.i64.wrap ((v:Int).tdiv 8);rw [show(v:Int).tdiv 8=((v / 8:Nat):Int) from rfl];exact wrap_i64 (by omega) (by omega),?_⟩
  refine⟨by decide,?_⟩
  refine⟨1+((v / 8 % 4:Nat):Int),by show _=IntKind.i64.wrap (1+((v / 8:Nat):Int).tmod 4);rw [show((v / 8:Nat):Int).tmod 4=((v / 8 % 4:Nat):Int) from rfl];exact wrap_i64 (by omega) (by omega),?_⟩
  refine⟨by decide,((v / 64:Nat):Int),by show _=IntKind.i64.wrap ((v:Int).tdiv 64);rw [show(v:Int).tdiv 64=((v / 64:Nat):Int) from rfl];exact wrap_i64 (by omega) (by omega),?_⟩
  refine end2 (.agg [i64 (1+((v / 8 % 4:Nat):Int)),i64 ((v / 64:Nat):Int),i64 0,i64 0, .str (nmV v),i64 0, .str [],i64 0, .nils, .nils]) (.lst (t.map u8)) rfl rfl rfl ?_
  exact⟨_,_, .mk (1+((v / 8 % 4:Nat):Int)) ((v / 64:Nat):Int) 0 0 ⟨nmV v,0,[],0⟩ [] [],1,t,rfl,nil_leaf2 _ _ 0 0 ⟨nmV v,0,[],0⟩,NilD.refl _,leaf_small (by omega) (by omega) (by omega) (leafB1 (by omega) (refB0 hn) (nat_q v 64 hv)) (by decide) d,by simp only [List.length_cons];omega⟩
theorem grow_all:∀ d,GrOK (d+1)
 | 0=>grow_step 0 fun h=>absurd rfl h
 | d+1=>grow_step (d+1) fun _=>grow_all d
theorem tree_c (l:List UInt8) (hl:l.length≤9223372036854775807):Pure cx 31 [.lst (l.map u8)] fun r=>∃ (c:Cd) (n:Nat),r=.ret [c.pv]∧Small 8 c n∧n≤29:=by
 refine pure_of_vc Tryz.func31 rfl rfl rfl ?_
 have hl':(l.map u8).length=l.length:=List.length_map ..
 obtain⟨k,hk⟩:∃ k,k=min l.length 14:=⟨_,rfl⟩
 have em:(if (14:Int)<((l.map u8).length:Nat) then(14:Int) else((l.map u8).length:Nat))=(k:Nat):=by
  rw [hl',hk];split <;> omega
 refine⟨by show(0:Int)≤(if (14:Int)<((l.map u8).length:Nat) then(14:Int) else((l.map u8).length:Nat))∧(if (14:Int)<((l.map u8).length:Nat) then(14:Int) else((l.map u8).length:Nat))≤((l.map u8).length:Nat);rw [em,hl'];omega,?_⟩
 have hg:=grow_all 7 1 (l.take k) rfl (by rw [List.length_take];omega)
 have ea:[PV.lst ((l.take k).map u8),i64 ((1:Nat):Int)]=[PV.lst ((l.map u8).take (if (14:Int)<((l.map u8).length:Nat) then(14:Int) else((l.map u8).length:Nat)).toNat),i64 1]:=by
  rw [em,List.map_take];rfl
 rw [ea] at hg
 refine hg.at fun r hr=>?_
 obtain⟨⟨ao,an,ar,av,af,as',aa⟩,n,rest,rfl,hs,hn⟩:=hr
 exact end1 _ rfl rfl ⟨_,n,rfl,hs,by rw [List.length_take] at hn;omega⟩
abbrev withD (c:Cd):De:=⟨5,0,[],[],[],[⟨c,[1]⟩,⟨cd0,[-1,0]⟩]⟩
set_option maxHeartbeats 4000000
def isLP (t:List UInt8):Nat:=if t=tLP then 1 else 0
def lpP (ws:List Wd):Nat→Nat
 | 0=>0
 | q+1=>lpP ws q+isLP (txt ws q)
def pn (k:Nat) (p:Int × Nat):Nat:=p.2+if lvl p.1<k then 1 else 0
def cpJ (op:Int) (ps:List (Int × Nat)):Nat:=
 if op=9 then pn 1 (ps.getD 0 (0,0))+pn 2 (ps.getD 1 (0,0)) else if op=8 then pn 2 (ps.getD 0 (0,0))+pn 3 (ps.getD 1 (0,0)) else if op=7 then pn 3 (ps.getD 0 (0,0)) else if op=6 then 1 else 0
mutual
def cp:Cd→Nat
 | .mk op _ _ _ _ _ ar=>cpJ op (cpL ar)
def cpL:List Cd→List (Int × Nat)
 | []=>[]
 | c::r=>(c.op,cp c)::cpL r
end
def pin (k:Nat) (c:Cd):Nat:=pn k (c.op,cp c)
structure CLp (ws:List Wd) (F:Nat):Prop where
 cond:∀ {q c q'},condR ws F q=.inr (c,q')→lpP ws q+pin 1 c≤lpP ws q'
 orr:∀ {d q c q'},orR ws F d q=.inr (c,q')→∀ s,s+pin 1 d≤lpP ws q→s+pin 1 c≤lpP ws q'
 conj:∀ {q c q'},conjR ws F q=.inr (c,q')→lpP ws q+pin 2 c≤lpP ws q'
 andr:∀ {d q c q'},andR ws F d q=.inr (c,q')→∀ s,s+pin 2 d≤lpP ws q→s+pin 2 c≤lpP ws q'
 neg:∀ {q c q'},negR ws F q=.inr (c,q')→lpP ws q+pin 3 c≤lpP ws q'
 test:∀ {q c q'},testR ws F q=.inr (c,q')→lpP ws q+pin 4 c≤lpP ws q'
def lpT (x:Toks):Nat:=(x.map isLP).sum
def wgh (t:List UInt8):Int:=if t=tLP then 1 else if t=tRP then -1 else 0
def tot (x:Toks):Int:=(x.map wgh).sum
theorem tot_app (x y:Toks):tot (x++y)=tot x+tot y:=by rw [tot,List.map_append,List.sum_append];rfl
structure Bal (x:Toks):Prop where
 all:tot x=0
 pre:∀ n,0≤tot (x.take n)
theorem Bal.app {x y:Toks} (hx:Bal x) (hy:Bal y):Bal (x++y):=by
 refine⟨by rw [tot_app,hx.all,hy.all];rfl,fun n=>?_⟩
 rw [List.take_append,tot_app]
 have:=hx.pre n
 have:=hy.pre (n - x.length)
 omega
def Pl (t:List UInt8):Prop:=t ≠ tLP∧t ≠ tRP
structure CanP (c:Cd):Prop where
 bal:Bal (condT c)
 lp:lpT (condT c)=cp c
def rend1 (x:Toks):List UInt8:=x.flatMap fun t=>t++[32]
set_option maxHeartbeats 40000000
structure WithF (c:Cd):Prop where
 valid:validB [withD c]=true
 all:AllT (declT (withD c))
 num:(declT (withD c)).length≤1500
 txt:(textT [withD c]).length≤8000
 len:(rend1 (declT (withD c))).length≤8000
 can:CanP c
 big:BigP [withD c]
set_option maxHeartbeats 4000000
def lw:Toks→Nat
 | []=>0
 | x::l=>x.length+lw l
theorem lw_cons (t:List UInt8) (x:Toks):lw (t::x)=t.length+lw x:=rfl
theorem lw_n:lw []=0:=rfl
theorem lw_app:∀ a b:Toks,lw (a++b)=lw a+lw b
 | [],b=>by simp [lw]
 | x::a,b=>by rw [List.cons_append,lw,lw,lw_app a b];omega
def nbB (c:UInt8):Bool:=decide (c.toNat ≠ 32) && decide (c.toNat ≠ 10)
def nb (s:List UInt8):Nat:=(s.filter nbB).length
def PLt (p q:Nat × Nat):Prop:=p.1<q.1∨(p.1=q.1∧p.2<q.2)
theorem PLt.trans {p q r:Nat × Nat} (h:PLt p q) (k:PLt q r):PLt p r:=by
 unfold PLt at *;omega
structure WSp (s:List UInt8) (k:Nat) (acc:List Wd):Prop where
 pl:∀ w∈acc,∃ o,o<k∧o≤s.length∧w.line=(at_ s o).1∧w.col=(at_ s o).2
 ne:∀ i j,i<j→j<acc.length→¬ ((wat acc i).line=(wat acc j).line∧(wat acc i).col=(wat acc j).col)
 lw:lw (acc.map Wd.text)≤nb (s.take k)
theorem lw_dig (n:Int):(digT n).length≤4:=dig_len 4 _
theorem lw_dig1 {n:Int} (h:n≤9):(digT n).length≤1:=by
 rw [digT,digN,if_pos (by omega)]
 exact Nat.le_refl _
theorem lw_flat {α:Type} {f:α→Toks} {b:Nat}:∀ {l:List α},(∀ a∈l,lw (f a)≤b)→lw (l.flatMap f)≤b * l.length
 | [],_=>Nat.zero_le _
 | a::l,h=>by
  have h1:=h a (List.mem_cons_self ..)
  have h2:=lw_flat (l:=l) fun x hx=>h x (List.mem_cons_of_mem _ hx)
  rw [List.flatMap_cons,lw_app,List.length_cons,Nat.mul_succ];omega
theorem lw_sep {α:Type} {f:α→Toks} {b:Nat}:∀ {l:List α},(∀ a∈l,lw (f a)≤b)→lw (sepT f l)≤(b+1) * l.length
 | [],_=>Nat.zero_le _
 | a::l,h=>by
  have h1:=h a (List.mem_cons_self ..)
  have h2:=lw_flat (l:=l) (f:=fun b=>tComma::f b) (b:=b+1) fun x hx=>by
   have:=h x (List.mem_cons_of_mem _ hx)
   simp only [lw_cons,List.length_cons,List.length_nil];omega
  show lw (f a++l.flatMap fun b=>tComma::f b)≤_
  rw [lw_app,List.length_cons,Nat.mul_succ];omega
structure RfS (r:Rf):Prop where
 ok:refB r=true
 nm:r.name.length=1
 pl:r.plate.length≤1
 n:r.n≤9
theorem lw_tail {r:Rf} (h:r.plate.length≤1) (hn:r.n≤9):lw (tailT r)≤5:=by
 have h1:=lw_dig1 hn
 unfold tailT
 split
 ·decide
 ·split
  ·simp only [lw_cons,lw_n,List.length_cons,List.length_nil];omega
  ·split
   ·split <;> simp only [lw_cons,lw_n,List.length_cons,List.length_nil] <;> omega
   ·exact Nat.zero_le _
theorem lw_ref {r:Rf} (h:RfS r):lw (refT r)≤6:=by
 have h1:=lw_tail h.pl h.n
 have h2:=h.nm
 rw [refT,lw_cons];omega
theorem lw_rel (k:Int):(relT k).length≤2:=by
 unfold relT
 split
 ·decide
 ·split
  ·decide
  ·split <;> decide
theorem lw_leaf {op n rel val:Int} {r:Rf} {st:List Int} (h:RfS r) (hn:n≤9) (hv:val≤9) (hs:st.length≤2∧∀ a∈st,a≤9):lw (leafT op n rel val r st)≤18:=by
 have h0:=lw_ref h
 have h1:=lw_dig1 hn
 have h2:=lw_dig1 hv
 have h3:=lw_rel rel
 have h4:=lw_rel op
 have h5:=lw_sep (f:=fun n=>[digT n]) (b:=1) (l:=st) fun a ha=>by
  have:=lw_dig1 (hs.2 a ha)
  simp only [lw_cons,lw_n];omega
 have hs1:=hs.1
 unfold leafT
 split
 ·simp only [lw_app,lw_cons,lw_n,List.length_cons,List.length_nil];omega
 ·split
  ·simp only [lw_app,lw_cons,lw_n,List.length_cons,List.length_nil];omega
  ·simp only [lw_app,lw_cons,lw_n];omega
structure CdS (d:Nat) (c:Cd) (n k:Nat):Prop where
 sm:Small d c n
 wt:lw (condT c)≤k
theorem CdS.leaf {op n rel val:Int} {r:Rf} {st:List Int} (h7:¬ op=7) (h8:¬ op=8) (h9:¬ op=9) (hb:leafB op n rel val r st=true) (hr:RfS r) (hn:n≤9) (hv:val≤9) (hs:st.length≤2∧∀ a∈st,a≤9) (d:Nat):CdS (d+1) (.mk op n rel val r st []) 1 18:=
 ⟨leaf_small h7 h8 h9 hb (by have:=hs.1;omega) d,by rw [condT_leaf h7 h8 h9];exact lw_leaf hr hn hv hs⟩
theorem lw_in (k:Nat) (p:Int × Toks):lw (inT k p)≤lw p.2+2:=by
 unfold inT
 split
 ·simp only [lw_app,lw_cons,lw_n,List.length_cons,List.length_nil];omega
 ·omega
theorem CdS.neg {d n k:Nat} {a:Cd} (ha:CdS d a n k):CdS (d+1) (.mk 7 0 0 0 rf0 [] [a]) (1+n) (k+5):=by
 refine⟨neg_small ha.sm,?_⟩
 rw [condT_neg]
 have h1:=ha.wt
 have h2:=lw_in 3 (a.op,condT a)
 simp only [] at h2
 show lw (tNot::inT 3 (a.op,condT a))≤_
 rw [lw_cons]
 simp only [List.length_cons,List.length_nil];omega
theorem CdS.two {d na nb ka kb:Nat} {a b:Cd} {op:Int} (ho:op=8∨op=9) (ha:CdS d a na ka) (hb:CdS d b nb kb):CdS (d+1) (.mk op 0 0 0 rf0 [] [a,b]) (1+na+nb) (ka+kb+7):=by
 refine⟨two_small ho ha.sm hb.sm,?_⟩
 have h1:=ha.wt
 have h2:=hb.wt
 rcases ho with rfl | rfl
 ·rw [condT_conj]
  have k1:=lw_in 2 (a.op,condT a)
  have k2:=lw_in 3 (b.op,condT b)
  simp only [] at k1 k2
  show lw (inT 2 (a.op,condT a)++(tAnd::inT 3 (b.op,condT b)))≤_
  rw [lw_app,lw_cons]
  simp only [List.length_cons,List.length_nil];omega
 ·rw [condT_disj]
  have k1:=lw_in 1 (a.op,condT a)
  have k2:=lw_in 2 (b.op,condT b)
  simp only [] at k1 k2
  show lw (inT 1 (a.op,condT a)++(tOr::inT 2 (b.op,condT b)))≤_
  rw [lw_app,lw_cons]
  simp only [List.length_cons,List.length_nil];omega
theorem CdS.le {d n k k':Nat} {a:Cd} (h:CdS d a n k) (hk:k≤k'):CdS d a n k':=⟨h.sm,Nat.le_trans h.wt hk⟩
structure NuS (l:List Int):Prop where
 ok:numsB l=true
 wt:lw (numsT l)≤6
theorem NuS.len {l:List Int} (h:NuS l):l.length≤8:=by
 have:=h.ok
 simp only [numsB,Bool.and_eq_true,decide_eq_true_eq] at this
 exact this.1.2
structure CsS (c:Cs):Prop where
 cd:∃ n,n≤3∧CdS 8 c.cond n 43
 nu:NuS c.nums
structure LsS (c:Cs):Prop where
 cd:c.cond=cd0
 nu:NuS c.nums
theorem cd0_big:BigC cd0:=big_leaf ⟨by decide,by decide⟩ (by decide)
structure RuS (l:List Cs):Prop where
 ok:casesB l=true
 wt:lw (ruleT l)≤166
 big:BigL l
theorem pre_ok (last:Cs) (hl:LsS last):∀ pre:List Cs,(∀ c∈pre,CsS c)→casesT (pre++[last])=true∧lw (casesTx (pre++[last]))≤51 * pre.length+11∧(∀ c∈pre++[last],BigC c.cond∧c.nums.length≤9223372036854775807)
 | [],_=>by
  refine⟨?_,?_,fun c hc=>?_⟩
  ·show(numsB last.nums && noneB last.cond)=true
   rw [hl.nu.ok,hl.cd];rfl
  ·have:=hl.nu.wt
   show lw (tElse::tCol::numsT last.nums)≤_
   simp only [lw_cons,List.length_cons,List.length_nil];omega
  ·have:=List.mem_singleton.1 hc
   subst this
   have:=hl.nu.len
   exact⟨by rw [hl.cd];exact cd0_big,by omega⟩
 | c::pre,h=>by
  obtain⟨h1,h2,h3⟩:=pre_ok last hl pre fun x hx=>h x (List.mem_cons_of_mem _ hx)
  obtain⟨⟨n,hn,hc⟩,hu⟩:=h c (List.mem_cons_self ..)
  obtain⟨y,t,e⟩:∃ y t,pre++[last]=y::t:=by
   cases pre with
   | nil=>exact⟨_,_,rfl⟩
   | cons a b=>exact⟨_,_,rfl⟩
  rw [e] at h1 h2 h3
  rw [List.cons_append,e]
  refine⟨?_,?_,fun x hx=>?_⟩
  ·rw [casesT,hu.ok,hc.sm.valid 30 (by omega),h1];rfl
  ·have h4:=hc.wt
   have h5:=hu.wt
   rw [casesTx]
   simp only [lw_app,lw_cons,List.length_cons,List.length_nil];omega
  ·rcases List.mem_cons.1 hx with rfl | hx
   ·have:=hu.len
    exact⟨hc.sm.big,by omega⟩
   ·exact h3 x hx
theorem rule_ok {pre:List Cs} {last:Cs} (hp:pre.length≤3) (h:∀ c∈pre,CsS c) (hl:LsS last):RuS (pre++[last]):=by
 obtain⟨h1,h2,h3⟩:=pre_ok last hl pre h
 have e:(pre++[last]).length=pre.length+1:=by simp
 refine⟨?_,?_,⟨by omega,fun c hc=>(h3 c hc).1,fun c hc=>(h3 c hc).2⟩⟩
 ·rw [casesB,h1,decide_eq_true (by omega),decide_eq_true (by omega)];rfl
 ·rw [ruleT,lw_cons,lw_app]
  simp only [lw_cons,lw_n,List.length_cons,List.length_nil];omega
structure DeS (d:De) (k:Nat):Prop where
 ok:declB d=true
 big:BigD d
 wt:lw (declT d)≤k
theorem refs_lw {key:List UInt8} {l:List Rf} (hk:key.length≤6) (h:∀ r∈l,RfS r) (hl:l.length≤2):lw (refsT key l)≤20:=by
 unfold refsT
 split
 ·exact Nat.zero_le _
 ·have:=lw_sep (f:=refT) (b:=6) (l:=l) fun r hr=>lw_ref (h r hr)
  rw [lw_cons];omega
theorem refs_all {l:List Rf} (h:∀ r∈l,RfS r):l.all refB=true:=List.all_eq_true.2 fun r hr=>(h r hr).ok
theorem rfs_big {l:List Rf} (h:∀ r∈l,RfS r):∀ r∈l,BigR r:=fun r hr=>ref_bigB (h r hr).ok
theorem bS0:BigS []:=nil_big
theorem bS1:BigS [112]:=by rw [BigS];simp
theorem bN0:([]:List Rf).length≤9223372036854775807:=by simp
theorem grain_ok {n:Int} (hn:natB n=true):DeS ⟨1,n,[],[],[],[]⟩ 10:=by
 refine⟨?_,⟨bS0,bS0,bN0,fun r hr=>(by cases hr),noL_big⟩,?_⟩
 ·rw [declB,hn];rfl
 ·have:=lw_dig n
  show lw [tGrain,digT n,tSemi]≤_
  simp only [lw_cons,lw_n,List.length_cons,List.length_nil];omega
theorem plate_ok {n:Int} (hn:natB n=true):DeS ⟨2,n,[112],[],[],[]⟩ 12:=by
 refine⟨?_,⟨bS1,bS0,bN0,fun r hr=>(by cases hr),noL_big⟩,?_⟩
 ·rw [declB,hn];rfl
 ·have:=lw_dig n
  show lw [tPlate,[112],tEq,digT n,tSemi]≤_
  simp only [lw_cons,lw_n,List.length_cons,List.length_nil];omega
theorem choose_ok {n:Int} {nm:List UInt8} {rs:List Rf} (hn:natB n=true) (h1:nameN nm=true) (h2:nm.length=1) (hr:∀ r∈rs,RfS r) (hl:rs.length≤2):DeS ⟨4,n,nm,[],rs,[]⟩ 33:=by
 refine⟨?_,⟨by show nm.length≤9223372036854775807;omega,bS0,by show rs.length≤9223372036854775807;omega,rfs_big hr,noL_big⟩,?_⟩
 ·rw [declB,hn,refs_all hr,decide_eq_true (by show rs.length≤8;omega),kindB,if_neg (by show ¬ (4:Int)=1;decide),if_neg (by show ¬ (4:Int)=2;decide),if_neg (by show ¬ (4:Int)=3;decide),if_pos rfl,h1];rfl
 ·have h3:=lw_dig n
  have h4:=refs_lw (key:=tSeeing) (by decide) hr hl
  show lw (([tChoose,nm,tCol,digT n]++refsT tSeeing rs)++[tSemi])≤_
  simp only [lw_app,lw_cons,lw_n,List.length_cons,List.length_nil];omega
theorem gain_ok {rs:List Rf} {cs:List Cs} (hr:∀ r∈rs,RfS r) (hl:rs.length≤2) (hc:RuS cs):DeS ⟨5,0,[],[],rs,cs⟩ 192:=by
 refine⟨?_,⟨bS0,bS0,by show rs.length≤9223372036854775807;omega,rfs_big hr,hc.big⟩,?_⟩
 ·rw [declB,refs_all hr,decide_eq_true (by show rs.length≤8;omega),kindB,if_neg (by show ¬ (5:Int)=1;decide),if_neg (by show ¬ (5:Int)=2;decide),if_neg (by show ¬ (5:Int)=3;decide),if_neg (by show ¬ (5:Int)=4;decide),if_pos rfl,hc.ok];rfl
 ·have h4:=refs_lw (key:=tFrom) (by decide) hr hl
  have h5:=hc.wt
  show lw ((tGain::(refsT tFrom rs++(tEq::ruleT cs)))++[tSemi])≤_
  simp only [lw_app,lw_cons,lw_n,List.length_cons,List.length_nil];omega
theorem node_ok {n:Int} {nm pl:List UInt8} {rs:List Rf} {cs:List Cs} (hn:natB n=true) (h1:nameN nm=true) (h2:nm.length=1) (hp:pl=[]∨pl=[112]) (hr:∀ r∈rs,RfS r) (hl:rs.length≤2) (hc:RuS cs):DeS ⟨3,n,nm,pl,rs,cs⟩ 201:=by
 refine⟨?_,⟨by show nm.length≤9223372036854775807;omega,by rcases hp with rfl | rfl;exact bS0;exact bS1,by show rs.length≤9223372036854775807;omega,rfs_big hr,hc.big⟩,?_⟩
 ·rw [declB,hn,refs_all hr,decide_eq_true (by show rs.length≤8;omega),kindB,if_neg (by show ¬ (3:Int)=1;decide),if_neg (by show ¬ (3:Int)=2;decide),if_pos rfl,h1,hc.ok]
  rcases hp with rfl | rfl <;> rfl
 ·have h3:=lw_dig n
  have h4:=refs_lw (key:=tFrom) (by decide) hr hl
  have h5:=hc.wt
  have h6:lw (if pl=[] then [] else [tLB,pl,tRB])≤3:=by rcases hp with rfl | rfl <;> decide
  show lw (([tNode,nm]++((if pl=[] then [] else [tLB,pl,tRB])++([tCol,digT n]++(refsT tFrom rs++(tEq::ruleT cs)))))++[tSemi])≤_
  simp only [lw_app,lw_cons,lw_n,List.length_cons,List.length_nil];omega
theorem tok_lw:∀ {x:Toks},AllT x→x.length≤lw x
 | [],_=>Nat.le_refl _
 | t::x,h=>by
  have h1:=(tok_len (h t (List.mem_cons_self ..))).1
  have h2:=tok_lw (x:=x) fun u hu=>h u (List.mem_cons_of_mem _ hu)
  rw [lw_cons,List.length_cons];omega
theorem spW_lw:∀ x:Toks,(spW true x).length≤lw x+x.length
 | []=>Nat.le_refl _
 | t::x=>by
  have:=spW_lw x
  show([32]++(t++spW true x)).length≤_
  simp only [List.length_append,List.length_cons,List.length_nil,lw_cons];omega
structure PrS (ds:List De) (k:Nat):Prop where
 ok:∀ d∈ds,declB d=true∧BigD d
 wt:lw (ds.flatMap declT)≤k
theorem PrS.nil:PrS [] 0:=⟨fun d hd=>(by cases hd),Nat.le_refl _⟩
theorem PrS.snoc {ds:List De} {d:De} {k j:Nat} (h:PrS ds k) (hd:DeS d j):PrS (ds++[d]) (k+j):=by
 refine⟨fun x hx=>?_,?_⟩
 ·rcases List.mem_append.1 hx with hx | hx
  ·exact h.ok x hx
  ·rw [List.mem_singleton.1 hx];exact⟨hd.ok,hd.big⟩
 ·have h1:=h.wt
  have h2:=hd.wt
  rw [List.flatMap_append,lw_app,List.flatMap_cons,List.flatMap_nil,List.append_nil];omega
theorem PrS.le {ds:List De} {k k':Nat} (h:PrS ds k) (hk:k≤k'):PrS ds k':=⟨h.ok,Nat.le_trans h.wt hk⟩
theorem text_lw:∀ ds:List De,(textT ds).length≤lw (ds.flatMap declT)+cntT ds
 | []=>Nat.le_refl _
 | d::ds=>by
  have h1:=text_lw ds
  have h2:=spW_lw (declT d)
  rw [spW_tf (decl_ne d),List.length_cons] at h2
  have h3:cntT (d::ds)=(declT d).length+cntT ds:=rfl
  show((spW false (declT d)++[10])++textT ds).length≤_
  rw [List.flatMap_cons,lw_app,h3]
  simp only [List.length_append,List.length_cons,List.length_nil];omega
theorem decls_all {ds:List De} (h:∀ d∈ds,declB d=true):AllT (ds.flatMap declT):=fun t ht=>by
 obtain⟨d,hd,ht⟩:=List.mem_flatMap.1 ht
 exact(decl_toks (h d hd)).1 t ht
structure DrP (ds:List De):Prop where
 valid:validB ds=true
 big:BigP ds
 txt:(textT ds).length≤2600
 cnt:cntT ds≤1300
 lw:lw (ds.flatMap declT)≤1300
theorem PrS.fin {ds:List De} {k:Nat} (h:PrS ds k) (hl:ds.length≤30) (hk:k≤1300):DrP ds:=by
 have h1:=text_lw ds
 have h2:=h.wt
 have h3:=tok_lw (decls_all fun d hd=>(h.ok d hd).1)
 rw [flat_len] at h3
 refine⟨?_,⟨by omega,fun d hd=>(h.ok d hd).2⟩,by omega,by omega,by omega⟩
 rw [validB,decide_eq_true hl,List.all_eq_true.2 fun d hd=>(h.ok d hd).1];rfl
structure Pc where
 w:UInt8
 o:UInt8
 n:UInt8
 m:UInt8
 x:UInt8
 y:UInt8
 z:UInt8
abbrev Pc.cells (p:Pc):List PV:=[u8 p.w,u8 p.o,u8 p.n,u8 p.m,u8 p.x,u8 p.y,u8 p.z]
def wO3 (a b c:UInt8):AObj:=⟨24,false, .bx [.p (u8 a), .p (u8 b), .p (u8 c)]⟩
structure Wgt (l:List Int) (k:Nat):Prop where
 len:l.length=k
 bd:∀ x∈l,0≤x∧x≤12
theorem Wgt.snoc {l:List Int} {k:Nat} {v:Int} (h:Wgt l k) (h1:0≤v) (h2:v≤12):Wgt (l++[v]) (k+1):=by
 refine⟨by rw [List.length_append,h.len];rfl,fun x hx=>?_⟩
 rcases List.mem_append.1 hx with hx | hx
 ·exact h.bd x hx
 ·rw [List.mem_singleton.1 hx];exact⟨h1,h2⟩
theorem lw_int {n:Int} (h:0≤n∧n≤12):lw (intT n)≤2:=by
 rw [intT,if_neg (by omega),lw_cons,lw_n,digT,digN]
 split
 ·exact Nat.le_succ_of_le (Nat.le_refl _)
 ·rw [digN,if_pos (by omega)]
  exact Nat.le_refl _
theorem Wgt.nu {l:List Int} {k:Nat} (h:Wgt l k) (hk:k=2∨k=3):NuS l:=by
 have h1:=h.len
 refine⟨?_,?_⟩
 ·rw [numsB,decide_eq_true (by omega),decide_eq_true (by omega),List.all_eq_true.2]
  ·rfl
  ·intro x hx
   have:=h.bd x hx
   rw [wgtB,decide_eq_true (by omega),decide_eq_true (by omega)];rfl
 ·have:=lw_flat (f:=intT) (b:=2) (l:=l) fun x hx=>lw_int (h.bd x hx)
  rw [numsT];omega
theorem tmod_bd (n:Nat) {g:Int} (h:0≤g):0≤(n:Int).tmod (g+1)∧(n:Int).tmod (g+1)≤g:=by
 have h1:=Int.tmod_nonneg (g+1) (Int.natCast_nonneg n)
 have h2:=Int.tmod_lt_of_pos (n:Int) (show 0<g+1 by omega)
 omega
theorem weights_c (a b c:UInt8) (k:Nat) (g:Int) (hk:k=2∨k=3) (hg:0≤g∧g≤12):Pure cx 60 [.agg [u8 a,u8 b,u8 c],i64 (k:Int),i64 g] fun r=>∃ l,r=.ret [ints l]∧Wgt l k:=by
 refine pure_of_vc Tryz.func60 rfl rfl rfl ?_
 refine⟨Nat × List Int × Int,fun x=>[(1, .p (i64 (k:Int))),(3, .ptr 0 0 0),(7, .sl 1 1 0 x.2.1.length),(8, .p (i64 x.2.2)),(9, .p (i64 x.1))],fun x=>⟨2,[(1,iO x.2.1),(0,wO3 a b c)]⟩,fun x=>x.1+1≤k∧Wgt x.2.1 x.1∧0≤x.2.2∧x.2.2≤12,fun x=>k - x.1,?_,?_⟩
 ·exact⟨(0,[],g),⟨by show 0+1≤k;omega,⟨rfl,fun x hx=>by cases hx⟩,hg⟩,ent_of [] [] [(1,1)] rfl (sk) (sk) rfl⟩
 rintro⟨i,acc,g⟩ ⟨k1,k2,k3,k4⟩
 simp only [] at k1 k2 k3 k4
 clear hg
 by_cases i2:i+1=k
 ·refine⟨(i:Int),by rw [← i2];rw [show((i+1:Nat):Int) - 1=(i:Int) by omega];exact wrap_i64 (by omega) (by omega),?_⟩
  refine And.intro (fun h=>absurd (show(i:Int)<(i:Int) from h) (by omega)) (fun _=>?_)
  refine⟨by show 0+1≤1;omega,[i64 g],rfl,?_⟩
  refine⟨by show 0+acc.length≤(acc.map i64).length;simp,acc.map i64,takeAll (by simp),by show(acc.length+1) * 8≤140737488355328;have:=k2.len;omega,(acc++[g]).map i64,by simp,?_⟩
  refine end1 (ints (acc++[g])) rfl ⟨_,rfl,by show 0+(acc.length+1)≤((acc++[g]).map i64).length;simp,takeAll (by simp)⟩ ⟨_,rfl,by rw [← i2];exact k2.snoc k3 k4⟩
 refine⟨(k:Int) - 1,wrap_i64 (by omega) (by omega),?_⟩
 refine And.intro (fun _=>?_) (fun h=>absurd (show(i:Int)<(k:Int) - 1 by omega) h)
 by_cases i0:i=0
 ·subst i0
  refine⟨by show(0:Int)≤_∧_<_;exact⟨by omega,by omega⟩,?_⟩
  refine⟨.p (u8 a),ldIn1 (by kernel_rfl) rfl,?_⟩
  refine⟨((a).toNat:Int),wrap_i64 (by omega) (by have:=(a).toNat_lt;omega),?_⟩
  refine⟨g+1,wrap_i64 (by omega) (by omega),?_⟩
  have hv:=tmod_bd (a).toNat k3
  refine⟨by show ¬ g+1=0;omega,?_⟩
  generalize (((a).toNat:Int)).tmod (g+1)=v at hv ⊢
  refine⟨by show 0+1≤1;omega,[i64 v],rfl,?_⟩
  refine⟨by show 0+acc.length≤(acc.map i64).length;simp,acc.map i64,takeAll (by simp),by show(acc.length+1) * 8≤140737488355328;have:=k2.len;omega,(acc++[v]).map i64,by simp,?_⟩
  refine⟨g - v,wrap_i64 (by omega) (by omega),?_⟩
  refine⟨((1:Nat):Int),by show((1:Nat):Int)=IntKind.i64.wrap (((0:Nat):Int)+1);exact wrap_i64 (by omega) (by omega),?_⟩
  exact⟨(1,acc++[v],g - v),⟨by show 1+1≤k;omega,k2.snoc hv.1 (by omega),by show 0≤g - v;omega,by show g - v≤12;omega⟩,ent_of [] [(1,3)] [] rfl ⟨rfl,⟨rfl,rfl⟩,congrArg (fun k:Nat=>AV.sl 3 1 0 k) (snoc_len acc v).symm,rfl,rfl,trivial⟩ (sk) rfl,by show k - 1<k - 0;omega⟩
 ·obtain rfl:i=1:=by omega
  refine⟨by show(0:Int)≤_∧_<_;exact⟨by omega,by omega⟩,?_⟩
  refine⟨.p (u8 b),ldIn1 (by kernel_rfl) rfl,?_⟩
  refine⟨((b).toNat:Int),wrap_i64 (by omega) (by have:=(b).toNat_lt;omega),?_⟩
  refine⟨g+1,wrap_i64 (by omega) (by omega),?_⟩
  have hv:=tmod_bd (b).toNat k3
  refine⟨by show ¬ g+1=0;omega,?_⟩
  generalize (((b).toNat:Int)).tmod (g+1)=v at hv ⊢
  refine⟨by show 0+1≤1;omega,[i64 v],rfl,?_⟩
  refine⟨by show 0+acc.length≤(acc.map i64).length;simp,acc.map i64,takeAll (by simp),by show(acc.length+1) * 8≤140737488355328;have:=k2.len;omega,(acc++[v]).map i64,by simp,?_⟩
  refine⟨g - v,wrap_i64 (by omega) (by omega),?_⟩
  refine⟨((2:Nat):Int),by show((2:Nat):Int)=IntKind.i64.wrap (((1:Nat):Int)+1);exact wrap_i64 (by omega) (by omega),?_⟩
  exact⟨(2,acc++[v],g - v),⟨by show 2+1≤k;omega,k2.snoc hv.1 (by omega),by show 0≤g - v;omega,by show g - v≤12;omega⟩,ent_of [] [(1,3)] [] rfl ⟨rfl,⟨rfl,rfl⟩,congrArg (fun k:Nat=>AV.sl 3 1 0 k) (snoc_len acc v).symm,rfl,rfl,trivial⟩ (sk) rfl,by show k - 2<k - 1;omega⟩
set_option maxHeartbeats 40000000
structure Pt where
 kind:UInt8
 card:UInt8
 frm:UInt8
 modes:UInt8
 pl:Bool
 cases:List Pc
 x:UInt8
 y:UInt8
 z:UInt8
abbrev Pt.cells (p:Pt):List PV:=[u8 p.kind,u8 p.card,u8 p.frm,u8 p.modes, .bool p.pl, .lsts 7 (p.cases.map Pc.cells),u8 p.x,u8 p.y,u8 p.z]
structure Kn where
 nm:List UInt8
 card:Int
 pl:Bool
abbrev Kn.cells (k:Kn):List PV:=[.str k.nm,i64 k.card, .bool k.pl]
def kn0:Kn:=⟨[],0,false⟩
structure KnS (k:Kn):Prop where
 ok:nameN k.nm=true
 len:k.nm.length=1
 card:k.card=2∨k.card=3
structure RcS (rs:List Rf) (cs:List Int):Prop where
 refs:∀ r∈rs,RfS r
 nums:∀ c∈cs,c=2∨c=3
 eq:rs.length=cs.length
 len:rs.length≤2
theorem RcS.snoc {rs:List Rf} {cs:List Int} {r:Rf} {c:Int} (h:RcS rs cs) (hr:RfS r) (hc:c=2∨c=3) (hl:rs.length<2):RcS (rs++[r]) (cs++[c]):=by
 have h1:=h.eq
 refine⟨fun x hx=>?_,fun x hx=>?_,by rw [List.length_append,List.length_append];simp only [List.length_cons,List.length_nil];omega,by rw [List.length_append];simp only [List.length_cons,List.length_nil];omega⟩
 ·rcases List.mem_append.1 hx with hx | hx
  ·exact h.refs x hx
  ·rw [List.mem_singleton.1 hx];exact hr
 ·rcases List.mem_append.1 hx with hx | hx
  ·exact h.nums x hx
  ·rw [List.mem_singleton.1 hx];exact hc
def ptO (p:Pt):AObj:=⟨52,false, .bx (p.cells.map .p)⟩
def rfsO (rs:List Rf):AObj:=⟨TRef,false, .pus (rs.map Rf.cells)⟩
theorem wrap_u64 {n:Int} (h0:0≤n) (h1:n<18446744073709551616):n=IntKind.u64.wrap n:=by
 show n=n % 18446744073709551616
 omega
def RfQ (e:AE) (H':Hp):Prop:=∃ rs cs,e=.returned (.tup [.sl 0 4 0 rs.length, .sl 1 1 0 cs.length])∧H'=⟨2,[(0,rfsO rs),(1,iO cs)]⟩∧RcS rs cs
theorem kncell {l:List Kn} {k:Nat} (h:k<l.length):(l.map Kn.cells)[k]?=some (l.getD k kn0).cells:=map_at kn0 h
theorem fdiv_bd (v:Nat) (e:Int) (he:0<e) (hv:v<256):0≤(v:Int).fdiv e∧(v:Int).fdiv e≤255:=by
 have h1:=Int.fdiv_nonneg (Int.natCast_nonneg v) (Int.le_of_lt he)
 have h2:(v:Int).fdiv e≤v:=by
  rw [Int.fdiv_eq_ediv_of_nonneg _ (Int.le_of_lt he)]
  exact Int.ediv_le_self _ (Int.natCast_nonneg v)
 omega
theorem pow_pos2 (e:Nat):(0:Int)<2 ^ e:=Int.pow_pos (by decide)
theorem tmod_in {n g:Int} (h:0≤n) (hg:0<g):0≤n.tmod g∧n.tmod g<g:=⟨Int.tmod_nonneg _ h,Int.tmod_lt_of_pos _ hg⟩
theorem rfs0 {nm:List UInt8} (h:nameN nm=true) (hl:nm.length=1):RfS ⟨nm,0,[],0⟩:=⟨refB0 h,hl,Nat.zero_le _,by show(0:Int)≤9;decide⟩
theorem rfs3 {nm:List UInt8} (h:nameN nm=true) (hl:nm.length=1):RfS ⟨nm,3,[],0⟩:=⟨refB3 h,hl,Nat.zero_le _,by show(0:Int)≤9;decide⟩
theorem rfs2 {nm:List UInt8} {n:Int} (h:nameN nm=true) (hl:nm.length=1) (hn:0≤n∧n<2):RfS ⟨nm,2,[],n⟩:=⟨refB2 h (nat_of hn.1 (by omega)),hl,Nat.zero_le _,by show n≤9;omega⟩
theorem rfs1 {nm:List UInt8} {n:Int} (h:nameN nm=true) (hl:nm.length=1) (hn:0≤n∧n<2):RfS ⟨nm,1,[112],n⟩:=⟨refB1 h p_name (nat_of hn.1 (by omega)),hl,Nat.le_refl _,by show n≤9;omega⟩
abbrev otC9:OT:=(.pure 0 (.pure 1 (.pure 2 (.pure 3 (.eff 4 [] (.pure 5 (.eff 6 [] .fin .nil)) .nil)))))
theorem prefs_h (p:Pt) (l:List Kn) (hl:∀ k∈l,KnS k) (h5:l.length≤5) (g:Bool) (sz:Int) (hs:sz=1∨sz=2):HoldsG cx 32 [.p (.agg p.cells), .p (.lsts 3 (l.map Kn.cells)),vB g, .p (i64 sz)] ⟨0,[]⟩ (RfQ):=by
 refine holdsN_of_vc Tryz.func32 rfl rfl rfl ?_
 have hl':(l.map Kn.cells).length=l.length:=List.length_map ..
 refine⟨Nat × List Rf × List Int,fun x=>[(1, .p (.lsts 3 (l.map Kn.cells))),(2,vB g),(3, .p (i64 sz)),(4, .ptr 0 0 0),(10, .sl 1 4 0 x.2.1.length),(11, .sl 2 1 0 x.2.2.length),(12, .p (i64 x.1))],fun x=>⟨3,[(2,iO x.2.2),(1,rfsO x.2.1),(0,ptO p)]⟩,fun x=>x.1≤l.length∧RcS x.2.1 x.2.2,fun x=>l.length - x.1,?_,?_⟩
 ·exact⟨(0,[],[]),⟨Nat.zero_le _,⟨fun r hr=>(by cases hr),fun r hr=>(by cases hr),rfl,by decide⟩⟩,ent_of [] [] [(1,4),(2,1)] rfl (sk) (sk) rfl⟩
 rintro⟨i,rs,cs⟩ ⟨k1,k2⟩
 simp only [] at k1 k2
 by_cases hi:i<l.length
 rotate_left
 ·refine And.intro (fun h=>absurd (show(i:Int)<((l.map Kn.cells).length:Nat) from h) (by rw [hl'];omega)) (fun _=>?_)
  exact⟨[],[(0,1),(1,2)],[], .returned (.tup [.sl 0 4 0 rs.length, .sl 1 1 0 cs.length]),⟨2,[(0,rfsO rs),(1,iO cs)]⟩,rfl,sk,sk,rs,cs,rfl,rfl,k2⟩
 refine And.intro (fun _=>?_) (fun h=>absurd (show(i:Int)<((l.map Kn.cells).length:Nat) by rw [hl'];omega) h)
 by_cases h2:rs.length<2
 rotate_left
 ·refine And.intro (fun h=>absurd (show(rs.length:Int)<2 from h) (by omega)) (fun _=>?_)
  exact⟨[],[(0,1),(1,2)],[], .returned (.tup [.sl 0 4 0 rs.length, .sl 1 1 0 cs.length]),⟨2,[(0,rfsO rs),(1,iO cs)]⟩,rfl,sk,sk,rs,cs,rfl,rfl,k2⟩
 refine And.intro (fun _=>?_) (fun h=>absurd (show(rs.length:Int)<2 by omega) h)
 have hcell:=kncell hi
 have hS:=hl _ (getD_memL kn0 hi)
 generalize l.getD i kn0=kn at hcell hS
 obtain⟨nm,card,b⟩:=kn
 have hm:=p.modes.toNat_lt
 have hf:=p.frm.toNat_lt
 cases b
 ·refine⟨(i:Int),wrap_u64 (by omega) (by omega),?_⟩
  refine⟨by omega,?_⟩
  have hs1:=fdiv_bd p.frm.toNat _ (pow_pos2 (min ((i:Int).toNat) (IntKind.u8.bits))) hf
  generalize (p.frm.toNat:Int).fdiv (2 ^ (min ((i:Int).toNat) (IntKind.u8.bits)))=sf at hs1 ⊢
  refine⟨by decide,?_⟩
  by_cases hz:sf.tmod 2=0
  ·refine And.intro (fun _=>?_) (fun h=>absurd hz h)
   refine⟨((i+1:Nat):Int),by rw [Int.natCast_add];exact wrap_i64 (by omega) (by omega),?_⟩
   exact⟨(i+1,rs,cs),⟨by show i+1≤l.length;omega,k2⟩,ent_of [] [] [] rfl (sk) (sk) rfl,by show l.length - (i+1)<l.length - i;omega⟩
  refine And.intro (fun h=>absurd h hz) (fun _=>?_)
  clear hz hs1
  refine⟨_,⟨by omega,(Kn.mk nm card _).cells,hcell,rfl⟩,?_⟩
  refine⟨((2 * i:Nat):Int),by show _=IntKind.i64.wrap (2 * (i:Int));rw [Int.natCast_mul];exact wrap_i64 (by omega) (by omega),?_⟩
  refine⟨((2 * i:Nat):Int),wrap_u64 (by omega) (by omega),?_⟩
  refine⟨by omega,?_⟩
  have hs2:=fdiv_bd p.modes.toNat _ (pow_pos2 (min (((2 * i:Nat):Int).toNat) (IntKind.u8.bits))) hm
  generalize (p.modes.toNat:Int).fdiv (2 ^ (min (((2 * i:Nat):Int).toNat) (IntKind.u8.bits)))=sm at hs2 ⊢
  refine⟨sm,wrap_i64 (by omega) (by omega),?_⟩
  refine⟨by decide,?_⟩
  have hs3:=tmod_in hs2.1 (show(0:Int)<4 by decide)
  generalize sm.tmod 4=m at hs3 ⊢
  refine⟨_,⟨by omega,(Kn.mk nm card _).cells,hcell,rfl⟩,?_⟩
  refine⟨by show 0+1≤1;omega,[[.str nm,i64 0, .str [],i64 0]],rfl,?_⟩
  refine⟨by show 0+rs.length≤(rs.map Rf.cells).length;simp,rs.map Rf.cells,takeAll (by simp),by show(rs.length+1) * 48≤140737488355328;omega,(rs++[Rf.mk nm 0 [] 0]).map Rf.cells,by simp,?_⟩
  refine⟨_,⟨by omega,(Kn.mk nm card _).cells,hcell,rfl⟩,?_⟩
  refine⟨by show 0+1≤1;omega,[i64 card],rfl,?_⟩
  refine⟨by show 0+cs.length≤(cs.map i64).length;simp,cs.map i64,takeAll (by simp),by show(cs.length+1) * 8≤140737488355328;have:=k2.eq;omega,(cs++[card]).map i64,by simp,?_⟩
  refine⟨((i+1:Nat):Int),by rw [Int.natCast_add];exact wrap_i64 (by omega) (by omega),?_⟩
  exact⟨(i+1,rs++[Rf.mk nm 0 [] 0],cs++[card]),⟨by show i+1≤l.length;omega,k2.snoc (rfs0 hS.ok hS.len) hS.card h2⟩,ent_of [] [(1,5),(2,7)] [] rfl ⟨rfl,rfl,rfl,⟨rfl,rfl⟩,congrArg (fun k:Nat=>AV.sl 5 4 0 k) (snoc_len rs _).symm,congrArg (fun k:Nat=>AV.sl 7 1 0 k) (snoc_len cs card).symm,rfl,trivial⟩ (sk) rfl,by show l.length - (i+1)<l.length - i;omega⟩
 cases g
 ·refine⟨(i:Int),wrap_u64 (by omega) (by omega),?_⟩
  refine⟨by omega,?_⟩
  have hs1:=fdiv_bd p.frm.toNat _ (pow_pos2 (min ((i:Int).toNat) (IntKind.u8.bits))) hf
  generalize (p.frm.toNat:Int).fdiv (2 ^ (min ((i:Int).toNat) (IntKind.u8.bits)))=sf at hs1 ⊢
  refine⟨by decide,?_⟩
  by_cases hz:sf.tmod 2=0
  ·refine And.intro (fun _=>?_) (fun h=>absurd hz h)
   refine⟨((i+1:Nat):Int),by rw [Int.natCast_add];exact wrap_i64 (by omega) (by omega),?_⟩
   exact⟨(i+1,rs,cs),⟨by show i+1≤l.length;omega,k2⟩,ent_of [] [] [] rfl (sk) (sk) rfl,by show l.length - (i+1)<l.length - i;omega⟩
  refine And.intro (fun h=>absurd h hz) (fun _=>?_)
  clear hz hs1
  refine⟨_,⟨by omega,(Kn.mk nm card _).cells,hcell,rfl⟩,?_⟩
  refine⟨((2 * i:Nat):Int),by show _=IntKind.i64.wrap (2 * (i:Int));rw [Int.natCast_mul];exact wrap_i64 (by omega) (by omega),?_⟩
  refine⟨((2 * i:Nat):Int),wrap_u64 (by omega) (by omega),?_⟩
  refine⟨by omega,?_⟩
  have hs2:=fdiv_bd p.modes.toNat _ (pow_pos2 (min (((2 * i:Nat):Int).toNat) (IntKind.u8.bits))) hm
  generalize (p.modes.toNat:Int).fdiv (2 ^ (min (((2 * i:Nat):Int).toNat) (IntKind.u8.bits)))=sm at hs2 ⊢
  refine⟨sm,wrap_i64 (by omega) (by omega),?_⟩
  refine⟨by decide,?_⟩
  have hs3:=tmod_in hs2.1 (show(0:Int)<4 by decide)
  generalize sm.tmod 4=m at hs3 ⊢
  refine⟨_,⟨by omega,(Kn.mk nm card _).cells,hcell,rfl⟩,?_⟩
  refine And.intro (fun h3=>?_) (fun h3=>?_)
  ·refine⟨by show 0+1≤1;omega,[[.str nm,i64 3, .str [],i64 0]],rfl,?_⟩
   refine⟨by show 0+rs.length≤(rs.map Rf.cells).length;simp,rs.map Rf.cells,takeAll (by simp),by show(rs.length+1) * 48≤140737488355328;omega,(rs++[Rf.mk nm 3 [] 0]).map Rf.cells,by simp,?_⟩
   refine⟨_,⟨by omega,(Kn.mk nm card _).cells,hcell,rfl⟩,?_⟩
   refine⟨by show 0+1≤1;omega,[i64 card],rfl,?_⟩
   refine⟨by show 0+cs.length≤(cs.map i64).length;simp,cs.map i64,takeAll (by simp),by show(cs.length+1) * 8≤140737488355328;have:=k2.eq;omega,(cs++[card]).map i64,by simp,?_⟩
   refine⟨((i+1:Nat):Int),by rw [Int.natCast_add];exact wrap_i64 (by omega) (by omega),?_⟩
   exact⟨(i+1,rs++[Rf.mk nm 3 [] 0],cs++[card]),⟨by show i+1≤l.length;omega,k2.snoc (rfs3 hS.ok hS.len) hS.card h2⟩,ent_of [] [(1,5),(2,7)] [] rfl ⟨rfl,rfl,rfl,⟨rfl,rfl⟩,congrArg (fun k:Nat=>AV.sl 5 4 0 k) (snoc_len rs _).symm,congrArg (fun k:Nat=>AV.sl 7 1 0 k) (snoc_len cs card).symm,rfl,trivial⟩ (sk) rfl,by show l.length - (i+1)<l.length - i;omega⟩
  ·refine vdraw_ot otC9 (by kernel_rfl) ?_
   refine⟨by show ¬ sz=0;omega,?_⟩
   have hn:=tmod_in hs3.1 (show 0<sz by omega)
   generalize m.tmod sz=n at hn ⊢
   refine⟨by show 0+1≤1;omega,[[.str nm,i64 2, .str [],i64 n]],rfl,?_⟩
   refine⟨by show 0+rs.length≤(rs.map Rf.cells).length;simp,rs.map Rf.cells,takeAll (by simp),by show(rs.length+1) * 48≤140737488355328;omega,(rs++[Rf.mk nm 2 [] n]).map Rf.cells,by simp,?_⟩
   refine⟨_,⟨by omega,(Kn.mk nm card _).cells,hcell,rfl⟩,?_⟩
   refine⟨by show 0+1≤1;omega,[i64 card],rfl,?_⟩
   refine⟨by show 0+cs.length≤(cs.map i64).length;simp,cs.map i64,takeAll (by simp),by show(cs.length+1) * 8≤140737488355328;have:=k2.eq;omega,(cs++[card]).map i64,by simp,?_⟩
   refine⟨((i+1:Nat):Int),by rw [Int.natCast_add];exact wrap_i64 (by omega) (by omega),?_⟩
   exact⟨(i+1,rs++[Rf.mk nm 2 [] n],cs++[card]),⟨by show i+1≤l.length;omega,k2.snoc (rfs2 hS.ok hS.len ⟨hn.1,by omega⟩) hS.card h2⟩,ent_of [] [(1,5),(2,7)] [] rfl ⟨rfl,rfl,rfl,⟨rfl,rfl⟩,congrArg (fun k:Nat=>AV.sl 5 4 0 k) (snoc_len rs _).symm,congrArg (fun k:Nat=>AV.sl 7 1 0 k) (snoc_len cs card).symm,rfl,trivial⟩ (sk) rfl,by show l.length - (i+1)<l.length - i;omega⟩
 ·refine⟨(i:Int),wrap_u64 (by omega) (by omega),?_⟩
  refine⟨by omega,?_⟩
  have hs1:=fdiv_bd p.frm.toNat _ (pow_pos2 (min ((i:Int).toNat) (IntKind.u8.bits))) hf
  generalize (p.frm.toNat:Int).fdiv (2 ^ (min ((i:Int).toNat) (IntKind.u8.bits)))=sf at hs1 ⊢
  refine⟨by decide,?_⟩
  by_cases hz:sf.tmod 2=0
  ·refine And.intro (fun _=>?_) (fun h=>absurd hz h)
   refine⟨((i+1:Nat):Int),by rw [Int.natCast_add];exact wrap_i64 (by omega) (by omega),?_⟩
   exact⟨(i+1,rs,cs),⟨by show i+1≤l.length;omega,k2⟩,ent_of [] [] [] rfl (sk) (sk) rfl,by show l.length - (i+1)<l.length - i;omega⟩
  refine And.intro (fun h=>absurd h hz) (fun _=>?_)
  clear hz hs1
  refine⟨_,⟨by omega,(Kn.mk nm card _).cells,hcell,rfl⟩,?_⟩
  refine⟨((2 * i:Nat):Int),by show _=IntKind.i64.wrap (2 * (i:Int));rw [Int.natCast_mul];exact wrap_i64 (by omega) (by omega),?_⟩
  refine⟨((2 * i:Nat):Int),wrap_u64 (by omega) (by omega),?_⟩
  refine⟨by omega,?_⟩
  have hs2:=fdiv_bd p.modes.toNat _ (pow_pos2 (min (((2 * i:Nat):Int).toNat) (IntKind.u8.bits))) hm
  generalize (p.modes.toNat:Int).fdiv (2 ^ (min (((2 * i:Nat):Int).toNat) (IntKind.u8.bits)))=sm at hs2 ⊢
  refine⟨sm,wrap_i64 (by omega) (by omega),?_⟩
  refine⟨by decide,?_⟩
  have hs3:=tmod_in hs2.1 (show(0:Int)<4 by decide)
  generalize sm.tmod 4=m at hs3 ⊢
  refine⟨_,⟨by omega,(Kn.mk nm card _).cells,hcell,rfl⟩,?_⟩
  refine And.intro (fun h3=>?_) (fun h3=>?_)
  ·refine⟨by decide,?_⟩
   have hn:=tmod_in hs3.1 (show(0:Int)<2 by decide)
   generalize m.tmod 2=n at hn ⊢
   refine⟨by show 0+1≤1;omega,[[.str nm,i64 1, .str [112],i64 n]],rfl,?_⟩
   refine⟨by show 0+rs.length≤(rs.map Rf.cells).length;simp,rs.map Rf.cells,takeAll (by simp),by show(rs.length+1) * 48≤140737488355328;omega,(rs++[Rf.mk nm 1 [112] n]).map Rf.cells,by simp,?_⟩
   refine⟨_,⟨by omega,(Kn.mk nm card _).cells,hcell,rfl⟩,?_⟩
   refine⟨by show 0+1≤1;omega,[i64 card],rfl,?_⟩
   refine⟨by show 0+cs.length≤(cs.map i64).length;simp,cs.map i64,takeAll (by simp),by show(cs.length+1) * 8≤140737488355328;have:=k2.eq;omega,(cs++[card]).map i64,by simp,?_⟩
   refine⟨((i+1:Nat):Int),by rw [Int.natCast_add];exact wrap_i64 (by omega) (by omega),?_⟩
   exact⟨(i+1,rs++[Rf.mk nm 1 [112] n],cs++[card]),⟨by show i+1≤l.length;omega,k2.snoc (rfs1 hS.ok hS.len hn) hS.card h2⟩,ent_of [] [(1,5),(2,7)] [] rfl ⟨rfl,rfl,rfl,⟨rfl,rfl⟩,congrArg (fun k:Nat=>AV.sl 5 4 0 k) (snoc_len rs _).symm,congrArg (fun k:Nat=>AV.sl 7 1 0 k) (snoc_len cs card).symm,rfl,trivial⟩ (sk) rfl,by show l.length - (i+1)<l.length - i;omega⟩
  ·have h3:¬ m<3:=h3
   refine And.intro (fun h4=>?_) (fun h4=>absurd (show m=3 by omega) h4)
   refine⟨by show 0+1≤1;omega,[[.str nm,i64 3, .str [],i64 0]],rfl,?_⟩
   refine⟨by show 0+rs.length≤(rs.map Rf.cells).length;simp,rs.map Rf.cells,takeAll (by simp),by show(rs.length+1) * 48≤140737488355328;omega,(rs++[Rf.mk nm 3 [] 0]).map Rf.cells,by simp,?_⟩
   refine⟨_,⟨by omega,(Kn.mk nm card _).cells,hcell,rfl⟩,?_⟩
   refine⟨by show 0+1≤1;omega,[i64 card],rfl,?_⟩
   refine⟨by show 0+cs.length≤(cs.map i64).length;simp,cs.map i64,takeAll (by simp),by show(cs.length+1) * 8≤140737488355328;have:=k2.eq;omega,(cs++[card]).map i64,by simp,?_⟩
   refine⟨((i+1:Nat):Int),by rw [Int.natCast_add];exact wrap_i64 (by omega) (by omega),?_⟩
   exact⟨(i+1,rs++[Rf.mk nm 3 [] 0],cs++[card]),⟨by show i+1≤l.length;omega,k2.snoc (rfs3 hS.ok hS.len) hS.card h2⟩,ent_of [] [(1,5),(2,7)] [] rfl ⟨rfl,rfl,rfl,⟨rfl,rfl⟩,congrArg (fun k:Nat=>AV.sl 5 4 0 k) (snoc_len rs _).symm,congrArg (fun k:Nat=>AV.sl 7 1 0 k) (snoc_len cs card).symm,rfl,trivial⟩ (sk) rfl,by show l.length - (i+1)<l.length - i;omega⟩
abbrev otD2:OT:=(.pure 0 (.pure 1 (.pure 2 (.pure 3 (.pure 4 (.pure 5 (.pure 6 (.pure 7 (.pure 8 (.pure 9 (.pure 10 (.pure 11 (.pure 12 (.pure 13 (.pure 14 (.pure 15 (.pure 16 (.pure 17 (.eff 18 [15,11,10,8,3,1] (.eff 19 [] .fin .nil) .nil)))))))))))))))))))
abbrev otD4:OT:=(.pure 0 (.pure 1 (.pure 2 (.pure 3 (.pure 4 (.pure 5 (.pure 6 (.pure 7 (.pure 8 (.pure 9 (.pure 10 (.pure 11 (.pure 12 (.pure 13 (.pure 14 (.pure 15 (.pure 16 (.pure 17 (.pure 18 (.pure 19 (.pure 20 (.pure 21 (.pure 22 (.eff 23 [] .fin .nil))))))))))))))))))))))))
abbrev otD6:OT:=(.pure 0 (.pure 1 (.pure 2 (.pure 3 (.pure 4 (.pure 5 (.pure 6 (.eff 7 [3,2] (.pure 8 (.eff 9 [3,2] (.pure 10 (.eff 11 [] .fin .nil)) .nil)) .nil))))))))
abbrev otD13:OT:=(.pure 0 (.pure 1 (.pure 2 (.pure 3 (.pure 4 (.pure 5 (.pure 6 (.eff 7 [4,1] (.pure 8 (.eff 9 [4] (.pure 10 (.eff 11 [] .fin .nil)) .nil)) .nil))))))))
abbrev otD14:OT:=(.pure 0 (.pure 1 (.pure 2 (.pure 3 (.pure 4 (.pure 5 (.pure 6 (.pure 7 (.pure 8 (.eff 9 [5,3,1] (.eff 10 [3,1] (.pure 11 (.eff 12 [] .fin .nil)) .nil) .nil))))))))))
def LfQ (r:PEnd):Prop:=∃ (y:PV) (c:Cd),r=.ret [y]∧NilD y c.pv∧∀ d,CdS (d+1) c 1 18
def CdQ (r:PEnd):Prop:=∃ (y:PV) (c:Cd) (n:Nat),r=.ret [y]∧NilD y c.pv∧n≤3∧CdS 8 c n 43
structure RcA (rs:List Rf) (cs:List Int):Prop where
 ok:RcS rs cs
 pos:1≤rs.length
theorem set01:∀ j,j<2→setB (([0,1]:List Int).drop j)=true∧(([0,1]:List Int).drop j).length≤2∧∀ a∈([0,1]:List Int).drop j,a≤9:=by decide
theorem icellC {l:List Int} {k:Nat} (h:k<l.length):(l.map i64)[k]?=some (i64 (l.getD k 0)):=map_at 0 h
theorem nil_op (op:Int) {ys:List (List PV)} {l:List Cd} (h:NilDLL ys (cellsL l)):NilD (.agg [i64 op,i64 0,i64 0,i64 0, .str [],i64 0, .str [],i64 0, .nils, .lsts 10 ys]) (Cd.mk op 0 0 0 rf0 [] l).pv:=by
 show NilD _ (.agg [i64 op,i64 0,i64 0,i64 0, .str [],i64 0, .str [],i64 0, .lst [], .lsts 10 (cellsL l)])
 simp only [NilD,NilDL]
 exact⟨_,rfl,_,_,rfl,rfl,_,_,rfl,rfl,_,_,rfl,rfl,_,_,rfl,rfl,_,_,rfl,rfl,_,_,rfl,rfl,_,_,rfl,rfl,_,_,rfl,rfl,_,_,rfl, .inr (.inl rfl),_,_,rfl,⟨_,rfl,h⟩,rfl⟩
theorem nil_agg {a b:List PV} (h:NilD (.agg a) (.agg b)):NilDL a b:=by
 simp only [NilD] at h
 obtain⟨z,e,h⟩:=h
 injection e with e
 subst e
 exact h
theorem nil_ll1 {a:List PV} {c:Cd} (h:NilD (.agg a) c.pv):NilDLL [a] (cellsL [c]):=by
 simp only [NilDLL,cellsL]
 exact⟨_,_,rfl,nil_agg h,rfl⟩
theorem nil_ll2 {a b:List PV} {c d:Cd} (h:NilD (.agg a) c.pv) (h2:NilD (.agg b) d.pv):NilDLL [a,b] (cellsL [c,d]):=by
 simp only [NilDLL,cellsL]
 exact⟨_,_,rfl,nil_agg h,_,_,rfl,nil_agg h2,rfl⟩
theorem wrap_u8' {n:Nat} (h:n<256):(n:Int)=IntKind.u8.wrap (n:Int):=by
 show(n:Int)=(n:Int) % 256
 omega
theorem u8_next (w:UInt8):((UInt8.ofNat (w.toNat+1)).toNat:Int)=IntKind.u8.wrap ((w.toNat:Int)+1):=by
 show((UInt8.ofNat (w.toNat+1)).toNat:Int)=((w.toNat:Int)+1) % 256
 rw [UInt8.toNat_ofNat']
 omega
theorem u8_half (n:UInt8):((UInt8.ofNat (n.toNat / 2)).toNat:Int)=IntKind.u8.wrap ((n.toNat:Int).tdiv 2):=by
 have hn:=n.toNat_lt
 rw [show(n.toNat:Int).tdiv 2=((n.toNat / 2:Nat):Int) from rfl,← wrap_u8' (by omega),UInt8.toNat_ofNat']
 omega
theorem cond_leaf' (p:Pc) (rs:List Rf) (cs:List Int) (h:RcA rs cs) (hm3:3≤p.m.toNat % 8):Pure cx 59 [.agg p.cells,rfl_ rs,ints cs] LfQ:=by
 refine pure_of_vc Tryz.func59 rfl rfl rfl ?_
 obtain⟨w,o,n,m,x,y,z⟩:=p
 simp only [] at hm3
 have hl':(rs.map Rf.cells).length=rs.length:=List.length_map ..
 have hpos:=h.pos
 have hk:(w.toNat:Int).tmod ((rs.map Rf.cells).length:Nat)=((w.toNat % rs.length:Nat):Int):=by rw [hl'];rfl
 have hkl:w.toNat % rs.length<rs.length:=Nat.mod_lt _ (by omega)
 generalize w.toNat % rs.length=k at hk hkl
 have hcell:=rcell hkl
 have hkc:k<cs.length:=by have:=h.ok.eq;omega
 have ccell:=icellC hkc
 have hrf:=h.ok.refs _ (getD_memL rf0 hkl)
 have hcd:=h.ok.nums _ (getD_memL 0 hkc)
 generalize rs.getD k rf0=rf at hcell hrf
 generalize cs.getD k 0=cd at ccell hcd
 obtain⟨nm,md,pl,rn⟩:=rf
 have hw:=w.toNat_lt
 have ho:=o.toNat_lt
 have hn:=n.toNat_lt
 have hm:=m.toNat_lt
 have eo:((o.toNat % 4:Nat):Int)=IntKind.i64.wrap ((o.toNat:Int).tmod 4):=by
  rw [show(o.toNat:Int).tmod 4=((o.toNat % 4:Nat):Int) from rfl];exact wrap_i64 (by omega) (by omega)
 have en:(n.toNat:Int)=IntKind.i64.wrap (n.toNat:Int):=wrap_i64 (by omega) (by omega)
 have hv0:=tmod_in (Int.natCast_nonneg n.toNat) (show 0<cd by omega)
 have hv:=hv0
 have e8:(m.toNat:Int).tmod 8=((m.toNat % 8:Nat):Int):=rfl
 have f8:(o.toNat:Int).tmod 8=((o.toNat % 8:Nat):Int):=rfl
 have hok:=hrf.ok
 refine⟨(w.toNat:Int),wrap_i64 (by omega) (by omega),?_⟩
 refine⟨by show ¬ (((rs.map Rf.cells).length:Nat):Int)=0;rw [hl'];omega,?_⟩
 generalize (w.toNat:Int).tmod ((rs.map Rf.cells).length:Nat)=kk at hk ⊢
 subst hk
 refine vdraw_ot otD2 (by kernel_rfl) ?_
 refine⟨by decide,?_⟩
 refine⟨((o.toNat % 4:Nat):Int),eo,?_⟩
 refine⟨1+((o.toNat % 4:Nat):Int),wrap_i64 (by omega) (by omega),?_⟩
 refine⟨_,⟨by omega,(⟨nm,md,pl,rn⟩:Rf).cells,hcell,rfl⟩,?_⟩
 refine⟨(n.toNat:Int),en,?_⟩
 refine⟨_,⟨by omega,i64 cd,ccell,rfl⟩,?_⟩
 refine⟨by show ¬ cd=0;omega,?_⟩
 generalize (n.toNat:Int).tmod cd=v at hv ⊢
 refine⟨⟨rfl,congrArg (fun z:Int=>AV.p (.int .i64 z)) en,rfl,rfl,congrArg (fun z:Int=>AV.p (.int .i64 z)) eo,rfl,trivial⟩,?_⟩
 refine⟨_,⟨by omega,(⟨nm,md,pl,rn⟩:Rf).cells,hcell,rfl⟩,?_⟩
 refine And.intro (fun h3=>?_) (fun h3=>?_)
 ·have h3:md=3:=h3
  refine vdraw_ot otD4 (by kernel_rfl) ?_
  refine⟨_,⟨by omega,(⟨nm,md,pl,rn⟩:Rf).cells,hcell,rfl⟩,?_⟩
  refine⟨(n.toNat:Int),en,?_⟩
  refine⟨_,⟨by omega,i64 cd,ccell,rfl⟩,?_⟩
  refine⟨by show ¬ cd=0;omega,?_⟩
  clear hv
  have hv:=hv0
  generalize (n.toNat:Int).tmod cd=v at hv ⊢
  refine⟨by decide,?_⟩
  refine⟨((o.toNat % 4:Nat):Int),eo,?_⟩
  refine⟨1+((o.toNat % 4:Nat):Int),wrap_i64 (by omega) (by omega),?_⟩
  refine⟨by decide,((n.toNat / 8:Nat):Int),wrap_u8' (by omega),?_⟩
  refine⟨((n.toNat / 8:Nat):Int),wrap_i64 (by omega) (by omega),?_⟩
  refine⟨by decide,?_⟩
  have hq:=tmod_in (Int.natCast_nonneg (n.toNat / 8)) (show(0:Int)<4 by decide)
  generalize ((n.toNat / 8:Nat):Int).tmod 4=q at hq ⊢
  have hC1:∀ d,CdS (d+1) (.mk 6 q (1+((o.toNat % 4:Nat):Int)) v ⟨nm,md,pl,rn⟩ [] []) 1 18:=CdS.leaf (by decide) (by decide) (by decide) (by rw [leafB,if_neg (by decide),if_neg (by decide),if_pos rfl,hok,decide_eq_true h3,nat_of hq.1 (by omega),nat_of hv.1 (by omega),decide_eq_true (by omega),decide_eq_true (by omega)];rfl) hrf (by omega) (by omega) ⟨by decide,fun a ha=>by cases ha⟩
  refine⟨by decide,?_⟩
  refine And.intro (fun h=>absurd (show(m.toNat:Int).tmod 8=0 from h) (by rw [e8];omega)) (fun _=>?_)
  refine And.intro (fun h=>absurd (show(m.toNat:Int).tmod 8=1 from h) (by rw [e8];omega)) (fun _=>?_)
  refine And.intro (fun h=>absurd (show(m.toNat:Int).tmod 8=2 from h) (by rw [e8];omega)) (fun _=>?_)
  refine end1 (.agg [i64 6,i64 q,i64 (1+((o.toNat % 4:Nat):Int)),i64 v, .str nm,i64 md, .str pl,i64 rn, .nils, .nils]) rfl rfl ?_
  exact⟨_, .mk 6 q (1+((o.toNat % 4:Nat):Int)) v ⟨nm,md,pl,rn⟩ [] [],rfl,nil_leaf2 6 q (1+((o.toNat % 4:Nat):Int)) v ⟨nm,md,pl,rn⟩,hC1⟩
 ·refine⟨by decide,?_⟩
  by_cases h6:5<o.toNat % 8
  rotate_left
  ·refine And.intro (fun h=>absurd (show(5:Int)<(o.toNat:Int).tmod 8 from h) (by rw [f8];omega)) (fun _=>?_)
   have hC2:∀ d,CdS (d+1) (.mk (1+((o.toNat % 4:Nat):Int)) v 0 0 ⟨nm,md,pl,rn⟩ [] []) 1 18:=CdS.leaf (by omega) (by omega) (by omega) (leafB1 (by omega) hok (nat_of hv.1 (by omega))) hrf (by omega) (by decide) ⟨by decide,fun a ha=>by cases ha⟩
   refine⟨by decide,?_⟩
   refine And.intro (fun h=>absurd (show(m.toNat:Int).tmod 8=0 from h) (by rw [e8];omega)) (fun _=>?_)
   refine And.intro (fun h=>absurd (show(m.toNat:Int).tmod 8=1 from h) (by rw [e8];omega)) (fun _=>?_)
   refine And.intro (fun h=>absurd (show(m.toNat:Int).tmod 8=2 from h) (by rw [e8];omega)) (fun _=>?_)
   refine end1 (.agg [i64 (1+((o.toNat % 4:Nat):Int)),i64 v,i64 0,i64 0, .str nm,i64 md, .str pl,i64 rn, .nils, .nils]) rfl rfl ?_
   exact⟨_, .mk (1+((o.toNat % 4:Nat):Int)) v 0 0 ⟨nm,md,pl,rn⟩ [] [],rfl,nil_leaf2 (1+((o.toNat % 4:Nat):Int)) v 0 0 ⟨nm,md,pl,rn⟩,hC2⟩
  refine And.intro (fun _=>?_) (fun h=>absurd (show(5:Int)<(o.toNat:Int).tmod 8 by rw [f8];omega) h)
  refine vdraw_ot otD6 (by kernel_rfl) ?_
  refine⟨(n.toNat:Int),en,?_⟩
  refine⟨by decide,?_⟩
  have hj:(n.toNat:Int).tmod 2=((n.toNat % 2:Nat):Int):=rfl
  have hj2:n.toNat % 2<2:=Nat.mod_lt _ (by decide)
  generalize n.toNat % 2=j at hj hj2
  generalize (n.toNat:Int).tmod 2=jj at hj ⊢
  subst hj
  have s01:=set01 j hj2
  refine⟨by show(0:Int)≤((j:Nat):Int)∧((j:Nat):Int)≤2;omega,?_⟩
  refine⟨⟨congrArg (fun z:Int=>AV.p (.int .i64 z)) en,rfl,trivial⟩,?_⟩
  refine⟨⟨congrArg (fun z:Int=>AV.p (.int .i64 z)) en,rfl,trivial⟩,?_⟩
  have hC3:∀ d,CdS (d+1) (.mk 5 0 0 0 ⟨nm,md,pl,rn⟩ (([0,1]:List Int).drop j) []) 1 18:=CdS.leaf (by decide) (by decide) (by decide) (leafB5 hok s01.1) hrf (by decide) (by decide) s01.2
  refine⟨by decide,?_⟩
  refine And.intro (fun h=>absurd (show(m.toNat:Int).tmod 8=0 from h) (by rw [e8];omega)) (fun _=>?_)
  refine And.intro (fun h=>absurd (show(m.toNat:Int).tmod 8=1 from h) (by rw [e8];omega)) (fun _=>?_)
  refine And.intro (fun h=>absurd (show(m.toNat:Int).tmod 8=2 from h) (by rw [e8];omega)) (fun _=>?_)
  refine end1 (.agg [i64 5,i64 0,i64 0,i64 0, .str nm,i64 md, .str pl,i64 rn, .lst ((([0,1]:List Int).map i64).drop j), .nils]) rfl rfl ?_
  exact⟨_, .mk 5 0 0 0 ⟨nm,md,pl,rn⟩ (([0,1]:List Int).drop j) [],rfl,nil_leafD ⟨nm,md,pl,rn⟩ [0,1] j,hC3⟩
theorem cond_leaf (p:Pc) (rs:List Rf) (cs:List Int) (h:RcA rs cs) (hm3:3≤p.m.toNat % 8):Pure cx 59 [.agg p.cells,rfl_ rs,ints cs] fun r=>∃ c:Cd,r=.ret [c.pv]∧∀ d,CdS (d+1) c 1 18:=
 (cond_leaf' p rs cs h hm3).weak fun r hr=>by
  obtain⟨y,c,rfl,h1,h2⟩:=hr
  exact⟨.ret [c.pv],⟨_,rfl,_,_,rfl,h1,rfl⟩,c,rfl,h2⟩
theorem cond_c' (p:Pc) (rs:List Rf) (cs:List Int) (h:RcA rs cs):Pure cx 59 [.agg p.cells,rfl_ rs,ints cs] CdQ:=by
 refine pure_of_vc Tryz.func59 rfl rfl rfl ?_
 obtain⟨w,o,n,m,x,y,z⟩:=p
 have hl':(rs.map Rf.cells).length=rs.length:=List.length_map ..
 have hpos:=h.pos
 have hk:(w.toNat:Int).tmod ((rs.map Rf.cells).length:Nat)=((w.toNat % rs.length:Nat):Int):=by rw [hl'];rfl
 have hkl:w.toNat % rs.length<rs.length:=Nat.mod_lt _ (by omega)
 generalize w.toNat % rs.length=k at hk hkl
 have hcell:=rcell hkl
 have hkc:k<cs.length:=by have:=h.ok.eq;omega
 have ccell:=icellC hkc
 have hrf:=h.ok.refs _ (getD_memL rf0 hkl)
 have hcd:=h.ok.nums _ (getD_memL 0 hkc)
 generalize rs.getD k rf0=rf at hcell hrf
 generalize cs.getD k 0=cd at ccell hcd
 obtain⟨nm,md,pl,rn⟩:=rf
 have hw:=w.toNat_lt
 have ho:=o.toNat_lt
 have hn:=n.toNat_lt
 have hm:=m.toNat_lt
 have eo:((o.toNat % 4:Nat):Int)=IntKind.i64.wrap ((o.toNat:Int).tmod 4):=by
  rw [show(o.toNat:Int).tmod 4=((o.toNat % 4:Nat):Int) from rfl];exact wrap_i64 (by omega) (by omega)
 have en:(n.toNat:Int)=IntKind.i64.wrap (n.toNat:Int):=wrap_i64 (by omega) (by omega)
 have hv0:=tmod_in (Int.natCast_nonneg n.toNat) (show 0<cd by omega)
 have hv:=hv0
 have e8:(m.toNat:Int).tmod 8=((m.toNat % 8:Nat):Int):=rfl
 have f8:(o.toNat:Int).tmod 8=((o.toNat % 8:Nat):Int):=rfl
 have hok:=hrf.ok
 refine⟨(w.toNat:Int),wrap_i64 (by omega) (by omega),?_⟩
 refine⟨by show ¬ (((rs.map Rf.cells).length:Nat):Int)=0;rw [hl'];omega,?_⟩
 generalize (w.toNat:Int).tmod ((rs.map Rf.cells).length:Nat)=kk at hk ⊢
 subst hk
 refine vdraw_ot otD2 (by kernel_rfl) ?_
 refine⟨by decide,?_⟩
 refine⟨((o.toNat % 4:Nat):Int),eo,?_⟩
 refine⟨1+((o.toNat % 4:Nat):Int),wrap_i64 (by omega) (by omega),?_⟩
 refine⟨_,⟨by omega,(⟨nm,md,pl,rn⟩:Rf).cells,hcell,rfl⟩,?_⟩
 refine⟨(n.toNat:Int),en,?_⟩
 refine⟨_,⟨by omega,i64 cd,ccell,rfl⟩,?_⟩
 refine⟨by show ¬ cd=0;omega,?_⟩
 generalize (n.toNat:Int).tmod cd=v at hv ⊢
 refine⟨⟨rfl,congrArg (fun z:Int=>AV.p (.int .i64 z)) en,rfl,rfl,congrArg (fun z:Int=>AV.p (.int .i64 z)) eo,rfl,trivial⟩,?_⟩
 refine⟨_,⟨by omega,(⟨nm,md,pl,rn⟩:Rf).cells,hcell,rfl⟩,?_⟩
 refine And.intro (fun h3=>?_) (fun h3=>?_)
 ·have h3:md=3:=h3
  refine vdraw_ot otD4 (by kernel_rfl) ?_
  refine⟨_,⟨by omega,(⟨nm,md,pl,rn⟩:Rf).cells,hcell,rfl⟩,?_⟩
  refine⟨(n.toNat:Int),en,?_⟩
  refine⟨_,⟨by omega,i64 cd,ccell,rfl⟩,?_⟩
  refine⟨by show ¬ cd=0;omega,?_⟩
  clear hv
  have hv:=hv0
  generalize (n.toNat:Int).tmod cd=v at hv ⊢
  refine⟨by decide,?_⟩
  refine⟨((o.toNat % 4:Nat):Int),eo,?_⟩
  refine⟨1+((o.toNat % 4:Nat):Int),wrap_i64 (by omega) (by omega),?_⟩
  refine⟨by decide,((n.toNat / 8:Nat):Int),wrap_u8' (by omega),?_⟩
  refine⟨((n.toNat / 8:Nat):Int),wrap_i64 (by omega) (by omega),?_⟩
  refine⟨by decide,?_⟩
  have hq:=tmod_in (Int.natCast_nonneg (n.toNat / 8)) (show(0:Int)<4 by decide)
  generalize ((n.toNat / 8:Nat):Int).tmod 4=q at hq ⊢
  have hC1:∀ d,CdS (d+1) (.mk 6 q (1+((o.toNat % 4:Nat):Int)) v ⟨nm,md,pl,rn⟩ [] []) 1 18:=CdS.leaf (by decide) (by decide) (by decide) (by rw [leafB,if_neg (by decide),if_neg (by decide),if_pos rfl,hok,decide_eq_true h3,nat_of hq.1 (by omega),nat_of hv.1 (by omega),decide_eq_true (by omega),decide_eq_true (by omega)];rfl) hrf (by omega) (by omega) ⟨by decide,fun a ha=>by cases ha⟩
  refine⟨by decide,?_⟩
  by_cases m0:m.toNat % 8=0
  ·refine And.intro (fun _=>?_) (fun h=>absurd (show(m.toNat:Int).tmod 8=0 by rw [e8];omega) h)
   refine end1 (.agg [i64 7,i64 0,i64 0,i64 0, .str [],i64 0, .str [],i64 0, .nils, .lsts 10 [[i64 6,i64 q,i64 (1+((o.toNat % 4:Nat):Int)),i64 v, .str nm,i64 md, .str pl,i64 rn, .nils, .nils]]]) rfl ⟨_,rfl,_,_,rfl,rfl,_,_,rfl,rfl,_,_,rfl,rfl,_,_,rfl,rfl,_,_,rfl,rfl,_,_,rfl,rfl,_,_,rfl,rfl,_,_,rfl,rfl,_,_,rfl, .inl rfl,_,_,rfl,⟨_,rfl,Nat.le_refl _,rfl⟩,rfl⟩ ?_
   exact⟨_, .mk 7 0 0 0 rf0 [] [.mk 6 q (1+((o.toNat % 4:Nat):Int)) v ⟨nm,md,pl,rn⟩ [] []],2,rfl,nil_op 7 (nil_ll1 (nil_leaf2 6 q (1+((o.toNat % 4:Nat):Int)) v ⟨nm,md,pl,rn⟩)),by decide,(hC1 6).neg.le (by decide)⟩
  refine And.intro (fun h=>absurd (show(m.toNat:Int).tmod 8=0 from h) (by rw [e8];omega)) (fun _=>?_)
  by_cases m12:m.toNat % 8=1∨m.toNat % 8=2
  rotate_left
  ·refine And.intro (fun h=>absurd (show(m.toNat:Int).tmod 8=1 from h) (by rw [e8];omega)) (fun _=>?_)
   refine And.intro (fun h=>absurd (show(m.toNat:Int).tmod 8=2 from h) (by rw [e8];omega)) (fun _=>?_)
   refine end1 (.agg [i64 6,i64 q,i64 (1+((o.toNat % 4:Nat):Int)),i64 v, .str nm,i64 md, .str pl,i64 rn, .nils, .nils]) rfl rfl ?_
   exact⟨_, .mk 6 q (1+((o.toNat % 4:Nat):Int)) v ⟨nm,md,pl,rn⟩ [] [],1,rfl,nil_leaf2 6 q (1+((o.toNat % 4:Nat):Int)) v ⟨nm,md,pl,rn⟩,by decide,(hC1 7).le (by decide)⟩
  by_cases m1:m.toNat % 8=1
  ·refine And.intro (fun _=>?_) (fun h=>absurd (show(m.toNat:Int).tmod 8=1 by rw [e8];omega) h)
   refine vdraw_ot otD13 (by kernel_rfl) ?_
   refine⟨_,u8_next w,?_⟩
   refine⟨by decide,_,u8_half n,?_⟩
   refine⟨⟨rfl,rfl,trivial⟩,?_⟩
   refine⟨⟨rfl,trivial⟩,?_⟩
   refine vdraw_ot otD14 (by kernel_rfl) ?_
   refine⟨by decide,?_⟩
   have e2:((m.toNat % 2:Nat):Int)=IntKind.i64.wrap ((m.toNat:Int).tmod 2):=by
    rw [show(m.toNat:Int).tmod 2=((m.toNat % 2:Nat):Int) from rfl];exact wrap_i64 (by omega) (by omega)
   refine⟨((m.toNat % 2:Nat):Int),e2,?_⟩
   refine⟨8+((m.toNat % 2:Nat):Int),wrap_i64 (by omega) (by omega),?_⟩
   refine(cond_leaf ⟨UInt8.ofNat (w.toNat+1),o,UInt8.ofNat (n.toNat / 2),7,x,y,z⟩ rs cs h (by show 3≤(7:UInt8).toNat % 8;decide)).at fun r hr=>?_
   obtain⟨⟨ao,an,ar,av,af,as',aa⟩,rfl,hc2⟩:=hr
   refine⟨⟨rfl,congrArg (fun z:Int=>AV.p (.int .i64 z)) e2,rfl,trivial⟩,?_⟩
   refine⟨⟨congrArg (fun z:Int=>AV.p (.int .i64 z)) e2,rfl,trivial⟩,?_⟩
   refine end1 (.agg [i64 (8+((m.toNat % 2:Nat):Int)),i64 0,i64 0,i64 0, .str [],i64 0, .str [],i64 0, .nils, .lsts 10 [[i64 6,i64 q,i64 (1+((o.toNat % 4:Nat):Int)),i64 v, .str nm,i64 md, .str pl,i64 rn, .nils, .nils],(Cd.mk ao an ar av af as' aa).cells]]) rfl ⟨_,rfl,_,_,rfl,rfl,_,_,rfl,rfl,_,_,rfl,rfl,_,_,rfl,rfl,_,_,rfl,rfl,_,_,rfl,rfl,_,_,rfl,rfl,_,_,rfl,rfl,_,_,rfl, .inl rfl,_,_,rfl,⟨_,rfl,Nat.le_refl _,rfl⟩,rfl⟩ ?_
   exact⟨_, .mk (8+((m.toNat % 2:Nat):Int)) 0 0 0 rf0 [] [.mk 6 q (1+((o.toNat % 4:Nat):Int)) v ⟨nm,md,pl,rn⟩ [] [], .mk ao an ar av af as' aa],3,rfl,nil_op _ (nil_ll2 (nil_leaf2 6 q (1+((o.toNat % 4:Nat):Int)) v ⟨nm,md,pl,rn⟩) (NilD.refl _)),by decide,CdS.two (by omega) (hC1 6) (hc2 6)⟩
  ·refine And.intro (fun h=>absurd (show(m.toNat:Int).tmod 8=1 from h) (by rw [e8];omega)) (fun _=>?_)
   refine And.intro (fun _=>?_) (fun h=>absurd (show(m.toNat:Int).tmod 8=2 by rw [e8];omega) h)
   refine vdraw_ot otD13 (by kernel_rfl) ?_
   refine⟨_,u8_next w,?_⟩
   refine⟨by decide,_,u8_half n,?_⟩
   refine⟨⟨rfl,rfl,trivial⟩,?_⟩
   refine⟨⟨rfl,trivial⟩,?_⟩
   refine vdraw_ot otD14 (by kernel_rfl) ?_
   refine⟨by decide,?_⟩
   have e2:((m.toNat % 2:Nat):Int)=IntKind.i64.wrap ((m.toNat:Int).tmod 2):=by
    rw [show(m.toNat:Int).tmod 2=((m.toNat % 2:Nat):Int) from rfl];exact wrap_i64 (by omega) (by omega)
   refine⟨((m.toNat % 2:Nat):Int),e2,?_⟩
   refine⟨8+((m.toNat % 2:Nat):Int),wrap_i64 (by omega) (by omega),?_⟩
   refine(cond_leaf ⟨UInt8.ofNat (w.toNat+1),o,UInt8.ofNat (n.toNat / 2),7,x,y,z⟩ rs cs h (by show 3≤(7:UInt8).toNat % 8;decide)).at fun r hr=>?_
   obtain⟨⟨ao,an,ar,av,af,as',aa⟩,rfl,hc2⟩:=hr
   refine⟨⟨rfl,congrArg (fun z:Int=>AV.p (.int .i64 z)) e2,rfl,trivial⟩,?_⟩
   refine⟨⟨congrArg (fun z:Int=>AV.p (.int .i64 z)) e2,rfl,trivial⟩,?_⟩
   refine end1 (.agg [i64 (8+((m.toNat % 2:Nat):Int)),i64 0,i64 0,i64 0, .str [],i64 0, .str [],i64 0, .nils, .lsts 10 [[i64 6,i64 q,i64 (1+((o.toNat % 4:Nat):Int)),i64 v, .str nm,i64 md, .str pl,i64 rn, .nils, .nils],(Cd.mk ao an ar av af as' aa).cells]]) rfl ⟨_,rfl,_,_,rfl,rfl,_,_,rfl,rfl,_,_,rfl,rfl,_,_,rfl,rfl,_,_,rfl,rfl,_,_,rfl,rfl,_,_,rfl,rfl,_,_,rfl,rfl,_,_,rfl, .inl rfl,_,_,rfl,⟨_,rfl,Nat.le_refl _,rfl⟩,rfl⟩ ?_
   exact⟨_, .mk (8+((m.toNat % 2:Nat):Int)) 0 0 0 rf0 [] [.mk 6 q (1+((o.toNat % 4:Nat):Int)) v ⟨nm,md,pl,rn⟩ [] [], .mk ao an ar av af as' aa],3,rfl,nil_op _ (nil_ll2 (nil_leaf2 6 q (1+((o.toNat % 4:Nat):Int)) v ⟨nm,md,pl,rn⟩) (NilD.refl _)),by decide,CdS.two (by omega) (hC1 6) (hc2 6)⟩
 ·refine⟨by decide,?_⟩
  by_cases h6:5<o.toNat % 8
  rotate_left
  ·refine And.intro (fun h=>absurd (show(5:Int)<(o.toNat:Int).tmod 8 from h) (by rw [f8];omega)) (fun _=>?_)
   have hC2:∀ d,CdS (d+1) (.mk (1+((o.toNat % 4:Nat):Int)) v 0 0 ⟨nm,md,pl,rn⟩ [] []) 1 18:=CdS.leaf (by omega) (by omega) (by omega) (leafB1 (by omega) hok (nat_of hv.1 (by omega))) hrf (by omega) (by decide) ⟨by decide,fun a ha=>by cases ha⟩
   refine⟨by decide,?_⟩
   by_cases m0:m.toNat % 8=0
   ·refine And.intro (fun _=>?_) (fun h=>absurd (show(m.toNat:Int).tmod 8=0 by rw [e8];omega) h)
    refine end1 (.agg [i64 7,i64 0,i64 0,i64 0, .str [],i64 0, .str [],i64 0, .nils, .lsts 10 [[i64 (1+((o.toNat % 4:Nat):Int)),i64 v,i64 0,i64 0, .str nm,i64 md, .str pl,i64 rn, .nils, .nils]]]) rfl ⟨_,rfl,_,_,rfl,rfl,_,_,rfl,rfl,_,_,rfl,rfl,_,_,rfl,rfl,_,_,rfl,rfl,_,_,rfl,rfl,_,_,rfl,rfl,_,_,rfl,rfl,_,_,rfl, .inl rfl,_,_,rfl,⟨_,rfl,Nat.le_refl _,rfl⟩,rfl⟩ ?_
    exact⟨_, .mk 7 0 0 0 rf0 [] [.mk (1+((o.toNat % 4:Nat):Int)) v 0 0 ⟨nm,md,pl,rn⟩ [] []],2,rfl,nil_op 7 (nil_ll1 (nil_leaf2 (1+((o.toNat % 4:Nat):Int)) v 0 0 ⟨nm,md,pl,rn⟩)),by decide,(hC2 6).neg.le (by decide)⟩
   refine And.intro (fun h=>absurd (show(m.toNat:Int).tmod 8=0 from h) (by rw [e8];omega)) (fun _=>?_)
   by_cases m12:m.toNat % 8=1∨m.toNat % 8=2
   rotate_left
   ·refine And.intro (fun h=>absurd (show(m.toNat:Int).tmod 8=1 from h) (by rw [e8];omega)) (fun _=>?_)
    refine And.intro (fun h=>absurd (show(m.toNat:Int).tmod 8=2 from h) (by rw [e8];omega)) (fun _=>?_)
    refine end1 (.agg [i64 (1+((o.toNat % 4:Nat):Int)),i64 v,i64 0,i64 0, .str nm,i64 md, .str pl,i64 rn, .nils, .nils]) rfl rfl ?_
    exact⟨_, .mk (1+((o.toNat % 4:Nat):Int)) v 0 0 ⟨nm,md,pl,rn⟩ [] [],1,rfl,nil_leaf2 (1+((o.toNat % 4:Nat):Int)) v 0 0 ⟨nm,md,pl,rn⟩,by decide,(hC2 7).le (by decide)⟩
   by_cases m1:m.toNat % 8=1
   ·refine And.intro (fun _=>?_) (fun h=>absurd (show(m.toNat:Int).tmod 8=1 by rw [e8];omega) h)
    refine vdraw_ot otD13 (by kernel_rfl) ?_
    refine⟨_,u8_next w,?_⟩
    refine⟨by decide,_,u8_half n,?_⟩
    refine⟨⟨rfl,rfl,trivial⟩,?_⟩
    refine⟨⟨rfl,trivial⟩,?_⟩
    refine vdraw_ot otD14 (by kernel_rfl) ?_
    refine⟨by decide,?_⟩
    have e2:((m.toNat % 2:Nat):Int)=IntKind.i64.wrap ((m.toNat:Int).tmod 2):=by
     rw [show(m.toNat:Int).tmod 2=((m.toNat % 2:Nat):Int) from rfl];exact wrap_i64 (by omega) (by omega)
    refine⟨((m.toNat % 2:Nat):Int),e2,?_⟩
    refine⟨8+((m.toNat % 2:Nat):Int),wrap_i64 (by omega) (by omega),?_⟩
    refine(cond_leaf ⟨UInt8.ofNat (w.toNat+1),o,UInt8.ofNat (n.toNat / 2),7,x,y,z⟩ rs cs h (by show 3≤(7:UInt8).toNat % 8;decide)).at fun r hr=>?_
    obtain⟨⟨ao,an,ar,av,af,as',aa⟩,rfl,hc2⟩:=hr
    refine⟨⟨rfl,congrArg (fun z:Int=>AV.p (.int .i64 z)) e2,rfl,trivial⟩,?_⟩
    refine⟨⟨congrArg (fun z:Int=>AV.p (.int .i64 z)) e2,rfl,trivial⟩,?_⟩
    refine end1 (.agg [i64 (8+((m.toNat % 2:Nat):Int)),i64 0,i64 0,i64 0, .str [],i64 0, .str [],i64 0, .nils, .lsts 10 [[i64 (1+((o.toNat % 4:Nat):Int)),i64 v,i64 0,i64 0, .str nm,i64 md, .str pl,i64 rn, .nils, .nils],(Cd.mk ao an ar av af as' aa).cells]]) rfl ⟨_,rfl,_,_,rfl,rfl,_,_,rfl,rfl,_,_,rfl,rfl,_,_,rfl,rfl,_,_,rfl,rfl,_,_,rfl,rfl,_,_,rfl,rfl,_,_,rfl,rfl,_,_,rfl, .inl rfl,_,_,rfl,⟨_,rfl,Nat.le_refl _,rfl⟩,rfl⟩ ?_
    exact⟨_, .mk (8+((m.toNat % 2:Nat):Int)) 0 0 0 rf0 [] [.mk (1+((o.toNat % 4:Nat):Int)) v 0 0 ⟨nm,md,pl,rn⟩ [] [], .mk ao an ar av af as' aa],3,rfl,nil_op _ (nil_ll2 (nil_leaf2 (1+((o.toNat % 4:Nat):Int)) v 0 0 ⟨nm,md,pl,rn⟩) (NilD.refl _)),by decide,CdS.two (by omega) (hC2 6) (hc2 6)⟩
   ·refine And.intro (fun h=>absurd (show(m.toNat:Int).tmod 8=1 from h) (by rw [e8];omega)) (fun _=>?_)
    refine And.intro (fun _=>?_) (fun h=>absurd (show(m.toNat:Int).tmod 8=2 by rw [e8];omega) h)
    refine vdraw_ot otD13 (by kernel_rfl) ?_
    refine⟨_,u8_next w,?_⟩
    refine⟨by decide,_,u8_half n,?_⟩
    refine⟨⟨rfl,rfl,trivial⟩,?_⟩
    refine⟨⟨rfl,trivial⟩,?_⟩
    refine vdraw_ot otD14 (by kernel_rfl) ?_
    refine⟨by decide,?_⟩
    have e2:((m.toNat % 2:Nat):Int)=IntKind.i64.wrap ((m.toNat:Int).tmod 2):=by
     rw [show(m.toNat:Int).tmod 2=((m.toNat % 2:Nat):Int) from rfl];exact wrap_i64 (by omega) (by omega)
    refine⟨((m.toNat % 2:Nat):Int),e2,?_⟩
    refine⟨8+((m.toNat % 2:Nat):Int),wrap_i64 (by omega) (by omega),?_⟩
    refine(cond_leaf ⟨UInt8.ofNat (w.toNat+1),o,UInt8.ofNat (n.toNat / 2),7,x,y,z⟩ rs cs h (by show 3≤(7:UInt8).toNat % 8;decide)).at fun r hr=>?_
    obtain⟨⟨ao,an,ar,av,af,as',aa⟩,rfl,hc2⟩:=hr
    refine⟨⟨rfl,congrArg (fun z:Int=>AV.p (.int .i64 z)) e2,rfl,trivial⟩,?_⟩
    refine⟨⟨congrArg (fun z:Int=>AV.p (.int .i64 z)) e2,rfl,trivial⟩,?_⟩
    refine end1 (.agg [i64 (8+((m.toNat % 2:Nat):Int)),i64 0,i64 0,i64 0, .str [],i64 0, .str [],i64 0, .nils, .lsts 10 [[i64 (1+((o.toNat % 4:Nat):Int)),i64 v,i64 0,i64 0, .str nm,i64 md, .str pl,i64 rn, .nils, .nils],(Cd.mk ao an ar av af as' aa).cells]]) rfl ⟨_,rfl,_,_,rfl,rfl,_,_,rfl,rfl,_,_,rfl,rfl,_,_,rfl,rfl,_,_,rfl,rfl,_,_,rfl,rfl,_,_,rfl,rfl,_,_,rfl,rfl,_,_,rfl, .inl rfl,_,_,rfl,⟨_,rfl,Nat.le_refl _,rfl⟩,rfl⟩ ?_
    exact⟨_, .mk (8+((m.toNat % 2:Nat):Int)) 0 0 0 rf0 [] [.mk (1+((o.toNat % 4:Nat):Int)) v 0 0 ⟨nm,md,pl,rn⟩ [] [], .mk ao an ar av af as' aa],3,rfl,nil_op _ (nil_ll2 (nil_leaf2 (1+((o.toNat % 4:Nat):Int)) v 0 0 ⟨nm,md,pl,rn⟩) (NilD.refl _)),by decide,CdS.two (by omega) (hC2 6) (hc2 6)⟩
  refine And.intro (fun _=>?_) (fun h=>absurd (show(5:Int)<(o.toNat:Int).tmod 8 by rw [f8];omega) h)
  refine vdraw_ot otD6 (by kernel_rfl) ?_
  refine⟨(n.toNat:Int),en,?_⟩
  refine⟨by decide,?_⟩
  have hj:(n.toNat:Int).tmod 2=((n.toNat % 2:Nat):Int):=rfl
  have hj2:n.toNat % 2<2:=Nat.mod_lt _ (by decide)
  generalize n.toNat % 2=j at hj hj2
  generalize (n.toNat:Int).tmod 2=jj at hj ⊢
  subst hj
  have s01:=set01 j hj2
  refine⟨by show(0:Int)≤((j:Nat):Int)∧((j:Nat):Int)≤2;omega,?_⟩
  refine⟨⟨congrArg (fun z:Int=>AV.p (.int .i64 z)) en,rfl,trivial⟩,?_⟩
  refine⟨⟨congrArg (fun z:Int=>AV.p (.int .i64 z)) en,rfl,trivial⟩,?_⟩
  have hC3:∀ d,CdS (d+1) (.mk 5 0 0 0 ⟨nm,md,pl,rn⟩ (([0,1]:List Int).drop j) []) 1 18:=CdS.leaf (by decide) (by decide) (by decide) (leafB5 hok s01.1) hrf (by decide) (by decide) s01.2
  refine⟨by decide,?_⟩
  by_cases m0:m.toNat % 8=0
  ·refine And.intro (fun _=>?_) (fun h=>absurd (show(m.toNat:Int).tmod 8=0 by rw [e8];omega) h)
   refine end1 (.agg [i64 7,i64 0,i64 0,i64 0, .str [],i64 0, .str [],i64 0, .nils, .lsts 10 [[i64 5,i64 0,i64 0,i64 0, .str nm,i64 md, .str pl,i64 rn, .lst ((([0,1]:List Int).map i64).drop j), .nils]]]) rfl ⟨_,rfl,_,_,rfl,rfl,_,_,rfl,rfl,_,_,rfl,rfl,_,_,rfl,rfl,_,_,rfl,rfl,_,_,rfl,rfl,_,_,rfl,rfl,_,_,rfl,rfl,_,_,rfl, .inl rfl,_,_,rfl,⟨_,rfl,Nat.le_refl _,rfl⟩,rfl⟩ ?_
   exact⟨_, .mk 7 0 0 0 rf0 [] [.mk 5 0 0 0 ⟨nm,md,pl,rn⟩ (([0,1]:List Int).drop j) []],2,rfl,nil_op 7 (nil_ll1 (nil_leafD ⟨nm,md,pl,rn⟩ [0,1] j)),by decide,(hC3 6).neg.le (by decide)⟩
  refine And.intro (fun h=>absurd (show(m.toNat:Int).tmod 8=0 from h) (by rw [e8];omega)) (fun _=>?_)
  by_cases m12:m.toNat % 8=1∨m.toNat % 8=2
  rotate_left
  ·refine And.intro (fun h=>absurd (show(m.toNat:Int).tmod 8=1 from h) (by rw [e8];omega)) (fun _=>?_)
   refine And.intro (fun h=>absurd (show(m.toNat:Int).tmod 8=2 from h) (by rw [e8];omega)) (fun _=>?_)
   refine end1 (.agg [i64 5,i64 0,i64 0,i64 0, .str nm,i64 md, .str pl,i64 rn, .lst ((([0,1]:List Int).map i64).drop j), .nils]) rfl rfl ?_
   exact⟨_, .mk 5 0 0 0 ⟨nm,md,pl,rn⟩ (([0,1]:List Int).drop j) [],1,rfl,nil_leafD ⟨nm,md,pl,rn⟩ [0,1] j,by decide,(hC3 7).le (by decide)⟩
  by_cases m1:m.toNat % 8=1
  ·refine And.intro (fun _=>?_) (fun h=>absurd (show(m.toNat:Int).tmod 8=1 by rw [e8];omega) h)
   refine vdraw_ot otD13 (by kernel_rfl) ?_
   refine⟨_,u8_next w,?_⟩
   refine⟨by decide,_,u8_half n,?_⟩
   refine⟨⟨rfl,rfl,trivial⟩,?_⟩
   refine⟨⟨rfl,trivial⟩,?_⟩
   refine vdraw_ot otD14 (by kernel_rfl) ?_
   refine⟨by decide,?_⟩
   have e2:((m.toNat % 2:Nat):Int)=IntKind.i64.wrap ((m.toNat:Int).tmod 2):=by
    rw [show(m.toNat:Int).tmod 2=((m.toNat % 2:Nat):Int) from rfl];exact wrap_i64 (by omega) (by omega)
   refine⟨((m.toNat % 2:Nat):Int),e2,?_⟩
   refine⟨8+((m.toNat % 2:Nat):Int),wrap_i64 (by omega) (by omega),?_⟩
   refine(cond_leaf ⟨UInt8.ofNat (w.toNat+1),o,UInt8.ofNat (n.toNat / 2),7,x,y,z⟩ rs cs h (by show 3≤(7:UInt8).toNat % 8;decide)).at fun r hr=>?_
   obtain⟨⟨ao,an,ar,av,af,as',aa⟩,rfl,hc2⟩:=hr
   refine⟨⟨rfl,congrArg (fun z:Int=>AV.p (.int .i64 z)) e2,rfl,trivial⟩,?_⟩
   refine⟨⟨congrArg (fun z:Int=>AV.p (.int .i64 z)) e2,rfl,trivial⟩,?_⟩
   refine end1 (.agg [i64 (8+((m.toNat % 2:Nat):Int)),i64 0,i64 0,i64 0, .str [],i64 0, .str [],i64 0, .nils, .lsts 10 [[i64 5,i64 0,i64 0,i64 0, .str nm,i64 md, .str pl,i64 rn, .lst ((([0,1]:List Int).map i64).drop j), .nils],(Cd.mk ao an ar av af as' aa).cells]]) rfl ⟨_,rfl,_,_,rfl,rfl,_,_,rfl,rfl,_,_,rfl,rfl,_,_,rfl,rfl,_,_,rfl,rfl,_,_,rfl,rfl,_,_,rfl,rfl,_,_,rfl,rfl,_,_,rfl, .inl rfl,_,_,rfl,⟨_,rfl,Nat.le_refl _,rfl⟩,rfl⟩ ?_
   exact⟨_, .mk (8+((m.toNat % 2:Nat):Int)) 0 0 0 rf0 [] [.mk 5 0 0 0 ⟨nm,md,pl,rn⟩ (([0,1]:List Int).drop j) [], .mk ao an ar av af as' aa],3,rfl,nil_op _ (nil_ll2 (nil_leafD ⟨nm,md,pl,rn⟩ [0,1] j) (NilD.refl _)),by decide,CdS.two (by omega) (hC3 6) (hc2 6)⟩
  ·refine And.intro (fun h=>absurd (show(m.toNat:Int).tmod 8=1 from h) (by rw [e8];omega)) (fun _=>?_)
   refine And.intro (fun _=>?_) (fun h=>absurd (show(m.toNat:Int).tmod 8=2 by rw [e8];omega) h)
   refine vdraw_ot otD13 (by kernel_rfl) ?_
   refine⟨_,u8_next w,?_⟩
   refine⟨by decide,_,u8_half n,?_⟩
   refine⟨⟨rfl,rfl,trivial⟩,?_⟩
   refine⟨⟨rfl,trivial⟩,?_⟩
   refine vdraw_ot otD14 (by kernel_rfl) ?_
   refine⟨by decide,?_⟩
   have e2:((m.toNat % 2:Nat):Int)=IntKind.i64.wrap ((m.toNat:Int).tmod 2):=by
    rw [show(m.toNat:Int).tmod 2=((m.toNat % 2:Nat):Int) from rfl];exact wrap_i64 (by omega) (by omega)
   refine⟨((m.toNat % 2:Nat):Int),e2,?_⟩
   refine⟨8+((m.toNat % 2:Nat):Int),wrap_i64 (by omega) (by omega),?_⟩
   refine(cond_leaf ⟨UInt8.ofNat (w.toNat+1),o,UInt8.ofNat (n.toNat / 2),7,x,y,z⟩ rs cs h (by show 3≤(7:UInt8).toNat % 8;decide)).at fun r hr=>?_
   obtain⟨⟨ao,an,ar,av,af,as',aa⟩,rfl,hc2⟩:=hr
   refine⟨⟨rfl,congrArg (fun z:Int=>AV.p (.int .i64 z)) e2,rfl,trivial⟩,?_⟩
   refine⟨⟨congrArg (fun z:Int=>AV.p (.int .i64 z)) e2,rfl,trivial⟩,?_⟩
   refine end1 (.agg [i64 (8+((m.toNat % 2:Nat):Int)),i64 0,i64 0,i64 0, .str [],i64 0, .str [],i64 0, .nils, .lsts 10 [[i64 5,i64 0,i64 0,i64 0, .str nm,i64 md, .str pl,i64 rn, .lst ((([0,1]:List Int).map i64).drop j), .nils],(Cd.mk ao an ar av af as' aa).cells]]) rfl ⟨_,rfl,_,_,rfl,rfl,_,_,rfl,rfl,_,_,rfl,rfl,_,_,rfl,rfl,_,_,rfl,rfl,_,_,rfl,rfl,_,_,rfl,rfl,_,_,rfl,rfl,_,_,rfl, .inl rfl,_,_,rfl,⟨_,rfl,Nat.le_refl _,rfl⟩,rfl⟩ ?_
   exact⟨_, .mk (8+((m.toNat % 2:Nat):Int)) 0 0 0 rf0 [] [.mk 5 0 0 0 ⟨nm,md,pl,rn⟩ (([0,1]:List Int).drop j) [], .mk ao an ar av af as' aa],3,rfl,nil_op _ (nil_ll2 (nil_leafD ⟨nm,md,pl,rn⟩ [0,1] j) (NilD.refl _)),by decide,CdS.two (by omega) (hC3 6) (hc2 6)⟩
theorem cond_c (p:Pc) (rs:List Rf) (cs:List Int) (h:RcA rs cs):Pure cx 59 [.agg p.cells,rfl_ rs,ints cs] fun r=>∃ (c:Cd) (n:Nat),r=.ret [c.pv]∧n≤3∧CdS 8 c n 43:=
 (cond_c' p rs cs h).weak fun r hr=>by
  obtain⟨y,c,n,rfl,h1,h2⟩:=hr
  exact⟨.ret [c.pv],⟨_,rfl,_,_,rfl,h1,rfl⟩,c,n,rfl,h2⟩
theorem vdraw_otEx {C : Cx} {rd : Bool} {n0 N : Nat} {all : List Oper} {σ : Sg} {ds : List AD} {H : Hp} {K : Sg → List AD → Hp → Prop} {X : List AP → Sg → List AD → Hp → Prop} {α : Type} (sl : α → List (Nat × AV)) (hp : α → Hp) (pr : α → Prop) (ot : OT)
    (h : (C.P.follows .mixedOrders && slotsOK N all (masks all []) && otOK all (masks all []) ot [] [] []) = true)
    (hv : vD C rd all σ (fun σ' ds' H' => ∃ x, pr x ∧ Ent C n0 N σ' ds' H' (sets (fun _ => .junk) (sl x)) ds (hp x)) X ot [] ds H) (hk : ∀ x, pr x → K (sets (fun _ => .junk) (sl x)) ds (hp x)) :
    ∃ ot, (C.P.follows .mixedOrders && slotsOK N all (masks all []) && otOK all (masks all []) ot [] [] []) = true ∧
    ((vD C rd all σ K X ot [] ds H) ∨
     ∃ (α : Type) (sl : α → List (Nat × AV)) (hp : α → Hp) (pr : α → Prop),
      vD C rd all σ (fun σ' ds' H' => ∃ x, pr x ∧ Ent C n0 N σ' ds' H' (sets (fun _ => .junk) (sl x)) ds (hp x)) X ot [] ds H ∧
      ∀ x, pr x → K (sets (fun _ => .junk) (sl x)) ds (hp x)) := ⟨_, h, .inr ⟨α, sl, hp, pr, hv, hk⟩⟩
abbrev otC5:OT:=(.pure 0 (.pure 1 (.pure 2 (.pure 3 (.pure 4 (.pure 5 (.pure 6 (.pure 8 (.pure 9 (.pure 10 (.pure 11 (.pure 12 (.pure 13 (.pure 14 (.pure 15 (.pure 16 (.pure 17 (.pure 18
 (.eff 7 [15,14,9] (.pure 19 (.eff 20 [15,14,9,4,1] (.eff 21 [] .fin .nil) .nil))
  (.eff 20 [15,14,9,4,1] (.eff 7 [15,14,9] (.pure 19 (.eff 21 [] .fin .nil)) .nil) .nil))))))))))))))))))))
def ksO (l:List Cs):AObj:=⟨TCase,false, .pus (l.map Cs.cells)⟩
def pc0:Pc:=⟨0,0,0,0,0,0,0⟩
theorem pccell {l:List Pc} {k:Nat} (h:k<l.length):(l.map Pc.cells)[k]?=some (l.getD k pc0).cells:=map_at pc0 h
structure GrS (k:Nat) (g:Int):Prop where
 ok:(k=0∧g=0)∨((k=2∨k=3)∧1≤g∧g≤12)
theorem one_nu {v:Int} (h:-999≤v∧v≤999):NuS [v]:=by
 have h1:wgtB v=true:=by rw [wgtB,decide_eq_true (by omega),decide_eq_true (by omega)];rfl
 refine⟨?_,?_⟩
 ·show(decide (1≤1) && decide (1≤8) && (wgtB v && true))=true
  rw [h1];rfl
 ·show lw (intT v++[])≤6
  rw [List.append_nil,intT]
  have h1:=lw_dig v
  have h2:=lw_dig (-v)
  split <;> simp only [lw_cons,lw_n,List.length_cons,List.length_nil] <;> omega
def CaQ (r:PEnd):Prop:=∃ (y:PV) (l:List Cs),r=.ret [y]∧NilD y (css l)∧RuS l
theorem nil_cases (out:List Cs) (l:List Int):NilD (.lsts 11 (out.map Cs.cells++[zc0++[.lst (l.map i64)]])) (css (out++[⟨cd0,l⟩])):=by
 simp only [css,NilD,List.map_append,List.map_cons,List.map_nil]
 refine⟨_,rfl,?_⟩
 induction out with
 | nil=>
  simp only [List.map_nil,List.nil_append,NilDLL]
  exact⟨_,_,rfl,nil_zc l,rfl⟩
 | cons c out ih=>
  simp only [List.map_cons,List.cons_append,NilDLL]
  exact⟨_,_,rfl,NilDL.refl _,ih⟩
structure OutS (out:List Cs) (i:Nat):Prop where
 cs:∀ c∈out,CsS c
 len:out.length≤i
theorem OutS.snoc {out:List Cs} {i:Nat} {c:Cs} (h:OutS out i) (hc:CsS c):OutS (out++[c]) (i+1):=by
 refine⟨fun x hx=>?_,by rw [List.length_append];have:=h.len;simp only [List.length_cons,List.length_nil];omega⟩
 rcases List.mem_append.1 hx with hx | hx
 ·exact h.cs x hx
 ·rw [List.mem_singleton.1 hx];exact hc
theorem cases_c' (p:Pt) (rs:List Rf) (cs:List Int) (h:RcS rs cs) (k:Nat) (g:Int) (hg:GrS k g) (hp:p.cases.length≤9223372036854775807):Pure cx 33 [.agg p.cells,rfl_ rs,ints cs,i64 (k:Int),i64 g] CaQ:=by
 refine pure_of_vc Tryz.func33 rfl rfl rfl ?_
 obtain⟨kind,card,frm,modes,pl,ps,x,y,z⟩:=p
 have hps:(ps.map Pc.cells).length=ps.length:=List.length_map ..
 have hrs:(rs.map Rf.cells).length=rs.length:=List.length_map ..
 have hr2:=h.len
 simp only [] at hp
 refine⟨Nat × List Cs,fun x'=>[(1, .p (rfl_ rs)),(2, .p (ints cs)),(3, .p (i64 (k:Int))),(4, .p (i64 g)),(5, .ptr 0 0 0),(11, .sl 1 11 0 x'.2.length),(12, .p (i64 x'.1))],fun x'=>⟨2,[(1,ksO x'.2),(0,ptO ⟨kind,card,frm,modes,pl,ps,x,y,z⟩)]⟩,fun x'=>x'.1≤3∧OutS x'.2 x'.1,fun x'=>3 - x'.1,?_,?_⟩
 ·exact⟨(0,[]),⟨by decide,⟨fun c hc=>(by cases hc),Nat.le_refl _⟩⟩,ent_of [] [] [(1,11)] rfl (sk) (sk) rfl⟩
 rintro⟨i,out⟩ ⟨k1,k2⟩
 simp only [] at k1 k2
 by_cases ha:i<ps.length∧i<3∧0<rs.length
 rotate_left
 ·by_cases hi:i<ps.length
  rotate_left
  ·refine And.intro (fun h=>absurd (show(i:Int)<((ps.map Pc.cells).length:Nat) from h) (by rw [hps];omega)) (fun _=>?_)
   refine⟨by show(0:Int)≤0∧(0:Int)<3;decide,?_⟩
   refine⟨.p (u8 x),ldIn1 (by kernel_rfl) rfl,?_⟩
   refine⟨(x.toNat:Int),wrap_i64 (by omega) (by have:=x.toNat_lt;omega),?_⟩
   refine⟨by decide,?_⟩
   have hz:=tmod_in (Int.natCast_nonneg x.toNat) (show(0:Int)<21 by decide)
   generalize (x.toNat:Int).tmod 21=zz at hz ⊢
   refine⟨zz - 10,wrap_i64 (by omega) (by omega),?_⟩
   by_cases hg0:0<g
   ·refine And.intro (fun _=>?_) (fun h=>absurd hg0 h)
    obtain⟨hk,hg1,hg2⟩:(k=2∨k=3)∧1≤g∧g≤12:=by
     rcases hg.ok with h | h
     ·omega
     ·exact h
    refine(weights_c x y z k g hk ⟨by omega,hg2⟩).at fun r hr=>?_
    obtain⟨l,rfl,hl⟩:=hr
    refine⟨by show 0+1≤1;omega,[zc0++[ints l]],rfl,?_⟩
    refine⟨by show 0+out.length≤(out.map Cs.cells).length;simp,out.map Cs.cells,takeAll (by simp),by show(out.length+1) * 152≤140737488355328;have:=k2.len;omega,out.map Cs.cells++[zc0++[ints l]],rfl,?_⟩
    refine end1 (.lsts 11 (out.map Cs.cells++[zc0++[ints l]])) rfl ⟨_,rfl,by show 0+(out.length+1)≤(out.map Cs.cells++[zc0++[ints l]]).length;simp,takeAll (by simp)⟩ ⟨_,out++[⟨cd0,l⟩],rfl,nil_cases out l,rule_ok (by have:=k2.len;omega) k2.cs ⟨rfl,(hl.nu hk)⟩⟩
   ·refine And.intro (fun h=>absurd h hg0) (fun _=>?_)
    refine⟨by show 0+1≤1;omega,_,rfl, .inl ⟨[2],[zc0++[ints [zz - 10]]],rfl,⟨_,_,rfl,⟨_,_,rfl,rfl,_,_,rfl,rfl,_,_,rfl,rfl,_,_,rfl,rfl,_,_,rfl,rfl,_,_,rfl,rfl,_,_,rfl,rfl,_,_,rfl,rfl,_,_,rfl, .inl rfl,_,_,rfl, .inl rfl,_,_,rfl,⟨_,rfl,Nat.le_refl _,rfl⟩,rfl⟩,rfl⟩,?_⟩⟩
    refine⟨by show 0+out.length≤(out.map Cs.cells).length;simp,out.map Cs.cells,takeAll (by simp),by show(out.length+1) * 152≤140737488355328;have:=k2.len;omega,out.map Cs.cells++[zc0++[ints [zz - 10]]],rfl,?_⟩
    refine end1 (.lsts 11 (out.map Cs.cells++[zc0++[ints [zz - 10]]])) rfl ⟨_,rfl,by show 0+(out.length+1)≤(out.map Cs.cells++[zc0++[ints [zz - 10]]]).length;simp,takeAll (by simp)⟩ ⟨_,out++[⟨cd0,[zz - 10]⟩],rfl,nil_cases out [zz - 10],rule_ok (by have:=k2.len;omega) k2.cs ⟨rfl,(one_nu (by omega))⟩⟩
  refine And.intro (fun _=>?_) (fun h=>absurd (show(i:Int)<((ps.map Pc.cells).length:Nat) by rw [hps];omega) h)
  by_cases hi3:i<3
  rotate_left
  ·refine And.intro (fun h=>absurd (show(i:Int)<3 from h) (by omega)) (fun _=>?_)
   refine⟨by show(0:Int)≤0∧(0:Int)<3;decide,?_⟩
   refine⟨.p (u8 x),ldIn1 (by kernel_rfl) rfl,?_⟩
   refine⟨(x.toNat:Int),wrap_i64 (by omega) (by have:=x.toNat_lt;omega),?_⟩
   refine⟨by decide,?_⟩
   have hz:=tmod_in (Int.natCast_nonneg x.toNat) (show(0:Int)<21 by decide)
   generalize (x.toNat:Int).tmod 21=zz at hz ⊢
   refine⟨zz - 10,wrap_i64 (by omega) (by omega),?_⟩
   by_cases hg0:0<g
   ·refine And.intro (fun _=>?_) (fun h=>absurd hg0 h)
    obtain⟨hk,hg1,hg2⟩:(k=2∨k=3)∧1≤g∧g≤12:=by
     rcases hg.ok with h | h
     ·omega
     ·exact h
    refine(weights_c x y z k g hk ⟨by omega,hg2⟩).at fun r hr=>?_
    obtain⟨l,rfl,hl⟩:=hr
    refine⟨by show 0+1≤1;omega,[zc0++[ints l]],rfl,?_⟩
    refine⟨by show 0+out.length≤(out.map Cs.cells).length;simp,out.map Cs.cells,takeAll (by simp),by show(out.length+1) * 152≤140737488355328;have:=k2.len;omega,out.map Cs.cells++[zc0++[ints l]],rfl,?_⟩
    refine end1 (.lsts 11 (out.map Cs.cells++[zc0++[ints l]])) rfl ⟨_,rfl,by show 0+(out.length+1)≤(out.map Cs.cells++[zc0++[ints l]]).length;simp,takeAll (by simp)⟩ ⟨_,out++[⟨cd0,l⟩],rfl,nil_cases out l,rule_ok (by have:=k2.len;omega) k2.cs ⟨rfl,(hl.nu hk)⟩⟩
   ·refine And.intro (fun h=>absurd h hg0) (fun _=>?_)
    refine⟨by show 0+1≤1;omega,_,rfl, .inl ⟨[2],[zc0++[ints [zz - 10]]],rfl,⟨_,_,rfl,⟨_,_,rfl,rfl,_,_,rfl,rfl,_,_,rfl,rfl,_,_,rfl,rfl,_,_,rfl,rfl,_,_,rfl,rfl,_,_,rfl,rfl,_,_,rfl,rfl,_,_,rfl, .inl rfl,_,_,rfl, .inl rfl,_,_,rfl,⟨_,rfl,Nat.le_refl _,rfl⟩,rfl⟩,rfl⟩,?_⟩⟩
    refine⟨by show 0+out.length≤(out.map Cs.cells).length;simp,out.map Cs.cells,takeAll (by simp),by show(out.length+1) * 152≤140737488355328;have:=k2.len;omega,out.map Cs.cells++[zc0++[ints [zz - 10]]],rfl,?_⟩
    refine end1 (.lsts 11 (out.map Cs.cells++[zc0++[ints [zz - 10]]])) rfl ⟨_,rfl,by show 0+(out.length+1)≤(out.map Cs.cells++[zc0++[ints [zz - 10]]]).length;simp,takeAll (by simp)⟩ ⟨_,out++[⟨cd0,[zz - 10]⟩],rfl,nil_cases out [zz - 10],rule_ok (by have:=k2.len;omega) k2.cs ⟨rfl,(one_nu (by omega))⟩⟩
  refine And.intro (fun _=>?_) (fun h=>absurd (show(i:Int)<3 by omega) h)
  refine And.intro (fun h=>absurd (show(0:Int)<((rs.map Rf.cells).length:Nat) from h) (by rw [hrs];omega)) (fun _=>?_)
  refine⟨by show(0:Int)≤0∧(0:Int)<3;decide,?_⟩
  refine⟨.p (u8 x),ldIn1 (by kernel_rfl) rfl,?_⟩
  refine⟨(x.toNat:Int),wrap_i64 (by omega) (by have:=x.toNat_lt;omega),?_⟩
  refine⟨by decide,?_⟩
  have hz:=tmod_in (Int.natCast_nonneg x.toNat) (show(0:Int)<21 by decide)
  generalize (x.toNat:Int).tmod 21=zz at hz ⊢
  refine⟨zz - 10,wrap_i64 (by omega) (by omega),?_⟩
  by_cases hg0:0<g
  ·refine And.intro (fun _=>?_) (fun h=>absurd hg0 h)
   obtain⟨hk,hg1,hg2⟩:(k=2∨k=3)∧1≤g∧g≤12:=by
    rcases hg.ok with h | h
    ·omega
    ·exact h
   refine(weights_c x y z k g hk ⟨by omega,hg2⟩).at fun r hr=>?_
   obtain⟨l,rfl,hl⟩:=hr
   refine⟨by show 0+1≤1;omega,[zc0++[ints l]],rfl,?_⟩
   refine⟨by show 0+out.length≤(out.map Cs.cells).length;simp,out.map Cs.cells,takeAll (by simp),by show(out.length+1) * 152≤140737488355328;have:=k2.len;omega,out.map Cs.cells++[zc0++[ints l]],rfl,?_⟩
   refine end1 (.lsts 11 (out.map Cs.cells++[zc0++[ints l]])) rfl ⟨_,rfl,by show 0+(out.length+1)≤(out.map Cs.cells++[zc0++[ints l]]).length;simp,takeAll (by simp)⟩ ⟨_,out++[⟨cd0,l⟩],rfl,nil_cases out l,rule_ok (by have:=k2.len;omega) k2.cs ⟨rfl,(hl.nu hk)⟩⟩
  ·refine And.intro (fun h=>absurd h hg0) (fun _=>?_)
   refine⟨by show 0+1≤1;omega,_,rfl, .inl ⟨[2],[zc0++[ints [zz - 10]]],rfl,⟨_,_,rfl,⟨_,_,rfl,rfl,_,_,rfl,rfl,_,_,rfl,rfl,_,_,rfl,rfl,_,_,rfl,rfl,_,_,rfl,rfl,_,_,rfl,rfl,_,_,rfl,rfl,_,_,rfl, .inl rfl,_,_,rfl, .inl rfl,_,_,rfl,⟨_,rfl,Nat.le_refl _,rfl⟩,rfl⟩,rfl⟩,?_⟩⟩
   refine⟨by show 0+out.length≤(out.map Cs.cells).length;simp,out.map Cs.cells,takeAll (by simp),by show(out.length+1) * 152≤140737488355328;have:=k2.len;omega,out.map Cs.cells++[zc0++[ints [zz - 10]]],rfl,?_⟩
   refine end1 (.lsts 11 (out.map Cs.cells++[zc0++[ints [zz - 10]]])) rfl ⟨_,rfl,by show 0+(out.length+1)≤(out.map Cs.cells++[zc0++[ints [zz - 10]]]).length;simp,takeAll (by simp)⟩ ⟨_,out++[⟨cd0,[zz - 10]⟩],rfl,nil_cases out [zz - 10],rule_ok (by have:=k2.len;omega) k2.cs ⟨rfl,(one_nu (by omega))⟩⟩
 obtain⟨hi,hi3,hr0⟩:=ha
 refine And.intro (fun _=>?_) (fun h=>absurd (show(i:Int)<((ps.map Pc.cells).length:Nat) by rw [hps];omega) h)
 refine And.intro (fun _=>?_) (fun h=>absurd (show(i:Int)<3 by omega) h)
 refine And.intro (fun _=>?_) (fun h=>absurd (show(0:Int)<((rs.map Rf.cells).length:Nat) by rw [hrs];omega) h)
 have hcell:=pccell hi
 generalize ps.getD i pc0=P at hcell
 have hcd:=cond_c P rs cs ⟨h,hr0⟩
 obtain⟨w,o,n,m,a,b,c⟩:=P
 have haL:=a.toNat_lt
 have hv:=tmod_in (Int.natCast_nonneg a.toNat) (show(0:Int)<201 by decide)
 refine vdraw_otEx (fun c:Cd=>[(1, .p (rfl_ rs)),(2, .p (ints cs)),(3, .p (i64 (k:Int))),(4, .p (i64 g)),(5, .ptr 0 0 0),(11, .sl 1 11 0 out.length),(12, .p (i64 (i:Int))),(13, .ptr 2 0 0)]) (fun c=>⟨3,[(2,⟨TCase,false, .bx ((c.cells++[ints [(a.toNat:Int).tmod 201 - 100]]).map .p)⟩),(1,ksO out),(0,ptO ⟨kind,card,frm,modes,pl,ps,x,y,z⟩)]⟩) (fun c=>∃ n,n≤3∧CdS 8 c n 43) otC5 (by kernel_rfl) ?_ ?_
 ·refine⟨_,⟨by omega,(Pc.mk w o n m a b c).cells,hcell,rfl⟩,?_⟩
  refine⟨_,⟨by omega,(Pc.mk w o n m a b c).cells,hcell,rfl⟩,?_⟩
  refine⟨_,⟨by show(0:Int)≤0∧(0:Int)<3;decide,[u8 a],rfl,rfl⟩,?_⟩
  refine⟨(a.toNat:Int),wrap_i64 (by omega) (by omega),?_⟩
  refine⟨by decide,?_⟩
  refine⟨(a.toNat:Int).tmod 201 - 100,wrap_i64 (by omega) (by omega),?_⟩
  have ea:(a.toNat:Int)=IntKind.i64.wrap (a.toNat:Int):=wrap_i64 (by omega) (by omega)
  refine And.intro ?_ ?_
  ·refine hcd.at fun r hr=>?_
   obtain⟨⟨ao,an,ar,av,af,as',aa⟩,nn,rfl,hnn,hcc⟩:=hr
   refine⟨⟨congrArg (fun z:Int=>AV.p (.int .i64 z)) ea,rfl,rfl,trivial⟩,?_⟩
   refine⟨⟨congrArg (fun z:Int=>AV.p (.int .i64 z)) ea,rfl,rfl,rfl,rfl,trivial⟩,?_⟩
   exact⟨.mk ao an ar av af as' aa,⟨nn,hnn,hcc⟩,ent_of [] [] [] rfl (sk) (sk) rfl⟩
  ·refine⟨⟨congrArg (fun z:Int=>AV.p (.int .i64 z)) ea,rfl,rfl,rfl,rfl,trivial⟩,?_⟩
   refine hcd.at fun r hr=>?_
   obtain⟨⟨ao,an,ar,av,af,as',aa⟩,nn,rfl,hnn,hcc⟩:=hr
   refine⟨⟨congrArg (fun z:Int=>AV.p (.int .i64 z)) ea,rfl,rfl,trivial⟩,?_⟩
   exact⟨.mk ao an ar av af as' aa,⟨nn,hnn,hcc⟩,ent_of [] [] [] rfl (sk) (sk) rfl⟩
 ·rintro⟨ao,an,ar,av,af,as',aa⟩ ⟨nn,hnn,hcc⟩
  by_cases hg0:0<g
  ·refine And.intro (fun _=>?_) (fun h=>absurd hg0 h)
   obtain⟨hk,hg1,hg2⟩:(k=2∨k=3)∧1≤g∧g≤12:=by
    rcases hg.ok with h | h
    ·omega
    ·exact h
   refine⟨_,⟨by omega,(Pc.mk w o n m a b c).cells,hcell,rfl⟩,?_⟩
   refine(weights_c a b c k g hk ⟨by omega,hg2⟩).at fun r hr=>?_
   obtain⟨l,rfl,hl⟩:=hr
   refine⟨by show 0+1≤1;omega,[(Cs.mk (Cd.mk ao an ar av af as' aa) l).cells],rfl,?_⟩
   refine⟨by show 0+out.length≤(out.map Cs.cells).length;simp,out.map Cs.cells,takeAll (by simp),by show(out.length+1) * 152≤140737488355328;have:=k2.len;omega,(out++[Cs.mk (Cd.mk ao an ar av af as' aa) l]).map Cs.cells,by simp,?_⟩
   refine⟨((i+1:Nat):Int),by rw [Int.natCast_add];exact wrap_i64 (by omega) (by omega),?_⟩
   exact⟨(i+1,out++[Cs.mk (Cd.mk ao an ar av af as' aa) l]),⟨by show i+1≤3;omega,k2.snoc ⟨⟨nn,hnn,hcc⟩,(hl.nu hk)⟩⟩,ent_of [] [(1,4)] [] rfl ⟨rfl,rfl,rfl,rfl,⟨rfl,rfl⟩,congrArg (fun k:Nat=>AV.sl 4 11 0 k) (snoc_len out _).symm,rfl,trivial⟩ (sk) rfl,by show 3 - (i+1)<3 - i;omega⟩
  ·refine And.intro (fun h=>absurd h hg0) (fun _=>?_)
   refine⟨by show 0+1≤1;omega,[(Cs.mk (Cd.mk ao an ar av af as' aa) [(a.toNat:Int).tmod 201 - 100]).cells],rfl,?_⟩
   refine⟨by show 0+out.length≤(out.map Cs.cells).length;simp,out.map Cs.cells,takeAll (by simp),by show(out.length+1) * 152≤140737488355328;have:=k2.len;omega,(out++[Cs.mk (Cd.mk ao an ar av af as' aa) [(a.toNat:Int).tmod 201 - 100]]).map Cs.cells,by simp,?_⟩
   refine⟨((i+1:Nat):Int),by rw [Int.natCast_add];exact wrap_i64 (by omega) (by omega),?_⟩
   exact⟨(i+1,out++[Cs.mk (Cd.mk ao an ar av af as' aa) [(a.toNat:Int).tmod 201 - 100]]),⟨by show i+1≤3;omega,k2.snoc ⟨⟨nn,hnn,hcc⟩,(one_nu (by omega))⟩⟩,ent_of [] [(1,4)] [] rfl ⟨rfl,rfl,rfl,rfl,⟨rfl,rfl⟩,congrArg (fun k:Nat=>AV.sl 4 11 0 k) (snoc_len out _).symm,rfl,trivial⟩ (sk) rfl,by show 3 - (i+1)<3 - i;omega⟩
theorem pcases_c (p:Pt) (rs:List Rf) (cs:List Int) (h:RcS rs cs) (k:Nat) (g:Int) (hg:GrS k g) (hp:p.cases.length≤9223372036854775807):Pure cx 33 [.agg p.cells,rfl_ rs,ints cs,i64 (k:Int),i64 g] fun r=>∃ l,r=.ret [css l]∧RuS l:=
 (cases_c' p rs cs h k g hg hp).weak fun r hr=>by
  obtain⟨y,l,rfl,h1,h2⟩:=hr
  exact⟨.ret [css l],⟨_,rfl,_,_,rfl,h1,rfl⟩,l,rfl,h2⟩
structure Dp where
 grain:UInt8
 plate:UInt8
 nodes:List Pt
 choice:Pt
 gains:List Pt
 chooses:Bool
abbrev Dp.cells (d:Dp):List PV:=[u8 d.grain,u8 d.plate, .lsts 9 (d.nodes.map Pt.cells),u8 d.choice.kind,u8 d.choice.card,u8 d.choice.frm,u8 d.choice.modes, .bool d.choice.pl, .lsts 7 (d.choice.cases.map Pc.cells),u8 d.choice.x,u8 d.choice.y,u8 d.choice.z, .lsts 9 (d.gains.map Pt.cells), .bool d.chooses]
structure Dp.ok (d:Dp):Prop where
 nodes:d.nodes.length≤9223372036854775807
 gains:d.gains.length≤9223372036854775807
 ncases:∀ p∈d.nodes,p.cases.length≤9223372036854775807
 gcases:∀ p∈d.gains,p.cases.length≤9223372036854775807
def pt0:Pt:=⟨0,0,0,0,false,[],0,0,0⟩
theorem ptcell {l:List Pt} {k:Nat} (h:k<l.length):(l.map Pt.cells)[k]?=some (l.getD k pt0).cells:=map_at pt0 h
abbrev TKn:TypeId:=99
abbrev TSrc:TypeId:=40
def dpO (d:Dp):AObj:=⟨54,false, .bx (d.cells.map .p)⟩
def kwO (l:List Kn):AObj:=⟨TKn,false, .pus (l.map Kn.cells)⟩
def dyO (Y:List (List PV)):AObj:=⟨TDecl,false, .pus Y⟩
def s1O (v:AV):AObj:=⟨TSrc,false, .bx [v]⟩
theorem flat_iO (l:List Int):flatO (iO l):=⟨rfl,rfl,by
 show flatAL ((l.map i64).map .p)=true
 rw [flatPL_map]
 induction l with
 | nil=>rfl
 | cons a l ih=>simp only [List.map_cons,flatPL,ih,Bool.and_true];rfl⟩
theorem flat_rfs (l:List Rf):flatO (rfsO l):=⟨rfl,rfl,by
 show flatAL ((l.map Rf.cells).flatten.map .p)=true
 rw [flatPL_map]
 induction l with
 | nil=>rfl
 | cons a l ih=>
  rw [List.map_cons,List.flatten_cons]
  simp only [Rf.cells,List.cons_append,List.nil_append,flatPL,ih,Bool.and_true];rfl⟩
theorem nilLL_app:∀ {a b:List (List PV)} {c d:List (List PV)},NilDLL a c→NilDLL b d→NilDLL (a++b) (c++d)
 | [],b,c,d,h,k=>by
  simp only [NilDLL] at h
  subst h;exact k
 | x::a,b,c,d,h,k=>by
  simp only [NilDLL,List.cons_append] at h ⊢
  obtain⟨z,zs,rfl,h1,h2⟩:=h
  exact⟨z,zs++d,rfl,h1,nilLL_app h2 k⟩
theorem nilLL_one {a b:List PV} (h:NilDL a b):NilDLL [a] [b]:=by
 simp only [NilDLL]
 exact⟨_,_,rfl,h,rfl⟩
structure PgS (Y:List (List PV)) (n k:Nat):Prop where
 ds:∃ ds:List De,NilDLL Y (ds.map De.cells)∧PrS ds k∧ds.length=n
theorem PgS.len {Y:List (List PV)} {n k:Nat} (h:PgS Y n k):Y.length=n:=by
 obtain⟨ds,h1,_,h3⟩:=h.ds
 have:=h1.len
 rw [List.length_map] at this
 omega
theorem PgS.snoc {Y:List (List PV)} {n k j:Nat} {c:List PV} {d:De} (h:PgS Y n k) (hc:NilDL c d.cells) (hd:DeS d j):PgS (Y++[c]) (n+1) (k+j):=by
 obtain⟨ds,h1,h2,h3⟩:=h.ds
 refine⟨ds++[d],?_,h2.snoc hd,by rw [List.length_append,h3];rfl⟩
 rw [List.map_append]
 exact nilLL_app h1 (nilLL_one hc)
theorem PgS.le {Y:List (List PV)} {n k k':Nat} (h:PgS Y n k) (hk:k≤k'):PgS Y n k':=by
 obtain⟨ds,h1,h2,h3⟩:=h.ds
 exact⟨ds,h1,h2.le hk,h3⟩
theorem nil_dk {k n:Int} {nm pl:List UInt8} {a b a' b':PV} (h1:NilD a a') (h2:NilD b b'):NilDL [i64 k,i64 n, .str nm, .str pl,a,b] [i64 k,i64 n, .str nm, .str pl,a',b']:=by
 simp only [NilDL]
 exact⟨_,_,rfl,NilD.refl _,_,_,rfl,NilD.refl _,_,_,rfl,NilD.refl _,_,_,rfl,NilD.refl _,_,_,rfl,h1,_,_,rfl,h2,rfl⟩
theorem nil_n0 (s:Nat):NilD .nils (.lsts s []):=by
 simp only [NilD]
 exact .inr (.inr ⟨s,rfl⟩)
theorem pg_two {g s:Int} (hg:0≤g∧g≤12) (hs:0≤s∧s≤2):PgS [[i64 1,i64 g, .str [], .str [], .nils, .nils],[i64 2,i64 s, .str [112], .str [], .nils, .nils]] 2 22:=by
 have h0:PgS [] 0 0:=⟨[],by simp only [NilDLL,List.map_nil],PrS.nil,rfl⟩
 have h1:=h0.snoc (d:=⟨1,g,[],[],[],[]⟩) (nil_dk (nil_n0 4) (nil_n0 11)) (grain_ok (nat_of hg.1 (by omega)))
 exact h1.snoc (d:=⟨2,s,[112],[],[],[]⟩) (nil_dk (nil_n0 4) (nil_n0 11)) (plate_ok (nat_of hs.1 (by omega)))
abbrev otP1:OT:=(.pure 0 (.pure 1 (.pure 2 (.pure 3 (.pure 4 (.pure 5 (.pure 6 (.pure 7 (.pure 8 (.pure 9 (.pure 10 (.pure 11 .fin))))))))))))
abbrev otP15:OT:=(.pure 0 (.pure 1 (.pure 2 (.pure 3 (.pure 4 (.pure 5 (.pure 6 (.pure 7 (.pure 8 (.pure 9 (.pure 10 (.pure 11 (.pure 12 (.pure 13 (.eff 14 [1] (.pure 15 (.eff 16 [1] (.eff 17 [] (.pure 18 (.eff 19 [] .fin .nil)) .nil) .nil)) .nil)))))))))))))))
abbrev otP16:OT:=(.pure 0 (.pure 1 (.pure 2 (.pure 3 (.pure 4 (.pure 5 (.pure 6 (.pure 7 (.pure 8 (.eff 9 [] (.eff 10 [] (.pure 11 .fin) .nil) .nil))))))))))
abbrev otP25:OT:=(.pure 0 (.pure 1 (.pure 2 (.pure 3 (.pure 4 (.pure 5 (.pure 6 (.pure 7 (.pure 8 (.pure 9 (.eff 10 [1] (.pure 11 (.eff 12 [1] (.eff 13 [] (.pure 14 (.eff 15 [] .fin .nil)) .nil) .nil)) .nil)))))))))))
def PqQ (r:PEnd):Prop:=∃ (Y:List (List PV)) (n k:Nat),r=.ret [.agg [.lsts 6 Y]]∧PgS Y n k∧n≤30∧k≤1300∧2≤n
structure LkS (l:List Kn) (i:Nat):Prop where
 ok:∀ k∈l,KnS k
 len:l.length=i
theorem LkS.snoc {l:List Kn} {i:Nat} {k:Kn} (h:LkS l i) (hk:KnS k):LkS (l++[k]) (i+1):=by
 refine⟨fun x hx=>?_,by rw [List.length_append,h.len];rfl⟩
 rcases List.mem_append.1 hx with hx | hx
 ·exact h.ok x hx
 ·rw [List.mem_singleton.1 hx];exact hk
def nmI (i:Nat):List UInt8:=(([97,98,99,100]:List UInt8).drop i).take (i+1 - i)
theorem nmI_ok:∀ i,i<4→nameN (nmI i)=true∧(nmI i).length=1:=by decide
theorem lendT {C:Cx} {g:FuncId} {pargs:List PV} {args:List AV} {H:Hp} {Q0 Q:AE→Hp→Prop} (h:Holds C g (pargs.map .p) ⟨0,[]⟩ Q0) (fs:List Nat) (hm:marksOK H.l fs=true) (ha:ResL (Res (marks H.l fs) 5) args pargs)
  (hQ:∀ e0 H0',Q0 e0 H0'→(nodupK H0'.l && flatAE e0)=true∧flatOs H0'.l∧∃ e H2,renE (rmap 0 [] 0 H.next) e0=e∧(⟨H.next+H0'.next,renH (rmap 0 [] 0 H.next) H0'.l++H.l⟩:Hp)=H2∧Q e H2):Holds C g args H Q:=
 h.lendN fs hm ha fun e0 H0 hq=>by
  obtain⟨h1,h2,e,H2,rfl,rfl,h3⟩:=hQ e0 H0 hq
  exact⟨h1,h2,h3⟩
theorem program_c' (d:Dp) (hd:d.ok):Pure cx 14 [.agg d.cells] PqQ:=by
 refine pure_of_vc Tryz.func14 rfl rfl rfl ?_
 obtain⟨gr,pt,ns,ch,gs,cz⟩:=d
 obtain⟨hd1,hd2,hd3,hd4⟩:=hd
 simp only [] at hd1 hd2 hd3 hd4
 have hns:(ns.map Pt.cells).length=ns.length:=List.length_map ..
 have hgs:(gs.map Pt.cells).length=gs.length:=List.length_map ..
 have hgr:=gr.toNat_lt
 have hpt:=pt.toNat_lt
 refine vdraw_ot otP1 (by kernel_rfl) ?_
 refine⟨by decide,?_⟩
 refine⟨((gr.toNat % 12:Nat):Int),by show _=IntKind.i64.wrap ((gr.toNat:Int).tmod 12);rw [show(gr.toNat:Int).tmod 12=((gr.toNat % 12:Nat):Int) from rfl];exact wrap_i64 (by omega) (by omega),?_⟩
 obtain⟨g,hge⟩:∃ g:Int,g=1+((gr.toNat % 12:Nat):Int):=⟨_,rfl⟩
 refine⟨g,by rw [hge];exact wrap_i64 (by omega) (by omega),?_⟩
 refine⟨by decide,?_⟩
 refine⟨((pt.toNat % 2:Nat):Int),by show _=IntKind.i64.wrap ((pt.toNat:Int).tmod 2);rw [show(pt.toNat:Int).tmod 2=((pt.toNat % 2:Nat):Int) from rfl];exact wrap_i64 (by omega) (by omega),?_⟩
 obtain⟨sz,hse⟩:∃ s:Int,s=1+((pt.toNat % 2:Nat):Int):=⟨_,rfl⟩
 refine⟨sz,by rw [hse];exact wrap_i64 (by omega) (by omega),?_⟩
 have hg:1≤g∧g≤12:=by omega
 have hs:sz=1∨sz=2:=by omega
 clear hge hse
 have hp2:=pg_two (g:=g) (s:=sz) (by omega) (by omega)
 refine⟨Nat × List (List PV) × List Kn,fun x=>[(1, .ptr 0 0 0),(2, .ptr 1 0 0),(3, .p (i64 g)),(4, .p (i64 sz)),(5, .ptr 3 0 0),(6, .sl 4 3 0 x.1),(7, .p (i64 x.1))],fun x=>⟨5,[(4,kwO x.2.2),(3,s1O (.sl 2 6 0 (2+x.1))),(2,dyO x.2.1),(1,s1O (.p .nils)),(0,dpO ⟨gr,pt,ns,ch,gs,cz⟩)]⟩,fun x=>x.1≤4∧PgS x.2.1 (2+x.1) (22+201 * x.1)∧LkS x.2.2 x.1,fun x=>4 - x.1,?_,?_⟩
 ·exact⟨(0,_,[]),⟨by show 0≤4;decide,hp2,⟨fun k hk=>(by cases hk),rfl⟩⟩,ent_of [] [] [(4,3)] rfl (sk) (sk) rfl⟩
 rintro⟨i,Y,l⟩ ⟨k1,k2,k3⟩
 simp only [] at k1 k2 k3
 have hY:=k2.len
 have hL:=k3.len
 by_cases ha:i<ns.length∧i<4
 rotate_left
 ·cases cz
  ·by_cases hi:i<ns.length
   ·refine And.intro (fun _=>?_) (fun h=>absurd (show(i:Int)<((ns.map Pt.cells).length:Nat) by rw [hns];omega) h)
    refine And.intro (fun h=>absurd (show(i:Int)<4 from h) (by omega)) (fun _=>?_)
    exact end1 (.agg [.lsts 6 Y]) rfl ⟨_,rfl,_,_,rfl,⟨_,rfl,by show 0+(2+i)≤Y.length;omega,takeAll (by omega)⟩,rfl⟩ ⟨_,_,_,rfl,k2,by omega,by omega,by omega⟩
   ·refine And.intro (fun h=>absurd (show(i:Int)<((ns.map Pt.cells).length:Nat) from h) (by rw [hns];omega)) (fun _=>?_)
    exact end1 (.agg [.lsts 6 Y]) rfl ⟨_,rfl,_,_,rfl,⟨_,rfl,by show 0+(2+i)≤Y.length;omega,takeAll (by omega)⟩,rfl⟩ ⟨_,_,_,rfl,k2,by omega,by omega,by omega⟩
  ·by_cases hi:i<ns.length
   ·refine And.intro (fun _=>?_) (fun h=>absurd (show(i:Int)<((ns.map Pt.cells).length:Nat) by rw [hns];omega) h)
    refine And.intro (fun h=>absurd (show(i:Int)<4 from h) (by omega)) (fun _=>?_)
    refine lendT (pargs:=[.agg (ch).cells, .lsts 3 ((l).map Kn.cells), .bool false,i64 sz]) (prefs_h ch (l) (k3).ok (by have:=(k3).len;omega) false sz hs).holds [4] rfl ⟨_,_,rfl,rfl,_,_,rfl,⟨_,rfl,by show 0+(i)≤((l).map Kn.cells).length;rw [List.length_map];have:=(k3).len;omega,takeAll (by rw [List.length_map];have:=(k3).len;omega)⟩,_,_,rfl,rfl,_,_,rfl,rfl,rfl⟩ fun e0 H0 hq=>?_
    obtain⟨rs,cs,rfl,rfl,hrc⟩:=hq
    refine⟨rfl,⟨flat_rfs _,flat_iO _,trivial⟩,_,⟨7,(5,rfsO rs)::(6,iO cs)::[(4,kwO l),(3,s1O (.sl 2 6 0 (2+i))),(2,dyO Y),(1,s1O (.p .nils)),(0,dpO ⟨gr,pt,ns,ch,gs,true⟩)]⟩,rfl,rfl,?_⟩
    refine⟨by show 0+1≤1;omega,_,rfl, .inl ⟨[5],[[i64 4,i64 2, .str [101], .str [],rfl_ rs, .nils]],rfl,⟨_,_,rfl,⟨_,_,rfl,rfl,_,_,rfl,rfl,_,_,rfl,rfl,_,_,rfl,rfl,_,_,rfl,⟨_,rfl,by show 0+rs.length≤(rs.map Rf.cells).length;simp,takeAll (by simp)⟩,_,_,rfl,(by first | exact rfl | exact .inl rfl),rfl⟩,rfl⟩,?_⟩⟩
    refine⟨by show 0+(2+i)≤Y.length;omega,Y,takeAll (by omega),by show(2+i+1) * 96≤140737488355328;omega,Y++[[i64 4,i64 2, .str [101], .str [],rfl_ rs, .nils]],rfl,?_⟩
    refine⟨by show 0+1≤1;omega,[((Kn.mk [101] 2 false)).cells],rfl,?_⟩
    refine⟨by show 0+i≤(l.map Kn.cells).length;rw [List.length_map];omega,l.map Kn.cells,takeAll (by rw [List.length_map];omega),by show(i+1) * 32≤140737488355328;omega,(l++[(Kn.mk [101] 2 false)]).map Kn.cells,by simp,?_⟩
    have k4:=k2.snoc (d:=⟨4,2,[101],[],rs,[]⟩) (nil_dk (NilD.refl _) (nil_n0 11)) (choose_ok (n:=2) (nm:=[101]) (by decide) (by decide) (by decide) hrc.refs hrc.len)
    have k5:LkS (l++[Kn.mk [101] 2 false]) (i+1):=k3.snoc ⟨by show nameN [101]=true;decide,rfl, .inl rfl⟩
    clear k2 k3 hp2 ha hY hL
    generalize Y++[[i64 4,i64 2, .str [101], .str [],rfl_ rs, .nils]]=Y at k4 ⊢
    generalize l++[Kn.mk [101] 2 false]=l at k5 ⊢
    refine⟨Nat × List (List PV),fun x=>[(1, .ptr 0 0 0),(2, .ptr 1 0 0),(4, .p (i64 sz)),(5, .ptr 3 0 0),(6, .sl 4 3 0 (i+1)),(15, .p (i64 x.1))],fun x=>⟨5,[(4,kwO l),(3,s1O (.sl 2 6 0 (2+i+1+x.1))),(2,dyO x.2),(1,s1O (.p .nils)),(0,dpO ⟨gr,pt,ns,ch,gs,true⟩)]⟩,fun x=>x.1≤2∧PgS x.2 (2+i+1+x.1) (22+201 * i+33+192 * x.1),fun x=>2 - x.1,?_,?_⟩
    ·exact⟨(0,Y),⟨by show 0≤2;decide,k4⟩,ent_of [] [(2,8),(4,10)] [] rfl (sk) (sk) rfl⟩
    rintro⟨j,Y⟩ ⟨j1,k2⟩
    simp only [] at j1 k2
    have hY:=k2.len
    by_cases hb:j<gs.length∧j<2
    rotate_left
    ·by_cases hj:j<gs.length
     ·refine And.intro (fun _=>?_) (fun h=>absurd (show(j:Int)<((gs.map Pt.cells).length:Nat) by rw [hgs];omega) h)
      refine And.intro (fun h=>absurd (show(j:Int)<2 from h) (by omega)) (fun _=>?_)
      exact end1 (.agg [.lsts 6 Y]) rfl ⟨_,rfl,_,_,rfl,⟨_,rfl,by show 0+(2+i+1+j)≤Y.length;omega,takeAll (by omega)⟩,rfl⟩ ⟨_,_,_,rfl,k2,by omega,by omega,by omega⟩
     ·refine And.intro (fun h=>absurd (show(j:Int)<((gs.map Pt.cells).length:Nat) from h) (by rw [hgs];omega)) (fun _=>?_)
      exact end1 (.agg [.lsts 6 Y]) rfl ⟨_,rfl,_,_,rfl,⟨_,rfl,by show 0+(2+i+1+j)≤Y.length;omega,takeAll (by omega)⟩,rfl⟩ ⟨_,_,_,rfl,k2,by omega,by omega,by omega⟩
    obtain⟨hj,hj2⟩:=hb
    have hcell:=ptcell hj
    have hpc:=hd4 _ (getD_memL pt0 hj)
    generalize gs.getD j pt0=p at hcell hpc
    obtain⟨kind,card,frm,modes,pl,ps,x,y,z⟩:=p
    refine And.intro (fun _=>?_) (fun h=>absurd (show(j:Int)<((gs.map Pt.cells).length:Nat) by rw [hgs];omega) h)
    refine And.intro (fun _=>?_) (fun h=>absurd (show(j:Int)<2 by omega) h)
    refine⟨_,⟨by omega,(Pt.mk kind card frm modes pl ps x y z).cells,hcell,rfl⟩,?_⟩
    refine lendT (pargs:=[.agg ((Pt.mk kind card frm modes pl ps x y z)).cells, .lsts 3 ((l).map Kn.cells), .bool false,i64 sz]) (prefs_h (Pt.mk kind card frm modes pl ps x y z) (l) (k5).ok (by have:=(k5).len;omega) false sz hs).holds [4] rfl ⟨_,_,rfl,rfl,_,_,rfl,⟨_,rfl,by show 0+(i+1)≤((l).map Kn.cells).length;rw [List.length_map];have:=(k5).len;omega,takeAll (by rw [List.length_map];have:=(k5).len;omega)⟩,_,_,rfl,rfl,_,_,rfl,rfl,rfl⟩ fun e0 H0 hq=>?_
    obtain⟨rs,cs,rfl,rfl,hrc⟩:=hq
    refine⟨rfl,⟨flat_rfs _,flat_iO _,trivial⟩,_,⟨7,(5,rfsO rs)::(6,iO cs)::[(4,kwO l),(3,s1O (.sl 2 6 0 (2+i+1+j))),(2,dyO Y),(1,s1O (.p .nils)),(0,dpO ⟨gr,pt,ns,ch,gs,true⟩)]⟩,rfl,rfl,?_⟩
    refine vdraw_ot otP25 (by kernel_rfl) ?_
    refine⟨_,⟨by omega,(Pt.mk kind card frm modes pl ps x y z).cells,hcell,rfl⟩,?_⟩
    refine(pcases_c _ rs cs hrc 0 0 ⟨.inl ⟨rfl,rfl⟩⟩ hpc).use [5,6] rfl ⟨_,_,rfl,rfl,_,_,rfl,⟨_,rfl,by show 0+rs.length≤(rs.map Rf.cells).length;simp,takeAll (by simp)⟩,_,_,rfl,⟨_,rfl,by show 0+cs.length≤(cs.map i64).length;simp,takeAll (by simp)⟩,_,_,rfl,rfl,_,_,rfl,rfl,rfl⟩ fun r hr=>?_
    obtain⟨L,rfl,hLs⟩:=hr
    refine⟨⟨rfl,trivial⟩,?_⟩
    refine⟨⟨rfl,trivial⟩,?_⟩
    refine⟨by show 0+1≤1;omega,_,rfl, .inl ⟨[],[[i64 5,i64 0, .str [], .str [],rfl_ rs,(css L)]],rfl,⟨_,_,rfl,⟨_,_,rfl,rfl,_,_,rfl,rfl,_,_,rfl,rfl,_,_,rfl,rfl,_,_,rfl,⟨_,rfl,by show 0+rs.length≤(rs.map Rf.cells).length;simp,takeAll (by simp)⟩,_,_,rfl,(by first | exact rfl | exact .inl rfl),rfl⟩,rfl⟩,?_⟩⟩
    refine⟨by show 0+(2+i+1+j)≤Y.length;omega,Y,takeAll (by omega),by show(2+i+1+j+1) * 96≤140737488355328;omega,Y++[[i64 5,i64 0, .str [], .str [],rfl_ rs,(css L)]],rfl,?_⟩
    refine⟨((j+1:Nat):Int),by rw [Int.natCast_add];exact wrap_i64 (by omega) (by omega),?_⟩
    exact⟨(j+1,Y++[[i64 5,i64 0, .str [], .str [],rfl_ rs,css L]]),⟨by show j+1≤2;omega,(k2.snoc (d:=⟨5,0,[],[],rs,L⟩) (NilDL.refl _) (gain_ok hrc.refs hrc.len hLs)).le (by show 22+201 * i+33+192 * j+192≤22+201 * i+33+192 * (j+1);omega)⟩,ent_of [] [(2,8)] [] rfl (sk) (sk) rfl,by show 2 - (j+1)<2 - j;omega⟩
   ·refine And.intro (fun h=>absurd (show(i:Int)<((ns.map Pt.cells).length:Nat) from h) (by rw [hns];omega)) (fun _=>?_)
    refine lendT (pargs:=[.agg (ch).cells, .lsts 3 ((l).map Kn.cells), .bool false,i64 sz]) (prefs_h ch (l) (k3).ok (by have:=(k3).len;omega) false sz hs).holds [4] rfl ⟨_,_,rfl,rfl,_,_,rfl,⟨_,rfl,by show 0+(i)≤((l).map Kn.cells).length;rw [List.length_map];have:=(k3).len;omega,takeAll (by rw [List.length_map];have:=(k3).len;omega)⟩,_,_,rfl,rfl,_,_,rfl,rfl,rfl⟩ fun e0 H0 hq=>?_
    obtain⟨rs,cs,rfl,rfl,hrc⟩:=hq
    refine⟨rfl,⟨flat_rfs _,flat_iO _,trivial⟩,_,⟨7,(5,rfsO rs)::(6,iO cs)::[(4,kwO l),(3,s1O (.sl 2 6 0 (2+i))),(2,dyO Y),(1,s1O (.p .nils)),(0,dpO ⟨gr,pt,ns,ch,gs,true⟩)]⟩,rfl,rfl,?_⟩
    refine⟨by show 0+1≤1;omega,_,rfl, .inl ⟨[5],[[i64 4,i64 2, .str [101], .str [],rfl_ rs, .nils]],rfl,⟨_,_,rfl,⟨_,_,rfl,rfl,_,_,rfl,rfl,_,_,rfl,rfl,_,_,rfl,rfl,_,_,rfl,⟨_,rfl,by show 0+rs.length≤(rs.map Rf.cells).length;simp,takeAll (by simp)⟩,_,_,rfl,(by first | exact rfl | exact .inl rfl),rfl⟩,rfl⟩,?_⟩⟩
    refine⟨by show 0+(2+i)≤Y.length;omega,Y,takeAll (by omega),by show(2+i+1) * 96≤140737488355328;omega,Y++[[i64 4,i64 2, .str [101], .str [],rfl_ rs, .nils]],rfl,?_⟩
    refine⟨by show 0+1≤1;omega,[((Kn.mk [101] 2 false)).cells],rfl,?_⟩
    refine⟨by show 0+i≤(l.map Kn.cells).length;rw [List.length_map];omega,l.map Kn.cells,takeAll (by rw [List.length_map];omega),by show(i+1) * 32≤140737488355328;omega,(l++[(Kn.mk [101] 2 false)]).map Kn.cells,by simp,?_⟩
    have k4:=k2.snoc (d:=⟨4,2,[101],[],rs,[]⟩) (nil_dk (NilD.refl _) (nil_n0 11)) (choose_ok (n:=2) (nm:=[101]) (by decide) (by decide) (by decide) hrc.refs hrc.len)
    have k5:LkS (l++[Kn.mk [101] 2 false]) (i+1):=k3.snoc ⟨by show nameN [101]=true;decide,rfl, .inl rfl⟩
    clear k2 k3 hp2 ha hY hL
    generalize Y++[[i64 4,i64 2, .str [101], .str [],rfl_ rs, .nils]]=Y at k4 ⊢
    generalize l++[Kn.mk [101] 2 false]=l at k5 ⊢
    refine⟨Nat × List (List PV),fun x=>[(1, .ptr 0 0 0),(2, .ptr 1 0 0),(4, .p (i64 sz)),(5, .ptr 3 0 0),(6, .sl 4 3 0 (i+1)),(15, .p (i64 x.1))],fun x=>⟨5,[(4,kwO l),(3,s1O (.sl 2 6 0 (2+i+1+x.1))),(2,dyO x.2),(1,s1O (.p .nils)),(0,dpO ⟨gr,pt,ns,ch,gs,true⟩)]⟩,fun x=>x.1≤2∧PgS x.2 (2+i+1+x.1) (22+201 * i+33+192 * x.1),fun x=>2 - x.1,?_,?_⟩
    ·exact⟨(0,Y),⟨by show 0≤2;decide,k4⟩,ent_of [] [(2,8),(4,10)] [] rfl (sk) (sk) rfl⟩
    rintro⟨j,Y⟩ ⟨j1,k2⟩
    simp only [] at j1 k2
    have hY:=k2.len
    by_cases hb:j<gs.length∧j<2
    rotate_left
    ·by_cases hj:j<gs.length
     ·refine And.intro (fun _=>?_) (fun h=>absurd (show(j:Int)<((gs.map Pt.cells).length:Nat) by rw [hgs];omega) h)
      refine And.intro (fun h=>absurd (show(j:Int)<2 from h) (by omega)) (fun _=>?_)
      exact end1 (.agg [.lsts 6 Y]) rfl ⟨_,rfl,_,_,rfl,⟨_,rfl,by show 0+(2+i+1+j)≤Y.length;omega,takeAll (by omega)⟩,rfl⟩ ⟨_,_,_,rfl,k2,by omega,by omega,by omega⟩
     ·refine And.intro (fun h=>absurd (show(j:Int)<((gs.map Pt.cells).length:Nat) from h) (by rw [hgs];omega)) (fun _=>?_)
      exact end1 (.agg [.lsts 6 Y]) rfl ⟨_,rfl,_,_,rfl,⟨_,rfl,by show 0+(2+i+1+j)≤Y.length;omega,takeAll (by omega)⟩,rfl⟩ ⟨_,_,_,rfl,k2,by omega,by omega,by omega⟩
    obtain⟨hj,hj2⟩:=hb
    have hcell:=ptcell hj
    have hpc:=hd4 _ (getD_memL pt0 hj)
    generalize gs.getD j pt0=p at hcell hpc
    obtain⟨kind,card,frm,modes,pl,ps,x,y,z⟩:=p
    refine And.intro (fun _=>?_) (fun h=>absurd (show(j:Int)<((gs.map Pt.cells).length:Nat) by rw [hgs];omega) h)
    refine And.intro (fun _=>?_) (fun h=>absurd (show(j:Int)<2 by omega) h)
    refine⟨_,⟨by omega,(Pt.mk kind card frm modes pl ps x y z).cells,hcell,rfl⟩,?_⟩
    refine lendT (pargs:=[.agg ((Pt.mk kind card frm modes pl ps x y z)).cells, .lsts 3 ((l).map Kn.cells), .bool false,i64 sz]) (prefs_h (Pt.mk kind card frm modes pl ps x y z) (l) (k5).ok (by have:=(k5).len;omega) false sz hs).holds [4] rfl ⟨_,_,rfl,rfl,_,_,rfl,⟨_,rfl,by show 0+(i+1)≤((l).map Kn.cells).length;rw [List.length_map];have:=(k5).len;omega,takeAll (by rw [List.length_map];have:=(k5).len;omega)⟩,_,_,rfl,rfl,_,_,rfl,rfl,rfl⟩ fun e0 H0 hq=>?_
    obtain⟨rs,cs,rfl,rfl,hrc⟩:=hq
    refine⟨rfl,⟨flat_rfs _,flat_iO _,trivial⟩,_,⟨7,(5,rfsO rs)::(6,iO cs)::[(4,kwO l),(3,s1O (.sl 2 6 0 (2+i+1+j))),(2,dyO Y),(1,s1O (.p .nils)),(0,dpO ⟨gr,pt,ns,ch,gs,true⟩)]⟩,rfl,rfl,?_⟩
    refine vdraw_ot otP25 (by kernel_rfl) ?_
    refine⟨_,⟨by omega,(Pt.mk kind card frm modes pl ps x y z).cells,hcell,rfl⟩,?_⟩
    refine(pcases_c _ rs cs hrc 0 0 ⟨.inl ⟨rfl,rfl⟩⟩ hpc).use [5,6] rfl ⟨_,_,rfl,rfl,_,_,rfl,⟨_,rfl,by show 0+rs.length≤(rs.map Rf.cells).length;simp,takeAll (by simp)⟩,_,_,rfl,⟨_,rfl,by show 0+cs.length≤(cs.map i64).length;simp,takeAll (by simp)⟩,_,_,rfl,rfl,_,_,rfl,rfl,rfl⟩ fun r hr=>?_
    obtain⟨L,rfl,hLs⟩:=hr
    refine⟨⟨rfl,trivial⟩,?_⟩
    refine⟨⟨rfl,trivial⟩,?_⟩
    refine⟨by show 0+1≤1;omega,_,rfl, .inl ⟨[],[[i64 5,i64 0, .str [], .str [],rfl_ rs,(css L)]],rfl,⟨_,_,rfl,⟨_,_,rfl,rfl,_,_,rfl,rfl,_,_,rfl,rfl,_,_,rfl,rfl,_,_,rfl,⟨_,rfl,by show 0+rs.length≤(rs.map Rf.cells).length;simp,takeAll (by simp)⟩,_,_,rfl,(by first | exact rfl | exact .inl rfl),rfl⟩,rfl⟩,?_⟩⟩
    refine⟨by show 0+(2+i+1+j)≤Y.length;omega,Y,takeAll (by omega),by show(2+i+1+j+1) * 96≤140737488355328;omega,Y++[[i64 5,i64 0, .str [], .str [],rfl_ rs,(css L)]],rfl,?_⟩
    refine⟨((j+1:Nat):Int),by rw [Int.natCast_add];exact wrap_i64 (by omega) (by omega),?_⟩
    exact⟨(j+1,Y++[[i64 5,i64 0, .str [], .str [],rfl_ rs,css L]]),⟨by show j+1≤2;omega,(k2.snoc (d:=⟨5,0,[],[],rs,L⟩) (NilDL.refl _) (gain_ok hrc.refs hrc.len hLs)).le (by show 22+201 * i+33+192 * j+192≤22+201 * i+33+192 * (j+1);omega)⟩,ent_of [] [(2,8)] [] rfl (sk) (sk) rfl,by show 2 - (j+1)<2 - j;omega⟩
 obtain⟨hi,hi4⟩:=ha
 have hcell:=ptcell hi
 have hpc:=hd3 _ (getD_memL pt0 hi)
 generalize ns.getD i pt0=p at hcell hpc
 obtain⟨kind,card,frm,modes,pl,ps,x,y,z⟩:=p
 have hcd:=card.toNat_lt
 have hnm:=nmI_ok i hi4
 refine And.intro (fun _=>?_) (fun h=>absurd (show(i:Int)<((ns.map Pt.cells).length:Nat) by rw [hns];omega) h)
 refine And.intro (fun _=>?_) (fun h=>absurd (show(i:Int)<4 by omega) h)
 cases pl
 ·refine⟨_,⟨by omega,(Pt.mk kind card frm modes false ps x y z).cells,hcell,rfl⟩,?_⟩
  refine⟨by decide,?_⟩
  refine⟨((card.toNat % 2:Nat):Int),by show _=IntKind.i64.wrap ((card.toNat:Int).tmod 2);rw [show(card.toNat:Int).tmod 2=((card.toNat % 2:Nat):Int) from rfl];exact wrap_i64 (by omega) (by omega),?_⟩
  obtain⟨kk,hkk⟩:∃ kk,kk=2+card.toNat % 2:=⟨_,rfl⟩
  refine⟨((kk:Nat):Int),by rw [hkk,Int.natCast_add];exact wrap_i64 (by omega) (by omega),?_⟩
  refine lendT (pargs:=[.agg ((Pt.mk kind card frm modes false ps x y z)).cells, .lsts 3 ((l).map Kn.cells), .bool false,i64 sz]) (prefs_h (Pt.mk kind card frm modes false ps x y z) (l) (k3).ok (by have:=(k3).len;omega) false sz hs).holds [4] rfl ⟨_,_,rfl,rfl,_,_,rfl,⟨_,rfl,by show 0+(i)≤((l).map Kn.cells).length;rw [List.length_map];have:=(k3).len;omega,takeAll (by rw [List.length_map];have:=(k3).len;omega)⟩,_,_,rfl,rfl,_,_,rfl,rfl,rfl⟩ fun e0 H0 hq=>?_
  obtain⟨rs,cs,rfl,rfl,hrc⟩:=hq
  refine⟨rfl,⟨flat_rfs _,flat_iO _,trivial⟩,_,⟨8,(6,rfsO rs)::(7,iO cs)::((5,ptO (Pt.mk kind card frm modes false ps x y z))::[(4,kwO l),(3,s1O (.sl 2 6 0 (2+i))),(2,dyO Y),(1,s1O (.p .nils)),(0,dpO ⟨gr,pt,ns,ch,gs,cz⟩)])⟩,rfl,rfl,?_⟩
  refine vdraw_ot otP15 (by kernel_rfl) ?_
  refine⟨((i+1:Nat):Int),by rw [Int.natCast_add];exact wrap_i64 (by omega) (by omega),?_⟩
  refine⟨by show(0:Int)≤(i:Nat)∧((i:Nat):Int)≤((i+1:Nat):Int)∧((i+1:Nat):Int)≤4;omega,?_⟩
  refine(pcases_c _ rs cs hrc kk g ⟨.inr ⟨by omega,hg⟩⟩ hpc).use [6,7] rfl ⟨_,_,rfl,rfl,_,_,rfl,⟨_,rfl,by show 0+rs.length≤(rs.map Rf.cells).length;simp,takeAll (by simp)⟩,_,_,rfl,⟨_,rfl,by show 0+cs.length≤(cs.map i64).length;simp,takeAll (by simp)⟩,_,_,rfl,rfl,_,_,rfl,rfl,rfl⟩ fun r hr=>?_
  obtain⟨L,rfl,hLs⟩:=hr
  refine⟨⟨rfl,trivial⟩,?_⟩
  refine⟨⟨rfl,trivial⟩,?_⟩
  refine⟨by show 0+1≤1;omega,_,rfl, .inl ⟨[],[[i64 3,i64 ((kk:Nat):Int), .str (nmI i), .str [],rfl_ rs,(css L)]],rfl,⟨_,_,rfl,⟨_,_,rfl,rfl,_,_,rfl,rfl,_,_,rfl,rfl,_,_,rfl,rfl,_,_,rfl,⟨_,rfl,by show 0+rs.length≤(rs.map Rf.cells).length;simp,takeAll (by simp)⟩,_,_,rfl,(by first | exact rfl | exact .inl rfl),rfl⟩,rfl⟩,?_⟩⟩
  refine⟨by show 0+(2+i)≤Y.length;omega,Y,takeAll (by omega),by show(2+i+1) * 96≤140737488355328;omega,Y++[[i64 3,i64 ((kk:Nat):Int), .str (nmI i), .str [],rfl_ rs,(css L)]],rfl,?_⟩
  refine vdraw_ot otP16 (by kernel_rfl) ?_
  refine⟨((i+1:Nat):Int),by rw [Int.natCast_add];exact wrap_i64 (by omega) (by omega),?_⟩
  refine⟨by show(0:Int)≤(i:Nat)∧((i:Nat):Int)≤((i+1:Nat):Int)∧((i+1:Nat):Int)≤4;omega,?_⟩
  refine⟨by show 0+1≤1;omega,[((Kn.mk (nmI i) ((kk:Nat):Int) false)).cells],rfl,?_⟩
  refine⟨by show 0+i≤(l.map Kn.cells).length;rw [List.length_map];omega,l.map Kn.cells,takeAll (by rw [List.length_map];omega),by show(i+1) * 32≤140737488355328;omega,(l++[(Kn.mk (nmI i) ((kk:Nat):Int) false)]).map Kn.cells,by simp,?_⟩
  refine⟨((i+1:Nat):Int),by rw [Int.natCast_add];exact wrap_i64 (by omega) (by omega),?_⟩
  exact⟨(i+1,Y++[[i64 3,i64 ((kk:Nat):Int), .str (nmI i), .str [],rfl_ rs,css L]],l++[Kn.mk (nmI i) ((kk:Nat):Int) false]),⟨by show i+1≤4;omega,(k2.snoc (d:=⟨3,((kk:Nat):Int),nmI i,[],rs,L⟩) (NilDL.refl _) (node_ok (n:=((kk:Nat):Int)) (nat_of (by omega) (by omega)) hnm.1 hnm.2 (.inl rfl) hrc.refs hrc.len hLs)).le (by show 22+201 * i+201≤22+201 * (i+1);omega),k3.snoc ⟨hnm.1,hnm.2,by show((kk:Nat):Int)=2∨((kk:Nat):Int)=3;omega⟩⟩,ent_of [] [(2,9),(4,11)] [] rfl (sk) (sk) rfl,by show 4 - (i+1)<4 - i;omega⟩
 ·refine⟨_,⟨by omega,(Pt.mk kind card frm modes true ps x y z).cells,hcell,rfl⟩,?_⟩
  refine⟨by decide,?_⟩
  refine⟨((card.toNat % 2:Nat):Int),by show _=IntKind.i64.wrap ((card.toNat:Int).tmod 2);rw [show(card.toNat:Int).tmod 2=((card.toNat % 2:Nat):Int) from rfl];exact wrap_i64 (by omega) (by omega),?_⟩
  refine⟨2+((card.toNat % 2:Nat):Int),wrap_i64 (by omega) (by omega),?_⟩
  refine lendT (pargs:=[.agg ((Pt.mk kind card frm modes true ps x y z)).cells, .lsts 3 ((l).map Kn.cells), .bool true,i64 sz]) (prefs_h (Pt.mk kind card frm modes true ps x y z) (l) (k3).ok (by have:=(k3).len;omega) true sz hs).holds [4] rfl ⟨_,_,rfl,rfl,_,_,rfl,⟨_,rfl,by show 0+(i)≤((l).map Kn.cells).length;rw [List.length_map];have:=(k3).len;omega,takeAll (by rw [List.length_map];have:=(k3).len;omega)⟩,_,_,rfl,rfl,_,_,rfl,rfl,rfl⟩ fun e0 H0 hq=>?_
  obtain⟨rs,cs,rfl,rfl,hrc⟩:=hq
  refine⟨rfl,⟨flat_rfs _,flat_iO _,trivial⟩,_,⟨8,(6,rfsO rs)::(7,iO cs)::((5,ptO (Pt.mk kind card frm modes true ps x y z))::[(4,kwO l),(3,s1O (.sl 2 6 0 (2+i))),(2,dyO Y),(1,s1O (.p .nils)),(0,dpO ⟨gr,pt,ns,ch,gs,cz⟩)])⟩,rfl,rfl,?_⟩
  refine vdraw_ot otP15 (by kernel_rfl) ?_
  refine⟨((i+1:Nat):Int),by rw [Int.natCast_add];exact wrap_i64 (by omega) (by omega),?_⟩
  refine⟨by show(0:Int)≤(i:Nat)∧((i:Nat):Int)≤((i+1:Nat):Int)∧((i+1:Nat):Int)≤4;omega,?_⟩
  refine(pcases_c _ rs cs hrc 2 g ⟨.inr ⟨by omega,hg⟩⟩ hpc).use [6,7] rfl ⟨_,_,rfl,rfl,_,_,rfl,⟨_,rfl,by show 0+rs.length≤(rs.map Rf.cells).length;simp,takeAll (by simp)⟩,_,_,rfl,⟨_,rfl,by show 0+cs.length≤(cs.map i64).length;simp,takeAll (by simp)⟩,_,_,rfl,rfl,_,_,rfl,rfl,rfl⟩ fun r hr=>?_
  obtain⟨L,rfl,hLs⟩:=hr
  refine⟨⟨rfl,trivial⟩,?_⟩
  refine⟨⟨rfl,trivial⟩,?_⟩
  refine⟨by show 0+1≤1;omega,_,rfl, .inl ⟨[],[[i64 3,i64 ((2:Nat):Int), .str (nmI i), .str [112],rfl_ rs,(css L)]],rfl,⟨_,_,rfl,⟨_,_,rfl,rfl,_,_,rfl,rfl,_,_,rfl,rfl,_,_,rfl,rfl,_,_,rfl,⟨_,rfl,by show 0+rs.length≤(rs.map Rf.cells).length;simp,takeAll (by simp)⟩,_,_,rfl,(by first | exact rfl | exact .inl rfl),rfl⟩,rfl⟩,?_⟩⟩
  refine⟨by show 0+(2+i)≤Y.length;omega,Y,takeAll (by omega),by show(2+i+1) * 96≤140737488355328;omega,Y++[[i64 3,i64 ((2:Nat):Int), .str (nmI i), .str [112],rfl_ rs,(css L)]],rfl,?_⟩
  refine vdraw_ot otP16 (by kernel_rfl) ?_
  refine⟨((i+1:Nat):Int),by rw [Int.natCast_add];exact wrap_i64 (by omega) (by omega),?_⟩
  refine⟨by show(0:Int)≤(i:Nat)∧((i:Nat):Int)≤((i+1:Nat):Int)∧((i+1:Nat):Int)≤4;omega,?_⟩
  refine⟨by show 0+1≤1;omega,[((Kn.mk (nmI i) ((2:Nat):Int) true)).cells],rfl,?_⟩
  refine⟨by show 0+i≤(l.map Kn.cells).length;rw [List.length_map];omega,l.map Kn.cells,takeAll (by rw [List.length_map];omega),by show(i+1) * 32≤140737488355328;omega,(l++[(Kn.mk (nmI i) ((2:Nat):Int) true)]).map Kn.cells,by simp,?_⟩
  refine⟨((i+1:Nat):Int),by rw [Int.natCast_add];exact wrap_i64 (by omega) (by omega),?_⟩
  exact⟨(i+1,Y++[[i64 3,i64 ((2:Nat):Int), .str (nmI i), .str [112],rfl_ rs,css L]],l++[Kn.mk (nmI i) ((2:Nat):Int) true]),⟨by show i+1≤4;omega,(k2.snoc (d:=⟨3,((2:Nat):Int),nmI i,[112],rs,L⟩) (NilDL.refl _) (node_ok (n:=((2:Nat):Int)) (nat_of (by omega) (by omega)) hnm.1 hnm.2 (.inr rfl) hrc.refs hrc.len hLs)).le (by show 22+201 * i+201≤22+201 * (i+1);omega),k3.snoc ⟨hnm.1,hnm.2,by show((2:Nat):Int)=2∨((2:Nat):Int)=3;omega⟩⟩,ent_of [] [(2,9),(4,11)] [] rfl (sk) (sk) rfl,by show 4 - (i+1)<4 - i;omega⟩
theorem program_c2 (d:Dp) (hd:d.ok):Pure cx 14 [.agg d.cells] fun r=>∃ ds,r=.ret [srcV ds]∧DrP ds∧2≤ds.length:=
 (program_c' d hd).weak fun r hr=>by
  obtain⟨Y,n,k,rfl,h1,h2,h3,h4⟩:=hr
  obtain⟨ds,g1,g2,g3⟩:=h1.ds
  refine⟨.ret [srcV ds],⟨_,rfl,_,_,rfl,?_,rfl⟩,ds,rfl,g2.fin (by omega) h3,by omega⟩
  show NilD (.agg [.lsts 6 Y]) (.agg [.lsts 6 (ds.map De.cells)])
  simp only [NilD,NilDL]
  exact⟨_,rfl,_,_,rfl,⟨_,rfl,g1⟩,rfl⟩
structure SdP (d:De) (k:Nat):Prop where
 big:BigD d
 refs:d.refs.length≤k
 cases:d.cases.length≤k
 nums:∀ c∈d.cases,c.nums.length≤k
structure SzP (ds:List De) (k:Nat):Prop where
 len:ds.length≤k
 decl:∀ d∈ds,SdP d k
def BnQ (k:Nat) (r:PEnd):Prop:=∃ ds,r=.ret [srcV ds]∧SzP ds (k+40)
def beO (b:Be):AObj:=⟨56,false, .bx (b.cells.map .p)⟩
def rowD (d:De):List AV:=[.p (i64 d.kind), .p (i64 d.n), .p (.str d.name), .p (.str d.plate), .sl 4 4 0 d.refs.length, .sl 5 11 0 d.cases.length]
def dyQ (ds:List De) (a:Nat) (d:De):AObj:=⟨TDecl,false, .mxs ((mapsP (ds.map De.cells)).set a (rowD d))⟩
def dsO (ds:List De):AObj:=⟨TDecl,false, .pus (ds.map De.cells)⟩
abbrev bdH (b:Be) (ds:List De) (a:Nat) (d:De):Hp:=⟨6,[(5,ksO d.cases),(4,rfsO d.refs),(3,dyQ ds a d),(2,s1O (.p .nils)),(1,s1O (.sl 3 6 0 ds.length)),(0,beO b)]⟩
abbrev otB4:OT:=(.pure 0 (.pure 1 (.pure 2 (.pure 3 (.pure 4 (.pure 5 (.pure 6 (.pure 7 (.pure 8 (.pure 9 (.pure 10 .fin)))))))))))
abbrev otB5t:OT:=(.pure 14 (.pure 15 (.eff 16 [] (.pure 17 (.pure 18 (.eff 19 [] .fin .nil))) .nil)))
abbrev otB5:OT:=(.pure 0 (.pure 1 (.pure 3 (.pure 4 (.pure 5 (.pure 6 (.pure 9 (.pure 10 (.pure 11 (.pure 12
 (.eff 2 [12,6] (.eff 7 [12] (.eff 8 [12,6] (.eff 13 [] otB5t .nil) .nil) (.eff 8 [12,6] (.eff 7 [12] (.eff 13 [] otB5t .nil) .nil) .nil))
  (.eff 8 [12,6] (.eff 2 [12,6] (.eff 7 [12] (.eff 13 [] otB5t .nil) .nil) .nil) .nil))))))))))))
theorem resLL_set {f:AV→PV→Prop}:∀ {a:List (List AV)} {b:List (List PV)} {i:Nat} {x:List AV} {y:List PV},ResLL f a b→ResL f x y→ResLL f (a.set i x) (b.set i y)
 | [],b,i,x,y,h,_=>by simp only [ResLL] at h;subst h;simp [ResLL]
 | v::a,b,i,x,y,h,k=>by
  simp only [ResLL] at h
  obtain⟨z,zs,rfl,h1,h2⟩:=h
  cases i with
  | zero=>exact⟨_,_,rfl,k,h2⟩
  | succ i=>exact⟨_,_,rfl,h1,resLL_set h2 k⟩
theorem seeL_p {ρ:Nat→Nat} {ni:List (Nat × Nat)} {L:List (Nat × AObj)}:∀ xs:List PV,SeeL ρ ni L (xs.map .p) (xs.map .p)
 | []=>rfl
 | x::xs=>⟨_,_,rfl,by simp only [See];exact res_p _ _,seeL_p xs⟩
theorem seeLL_p {ρ:Nat→Nat} {ni:List (Nat × Nat)} {L:List (Nat × AObj)}:∀ xss:List (List PV),SeeLL ρ ni L (mapsP xss) (mapsP xss)
 | []=>rfl
 | x::xss=>⟨_,_,rfl,seeL_p x,seeLL_p xss⟩
theorem seeLL_set {ρ:Nat→Nat} {ni:List (Nat × Nat)} {L:List (Nat × AObj)}:∀ {a b:List (List AV)} {i:Nat} {x y:List AV},SeeLL ρ ni L a b→SeeL ρ ni L x y→SeeLL ρ ni L (a.set i x) (b.set i y)
 | a,[],i,x,y,h,_=>by simp only [SeeLL] at h;subst h;simp [SeeLL]
 | a,v::b,i,x,y,h,k=>by
  simp only [SeeLL] at h
  obtain⟨z,zs,rfl,h1,h2⟩:=h
  cases i with
  | zero=>exact⟨_,_,rfl,k,h2⟩
  | succ i=>exact⟨_,_,rfl,h1,seeLL_set h2 k⟩
theorem seeR1 {ni:List (Nat × Nat)} {L:List (Nat × AObj)} {ρ:Nat→Nat} {R:List (List PV)} {i j s t m1 m2:Nat} {d:De} (hij:i=j) (h1:m1=d.refs.length) (h2:m2=d.cases.length) (hs:See ρ ni L (.sl s 4 0 d.refs.length) (.sl 4 4 0 d.refs.length)) (ht:See ρ ni L (.sl t 11 0 d.cases.length) (.sl 5 11 0 d.cases.length)):SeeLL ρ ni L ((mapsP R).set i [.p (i64 d.kind), .p (i64 d.n), .p (.str d.name), .p (.str d.plate), .sl s 4 0 m1, .sl t 11 0 m2]) ((mapsP R).set j (rowD d)):=by
 subst hij h1 h2
 exact seeLL_set (seeLL_p _) ⟨_,_,rfl,rfl,_,_,rfl,rfl,_,_,rfl,rfl,_,_,rfl,rfl,_,_,rfl,hs,_,_,rfl,ht,rfl⟩
theorem seeR {ni:List (Nat × Nat)} {L:List (Nat × AObj)} {ρ:Nat→Nat} {R:List (List PV)} {i j s t m1 m2:Nat} {d:De} {x:List AV} (hij:i=j) (h1:m1=d.refs.length) (h2:m2=d.cases.length) (hs:See ρ ni L (.sl s 4 0 d.refs.length) (.sl 4 4 0 d.refs.length)) (ht:See ρ ni L (.sl t 11 0 d.cases.length) (.sl 5 11 0 d.cases.length)):SeeLL ρ ni L (((mapsP R).set i x).set i [.p (i64 d.kind), .p (i64 d.n), .p (.str d.name), .p (.str d.plate), .sl s 4 0 m1, .sl t 11 0 m2]) ((mapsP R).set j (rowD d)):=by
 subst hij h1 h2
 rw [List.set_set]
 exact seeLL_set (seeLL_p _) ⟨_,_,rfl,rfl,_,_,rfl,rfl,_,_,rfl,rfl,_,_,rfl,rfl,_,_,rfl,hs,_,_,rfl,ht,rfl⟩
theorem res_pn (L:List (Nat × AObj)) (d:Nat) (x:PV):Res L (d+1) (.p x) x:=by
 cases x with
 | nils=>exact .inl rfl
 | agg cs=>
  cases cs with
  | nil=>rfl
  | cons a r=>
   cases a with
   | nils=>exact⟨_,rfl,nilAsL_refl _⟩
   | _=>rfl
 | _=>rfl
theorem resL_pn (L:List (Nat × AObj)) (d:Nat):∀ xs:List PV,ResL (Res L (d+1)) (xs.map .p) xs
 | []=>rfl
 | x::xs=>⟨_,_,rfl,res_pn L d x,resL_pn L d xs⟩
theorem resLL_pn (L:List (Nat × AObj)) (d:Nat):∀ xs:List (List PV),ResLL (Res L (d+1)) (mapsP xs) xs
 | []=>rfl
 | x::xs=>⟨_,_,rfl,resL_pn L d x,resLL_pn L d xs⟩
abbrev otB34t:OT:=.eff 10 [] (.pure 11 (.pure 12 (.eff 13 [] .fin .nil))) .nil
abbrev otB34:OT:=(.pure 0 (.pure 2 (.pure 3 (.pure 4 (.pure 5 (.pure 7 (.pure 8 (.eff 1 [8,5] (.eff 6 [8] (.eff 9 [5] otB34t .nil) (.eff 9 [5] (.eff 6 [8] otB34t .nil) .nil)) (.eff 9 [5] (.eff 1 [8,5] (.eff 6 [8] otB34t .nil) .nil) .nil)))))))))
theorem resL_appS {f:AV→PV→Prop}:∀ {a c:List AV} {b d:List PV},ResL f a b→ResL f c d→ResL f (a++c) (b++d)
 | [],c,b,d,h,k=>by simp only [ResL] at h;subst h;exact k
 | v::a,c,b,d,h,k=>by
  simp only [ResL] at h
  obtain⟨z,zs,rfl,h1,h2⟩:=h
  exact⟨z,zs++d,rfl,h1,resL_appS h2 k⟩
theorem bigL_cons {c:Cs} {l:List Cs} (hc:BigC c.cond) (hn:c.nums.length≤5000) (hl:BigL l) (hk:l.length≤5000):BigL (c::l):=by
 refine⟨by show l.length+1≤_;omega,fun x hx=>?_,fun x hx=>?_⟩
 ·rcases List.mem_cons.1 hx with rfl | hx
  ·exact hc
  ·exact hl.cond x hx
 ·rcases List.mem_cons.1 hx with rfl | hx
  ·omega
  ·exact hl.nums x hx
theorem bigL_set {c:Cs} {l:List Cs} {i:Nat} (hc:BigC c.cond) (hn:c.nums.length≤2000) (hl:BigL l):BigL (l.set i c):=by
 refine⟨by rw [List.length_set];exact hl.len,fun x hx=>?_,fun x hx=>?_⟩
 ·rcases List.mem_or_eq_of_mem_set hx with hx | rfl
  ·exact hl.cond x hx
  ·exact hc
 ·rcases List.mem_or_eq_of_mem_set hx with hx | rfl
  ·exact hl.nums x hx
  ·omega
theorem res_pus {L:List (Nat × AObj)} {d n s m:Nat} {t:TypeId} {xss:List (List PV)} (h:lget L n=some ⟨t,true, .pus xss⟩) (hm:m=xss.length):Res L (d+1) (.sl n s 0 m) (.lsts s xss):=by
 simp only [Res]
 rw [h]
 exact⟨_,rfl,by rw [hm];omega,takeAll hm.symm⟩
theorem res_pusO {L:List (Nat × AObj)} {d n s off m:Nat} {t:TypeId} {xss ys:List (List PV)} (h:lget L n=some ⟨t,true, .pus xss⟩) (h1:off+m≤xss.length) (h2:ys=(xss.drop off).take m):Res L (d+1) (.sl n s off m) (.lsts s ys):=by
 simp only [Res]
 rw [h]
 exact⟨_,rfl,h1,h2⟩
theorem res_puS {L:List (Nat × AObj)} {d n s m:Nat} {t:TypeId} {yss xss:List (List PV)} (h:lget L n=some ⟨t,true, .pus yss⟩) (he:yss=xss) (hm:m=xss.length):Res L (d+1) (.sl n s 0 m) (.lsts s xss):=by
 subst he
 exact res_pus h hm
theorem res_mxs {L:List (Nat × AObj)} {d n s m:Nat} {t:TypeId} {vss:List (List AV)} {xss:List (List PV)} (h:lget L n=some ⟨t,true, .mxs vss⟩) (hr:ResLL (Res L d) vss xss) (hm:vss.length=m):Res L (d+1) (.sl n s 0 m) (.lsts s xss):=by
 simp only [Res]
 rw [h]
 exact⟨_,rfl,by rw [hm];omega,by rw [← takeAll hm];exact hr⟩
theorem res_ds {L:List (Nat × AObj)} {dd a:Nat} {ds:List De} {d':De} {row:List AV} {M:List (List AV)} (hM:M=(mapsP (ds.map De.cells)).set a row) (h:ResL (Res L (dd+1)) row d'.cells):ResLL (Res L (dd+1)) ((M.drop 0).take ds.length) ((ds.set a d').map De.cells):=by
 have hml:M.length=ds.length:=by rw [hM,List.length_set,mapsP_length,List.length_map]
 rw [← takeAll hml,hM,List.map_set]
 exact resLL_set (resLL_pn _ _ _) h
theorem res_ds0 {L:List (Nat × AObj)} {dd a:Nat} {ds:List De} {d':De} {row:List AV} (h:ResL (Res L (dd+1)) row d'.cells):ResLL (Res L (dd+1)) ((mapsP (ds.map De.cells)).set a row) ((ds.set a d').map De.cells):=by
 rw [List.map_set]
 exact resLL_set (resLL_pn _ _ _) h
theorem set_self {α:Type} (d:α):∀ (l:List α) (i:Nat),l.set i (l.getD i d)=l
 | [],_=>rfl
 | x::l,0=>rfl
 | x::l,i+1=>by show x::l.set i (l.getD i d)=_;rw [set_self d l i]
theorem len_ds {a:Nat} {ds:List De} {row:List AV} {M:List (List AV)} (hM:M=(mapsP (ds.map De.cells)).set a row):0+ds.length≤M.length:=by
 rw [hM,List.length_set,mapsP_length,List.length_map];omega
theorem SdP.mono {d:De} {k m:Nat} (h:SdP d k) (hm:k≤m):SdP d m:=⟨h.big,Nat.le_trans h.refs hm,Nat.le_trans h.cases hm,fun c hc=>Nat.le_trans (h.nums c hc) hm⟩
theorem bn_set {ds:List De} {k a:Nat} {d':De} (h:SzP ds k) (h':SdP d' (k+40)):BnQ k (.ret [srcV (ds.set a d')]):=by
 refine⟨_,rfl,by rw [List.length_set];have:=h.len;omega,fun x hx=>?_⟩
 rcases List.mem_or_eq_of_mem_set hx with hx | hx
 ·exact(h.decl x hx).mono (by omega)
 ·rw [hx];exact h'
def ndB8:List (Nat × AObj)→Bool
 | []=>true
 | (n,_)::r=>(match lget r n with
  | none=>true
  | some _=>false) && ndB8 r
theorem ndB8_nodup:∀ {l:List (Nat × AObj)},ndB8 l=true→(l.map (·.1)).Nodup
 | [],_=>List.nodup_nil
 | (n,o)::r,h=>by
  rw [ndB8,Bool.and_eq_true] at h
  rw [List.map_cons,List.nodup_cons]
  refine⟨fun hm=>?_,ndB8_nodup h.2⟩
  obtain⟨⟨m,o'⟩,h1,rfl⟩:=List.mem_map.1 hm
  have:=lget_of_mem (ndB8_nodup h.2) h1
  have h1:=h.1
  rw [this] at h1
  cases h1
theorem endN8 {Q:PEnd→Prop} {v:AV} {H':Hp} (x:PV) (hd:ndB8 H'.l=true) (h:Res (allFr H'.l) 5 v x) (hq:Q (.ret [x])):EndP Q (.returned v) H':=endR x (ndB8_nodup hd) h hq
theorem bend_c38 (b:Be) (hb:b.ok) (ds:List De) (k:Nat) (hk:k≤1000) (h:SzP ds k):Pure cx 13 [.agg b.cells,srcV ds] (BnQ k):=by
 refine pure_of_vc Tryz.func13 rfl rfl rfl ?_
 obtain⟨what,place,cse,n,nm,rf,⟨ao,an,ar,av,af,as',aa⟩⟩:=b
 have hl:=h.len
 have hlm:(ds.map De.cells).length=ds.length:=List.length_map ..
 refine⟨by show 0+0≤0;omega,[],rfl,by show(0+(ds.map De.cells).length) * 96≤140737488355328;omega,ds.map De.cells,rfl,?_⟩
 by_cases h0:ds=[]
 ·subst h0
  refine And.intro (fun _=>?_) (fun h=>absurd rfl h)
  refine end1 (.agg [.lsts 6 []]) rfl ⟨_,rfl,_,_,rfl,⟨_,rfl,Nat.le_refl _,rfl⟩,rfl⟩ ⟨[],rfl,by show 0≤k+40;omega,fun d hd=>by cases hd⟩
 have hpos:0<ds.length:=by
  cases ds with
  | nil=>exact absurd rfl h0
  | cons a r=>simp
 refine And.intro (fun h=>absurd (show((0+(ds.map De.cells).length:Nat):Int)=0 from h) (by rw [hlm];omega)) (fun _=>?_)
 have hp:=place.toNat_lt
 refine vdraw_ot otB4 (by kernel_rfl) ?_
 refine⟨(place.toNat:Int),wrap_i64 (by omega) (by omega),?_⟩
 refine⟨by show ¬ ((0+(ds.map De.cells).length:Nat):Int)=0;rw [hlm];omega,?_⟩
 have hm:(place.toNat:Int).tmod ((0+(ds.map De.cells).length:Nat):Int)=((place.toNat % ds.length:Nat):Int):=by rw [Nat.zero_add,hlm];rfl
 have ha:place.toNat % ds.length<ds.length:=Nat.mod_lt _ hpos
 generalize place.toNat % ds.length=a at hm ha
 generalize (place.toNat:Int).tmod ((0+(ds.map De.cells).length:Nat):Int)=aa' at hm ⊢
 subst hm
 refine⟨by show(0:Int)≤(a:Nat)∧((a:Nat):Int)<((0+(ds.map De.cells).length:Nat):Int);rw [hlm];omega,?_⟩
 obtain⟨d,hd⟩:∃ d,d=ds.getD a de0:=⟨_,rfl⟩
 have hdm:d∈ds:=by rw [hd];exact getD_memL de0 ha
 have hS:=h.decl d hdm
 have hrl:=hS.refs
 have hcl:=hS.cases
 have hcell:(ds.map De.cells)[0+((a:Nat):Int).toNat]?=some d.cells:=by rw [Int.toNat_natCast,Nat.zero_add,hd];exact decell ha
 have hia:0+((a:Nat):Int).toNat=a:=by rw [Int.toNat_natCast,Nat.zero_add]
 have hlen:0+((a:Nat):Int).toNat<(mapsP (ds.map De.cells)).length:=by rw [mapsP_length,List.length_map,Int.toNat_natCast];omega
 refine vdraw_otEx (fun _:Unit=>[(2, .ptr 0 0 0),(3, .ptr 1 0 0),(4, .ptr 2 0 0),(5, .ptr 3 a 0)]) (fun _=>bdH ⟨what,place,cse,n,nm,rf, .mk ao an ar av af as' aa⟩ ds a d) (fun _=>True) otB5 (by kernel_rfl) ?_ ?_
 ·refine⟨_,⟨d.cells,rfl_ d.refs,hcell,rfl,rfl⟩,?_⟩
  refine⟨_,⟨d.cells,css d.cases,hcell,rfl,rfl⟩,?_⟩
  refine And.intro ?_ ?_
  ·refine⟨⟨⟨d.cells,_,hcell,rfl,rfl⟩,⟨d.cells,_,hcell,rfl,rfl⟩,trivial⟩,?_⟩
   refine And.intro ?_ ?_
   ·refine⟨by show 0+0≤0;omega,[],rfl,by show(0+(d.refs.map Rf.cells).length) * 48≤140737488355328;rw [List.length_map];omega,d.refs.map Rf.cells,rfl,?_⟩
    refine⟨⟨⟨d.cells,_,hcell,rfl,rfl⟩,trivial⟩,?_⟩
    refine⟨⟨⟨d.cells,_,hcell,rfl,rfl⟩,⟨d.cells,_,hcell,rfl,rfl⟩,trivial⟩,?_⟩
    refine⟨by show 0+0≤0;omega,[],rfl,by show(0+(d.cases.map Cs.cells).length) * 152≤140737488355328;rw [List.length_map];omega,d.cases.map Cs.cells,rfl,?_⟩
    refine⟨d.cells,hcell,by show 0+4+1≤6;omega,?_⟩
    refine⟨_,List.getElem?_set_self hlen,by show 0+5+1≤6;omega,?_⟩
    refine⟨(),trivial,ent_of [] [(3,4),(4,6),(5,8)] [] rfl ⟨⟨rfl,rfl⟩,⟨rfl,rfl⟩,⟨rfl,rfl⟩,⟨rfl,congrArg (fun z=>AV.ptr 4 z 0) hia⟩,trivial⟩ ⟨⟨_,rfl,rfl,rfl,rfl⟩,⟨_,rfl,rfl,rfl,rfl⟩,⟨_,rfl,rfl,rfl,_,rfl,?_⟩,⟨_,rfl,rfl,rfl,sk⟩,⟨_,rfl,rfl,rfl,_,rfl,_,_,rfl,congrArg (fun z=>AV.sl 4 6 0 z) (by show 0+(ds.map De.cells).length=_;rw [hlm,Nat.zero_add]),rfl⟩,⟨_,rfl,rfl,rfl,sk⟩,trivial⟩ rfl⟩
    exact seeR (R:=ds.map De.cells) (d:=d) (s:=6) (t:=8) hia (by rw [List.length_map,Nat.zero_add]) (by rw [List.length_map,Nat.zero_add]) rfl rfl
   ·refine⟨⟨⟨d.cells,_,hcell,rfl,rfl⟩,⟨d.cells,_,hcell,rfl,rfl⟩,trivial⟩,?_⟩
    refine⟨by show 0+0≤0;omega,[],rfl,by show(0+(d.refs.map Rf.cells).length) * 48≤140737488355328;rw [List.length_map];omega,d.refs.map Rf.cells,rfl,?_⟩
    refine⟨⟨⟨d.cells,_,hcell,rfl,rfl⟩,trivial⟩,?_⟩
    refine⟨by show 0+0≤0;omega,[],rfl,by show(0+(d.cases.map Cs.cells).length) * 152≤140737488355328;rw [List.length_map];omega,d.cases.map Cs.cells,rfl,?_⟩
    refine⟨d.cells,hcell,by show 0+4+1≤6;omega,?_⟩
    refine⟨_,List.getElem?_set_self hlen,by show 0+5+1≤6;omega,?_⟩
    refine⟨(),trivial,ent_of [] [(3,4),(4,7),(5,8)] [] rfl ⟨⟨rfl,rfl⟩,⟨rfl,rfl⟩,⟨rfl,rfl⟩,⟨rfl,congrArg (fun z=>AV.ptr 4 z 0) hia⟩,trivial⟩ ⟨⟨_,rfl,rfl,rfl,rfl⟩,⟨_,rfl,rfl,rfl,rfl⟩,⟨_,rfl,rfl,rfl,_,rfl,?_⟩,⟨_,rfl,rfl,rfl,sk⟩,⟨_,rfl,rfl,rfl,_,rfl,_,_,rfl,congrArg (fun z=>AV.sl 4 6 0 z) (by show 0+(ds.map De.cells).length=_;rw [hlm,Nat.zero_add]),rfl⟩,⟨_,rfl,rfl,rfl,sk⟩,trivial⟩ rfl⟩
    exact seeR (R:=ds.map De.cells) (d:=d) (s:=7) (t:=8) hia (by rw [List.length_map,Nat.zero_add]) (by rw [List.length_map,Nat.zero_add]) rfl rfl
  ·refine⟨⟨⟨d.cells,_,hcell,rfl,rfl⟩,⟨d.cells,_,hcell,rfl,rfl⟩,trivial⟩,?_⟩
   refine⟨⟨⟨d.cells,_,hcell,rfl,rfl⟩,⟨d.cells,_,hcell,rfl,rfl⟩,trivial⟩,?_⟩
   refine⟨by show 0+0≤0;omega,[],rfl,by show(0+(d.refs.map Rf.cells).length) * 48≤140737488355328;rw [List.length_map];omega,d.refs.map Rf.cells,rfl,?_⟩
   refine⟨⟨⟨d.cells,_,hcell,rfl,rfl⟩,trivial⟩,?_⟩
   refine⟨by show 0+0≤0;omega,[],rfl,by show(0+(d.cases.map Cs.cells).length) * 152≤140737488355328;rw [List.length_map];omega,d.cases.map Cs.cells,rfl,?_⟩
   refine⟨d.cells,hcell,by show 0+4+1≤6;omega,?_⟩
   refine⟨_,List.getElem?_set_self hlen,by show 0+5+1≤6;omega,?_⟩
   refine⟨(),trivial,ent_of [] [(3,4),(4,7),(5,8)] [] rfl ⟨⟨rfl,rfl⟩,⟨rfl,rfl⟩,⟨rfl,rfl⟩,⟨rfl,congrArg (fun z=>AV.ptr 4 z 0) hia⟩,trivial⟩ ⟨⟨_,rfl,rfl,rfl,rfl⟩,⟨_,rfl,rfl,rfl,rfl⟩,⟨_,rfl,rfl,rfl,_,rfl,?_⟩,⟨_,rfl,rfl,rfl,sk⟩,⟨_,rfl,rfl,rfl,_,rfl,_,_,rfl,congrArg (fun z=>AV.sl 4 6 0 z) (by show 0+(ds.map De.cells).length=_;rw [hlm,Nat.zero_add]),rfl⟩,⟨_,rfl,rfl,rfl,sk⟩,trivial⟩ rfl⟩
   exact seeR (R:=ds.map De.cells) (d:=d) (s:=7) (t:=8) hia (by rw [List.length_map,Nat.zero_add]) (by rw [List.length_map,Nat.zero_add]) rfl rfl
 intro _ _
 refine⟨by show(0:Int)≤(if (12:Int)<((nm.length:Nat):Int) then(12:Int) else((nm.length:Nat):Int))∧(if (12:Int)<((nm.length:Nat):Int) then(12:Int) else((nm.length:Nat):Int))≤((nm.length:Nat):Int);split <;> omega,?_⟩
 refine⟨by decide,?_⟩
 have hw:=what.toNat_lt
 have hcs:=cse.toNat_lt
 have hnt:(nm.take (if (12:Int)<((nm.length:Nat):Int) then(12:Int) else((nm.length:Nat):Int)).toNat).length≤nm.length:=by rw [List.length_take];omega
 have hrr:∀ {L:List (Nat × AObj)} {dd:Nat},lget L 4=some ⟨TRef,true, .pus (d.refs.map Rf.cells)⟩→Res L (dd+1) (.sl 4 4 0 d.refs.length) (rfl_ d.refs):=fun h=>res_pus h (by rw [List.length_map])
 have hkk:∀ {L:List (Nat × AObj)} {dd:Nat},lget L 5=some ⟨TCase,true, .pus (d.cases.map Cs.cells)⟩→Res L (dd+1) (.sl 5 11 0 d.cases.length) (css d.cases):=fun h=>res_pus h (by rw [List.length_map])
 have hB:=hS.big
 have hS':=hS.mono (show k≤k+40 by omega)
 have hst:∀ x:List AV,((mapsP (ds.map De.cells)).set a x)[a]?=some x:=fun x=>List.getElem?_set_self (by rw [hia] at hlen;exact hlen)
 refine And.intro (fun _=>?_) (fun _=>?_)
 ·refine⟨_,hst _,by show 0+0+1≤6;omega,?_⟩
  refine endN8 (srcV (ds.set a ⟨n,d.n,d.name,d.plate,d.refs,d.cases⟩)) rfl ⟨_,rfl,_,_,rfl,⟨_,rfl,len_ds (List.set_set ..),res_ds (List.set_set ..) ⟨_,_,rfl,rfl,_,_,rfl,rfl,_,_,rfl,rfl,_,_,rfl,rfl,_,_,rfl,hrr rfl,_,_,rfl,hkk rfl,rfl⟩⟩,rfl⟩ (bn_set h ?_)
  exact⟨⟨hB.name,hB.plate,hB.len,hB.refs,hB.cases⟩,hS'.refs,hS'.cases,hS'.nums⟩
 refine And.intro (fun _=>?_) (fun _=>?_)
 ·refine⟨_,hst _,by show 0+1+1≤6;omega,?_⟩
  refine endN8 (srcV (ds.set a ⟨d.kind,n,d.name,d.plate,d.refs,d.cases⟩)) rfl ⟨_,rfl,_,_,rfl,⟨_,rfl,len_ds (List.set_set ..),res_ds (List.set_set ..) ⟨_,_,rfl,rfl,_,_,rfl,rfl,_,_,rfl,rfl,_,_,rfl,rfl,_,_,rfl,hrr rfl,_,_,rfl,hkk rfl,rfl⟩⟩,rfl⟩ (bn_set h ?_)
  exact⟨⟨hB.name,hB.plate,hB.len,hB.refs,hB.cases⟩,hS'.refs,hS'.cases,hS'.nums⟩
 refine And.intro (fun _=>?_) (fun _=>?_)
 ·refine⟨_,hst _,by show 0+2+1≤6;omega,?_⟩
  refine endN8 (srcV (ds.set a ⟨d.kind,d.n,nm.take (if (12:Int)<((nm.length:Nat):Int) then(12:Int) else((nm.length:Nat):Int)).toNat,d.plate,d.refs,d.cases⟩)) rfl ⟨_,rfl,_,_,rfl,⟨_,rfl,len_ds (List.set_set ..),res_ds (List.set_set ..) ⟨_,_,rfl,rfl,_,_,rfl,rfl,_,_,rfl,rfl,_,_,rfl,rfl,_,_,rfl,hrr rfl,_,_,rfl,hkk rfl,rfl⟩⟩,rfl⟩ (bn_set h ?_)
  exact⟨⟨Nat.le_trans hnt hb.name,hB.plate,hB.len,hB.refs,hB.cases⟩,hS'.refs,hS'.cases,hS'.nums⟩
 refine And.intro (fun _=>?_) (fun _=>?_)
 ·refine⟨_,hst _,by show 0+3+1≤6;omega,?_⟩
  refine endN8 (srcV (ds.set a ⟨d.kind,d.n,d.name,nm.take (if (12:Int)<((nm.length:Nat):Int) then(12:Int) else((nm.length:Nat):Int)).toNat,d.refs,d.cases⟩)) rfl ⟨_,rfl,_,_,rfl,⟨_,rfl,len_ds (List.set_set ..),res_ds (List.set_set ..) ⟨_,_,rfl,rfl,_,_,rfl,rfl,_,_,rfl,rfl,_,_,rfl,rfl,_,_,rfl,hrr rfl,_,_,rfl,hkk rfl,rfl⟩⟩,rfl⟩ (bn_set h ?_)
  exact⟨⟨hB.name,Nat.le_trans hnt hb.name,hB.len,hB.refs,hB.cases⟩,hS'.refs,hS'.cases,hS'.nums⟩
 refine And.intro (fun _=>?_) (fun _=>?_)
 ·refine VDraw.seq rfl ?_
  refine⟨_,⟨_,hst _,rfl⟩,?_⟩
  refine⟨⟨⟨_,hst _,rfl⟩,sk⟩,?_⟩
  refine⟨by show 0+1≤1;omega,[rf.cells],rfl,?_⟩
  refine⟨by show 0+d.refs.length≤(d.refs.map Rf.cells).length;rw [List.length_map];omega,d.refs.map Rf.cells,takeAll (by rw [List.length_map]),by show(d.refs.length+1) * 48≤140737488355328;omega,(d.refs++[rf]).map Rf.cells,by rw [List.map_append];rfl,?_⟩
  refine⟨_,hst _,by show 0+4+1≤6;omega,?_⟩
  refine endN8 (srcV (ds.set a ⟨d.kind,d.n,d.name,d.plate,d.refs++[rf],d.cases⟩)) rfl ⟨_,rfl,_,_,rfl,⟨_,rfl,len_ds (List.set_set ..),res_ds (List.set_set ..) ⟨_,_,rfl,rfl,_,_,rfl,rfl,_,_,rfl,rfl,_,_,rfl,rfl,_,_,rfl,(res_pus (xss:=(d.refs++[rf]).map Rf.cells) rfl (by show d.refs.length+1=_;rw [List.length_map,List.length_append];rfl)),_,_,rfl,hkk rfl,rfl⟩⟩,rfl⟩ (bn_set h ?_)
  refine⟨⟨hB.name,hB.plate,by show(d.refs++[_]).length≤_;rw [List.length_append];show d.refs.length+1≤_;omega,fun r hr=>?_,hB.cases⟩,by show(d.refs++[_]).length≤_;rw [List.length_append];show d.refs.length+1≤_;omega,hS'.cases,hS'.nums⟩
  rcases List.mem_append.1 hr with hr | hr
  ·exact hB.refs r hr
  ·rw [List.mem_singleton.1 hr];exact hb.ref
 refine And.intro (fun _=>?_) (fun _=>?_)
 ·refine⟨_,⟨_,hst _,rfl⟩,?_⟩
  refine And.intro (fun hp1=>?_) (fun hp1=>?_)
  ·refine VDraw.seq rfl ?_
   refine⟨_,⟨_,hst _,rfl⟩,?_⟩
   refine⟨(cse.toNat:Int),wrap_i64 (by omega) (by omega),?_⟩
   refine⟨_,⟨_,hst _,rfl⟩,?_⟩
   have hp1:0<d.refs.length:=by have:(0:Int)<((d.refs.length:Nat):Int):=hp1;omega
   refine⟨by show ¬ ((d.refs.length:Nat):Int)=0;omega,?_⟩
   have hj:cse.toNat % d.refs.length<d.refs.length:=Nat.mod_lt _ hp1
   have hjm:(cse.toNat:Int).tmod ((d.refs.length:Nat):Int)=((cse.toNat % d.refs.length:Nat):Int):=rfl
   refine⟨by show(0:Int)≤((cse.toNat % d.refs.length:Nat):Int)∧((cse.toNat % d.refs.length:Nat):Int)<((d.refs.length:Nat):Int);omega,?_⟩
   have hjx:0+((cse.toNat:Int).tmod ((d.refs.length:Nat):Int)).toNat=cse.toNat % d.refs.length:=by rw [hjm,Int.toNat_natCast,Nat.zero_add]
   refine⟨(d.refs.getD (cse.toNat % d.refs.length) rf0).cells,by rw [hjx];exact rcell hj,by show 0+4≤4;omega,?_⟩
   refine endN8 (srcV (ds.set a ⟨d.kind,d.n,d.name,d.plate,d.refs.set (cse.toNat % d.refs.length) rf,d.cases⟩)) rfl ⟨_,rfl,_,_,rfl,⟨_,rfl,len_ds rfl,res_ds rfl ⟨_,_,rfl,rfl,_,_,rfl,rfl,_,_,rfl,rfl,_,_,rfl,rfl,_,_,rfl,(res_puS (xss:=(d.refs.set (cse.toNat % d.refs.length) rf).map Rf.cells) rfl (by rw [List.map_set,← hjx];rfl) (by rw [List.length_map,List.length_set])),_,_,rfl,hkk rfl,rfl⟩⟩,rfl⟩ (bn_set h ?_)
   refine⟨⟨hB.name,hB.plate,by show(d.refs.set _ _).length≤_;rw [List.length_set];exact hB.len,fun r hr=>?_,hB.cases⟩,by show(d.refs.set _ _).length≤_;rw [List.length_set];exact hS'.refs,hS'.cases,hS'.nums⟩
   rcases List.mem_or_eq_of_mem_set hr with hr | hr
   ·exact hB.refs r hr
   ·rw [hr];exact hb.ref
  refine endN8 (srcV (ds.set a d)) rfl ⟨_,rfl,_,_,rfl,⟨_,rfl,len_ds rfl,res_ds rfl ⟨_,_,rfl,rfl,_,_,rfl,rfl,_,_,rfl,rfl,_,_,rfl,rfl,_,_,rfl,hrr rfl,_,_,rfl,hkk rfl,rfl⟩⟩,rfl⟩ (bn_set h hS')
 have hkl:(d.cases.map Cs.cells).length=d.cases.length:=List.length_map ..
 refine And.intro (fun _=>?_) (fun _=>?_)
 ·refine VDraw.seq rfl ?_
  refine⟨_,⟨_,hst _,rfl⟩,?_⟩
  refine⟨⟨⟨_,hst _,rfl⟩,sk⟩,?_⟩
  refine⟨⟨⟨_,hst _,rfl⟩,sk⟩,?_⟩
  refine⟨by show 0+d.cases.length≤(d.cases.map Cs.cells).length;omega,d.cases.map Cs.cells,takeAll hkl,?_⟩
  refine⟨by show 0+1≤1;omega,[(Cd.mk ao an ar av af as' aa).cells.map .p++[.sl 6 1 0 1]],rfl,by show(1+d.cases.length) * 152≤140737488355328;omega,[(Cd.mk ao an ar av af as' aa).cells.map .p++[.sl 6 1 0 1]]++mapsP (d.cases.map Cs.cells),rfl,?_⟩
  refine⟨_,hst _,by show 0+5+1≤6;omega,?_⟩
  refine endN8 (srcV (ds.set a ⟨d.kind,d.n,d.name,d.plate,d.refs,⟨.mk ao an ar av af as' aa,[1]⟩::d.cases⟩)) rfl ⟨_,rfl,_,_,rfl,⟨_,rfl,len_ds (List.set_set ..),res_ds (List.set_set ..) ⟨_,_,rfl,rfl,_,_,rfl,rfl,_,_,rfl,rfl,_,_,rfl,rfl,_,_,rfl,hrr rfl,_,_,rfl,(res_mxs (xss:=(⟨.mk ao an ar av af as' aa,[1]⟩::d.cases).map Cs.cells) rfl ?_ (by rw [List.length_append,mapsP_length,hkl];rfl)),rfl⟩⟩,rfl⟩ (bn_set h ?_)
  ·exact⟨_,_,rfl,resL_appS (resL_pn _ _ _) ⟨_,_,rfl,⟨_,rfl,by show 0+1≤1;omega,rfl⟩,rfl⟩,resLL_pn _ _ _⟩
  ·refine⟨⟨hB.name,hB.plate,hB.len,hB.refs,bigL_cons hb.cond (by show 1≤5000;omega) hB.cases (by omega)⟩,hS'.refs,by show d.cases.length+1≤_;omega,fun c hc=>?_⟩
   rcases List.mem_cons.1 hc with rfl | hc
   ·show 1≤_;omega
   ·exact hS'.nums c hc
 refine And.intro (fun _=>?_) (fun _=>?_)
 ·refine⟨_,⟨_,hst _,rfl⟩,?_⟩
  refine And.intro (fun hp1=>?_) (fun hp1=>?_)
  ·have hp1:0<d.cases.length:=by have:(0:Int)<((d.cases.length:Nat):Int):=hp1;omega
   have hj:cse.toNat % d.cases.length<d.cases.length:=Nat.mod_lt _ hp1
   have hjm:(cse.toNat:Int).tmod ((d.cases.length:Nat):Int)=((cse.toNat % d.cases.length:Nat):Int):=rfl
   have hjx:0+((cse.toNat:Int).tmod ((d.cases.length:Nat):Int)).toNat=cse.toNat % d.cases.length:=by rw [hjm,Int.toNat_natCast,Nat.zero_add]
   obtain⟨c,hc⟩:∃ c,c=d.cases.getD (cse.toNat % d.cases.length) cs0:=⟨_,rfl⟩
   have hcm:c∈d.cases:=by rw [hc];exact getD_memL cs0 hj
   obtain⟨⟨c1,c2,c3,c4,c5,c6,c7⟩,nu⟩:=c
   have hnu:=hS.nums _ hcm
   refine VDraw.seq rfl ?_
   refine⟨_,⟨_,hst _,rfl⟩,?_⟩
   refine⟨(cse.toNat:Int),wrap_i64 (by omega) (by omega),?_⟩
   refine⟨_,⟨_,hst _,rfl⟩,?_⟩
   refine⟨by show ¬ ((d.cases.length:Nat):Int)=0;omega,?_⟩
   refine⟨by show(0:Int)≤((cse.toNat % d.cases.length:Nat):Int)∧((cse.toNat % d.cases.length:Nat):Int)<((d.cases.length:Nat):Int);omega,?_⟩
   refine⟨(⟨.mk c1 c2 c3 c4 c5 c6 c7,nu⟩:Cs).cells,by rw [hjx,hc];exact scell hj,by show 0+0+10≤11;omega,?_⟩
   refine endN8 (srcV (ds.set a ⟨d.kind,d.n,d.name,d.plate,d.refs,d.cases.set (cse.toNat % d.cases.length) ⟨.mk ao an ar av af as' aa,nu⟩⟩)) rfl ⟨_,rfl,_,_,rfl,⟨_,rfl,len_ds rfl,res_ds rfl ⟨_,_,rfl,rfl,_,_,rfl,rfl,_,_,rfl,rfl,_,_,rfl,rfl,_,_,rfl,hrr rfl,_,_,rfl,(res_puS (xss:=(d.cases.set (cse.toNat % d.cases.length) ⟨.mk ao an ar av af as' aa,nu⟩).map Cs.cells) rfl (by rw [List.map_set,← hjx];rfl) (by rw [List.length_map,List.length_set])),rfl⟩⟩,rfl⟩ (bn_set h ?_)
   refine⟨⟨hB.name,hB.plate,hB.len,hB.refs,bigL_set hb.cond (Nat.le_trans hnu (by omega)) hB.cases⟩,hS'.refs,by show(d.cases.set _ _).length≤_;rw [List.length_set];exact hS'.cases,fun x hx=>?_⟩
   rcases List.mem_or_eq_of_mem_set hx with hx | rfl
   ·exact hS'.nums x hx
   ·exact Nat.le_trans hnu (by omega)
  refine endN8 (srcV (ds.set a d)) rfl ⟨_,rfl,_,_,rfl,⟨_,rfl,len_ds rfl,res_ds rfl ⟨_,_,rfl,rfl,_,_,rfl,rfl,_,_,rfl,rfl,_,_,rfl,rfl,_,_,rfl,hrr rfl,_,_,rfl,hkk rfl,rfl⟩⟩,rfl⟩ (bn_set h hS')
 refine And.intro (fun _=>?_) (fun _=>?_)
 ·refine⟨_,⟨_,hst _,rfl⟩,?_⟩
  refine And.intro (fun hp1=>?_) (fun hp1=>?_)
  ·have hp1:0<d.cases.length:=by have:(0:Int)<((d.cases.length:Nat):Int):=hp1;omega
   have hj:cse.toNat % d.cases.length<d.cases.length:=Nat.mod_lt _ hp1
   have hjm:(cse.toNat:Int).tmod ((d.cases.length:Nat):Int)=((cse.toNat % d.cases.length:Nat):Int):=rfl
   have hjx:0+((cse.toNat:Int).tmod ((d.cases.length:Nat):Int)).toNat=cse.toNat % d.cases.length:=by rw [hjm,Int.toNat_natCast,Nat.zero_add]
   obtain⟨c,hc⟩:∃ c,c=d.cases.getD (cse.toNat % d.cases.length) cs0:=⟨_,rfl⟩
   have hcm:c∈d.cases:=by rw [hc];exact getD_memL cs0 hj
   obtain⟨⟨c1,c2,c3,c4,c5,c6,c7⟩,nu⟩:=c
   have hnu:nu.length≤k:=hS.nums _ hcm
   have hget:(d.cases.map Cs.cells)[0+((cse.toNat:Int).tmod ((d.cases.length:Nat):Int)).toNat]?=some (⟨.mk c1 c2 c3 c4 c5 c6 c7,nu⟩:Cs).cells:=by rw [hjx,hc];exact scell hj
   refine VDraw.seq rfl ?_
   refine⟨_,⟨_,hst _,rfl⟩,?_⟩
   refine⟨(cse.toNat:Int),wrap_i64 (by omega) (by omega),?_⟩
   refine⟨_,⟨_,hst _,rfl⟩,?_⟩
   refine⟨by show ¬ ((d.cases.length:Nat):Int)=0;omega,?_⟩
   refine⟨by show(0:Int)≤((cse.toNat % d.cases.length:Nat):Int)∧((cse.toNat % d.cases.length:Nat):Int)<((d.cases.length:Nat):Int);omega,?_⟩
   refine vdraw_ot otB34 (by kernel_rfl) ?_
   refine⟨_,⟨(⟨.mk c1 c2 c3 c4 c5 c6 c7,nu⟩:Cs).cells,ints nu,hget,rfl,rfl⟩,?_⟩
   refine And.intro ?_ ?_
   ·refine⟨⟨sk,⟨_,_,hget,rfl,rfl⟩,trivial⟩,?_⟩
    refine And.intro ?_ ?_
    ·refine⟨by show 0+0≤0;omega,[],rfl,by show(0+(nu.map i64).length) * 8≤140737488355328;rw [List.length_map];omega,nu.map i64,rfl,?_⟩
     refine⟨⟨sk,trivial⟩,?_⟩
     refine⟨⟨⟨_,_,hget,rfl,rfl⟩,trivial⟩,?_⟩
     refine⟨by show 0+1≤1;omega,[i64 n],rfl,?_⟩
     refine⟨by show 0+(0+(nu.map i64).length)≤(nu.map i64).length;omega,nu.map i64,takeAll (by omega),by show(0+(nu.map i64).length+1) * 8≤140737488355328;rw [List.length_map];omega,(nu++[n]).map i64,by rw [List.map_append];rfl,?_⟩
     refine⟨(⟨.mk c1 c2 c3 c4 c5 c6 c7,nu⟩:Cs).cells,hget,by show 0+10+1≤11;omega,?_⟩
     refine endN8 (srcV (ds.set a ⟨d.kind,d.n,d.name,d.plate,d.refs,d.cases.set (cse.toNat % d.cases.length) ⟨.mk c1 c2 c3 c4 c5 c6 c7,nu++[n]⟩⟩)) rfl ⟨_,rfl,_,_,rfl,⟨_,rfl,len_ds rfl,res_ds rfl ⟨_,_,rfl,rfl,_,_,rfl,rfl,_,_,rfl,rfl,_,_,rfl,rfl,_,_,rfl,hrr rfl,_,_,rfl,(res_mxs (xss:=(d.cases.set (cse.toNat % d.cases.length) ⟨.mk c1 c2 c3 c4 c5 c6 c7,nu++[n]⟩).map Cs.cells) rfl ?_ (by rw [List.length_set,mapsP_length,hkl])),rfl⟩⟩,rfl⟩ (bn_set h ?_)
     ·rw [hjx,List.map_set]
      exact resLL_set (resLL_pn _ _ _) (resL_appS (resL_pn _ _ (Cd.mk c1 c2 c3 c4 c5 c6 c7).cells) ⟨_,_,rfl,⟨_,rfl,by show 0+(0+(nu.map i64).length+1)≤((nu++[n]).map i64).length;simp,takeAll (by simp)⟩,rfl⟩)
     refine⟨⟨hB.name,hB.plate,hB.len,hB.refs,bigL_set (show BigC (Cd.mk c1 c2 c3 c4 c5 c6 c7) from hB.cases.cond _ hcm) (by show(nu++[n]).length≤_;rw [List.length_append];show nu.length+1≤_;omega) hB.cases⟩,hS'.refs,by show(d.cases.set _ _).length≤_;rw [List.length_set];exact hS'.cases,fun x hx=>?_⟩
     rcases List.mem_or_eq_of_mem_set hx with hx | rfl
     ·exact hS'.nums x hx
     ·show(nu++[n]).length≤_
      rw [List.length_append];show nu.length+1≤_;omega
    ·refine⟨⟨⟨_,_,hget,rfl,rfl⟩,trivial⟩,?_⟩
     refine⟨by show 0+0≤0;omega,[],rfl,by show(0+(nu.map i64).length) * 8≤140737488355328;rw [List.length_map];omega,nu.map i64,rfl,?_⟩
     refine⟨⟨sk,trivial⟩,?_⟩
     refine⟨by show 0+1≤1;omega,[i64 n],rfl,?_⟩
     refine⟨by show 0+(0+(nu.map i64).length)≤(nu.map i64).length;omega,nu.map i64,takeAll (by omega),by show(0+(nu.map i64).length+1) * 8≤140737488355328;rw [List.length_map];omega,(nu++[n]).map i64,by rw [List.map_append];rfl,?_⟩
     refine⟨(⟨.mk c1 c2 c3 c4 c5 c6 c7,nu⟩:Cs).cells,hget,by show 0+10+1≤11;omega,?_⟩
     refine endN8 (srcV (ds.set a ⟨d.kind,d.n,d.name,d.plate,d.refs,d.cases.set (cse.toNat % d.cases.length) ⟨.mk c1 c2 c3 c4 c5 c6 c7,nu++[n]⟩⟩)) rfl ⟨_,rfl,_,_,rfl,⟨_,rfl,len_ds rfl,res_ds rfl ⟨_,_,rfl,rfl,_,_,rfl,rfl,_,_,rfl,rfl,_,_,rfl,rfl,_,_,rfl,hrr rfl,_,_,rfl,(res_mxs (xss:=(d.cases.set (cse.toNat % d.cases.length) ⟨.mk c1 c2 c3 c4 c5 c6 c7,nu++[n]⟩).map Cs.cells) rfl ?_ (by rw [List.length_set,mapsP_length,hkl])),rfl⟩⟩,rfl⟩ (bn_set h ?_)
     ·rw [hjx,List.map_set]
      exact resLL_set (resLL_pn _ _ _) (resL_appS (resL_pn _ _ (Cd.mk c1 c2 c3 c4 c5 c6 c7).cells) ⟨_,_,rfl,⟨_,rfl,by show 0+(0+(nu.map i64).length+1)≤((nu++[n]).map i64).length;simp,takeAll (by simp)⟩,rfl⟩)
     refine⟨⟨hB.name,hB.plate,hB.len,hB.refs,bigL_set (show BigC (Cd.mk c1 c2 c3 c4 c5 c6 c7) from hB.cases.cond _ hcm) (by show(nu++[n]).length≤_;rw [List.length_append];show nu.length+1≤_;omega) hB.cases⟩,hS'.refs,by show(d.cases.set _ _).length≤_;rw [List.length_set];exact hS'.cases,fun x hx=>?_⟩
     rcases List.mem_or_eq_of_mem_set hx with hx | rfl
     ·exact hS'.nums x hx
     ·show(nu++[n]).length≤_
      rw [List.length_append];show nu.length+1≤_;omega
   ·refine⟨⟨⟨_,_,hget,rfl,rfl⟩,trivial⟩,?_⟩
    refine⟨⟨sk,⟨_,_,hget,rfl,rfl⟩,trivial⟩,?_⟩
    refine⟨by show 0+0≤0;omega,[],rfl,by show(0+(nu.map i64).length) * 8≤140737488355328;rw [List.length_map];omega,nu.map i64,rfl,?_⟩
    refine⟨⟨sk,trivial⟩,?_⟩
    refine⟨by show 0+1≤1;omega,[i64 n],rfl,?_⟩
    refine⟨by show 0+(0+(nu.map i64).length)≤(nu.map i64).length;omega,nu.map i64,takeAll (by omega),by show(0+(nu.map i64).length+1) * 8≤140737488355328;rw [List.length_map];omega,(nu++[n]).map i64,by rw [List.map_append];rfl,?_⟩
    refine⟨(⟨.mk c1 c2 c3 c4 c5 c6 c7,nu⟩:Cs).cells,hget,by show 0+10+1≤11;omega,?_⟩
    refine endN8 (srcV (ds.set a ⟨d.kind,d.n,d.name,d.plate,d.refs,d.cases.set (cse.toNat % d.cases.length) ⟨.mk c1 c2 c3 c4 c5 c6 c7,nu++[n]⟩⟩)) rfl ⟨_,rfl,_,_,rfl,⟨_,rfl,len_ds rfl,res_ds rfl ⟨_,_,rfl,rfl,_,_,rfl,rfl,_,_,rfl,rfl,_,_,rfl,rfl,_,_,rfl,hrr rfl,_,_,rfl,(res_mxs (xss:=(d.cases.set (cse.toNat % d.cases.length) ⟨.mk c1 c2 c3 c4 c5 c6 c7,nu++[n]⟩).map Cs.cells) rfl ?_ (by rw [List.length_set,mapsP_length,hkl])),rfl⟩⟩,rfl⟩ (bn_set h ?_)
    ·rw [hjx,List.map_set]
     exact resLL_set (resLL_pn _ _ _) (resL_appS (resL_pn _ _ (Cd.mk c1 c2 c3 c4 c5 c6 c7).cells) ⟨_,_,rfl,⟨_,rfl,by show 0+(0+(nu.map i64).length+1)≤((nu++[n]).map i64).length;simp,takeAll (by simp)⟩,rfl⟩)
    refine⟨⟨hB.name,hB.plate,hB.len,hB.refs,bigL_set (show BigC (Cd.mk c1 c2 c3 c4 c5 c6 c7) from hB.cases.cond _ hcm) (by show(nu++[n]).length≤_;rw [List.length_append];show nu.length+1≤_;omega) hB.cases⟩,hS'.refs,by show(d.cases.set _ _).length≤_;rw [List.length_set];exact hS'.cases,fun x hx=>?_⟩
    rcases List.mem_or_eq_of_mem_set hx with hx | rfl
    ·exact hS'.nums x hx
    ·show(nu++[n]).length≤_
     rw [List.length_append];show nu.length+1≤_;omega
  refine endN8 (srcV (ds.set a d)) rfl ⟨_,rfl,_,_,rfl,⟨_,rfl,len_ds rfl,res_ds rfl ⟨_,_,rfl,rfl,_,_,rfl,rfl,_,_,rfl,rfl,_,_,rfl,rfl,_,_,rfl,hrr rfl,_,_,rfl,hkk rfl,rfl⟩⟩,rfl⟩ (bn_set h hS')
 refine And.intro (fun _=>?_) (fun _=>?_)
 ·refine VDraw.seq rfl ?_
  refine⟨_,⟨_,hst _,rfl⟩,?_⟩
  refine⟨_,⟨_,hst _,rfl⟩,?_⟩
  obtain⟨m,hm⟩:∃ m:Nat,(if (1:Int)<((d.cases.length:Nat):Int) then(1:Int) else((d.cases.length:Nat):Int))=(m:Int)∧m≤d.cases.length:=by
   split
   ·exact⟨1,rfl,by omega⟩
   ·exact⟨_,rfl,Nat.le_refl _⟩
  refine⟨by show(0:Int)≤(if (1:Int)<((d.cases.length:Nat):Int) then(1:Int) else((d.cases.length:Nat):Int))∧(if (1:Int)<((d.cases.length:Nat):Int) then(1:Int) else((d.cases.length:Nat):Int))≤((d.cases.length:Nat):Int);rw [hm.1];omega,?_⟩
  refine⟨_,hst _,by show 0+5+1≤6;omega,?_⟩
  refine endN8 (srcV (ds.set a ⟨d.kind,d.n,d.name,d.plate,d.refs,d.cases.drop m⟩)) rfl ⟨_,rfl,_,_,rfl,⟨_,rfl,len_ds (List.set_set ..),res_ds (List.set_set ..) ⟨_,_,rfl,rfl,_,_,rfl,rfl,_,_,rfl,rfl,_,_,rfl,rfl,_,_,rfl,hrr rfl,_,_,rfl,(res_pusO rfl ?_ ?_),rfl⟩⟩,rfl⟩ (bn_set h ?_)
  ·show 0+(if (1:Int)<((d.cases.length:Nat):Int) then(1:Int) else((d.cases.length:Nat):Int)).toNat+(d.cases.length - (if (1:Int)<((d.cases.length:Nat):Int) then(1:Int) else((d.cases.length:Nat):Int)).toNat)≤(d.cases.map Cs.cells).length
   rw [hm.1,hkl,Int.toNat_natCast];have:=hm.2;omega
  ·show(d.cases.drop m).map Cs.cells=List.take (d.cases.length - (if (1:Int)<((d.cases.length:Nat):Int) then(1:Int) else((d.cases.length:Nat):Int)).toNat) (List.drop (0+(if (1:Int)<((d.cases.length:Nat):Int) then(1:Int) else((d.cases.length:Nat):Int)).toNat) (d.cases.map Cs.cells))
   rw [hm.1,Int.toNat_natCast,Nat.zero_add,List.map_drop,List.take_of_length_le (by rw [List.length_drop,hkl];exact Nat.le_refl _)]
  ·refine⟨⟨hB.name,hB.plate,hB.len,hB.refs,⟨by rw [List.length_drop];have:=hB.cases.len;omega,fun x hx=>hB.cases.cond x (List.mem_of_mem_drop hx),fun x hx=>hB.cases.nums x (List.mem_of_mem_drop hx)⟩⟩,hS'.refs,by show(d.cases.drop m).length≤_;rw [List.length_drop];omega,fun x hx=>hS'.nums x (List.mem_of_mem_drop hx)⟩
 have hself:ds.set a d=ds:=by rw [hd];exact set_self de0 ds a
 refine And.intro (fun _=>?_) (fun _=>?_)
 ·refine⟨Nat,fun i=>[(2, .ptr 0 0 0),(3, .ptr 1 0 0),(4, .ptr 2 0 0),(8, .p (i64 i))],fun i=>⟨4,[(3,dsO (ds++List.replicate i (ds.getD 0 de0))),(2,s1O (.p .nils)),(1,s1O (.sl 3 6 0 (ds.length+i))),(0,beO ⟨what,place,cse,n,nm,rf, .mk ao an ar av af as' aa⟩)]⟩,fun i=>i≤32,fun i=>32 - i,?_,?_⟩
  ·refine⟨0,by omega,ent_of [4,5] [] [] rfl (sk) ⟨⟨_,rfl,rfl,rfl,?_⟩,sk⟩ rfl⟩
   show ResLL _ ((mapsP (ds.map De.cells)).set a (rowD d)) ((ds++[]).map De.cells)
   rw [List.append_nil]
   conv=>arg 3;rw [← hself]
   exact res_ds0 ⟨_,_,rfl,rfl,_,_,rfl,rfl,_,_,rfl,rfl,_,_,rfl,rfl,_,_,rfl,hrr rfl,_,_,rfl,hkk rfl,rfl⟩
  intro i hi
  have hil:(ds++List.replicate i (ds.getD 0 de0)).length=ds.length+i:=by rw [List.length_append,List.length_replicate]
  have him:((ds++List.replicate i (ds.getD 0 de0)).map De.cells).length=ds.length+i:=by rw [List.length_map,hil]
  refine⟨by decide,?_⟩
  refine And.intro (fun h1=>?_) (fun h1=>?_)
  ·have h1:((i:Nat):Int)<n.tmod 32:=h1
   have h2:n.tmod 32<32:=Int.tmod_lt_of_pos n (by decide)
   refine VDraw.seq rfl ?_
   refine⟨by show(0:Int)≤0∧(0:Int)<((ds.length+i:Nat):Int);omega,?_⟩
   have hg0:((ds++List.replicate i (ds.getD 0 de0)).map De.cells)[0+Int.toNat 0]?=some (ds.getD 0 de0).cells:=by
    cases ds with
    | nil=>exact absurd rfl h0
    | cons x r=>rfl
   refine⟨_,⟨(ds.getD 0 de0).cells,(ds.getD 0 de0).pv,hg0,rfl,rfl⟩,?_⟩
   refine⟨sk,?_⟩
   refine⟨by show 0+1≤1;omega,[(ds.getD 0 de0).cells],rfl,?_⟩
   refine⟨by show 0+(ds.length+i)≤((ds++List.replicate i (ds.getD 0 de0)).map De.cells).length;omega,(ds++List.replicate i (ds.getD 0 de0)).map De.cells,takeAll him,by show(ds.length+i+1) * 96≤140737488355328;omega,(ds++List.replicate (i+1) (ds.getD 0 de0)).map De.cells,by rw [List.replicate_succ',← List.append_assoc,List.map_append (l₁:=ds++List.replicate i (ds.getD 0 de0))];rfl,?_⟩
   refine⟨_,wrap_i64 (by omega) (by omega),?_⟩
   exact⟨i+1,by omega,ent_of [] [(3,5)] [] rfl (sk) (sk) rfl,by show 32 - (i+1)<32 - i;omega⟩
  ·refine endN8 (srcV (ds++List.replicate i (ds.getD 0 de0))) rfl ⟨_,rfl,_,_,rfl,res_pus rfl him.symm,rfl⟩ ⟨_,rfl,by rw [hil];omega,fun x hx=>?_⟩
   rcases List.mem_append.1 hx with hx | hx
   ·exact(h.decl x hx).mono (by omega)
   ·rw [(List.mem_replicate.1 hx).2];exact(h.decl _ (getD_memL de0 hpos)).mono (by omega)
 have hst2:∀ x y:List AV,(((mapsP (ds.map De.cells)).set a y).set a x)[a]?=some x:=fun x y=>by rw [List.set_set];exact hst x
 refine⟨Nat × List Cs,fun x=>[(2, .ptr 0 0 0),(3, .ptr 1 0 0),(4, .ptr 2 0 0),(5, .ptr 3 a 0),(9, .p (i64 (x.1:Nat)))],fun x=>bdH ⟨what,place,cse,n,nm,rf, .mk ao an ar av af as' aa⟩ ds a ⟨d.kind,d.n,d.name,d.plate,d.refs,x.2⟩,fun x=>x.1≤13∧SdP ⟨d.kind,d.n,d.name,d.plate,d.refs,x.2⟩ (k+x.1),fun x=>13 - x.1,?_,?_⟩
 ·exact⟨(0,d.cases),⟨by show 0≤13;omega,hS⟩,ent_of [] [] [] rfl (sk) ⟨⟨_,rfl,rfl,rfl,rfl⟩,⟨_,rfl,rfl,rfl,rfl⟩,⟨_,rfl,rfl,rfl,_,rfl,seeR1 (R:=ds.map De.cells) (d:=d) (m1:=d.refs.length) (m2:=d.cases.length) rfl rfl rfl rfl rfl⟩,sk⟩ rfl⟩
 rintro⟨i,ks⟩ ⟨hi,hD⟩
 have hi:i≤13:=hi
 have hDc:ks.length≤k+i:=hD.cases
 refine⟨by decide,?_⟩
 refine And.intro (fun h1=>?_) (fun h1=>?_)
 ·have h1:((i:Nat):Int)<n.tmod 13:=h1
  have h2:n.tmod 13<13:=Int.tmod_lt_of_pos n (by decide)
  refine⟨_,⟨_,hst _,rfl⟩,?_⟩
  refine And.intro (fun h3=>?_) (fun h3=>?_)
  ·have h3:(0:Int)<((ks.length:Nat):Int):=h3
   obtain⟨c0,kr,rfl⟩:∃ c0 kr,ks=c0::kr:=by
    cases ks with
    | nil=>exact absurd h3 (by decide)
    | cons c r=>exact⟨c,r,rfl⟩
   obtain⟨⟨c1,c2,c3,c4,c5,c6,c7⟩,nu⟩:=c0
   have hcl:kr.length+1≤k+i:=hDc
   have hkm:(((⟨.mk c1 c2 c3 c4 c5 c6 c7,nu⟩:Cs)::kr).map Cs.cells).length=kr.length+1:=List.length_map ..
   refine VDraw.seq rfl ?_
   refine⟨_,⟨_,hst _,rfl⟩,?_⟩
   refine⟨by show(0:Int)≤0∧(0:Int)<((kr.length+1:Nat):Int);omega,?_⟩
   refine⟨_,⟨(⟨.mk c1 c2 c3 c4 c5 c6 c7,nu⟩:Cs).cells,(⟨.mk c1 c2 c3 c4 c5 c6 c7,nu⟩:Cs).pv,rfl,rfl,rfl⟩,?_⟩
   refine⟨_,⟨_,hst _,rfl⟩,?_⟩
   refine⟨⟨⟨_,hst _,rfl⟩,trivial⟩,?_⟩
   refine⟨by show 0+(kr.length+1)≤(((⟨.mk c1 c2 c3 c4 c5 c6 c7,nu⟩:Cs)::kr).map Cs.cells).length;omega,((⟨.mk c1 c2 c3 c4 c5 c6 c7,nu⟩:Cs)::kr).map Cs.cells,takeAll hkm,?_⟩
   refine⟨by show 0+1≤1;omega,[(⟨.mk c1 c2 c3 c4 c5 c6 c7,nu⟩:Cs).cells],rfl,by show(1+(kr.length+1)) * 152≤140737488355328;omega,((⟨.mk c1 c2 c3 c4 c5 c6 c7,nu⟩:Cs)::⟨.mk c1 c2 c3 c4 c5 c6 c7,nu⟩::kr).map Cs.cells,rfl,?_⟩
   refine⟨_,hst _,by show 0+5+1≤6;omega,?_⟩
   refine VDraw.seq rfl ?_
   refine⟨_,⟨_,hst2 _ _,rfl⟩,?_⟩
   refine⟨⟨⟨_,hst2 _ _,rfl⟩,trivial⟩,?_⟩
   refine(tree_c [cse] (by show 1≤9223372036854775807;omega)).use [8] rfl ⟨_,_,rfl,⟨_,rfl,Nat.le_refl _,rfl⟩,rfl⟩ fun r hr=>?_
   obtain⟨⟨e1,e2,e3,e4,e5,e6,e7⟩,m,rfl,hsm,_⟩:=hr
   refine⟨⟨⟨_,hst2 _ _,rfl⟩,trivial⟩,?_⟩
   refine⟨by show(0:Int)≤0∧(0:Int)<((1+(kr.length+1):Nat):Int);omega,?_⟩
   refine⟨(⟨.mk c1 c2 c3 c4 c5 c6 c7,nu⟩:Cs).cells,rfl,by show 0+0+10≤11;omega,?_⟩
   refine⟨_,wrap_i64 (by omega) (by omega),?_⟩
   refine⟨(i+1,⟨.mk e1 e2 e3 e4 e5 e6 e7,nu⟩::⟨.mk c1 c2 c3 c4 c5 c6 c7,nu⟩::kr),⟨by show i+1≤13;omega,?_⟩,ent_of [] [(5,7)] [] rfl (sk) ⟨⟨_,rfl,rfl,rfl,rfl⟩,⟨_,rfl,rfl,rfl,rfl⟩,⟨_,rfl,rfl,rfl,_,rfl,seeR (R:=ds.map De.cells) (d:=⟨d.kind,d.n,d.name,d.plate,d.refs,⟨.mk e1 e2 e3 e4 e5 e6 e7,nu⟩::⟨.mk c1 c2 c3 c4 c5 c6 c7,nu⟩::kr⟩) (s:=4) (t:=7) (m1:=d.refs.length) (m2:=1+(kr.length+1)) rfl rfl (by show 1+(kr.length+1)=kr.length+1+1;omega) rfl rfl⟩,sk⟩ rfl,by show 13 - (i+1)<13 - i;omega⟩
   have hn0:nu.length≤k+i:=hD.nums _ (List.mem_cons_self ..)
   refine⟨⟨hB.name,hB.plate,hB.len,hB.refs,bigL_cons hsm.big (by show nu.length≤5000;omega) hD.big.cases (by show kr.length+1≤5000;omega)⟩,by show d.refs.length≤_;omega,by show kr.length+1+1≤k+(i+1);omega,fun x hx=>?_⟩
   rcases List.mem_cons.1 hx with rfl | hx
   ·show nu.length≤k+(i+1);omega
   ·exact Nat.le_trans (hD.nums x hx) (by show k+i≤k+(i+1);omega)
  ·refine endN8 (srcV (ds.set a ⟨d.kind,d.n,d.name,d.plate,d.refs,ks⟩)) rfl ⟨_,rfl,_,_,rfl,⟨_,rfl,len_ds rfl,res_ds rfl ⟨_,_,rfl,rfl,_,_,rfl,rfl,_,_,rfl,rfl,_,_,rfl,rfl,_,_,rfl,hrr rfl,_,_,rfl,res_pus rfl (by rw [List.length_map]),rfl⟩⟩,rfl⟩ (bn_set h (hD.mono (by omega)))
 ·refine endN8 (srcV (ds.set a ⟨d.kind,d.n,d.name,d.plate,d.refs,ks⟩)) rfl ⟨_,rfl,_,_,rfl,⟨_,rfl,len_ds rfl,res_ds rfl ⟨_,_,rfl,rfl,_,_,rfl,rfl,_,_,rfl,rfl,_,_,rfl,rfl,_,_,rfl,hrr rfl,_,_,rfl,res_pus rfl (by rw [List.length_map]),rfl⟩⟩,rfl⟩ (bn_set h (hD.mono (by omega)))
theorem kindB_cases {d:De} (h:kindB d=true):d.cases.length≤12:=by
 have hc:∀ l:List Cs,casesB l=true→l.length≤12:=fun l h=>by
  simp only [casesB,Bool.and_eq_true,decide_eq_true_eq] at h
  exact h.1.2
 unfold kindB at h
 split at h
 ·simp only [Bool.and_eq_true,decide_eq_true_eq] at h;omega
 ·split at h
  ·simp only [Bool.and_eq_true,decide_eq_true_eq] at h;omega
  ·split at h
   ·simp only [Bool.and_eq_true] at h;exact hc _ h.2
   ·split at h
    ·simp only [Bool.and_eq_true,decide_eq_true_eq] at h;omega
    ·split at h
     ·simp only [Bool.and_eq_true] at h;exact hc _ h.2
     ·cases h
theorem casesT_nums:∀ {l:List Cs},casesT l=true→∀ c∈l,c.nums.length≤8
 | [],_,c,hc=>by cases hc
 | [x],h,c,hc=>by
  simp only [casesT,Bool.and_eq_true] at h
  have h:=h.1
  simp only [numsB,Bool.and_eq_true,decide_eq_true_eq] at h
  rw [List.mem_singleton.1 hc];exact h.1.2
 | x::y::r,h,c,hc=>by
  simp only [casesT,Bool.and_eq_true] at h
  obtain⟨⟨h1,_⟩,h2⟩:=h
  rcases List.mem_cons.1 hc with rfl | hc
  ·simp only [numsB,Bool.and_eq_true,decide_eq_true_eq] at h1
   exact h1.1.2
  ·exact casesT_nums (l:=y::r) h2 c hc
theorem kindB_nums {d:De} (h:kindB d=true):∀ c∈d.cases,c.nums.length≤8:=by
 have hc:casesB d.cases=true→∀ c∈d.cases,c.nums.length≤8:=fun h=>by
  simp only [casesB,Bool.and_eq_true] at h
  exact casesT_nums h.2
 have h0:d.cases.length=0→∀ c∈d.cases,c.nums.length≤8:=fun h c hc=>by
  rw [List.eq_nil_of_length_eq_zero h] at hc;cases hc
 unfold kindB at h
 split at h
 ·simp only [Bool.and_eq_true,decide_eq_true_eq] at h;exact h0 h.2
 ·split at h
  ·simp only [Bool.and_eq_true,decide_eq_true_eq] at h;exact h0 h.2
  ·split at h
   ·simp only [Bool.and_eq_true] at h;exact hc h.2
   ·split at h
    ·simp only [Bool.and_eq_true,decide_eq_true_eq] at h;exact h0 h.2
    ·split at h
     ·simp only [Bool.and_eq_true] at h;exact hc h.2
     ·cases h
theorem valid_sz {ds:List De} (hb:BigP ds) (hv:validB ds=true):SzP ds 40:=by
 simp only [validB,Bool.and_eq_true,decide_eq_true_eq] at hv
 refine⟨by have:=hv.1;omega,fun d hd=>?_⟩
 have h:=List.all_eq_true.1 hv.2 d hd
 simp only [declB,Bool.and_eq_true,decide_eq_true_eq] at h
 exact⟨hb.decl d hd,by have:=h.1.1.2;omega,by have:=kindB_cases h.2;omega,fun c hc=>by have:=kindB_nums h.2 c hc;omega⟩
theorem SzP.bigP {ds:List De} {k:Nat} (h:SzP ds k) (hk:k≤1000):BigP ds:=⟨by have:=h.len;omega,fun d hd=>(h.decl d hd).big⟩
theorem ldInPS {P:Program} {t:TypeId} {cs:List PV} {f:Nat} {v:PV} (h:aggSz P t=some (some 1)) (hv:cs[f]?=some v):ldInP P t cs f=some (.agg [v]):=by
 unfold ldInP
 rw [h]
 have:getN cs f 1=some [v]:=by
  induction cs generalizing f with
  | nil=>simp at hv
  | cons x r ih=>
   cases f with
   | zero=>simp at hv;subst hv;cases r <;> rfl
   | succ f=>exact ih (by simpa using hv)
 simp only [this]
abbrev swSrc (v:AV):AObj:=⟨40,false, .bx [v]⟩
def dlO (l:List De):AObj:=⟨TDecl,false, .pus (l.map De.cells)⟩
def rlO (l:List Rf):AObj:=⟨TRef,false, .pus (l.map Rf.cells)⟩
def clO (l:List Cs):AObj:=⟨TCase,false, .pus (l.map Cs.cells)⟩
def caO (c:Cs):AObj:=⟨TCase,false, .bx (c.cells.map .p)⟩
abbrev swO (k n:Nat):List (Nat × AObj):=[(6,swSrc (.sl k 6 0 n)),(5,swSrc (.p .nils)),(4,swO3),(3,swO2),(2,swO1)]
abbrev swH (L:List (List UInt8)) (out:List De):Hp:=⟨8,(7,dlO out)::(swO 7 out.length++[(1,fsO L),(0,mvO 1)])⟩
abbrev swS (ds:List De) (k:Nat):List (Nat × AV):=[(2, .ptr 5 0 0),(4, .ptr 0 0 0),(5, .ptr 2 0 0),(6, .ptr 4 0 0),(7, .ptr 3 0 0),(8, .ptr 6 0 0),(23, .p (des ds)),(24, .p (i64 (ds.length:Nat))),(25, .p (i64 (k:Nat)))]
def swQ (ds:List De) (e:AE) (H':Hp):Prop:=e=.returned (.tup [.p (srcV (ds.map (rnD (nwF (addDs [[]] ds))))), .mp 0])∧H'=⟨1,[(0,fsO (addDs [[]] ds))]⟩
theorem addDs_next {L:List (List UInt8)} {l:List De} {k:Nat} (h:k<l.length):addDs L (l.take (k+1))=addD (addDs L (l.take k)) (l.getD k de0):=by
 rw [take_succ_getD de0 h,addDs,List.foldl_append];rfl
theorem addRs_next {L:List (List UInt8)} {l:List Rf} {k:Nat} (h:k<l.length):addRs L (l.take (k+1))=addR (addRs L (l.take k)) (l.getD k rf0):=by
 rw [take_succ_getD rf0 h,addRs,List.foldl_append];rfl
theorem addKs_next {L:List (List UInt8)} {l:List Cs} {k:Nat} (h:k<l.length):addKs L (l.take (k+1))=addC (addKs L (l.take k)) (l.getD k cs0).cond:=by
 rw [take_succ_getD cs0 h,addKs,List.foldl_append];rfl
theorem idx_of {L A:List (List UInt8)} (h:∃ M,A=L++M) (h0:idxL L []=some 0):idxL A []=some 0:=by
 obtain⟨M,rfl⟩:=h
 exact idx_app h0
theorem mem_of0 {L:List (List UInt8)} (h0:idxL L []=some 0):([]:List UInt8)∈L:=Classical.byContradiction fun hc=>by rw [idx_none.2 hc] at h0;cases h0
abbrev otZ21:OT:=(.pure 0 (.pure 1 (.pure 2 (.pure 3 (.pure 5 (.pure 6 (.eff 4 [6] (.pure 7 (.pure 8 (.eff 9 [] (.pure 10 .fin) .nil))) .nil)))))))
theorem swapped_h (ds:List De) (hb:BigP ds) (hv:validB ds=true):HoldsG cx 21 [.p (srcV ds)] ⟨0,[]⟩ (swQ ds):=by
 have hsz:=valid_sz hb hv
 have hok:=validB_ok hv
 have hlen:=hsz.len
 have hm:(ds.map De.cells).length=ds.length:=List.length_map ..
 refine holdsN_of_vc Tryz.func21 rfl rfl rfl ?_
 refine⟨esL [[]],rfl,?_⟩
 refine⟨Nat × List (List UInt8) × List De,fun x=>swS ds x.1,fun x=>swH x.2.1 x.2.2,fun x=>x.1≤ds.length∧x.2.1=addDs [[]] (ds.take x.1)∧x.2.2=(ds.take x.1).map (rnD (nwF x.2.1)),fun x=>ds.length - x.1,?_,?_⟩
 ·exact⟨(0,[[]],[]),⟨Nat.zero_le _,rfl,rfl⟩,ent_of [] [(0,3),(1,2),(2,4),(3,6),(4,5),(5,1),(6,7)] [(7,6)] rfl ⟨⟨rfl,rfl⟩,⟨rfl,rfl⟩,⟨rfl,rfl⟩,⟨rfl,rfl⟩,⟨rfl,rfl⟩,⟨rfl,rfl⟩,rfl,congrArg (fun n:Nat=>i64 n) hm.symm,rfl,trivial⟩ (sk) rfl⟩
 rintro⟨k,Lk,out⟩ ⟨k1,k2,k3⟩
 simp only [] at k1 k2 k3
 have hk0:idxL Lk []=some 0:=by rw [k2];exact idx_of (addDs_app [[]] (ds.take k)) rfl
 have hol:out.length≤ds.length:=by rw [k3,List.length_map,List.length_take];omega
 (first | refine brLt (fun m1=>?_) (fun m1=>?_) | refine brLe (fun m1=>?_) (fun m1=>?_) | refine brEq (fun m1=>?_) (fun m1=>?_))
 rotate_left
 ·have m1:¬ (k:Int)<(ds.length:Nat):=m1
  rw [take_all (by omega)] at k2 k3
  refine VDraw.seq rfl ?_
  refine⟨sk,?_⟩
  exact⟨[7],[(0,1)],[], .returned (.tup [.p (srcV out), .mp 0]),⟨1,[(0,fsO Lk)]⟩,rfl,⟨_,rfl,_,rfl,_,_,rfl,⟨_,rfl,_,_,rfl,⟨_,rfl,by show 0+out.length≤(out.map De.cells).length;simp,takeAll (by simp)⟩,rfl⟩,_,_,rfl,⟨rfl,rfl⟩,rfl⟩,sk,by rw [k3,k2],by rw [k2]⟩
 have m1:(k:Int)<(ds.length:Nat):=m1
 have hk:k<ds.length:=by omega
 have hcell:=decell hk
 have hmem:=getD_memL de0 hk
 have hdz:=hsz.decl _ hmem
 have hdo:=hok _ hmem
 have hnx:=addDs_next (L:=[[]]) hk
 rw [← k2] at hnx
 have hstep:(ds.take (k+1)).map (rnD (nwF (addD Lk (ds.getD k de0))))=out++[rnD (nwF (addD Lk (ds.getD k de0))) (ds.getD k de0)]:=by
  rw [take_succ_getD de0 hk,List.map_append,k3]
  congr 1
  obtain⟨M,hM⟩:=addD_app Lk (ds.getD k de0)
  rw [hM]
  refine List.map_congr_left fun d hd=>rnD_app ?_
  rw [k2]
  exact addDs_in (ds.take k) [[]] (fun d hd=>hok d (List.mem_of_mem_take hd)) (List.mem_singleton.2 rfl) d hd
 generalize ds.getD k de0=d at hcell hdz hdo hnx hstep
 clear hmem k3
 obtain⟨dk,dn,dnm,dpl,drs,dcs⟩:=d
 have hrl:drs.length≤40:=hdz.refs
 have hcl:dcs.length≤40:=hdz.cases
 have hcb:∀ c∈dcs,BigC c.cond:=hdz.big.cases.cond
 have hdo:∀ c∈dcs,okC c.cond:=hdo
 have hrm:(drs.map Rf.cells).length=drs.length:=List.length_map ..
 have hcm:(dcs.map Cs.cells).length=dcs.length:=List.length_map ..
 obtain⟨L1,e1⟩:∃ L1,L1=addL Lk dnm:=⟨_,rfl⟩
 obtain⟨L2,e2⟩:∃ L2,L2=addL L1 dpl:=⟨_,rfl⟩
 obtain⟨L3,e3⟩:∃ L3,L3=addRs L2 drs:=⟨_,rfl⟩
 obtain⟨L4,e4⟩:∃ L4,L4=addKs L3 dcs:=⟨_,rfl⟩
 have e5:addD Lk ⟨dk,dn,dnm,dpl,drs,dcs⟩=L4:=by
  show addKs (addRs (addL (addL Lk dnm) dpl) drs) dcs=_
  rw [← e1,← e2,← e3,← e4]
 have a1:∃ M,L1=Lk++M:=by rw [e1];exact addL_app Lk dnm
 have a2:∃ M,L2=L1++M:=by rw [e2];exact addL_app L1 dpl
 have a3:∃ M,L3=L2++M:=by rw [e3];exact addRs_app L2 drs
 have a4:∃ M,L4=L3++M:=by rw [e4];exact addKs_app L3 dcs
 have z1:=idx_of a1 hk0
 have z2:=idx_of a2 z1
 have z3:=idx_of a3 z2
 have n1:nwF L1 dnm=nwF L4 dnm:=by
  obtain⟨M,hM⟩:=app_trans a2 (app_trans a3 a4)
  rw [hM,nwF_app];rw [e1];exact addL_mem Lk dnm
 have n2:nwF L2 dpl=nwF L4 dpl:=by
  obtain⟨M,hM⟩:=app_trans a3 a4
  rw [hM,nwF_app];rw [e2];exact addL_mem L1 dpl
 have n3:drs.map (rnR (nwF L3))=drs.map (rnR (nwF L4)):=by
  obtain⟨M,hM⟩:=a4
  rw [hM,rnRs_app];rw [e3];exact addRs_in drs L2
 have hd':rnD (nwF L4) ⟨dk,dn,dnm,dpl,drs,dcs⟩=⟨dk,dn,nwF L1 dnm,nwF L2 dpl,drs.map (rnR (nwF L3)),dcs.map (rnK (nwF L4))⟩:=by rw [n1,n2,n3];rfl
 rw [e5] at hnx hstep
 rw [hd'] at hstep
 have hN1:=swname_h Lk dnm (idx_some hk0).1
 have hN2:=swname_h L1 dpl (idx_some z1).1
 rw [show sw1Q Lk dnm=fun e H'=>e=.returned (.p (.str (nwF (addL Lk dnm) dnm)))∧H'=sw1 (addL Lk dnm) from rfl,← e1] at hN1
 rw [show sw1Q L1 dpl=fun e H'=>e=.returned (.p (.str (nwF (addL L1 dpl) dpl)))∧H'=sw1 (addL L1 dpl) from rfl,← e2] at hN2
 generalize nwF L1 dnm=x1 at hN1 hstep
 generalize nwF L2 dpl=x2 at hN2 hstep
 clear n1 n2 n3 hd'
 refine⟨_,⟨by omega,(De.mk dk dn dnm dpl drs dcs).cells,hcell,rfl⟩,?_⟩
 refine VDraw.seqTo (swS ds k++[(10, .ptr 8 0 0)]) ⟨9,(8,dcO ⟨dk,dn,x1,x2,drs,dcs⟩)::(7,dlO out)::(swO 7 out.length++[(1,fsO L2),(0,mvO 1)])⟩ rfl ?_ ?_
 ·refine hN1.holds.useT [] [] rfl (sk) (sk) fun e0 H0 hq=>?_
  obtain⟨rfl,rfl⟩:=hq
  refine⟨rfl,_,⟨9,(1,fsO L1)::(0,mvO 1)::(8,dcO ⟨dk,dn,dnm,dpl,drs,dcs⟩)::(7,dlO out)::swO 7 out.length⟩,rfl,rfl,?_⟩
  refine⟨sk,?_⟩
  refine hN2.holds.useT [] [] rfl (sk) (sk) fun e0 H0 hq=>?_
  obtain⟨rfl,rfl⟩:=hq
  refine⟨rfl,_,⟨9,(1,fsO L2)::(0,mvO 1)::(8,dcO ⟨dk,dn,dnm,dpl,drs,dcs⟩)::(7,dlO out)::swO 7 out.length⟩,rfl,rfl,?_⟩
  exact ent_of [] [] [] rfl (sk) (sk) rfl
 clear e1 e2 hN1 hN2
 refine⟨Nat × List (List UInt8) × List Rf,fun x=>swS ds k++[(10, .ptr 8 0 0),(11, .sl 9 4 0 x.2.2.length),(40, .p (rfl_ drs)),(41, .p (i64 (drs.length:Nat))),(42, .p (i64 (x.1:Nat)))],fun x=>⟨10,(9,rlO x.2.2)::(8,dcO ⟨dk,dn,x1,x2,drs,dcs⟩)::(7,dlO out)::(swO 7 out.length++[(1,fsO x.2.1),(0,mvO 1)])⟩,fun x=>x.1≤drs.length∧x.2.1=addRs L2 (drs.take x.1)∧x.2.2=(drs.take x.1).map (rnR (nwF x.2.1)),fun x=>drs.length - x.1,?_,?_⟩
 ·exact⟨(0,L2,[]),⟨Nat.zero_le _,rfl,rfl⟩,ent_of [] [] [(9,4)] rfl ⟨⟨rfl,rfl⟩,⟨rfl,rfl⟩,⟨rfl,rfl⟩,⟨rfl,rfl⟩,⟨rfl,rfl⟩,⟨rfl,rfl⟩,res_p _ _,rfl,rfl,⟨rfl,rfl⟩,sk,res_p _ _,congrArg (fun n:Nat=>i64 n) hrm.symm,rfl,trivial⟩ (sk) rfl⟩
 rintro⟨j,Lj,o1⟩ ⟨j1,j2,j3⟩
 simp only [] at j1 j2 j3
 have hj0:idxL Lj []=some 0:=by rw [j2];exact idx_of (addRs_app L2 (drs.take j)) z2
 have ho1:o1.length≤drs.length:=by rw [j3,List.length_map,List.length_take];omega
 (first | refine brLt (fun m2=>?_) (fun m2=>?_) | refine brLe (fun m2=>?_) (fun m2=>?_) | refine brEq (fun m2=>?_) (fun m2=>?_))
 ·have m2:(j:Int)<(drs.length:Nat):=m2
  have hj:j<drs.length:=by omega
  have hrc:=rcell hj
  have hjn:=addRs_next (L:=L2) hj
  rw [← j2] at hjn
  have hst:(drs.take (j+1)).map (rnR (nwF (addR Lj (drs.getD j rf0))))=o1++[rnR (nwF (addR Lj (drs.getD j rf0))) (drs.getD j rf0)]:=by
   rw [take_succ_getD rf0 hj,List.map_append,j3]
   congr 1
   obtain⟨M,hM⟩:=addR_app Lj (drs.getD j rf0)
   rw [hM]
   refine rnRs_app fun r hr=>?_
   rw [j2]
   exact addRs_in (drs.take j) L2 r hr
  have hR:=swref_h Lj (drs.getD j rf0) (idx_some hj0).1
  rw [show sw2Q Lj (drs.getD j rf0)=fun e H'=>e=.returned (.p (rnR (nwF (addR Lj (drs.getD j rf0))) (drs.getD j rf0)).pv)∧H'=sw2 (addR Lj (drs.getD j rf0)) from rfl] at hR
  generalize addR Lj (drs.getD j rf0)=Ln at hjn hst hR
  generalize rnR (nwF Ln) (drs.getD j rf0)=w at hst hR
  generalize drs.getD j rf0=r at hrc hR
  obtain⟨r1,r2,r3,r4⟩:=r
  obtain⟨w1,w2,w3,w4⟩:=w
  refine⟨_,⟨by omega,(Rf.mk r1 r2 r3 r4).cells,hrc,rfl⟩,?_⟩
  refine hR.holds.useT [] [] rfl (sk) (sk) fun e0 H0 hq=>?_
  obtain⟨rfl,rfl⟩:=hq
  refine⟨rfl,_,⟨11,(2,swO1)::(1,fsO Ln)::(0,mvO 1)::(10,rfO ⟨r1,r2,r3,r4⟩)::(9,rlO o1)::(8,dcO ⟨dk,dn,x1,x2,drs,dcs⟩)::(7,dlO out)::[(6,swSrc (.sl 7 6 0 out.length)),(5,swSrc (.p .nils)),(4,swO3),(3,swO2)]⟩,rfl,rfl,?_⟩
  refine⟨by show 0+1≤1;omega,[Rf.cells (.mk w1 w2 w3 w4)],rfl,?_⟩
  refine⟨by show 0+o1.length≤(o1.map Rf.cells).length;simp,o1.map Rf.cells,takeAll (by simp),by show(o1.length+1) * 48≤140737488355328;omega,(o1++[Rf.mk w1 w2 w3 w4]).map Rf.cells,by rw [List.map_append];rfl,?_⟩
  refine⟨_,wrap_i64 (by omega) (by omega),?_⟩
  exact⟨(j+1,Ln,o1++[Rf.mk w1 w2 w3 w4]),⟨by show j+1≤drs.length;omega,hjn.symm,hst.symm⟩,ent_of [] [(9,12)] [] rfl ⟨⟨rfl,rfl⟩,⟨rfl,rfl⟩,⟨rfl,rfl⟩,⟨rfl,rfl⟩,⟨rfl,rfl⟩,⟨rfl,rfl⟩,res_p _ _,rfl,rfl,⟨rfl,rfl⟩,congrArg (fun j:Nat=>AV.sl 12 4 0 j) (snoc_len o1 _).symm,res_p _ _,rfl,rfl,trivial⟩ (sk) rfl,by show drs.length - (j+1)<drs.length - j;omega⟩
 have m2:¬ (j:Int)<(drs.length:Nat):=m2
 rw [take_all (by omega)] at j2 j3
 rw [← e3] at j2
 subst j2
 rw [← j3] at hstep
 have hLm:([]:List UInt8)∈Lj:=mem_of0 hj0
 refine⟨Nat × List (List UInt8) × List Cs,fun x=>swS ds k++[(10, .ptr 8 0 0),(11, .sl 9 4 0 o1.length),(14, .sl 10 11 0 x.2.2.length),(54, .p (css dcs)),(55, .p (i64 (dcs.length:Nat))),(56, .p (i64 (x.1:Nat)))],fun x=>⟨11,(10,clO x.2.2)::(9,rlO o1)::(8,dcO ⟨dk,dn,x1,x2,drs,dcs⟩)::(7,dlO out)::(swO 7 out.length++[(1,fsO x.2.1),(0,mvO 1)])⟩,fun x=>x.1≤dcs.length∧x.2.1=addKs Lj (dcs.take x.1)∧x.2.2=(dcs.take x.1).map (rnK (nwF x.2.1)),fun x=>dcs.length - x.1,?_,?_⟩
 ·exact⟨(0,Lj,[]),⟨Nat.zero_le _,rfl,rfl⟩,ent_of [] [] [(10,11)] rfl ⟨⟨rfl,rfl⟩,⟨rfl,rfl⟩,⟨rfl,rfl⟩,⟨rfl,rfl⟩,⟨rfl,rfl⟩,⟨rfl,rfl⟩,res_p _ _,rfl,rfl,⟨rfl,rfl⟩,rfl,sk,res_p _ _,congrArg (fun n:Nat=>i64 n) hcm.symm,rfl,trivial⟩ (sk) rfl⟩
 rintro⟨i,Li,o2⟩ ⟨i1,i2,i3⟩
 simp only [] at i1 i2 i3
 have hi0:idxL Li []=some 0:=by rw [i2];exact idx_of (addKs_app Lj (dcs.take i)) hj0
 have ho2:o2.length≤dcs.length:=by rw [i3,List.length_map,List.length_take];omega
 (first | refine brLt (fun m3=>?_) (fun m3=>?_) | refine brLe (fun m3=>?_) (fun m3=>?_) | refine brEq (fun m3=>?_) (fun m3=>?_))
 ·have m3:(i:Int)<(dcs.length:Nat):=m3
  have hi:i<dcs.length:=by omega
  have hcc:=scell hi
  have hcm:=getD_memL cs0 hi
  have hco:=hdo _ hcm
  have hcB:=hcb _ hcm
  have hin:=addKs_next (L:=Lj) hi
  rw [← i2] at hin
  have hst:(dcs.take (i+1)).map (rnK (nwF (addC Li (dcs.getD i cs0).cond)))=o2++[rnK (nwF (addC Li (dcs.getD i cs0).cond)) (dcs.getD i cs0)]:=by
   rw [take_succ_getD cs0 hi,List.map_append,i3]
   congr 1
   obtain⟨M,hM⟩:=addC_app Li (dcs.getD i cs0).cond
   rw [hM]
   refine rnK_app fun c hc=>?_
   rw [i2]
   exact addKs_in (dcs.take i) Lj (fun c hc=>hdo c (List.mem_of_mem_take hc)) hLm c hc
  generalize dcs.getD i cs0=c at hcc hco hcB hin hst
  obtain⟨c,nums⟩:=c
  have hI:=swcond_h (csz c) c Li (Nat.le_refl _) hco hcB hi0
  rw [show sw4Q Li c=fun e H'=>e=.returned (.p (rnC (nwF (addC Li c)) c).pv)∧H'=sw4 (addC Li c) from rfl] at hI
  have hst2:(dcs.take (i+1)).map (rnK (nwF (addC Li c)))=o2++[⟨rnC (nwF (addC Li c)) c,nums⟩]:=hst
  have hin2:addKs Lj (dcs.take (i+1))=addC Li c:=hin
  clear hst hin
  generalize addC Li c=Ln at hin2 hst2 hI
  generalize rnC (nwF Ln) c=w at hst2 hI
  obtain⟨xo,xn,xr,xv,xf,xs,xa⟩:=c
  obtain⟨wo,wn,wr,wv,wf,ws,wa⟩:=w
  refine⟨_,⟨by omega,(Cs.mk (.mk xo xn xr xv xf xs xa) nums).cells,hcc,rfl⟩,?_⟩
  refine vdraw_ot otZ21 (by kernel_rfl) ?_
  refine hI.holds.useT [] [] rfl (sk) (sk) fun e0 H0 hq=>?_
  obtain⟨rfl,rfl⟩:=hq
  refine⟨rfl,_,⟨12,(4,swO3)::(3,swO2)::(2,swO1)::(1,fsO Ln)::(0,mvO 1)::(11,caO ⟨.mk xo xn xr xv xf xs xa,nums⟩)::(10,clO o2)::(9,rlO o1)::(8,dcO ⟨dk,dn,x1,x2,drs,dcs⟩)::(7,dlO out)::[(6,swSrc (.sl 7 6 0 out.length)),(5,swSrc (.p .nils))]⟩,rfl,rfl,?_⟩
  refine⟨sk,?_⟩
  refine⟨by show 0+o2.length≤(o2.map Cs.cells).length;simp,o2.map Cs.cells,takeAll (by simp),by show(o2.length+1) * 152≤140737488355328;omega,(o2++[Cs.mk (.mk wo wn wr wv wf ws wa) nums]).map Cs.cells,by rw [List.map_append];rfl,?_⟩
  refine⟨_,wrap_i64 (by omega) (by omega),?_⟩
  exact⟨(i+1,Ln,o2++[Cs.mk (.mk wo wn wr wv wf ws wa) nums]),⟨by show i+1≤dcs.length;omega,hin2.symm,hst2.symm⟩,ent_of [] [(10,12)] [] rfl ⟨⟨rfl,rfl⟩,⟨rfl,rfl⟩,⟨rfl,rfl⟩,⟨rfl,rfl⟩,⟨rfl,rfl⟩,⟨rfl,rfl⟩,res_p _ _,rfl,rfl,⟨rfl,rfl⟩,rfl,congrArg (fun j:Nat=>AV.sl 12 11 0 j) (snoc_len o2 _).symm,res_p _ _,rfl,rfl,trivial⟩ (sk) rfl,by show dcs.length - (i+1)<dcs.length - i;omega⟩
 have m3:¬ (i:Int)<(dcs.length:Nat):=m3
 rw [take_all (by omega)] at i2 i3
 rw [← e4] at i2
 subst i2
 rw [← i3] at hstep
 refine⟨by show 0+1≤1;omega,_,rfl, .inl ⟨[9,10],[De.cells ⟨dk,dn,x1,x2,o1,o2⟩],rfl,⟨_,_,rfl,⟨_,_,rfl,rfl,_,_,rfl,rfl,_,_,rfl,rfl,_,_,rfl,rfl,_,_,rfl,⟨_,rfl,by show 0+o1.length≤(o1.map Rf.cells).length;simp,takeAll (by simp)⟩,_,_,rfl,⟨_,rfl,by show 0+o2.length≤(o2.map Cs.cells).length;simp,takeAll (by simp)⟩,rfl⟩,rfl⟩,?_⟩⟩
 refine⟨by show 0+out.length≤(out.map De.cells).length;simp,out.map De.cells,takeAll (by simp),by show(out.length+1) * 96≤140737488355328;omega,(out++[De.mk dk dn x1 x2 o1 o2]).map De.cells,by rw [List.map_append];rfl,?_⟩
 refine⟨_,wrap_i64 (by omega) (by omega),?_⟩
 exact⟨(k+1,Li,out++[De.mk dk dn x1 x2 o1 o2]),⟨by show k+1≤ds.length;omega,hnx.symm,hstep.symm⟩,ent_of [] [(7,12)] [] rfl ⟨⟨rfl,rfl⟩,⟨rfl,rfl⟩,⟨rfl,rfl⟩,⟨rfl,rfl⟩,⟨rfl,rfl⟩,⟨rfl,rfl⟩,res_p _ _,rfl,rfl,trivial⟩ ⟨sk,⟨_,rfl,rfl,rfl,_,rfl,_,_,rfl,congrArg (fun j:Nat=>AV.sl 12 6 0 j) (snoc_len out _).symm,rfl⟩,sk⟩ rfl,by show ds.length - (k+1)<ds.length - k;omega⟩
end Go.Proofs.YtmepdfingcmkmaaGreatDoor
namespace Go.Proofs.YtmepdfingcmkmaaGreatDoor
open Go Y
set_option maxRecDepth 100000
set_option maxHeartbeats 40000000
theorem gen_len:∀ i,i<18→(gen i).length≤10:=by decide +kernel
section
variable {M:List (List UInt8)} (hM:OkL M)
include hM
theorem nw_len {x:List UInt8} (hx:x∈M):BigS (nwF M x):=by
 obtain⟨i,hi⟩:=idx_mem hx
 have h1:=idx_some hi
 have hl:=hM.len
 have:=gen_len i (by omega)
 rw [nwF,hi]
 show(gen i).length≤9223372036854775807
 omega
theorem bigR_rn {r:Rf} (h:refIn M r):BigR (rnR (nwF M) r):=⟨nw_len hM h.1,nw_len hM h.2⟩
end
mutual
theorem bigC_rn {M:List (List UInt8)} (hM:OkL M):∀ {c:Cd},condIn M c→BigC c→BigC (rnC (nwF M) c)
 | .mk op n rel val r st ar,h,hb=>by
  rw [condIn] at h
  simp only [BigC] at hb
  rw [rnC]
  simp only [BigC]
  exact⟨bigR_rn hM h.1,hb.2.1,by rw [rnCs_map,List.length_map];exact hb.2.2.1,bigCs_rn hM h.2 hb.2.2.2⟩
theorem bigCs_rn {M:List (List UInt8)} (hM:OkL M):∀ {c:List Cd},condIns M c→BigCs c→BigCs (rnCs (nwF M) c)
 | [],_,_=>by rw [rnCs];simp only [BigCs]
 | c::r,h,hb=>by
  rw [condIns] at h
  simp only [BigCs] at hb
  rw [rnCs]
  simp only [BigCs]
  exact⟨bigC_rn hM h.1 hb.1,bigCs_rn hM h.2 hb.2⟩
end
theorem bigP_rn {M:List (List UInt8)} (hM:OkL M) {ds:List De} (h:∀ d∈ds,declIn M d) (hb:BigP ds):BigP (ds.map (rnD (nwF M))):=by
 refine⟨by rw [List.length_map];exact hb.len,fun e he=>?_⟩
 obtain⟨d,hd,rfl⟩:=List.mem_map.1 he
 have hi:=h d hd
 have hB:=hb.decl d hd
 refine⟨nw_len hM hi.name,nw_len hM hi.plate,by show(d.refs.map _).length≤_;rw [List.length_map];exact hB.len,fun r hr=>?_,⟨by show(d.cases.map _).length≤_;rw [List.length_map];exact hB.cases.len,fun c hc=>?_,fun c hc=>?_⟩⟩
 ·obtain⟨r0,hr0,rfl⟩:=List.mem_map.1 hr
  exact bigR_rn hM (hi.refs r0 hr0)
 ·obtain⟨c0,hc0,rfl⟩:=List.mem_map.1 hc
  exact bigC_rn hM (hi.cases c0 hc0) (hB.cases.cond c0 hc0)
 ·obtain⟨c0,hc0,rfl⟩:=List.mem_map.1 hc
  exact hB.cases.nums c0 hc0
abbrev otY4:OT:=(.pure 0 (.pure 1 (.pure 2 (.pure 4 (.pure 5 (.pure 6 (.pure 10 (.eff 3 [6,5,4,0] (.eff 7 [4,0] (.eff 8 [0] (.pure 9 .fin) .nil) .nil) .nil))))))))
abbrev otZ19:OT:=(.pure 0 (.pure 1 (.pure 2 (.pure 3 (.pure 4 (.pure 5 (.pure 6 (.pure 7 (.pure 8 (.pure 9 (.pure 10 (.pure 11 (.pure 12 (.pure 13 (.pure 14 (.pure 15 (.pure 16 (.pure 17 (.pure 18 (.pure 19 (.pure 20 (.eff 21 [3] (.pure 22 .fin) .nil))))))))))))))))))))))
theorem scopeNames_c (d:Dp) (x y:Be) (hd:d.ok) (hx:x.ok) (hy:y.ok):Pure cx 7 [.agg d.cells, .agg x.cells, .agg y.cells] (·=.ret [.bool true]):=by
 refine pure_of_vc Tryz.func7 rfl rfl rfl ?_
 obtain⟨xw,xp,xc,xn,xm,xf,⟨xa,xb,xd,xe,xg,xh,xi⟩⟩:=x
 obtain⟨yw,yp,yc,yn,ym,yf,⟨ya,yb,yd,ye,yg,yh,yi⟩⟩:=y
 refine works39_c.eq rfl ?_
 refine(program_c2 d hd).at fun r hr1=>?_
 obtain⟨p,rfl,hp,_⟩:=hr1
 have hpz:=valid_sz hp.big hp.valid
 refine vdraw_ot otY4 (by kernel_rfl) ?_
 refine(bend_c38 ⟨xw,xp,xc,xn,xm,xf, .mk xa xb xd xe xg xh xi⟩ hx p 40 (by omega) hpz).at fun r hr1=>?_
 obtain⟨d1,rfl,z1⟩:=hr1
 refine⟨sk,?_⟩
 refine(bend_c38 ⟨xw,xp,xc,xn,xm,xf, .mk xa xb xd xe xg xh xi⟩ hx p 40 (by omega) hpz).at fun r hr1=>?_
 obtain⟨d2,rfl,z2⟩:=hr1
 refine⟨sk,?_⟩
 refine(bend_c38 ⟨yw,yp,yc,yn,ym,yf, .mk ya yb yd ye yg yh yi⟩ hy d2 80 (by omega) z2).at fun r hr1=>?_
 obtain⟨d3,rfl,z3⟩:=hr1
 refine⟨sk,?_⟩
 have hall:∀ u∈[p,d1,d3],BigP u:=fun u hu=>by
  simp only [List.mem_cons,List.not_mem_nil,or_false] at hu
  rcases hu with rfl | rfl | rfl
  ·exact hp.big
  ·exact z1.bigP (by omega)
  ·exact z3.bigP (by omega)
 obtain⟨us,hus⟩:∃ us:List (List De),us=[p,d1,d3]:=⟨_,rfl⟩
 have hul:us.length=3:=by rw [hus];rfl
 rw [← hus] at hall
 refine⟨Nat,fun k=>[(30, .p (.agg (us.map des))),(31, .p (i64 (k:Nat)))],fun _=>⟨0,[]⟩,fun k=>k≤3,fun k=>3 - k,?_,?_⟩
 ·refine⟨0,Nat.zero_le _,ent_of [] [] [] rfl ?_ trivial rfl⟩
  rw [hus]
  exact⟨rfl,rfl,trivial⟩
 clear hus
 intro k hk
 (first | refine brLt (fun h1=>?_) (fun h1=>?_) | refine brLe (fun h1=>?_) (fun h1=>?_) | refine brEq (fun h1=>?_) (fun h1=>?_))
 rotate_left
 ·exact end1 _ rfl rfl rfl
 have h1:(k:Int)<3:=h1
 have hcu:(us.map des)[k]?=some (des (us.getD k [])):=map_at (f:=des) [] (by omega)
 have hb:=hall _ (getD_memL [] (show k<us.length by omega))
 generalize us.getD k []=u at hcu hb
 refine⟨_,⟨⟨by omega,by omega⟩, .agg [des u],ldInPS (by kernel_rfl) (by show(us.map des)[((k:Nat):Int).toNat * 1]?=_;rw [Int.toNat_natCast,Nat.mul_one];exact hcu),rfl⟩,?_⟩
 have hI:=issues_c u hb
 by_cases hv:validB u=true
 rotate_left
 ·rw [issV,if_neg hv] at hI
  refine hI.eq rfl ?_
  refine And.intro (fun h=>absurd (show(380:Int)=0 from h) (by decide)) (fun _=>?_)
  refine And.intro (fun _=>?_) (fun h=>absurd rfl h)
  refine And.intro (fun _=>?_) (fun h=>absurd rfl h)
  refine⟨((k+1:Nat):Int),by rw [Int.natCast_add];exact wrap_i64 (by omega) (by omega),?_⟩
  exact⟨k+1,by omega,ent_of [] [] [] rfl ⟨res_p _ _,rfl,trivial⟩ trivial rfl,by show 3 - (k+1)<3 - k;omega⟩
 rw [issV,if_pos hv] at hI
 have hla:(allI u).length≤1000000:=by
  have h1:=baseI_len hv
  unfold allI;split <;> (try split) <;> first | (simp;done) | omega
 have hW:=swapped_h u hb hv
 have hdI:=addDs_in u [[]] (validB_ok hv) (List.mem_singleton.2 rfl)
 have hM0:idxL (addDs [[]] u) []=some 0:=idx_of (addDs_app [[]] u) rfl
 rw [show swQ u=fun e H'=>e=.returned (.tup [.p (srcV (u.map (rnD (nwF (addDs [[]] u))))), .mp 0])∧H'=⟨1,[(0,fsO (addDs [[]] u))]⟩ from rfl] at hW
 generalize addDs [[]] u=M at hW hdI hM0
 refine hI.eq rfl ?_
 refine And.intro (fun _=>?_) (fun h=>absurd rfl h)
 refine hW.holds.useT [] [] rfl (sk) (sk) fun e0 H0 hq=>?_
 obtain⟨rfl,rfl⟩:=hq
 refine⟨rfl,_,⟨2,(1,fsO M)::[(0,scO u)]⟩,rfl,rfl,?_⟩
 have hEl:(esL M).length=M.length:=es_len M 0
 (first | refine brLt (fun g1=>?_) (fun g1=>?_) | refine brLe (fun g1=>?_) (fun g1=>?_) | refine brEq (fun g1=>?_) (fun g1=>?_))
 ·refine⟨((k+1:Nat):Int),by rw [Int.natCast_add];exact wrap_i64 (by omega) (by omega),?_⟩
  exact⟨k+1,by omega,ent_of [] [] [] rfl ⟨res_p _ _,rfl,trivial⟩ trivial rfl,by show 3 - (k+1)<3 - k;omega⟩
 have g1:¬ (18:Int)<((esL M).length:Nat):=g1
 rw [hEl] at g1
 have hM:OkL M:=⟨hM0,by omega⟩
 have hbt:=bigP_rn hM hdI hb
 have hvt:=validB_rn hM.good hdI hv
 have hIt:=issues_c _ hbt
 rw [issV,if_pos hvt,allI_rn hM.inj] at hIt
 have hnm:=allI_nm (mem_of0 hM0) hdI
 generalize allI u=a at hla hIt hnm
 generalize u.map (rnD (nwF M))=t at hIt
 refine hIt.eq rfl ?_
 refine And.intro (fun _=>?_) (fun h=>absurd rfl h)
 have ham:(a.map Iss.cells).length=a.length:=List.length_map ..
 refine And.intro (fun _=>?_) (fun h=>absurd (show((a.map Iss.cells).length:Int)=(((a.map (rnI (nwF M))).map Iss.cells).length:Nat) by rw [List.length_map,List.length_map,List.length_map]) h)
 refine⟨Nat,fun n=>[(10, .p (isl a)),(13, .mp 0),(14, .p (isl (a.map (rnI (nwF M))))),(30, .p (.agg (us.map des))),(31, .p (i64 (k:Nat))),(71, .p (i64 (a.length:Nat))),(72, .p (i64 (n:Nat)))],fun _=>⟨1,[(0,fsO M)]⟩,fun n=>n≤a.length,fun n=>a.length - n,?_,?_⟩
 ·exact⟨0,Nat.zero_le _,ent_of [] [(0,1)] [] rfl ⟨res_p _ _,⟨rfl,rfl⟩,res_p _ _,res_p _ _,rfl,congrArg (fun n:Nat=>i64 n) ham.symm,rfl,trivial⟩ (sk) rfl⟩
 intro n hn
 (first | refine brLt (fun m1=>?_) (fun m1=>?_) | refine brLe (fun m1=>?_) (fun m1=>?_) | refine brEq (fun m1=>?_) (fun m1=>?_))
 rotate_left
 ·refine⟨((k+1:Nat):Int),by rw [Int.natCast_add];exact wrap_i64 (by omega) (by omega),?_⟩
  exact⟨k+1,by omega,ent_of [] [] [] rfl ⟨res_p _ _,rfl,trivial⟩ trivial rfl,by show 3 - (k+1)<3 - k;omega⟩
 have m1:(n:Int)<(a.length:Nat):=m1
 have hnl:n<a.length:=by omega
 have hca:(a.map Iss.cells)[n]?=some (a.getD n ⟨0,0,[]⟩).cells:=map_at _ hnl
 have hcb:((a.map (rnI (nwF M))).map Iss.cells)[n]?=some (rnI (nwF M) (a.getD n ⟨0,0,[]⟩)).cells:=by
  rw [List.map_map]
  exact map_at (f:=Iss.cells ∘ rnI (nwF M)) _ hnl
 have hna:=hnm _ (getD_memL ⟨0,0,[]⟩ hnl)
 generalize a.getD n ⟨0,0,[]⟩=w at hca hcb hna
 obtain⟨w1,w2,w3⟩:=w
 have hf:findM (esL M) w3=some (.str (nwF M w3)):=by
  obtain⟨i,hi⟩:=idx_mem (show w3∈M from hna)
  rw [find_es,nwF,hi];rfl
 have hcb:((a.map (rnI (nwF M))).map Iss.cells)[n]?=some (Iss.mk w1 w2 (nwF M w3)).cells:=hcb
 generalize a.map (rnI (nwF M))=b at hcb
 generalize nwF M w3=w4 at hcb hf
 refine vdraw_ot otZ19 (by kernel_rfl) ?_
 refine⟨_,⟨by omega,(Iss.mk w1 w2 w4).cells,hcb,rfl⟩,?_⟩
 refine⟨_,⟨by omega,(Iss.mk w1 w2 w3).cells,hca,rfl⟩,?_⟩
 refine⟨_,⟨by omega,(Iss.mk w1 w2 w3).cells,hca,rfl⟩,?_⟩
 refine⟨_,⟨by omega,(Iss.mk w1 w2 w3).cells,hca,rfl⟩,?_⟩
 refine⟨_, .inl ⟨_,hf,rfl⟩,?_⟩
 refine(issue_c w1 w2 w4).eq rfl ?_
 refine⟨by(repeat' first | exact trivial | exact rfl | exact⟨_,hcb,rfl⟩ | exact⟨by omega,_,hcb,rfl⟩ | refine And.intro ?_ ?_),?_⟩
 refine⟨⟨by kernel_rfl,by kernel_rfl⟩,fun _=>?_,fun e1=>absurd rfl e1⟩
 refine⟨_,wrap_i64 (by omega) (by omega),?_⟩
 exact⟨n+1,by show n+1≤a.length;omega,ent_of [] [] [] rfl ⟨res_p _ _,⟨rfl,rfl⟩,res_p _ _,res_p _ _,rfl,rfl,rfl,trivial⟩ (sk) rfl,by show a.length - (n+1)<a.length - n;omega⟩
end Go.Proofs.YtmepdfingcmkmaaGreatDoor
namespace Go.Proofs.YtmepdfingcmkmaaGreatDoor
open Go Y
set_option maxRecDepth 100000
set_option maxHeartbeats 4000000
theorem ty_arr3 {m:Nat} {xs:List PV} (h:TyT Tryz.prog (m+2) 24 xs):∃ a b c:UInt8,xs=[u8 a,u8 b,u8 c]:=by
 have hp:partsOf Tryz.prog 24=some [(5,0),(5,1),(5,2)]:=by kernel_rfl
 rw [TyT] at h
 simp only [hp] at h
 obtain⟨x1,_,rfl,_,h1,x2,_,rfl,_,h2,x3,_,rfl,_,h3,rfl⟩:=h
 obtain⟨a,rfl⟩:=ty_u8 h1
 obtain⟨b,rfl⟩:=ty_u8 h2
 obtain⟨c,rfl⟩:=ty_u8 h3
 exact⟨a,b,c,rfl⟩
theorem ty_piece {m:Nat} {xs:List PV} (h:TyT Tryz.prog (m+3) 139 xs):∃ p:Pc,xs=p.cells:=by
 have hp:partsOf Tryz.prog 139=some [(5,0),(5,1),(5,2),(5,3),(24,4)]:=by kernel_rfl
 rw [TyT] at h
 simp only [hp] at h
 obtain⟨x1,_,rfl,_,h1,x2,_,rfl,_,h2,x3,_,rfl,_,h3,x4,_,rfl,_,h4,x5,_,rfl,_,h5,rfl⟩:=h
 obtain⟨a,rfl⟩:=ty_u8 h1
 obtain⟨b,rfl⟩:=ty_u8 h2
 obtain⟨c,rfl⟩:=ty_u8 h3
 obtain⟨d,rfl⟩:=ty_u8 h4
 obtain⟨x,y,z,rfl⟩:=ty_arr3 h5
 exact⟨⟨a,b,c,d,x,y,z⟩,rfl⟩
theorem ty_pieces {m:Nat} {xs:List PV} (h:TyT Tryz.prog (m+4) 50 xs):∃ l:List Pc,xs=[.lsts 7 (l.map Pc.cells)]∧l.length≤9223372036854775807:=by
 have hp:partsOf Tryz.prog 50=none:=by simp [partsOf,Tryz.underlying50]
 have hc:Tryz.prog.cellsOf 139=7:=by kernel_rfl
 rw [TyT] at h
 simp only [hp,Tryz.underlying50,hc] at h
 obtain⟨ys,rfl,hn,hy⟩:=h
 obtain⟨l,rfl,_⟩:=lift_lists (f:=Pc.cells) (P:=fun _=>True) fun y hy'=>by
  obtain⟨p,hp⟩:=ty_piece (hy y hy')
  exact⟨p,hp,trivial⟩
 rw [List.length_map] at hn
 exact⟨l,rfl,hn⟩
theorem ty_part {m:Nat} {xs:List PV} (h:TyT Tryz.prog (m+5) 52 xs):∃ p:Pt,xs=p.cells∧p.cases.length≤9223372036854775807:=by
 have hp:partsOf Tryz.prog 52=some [(5,0),(5,1),(5,2),(5,3),(4,4),(50,5),(24,6)]:=by kernel_rfl
 rw [TyT] at h
 simp only [hp] at h
 obtain⟨x1,_,rfl,_,h1,x2,_,rfl,_,h2,x3,_,rfl,_,h3,x4,_,rfl,_,h4,x5,_,rfl,_,h5,x6,_,rfl,_,h6,x7,_,rfl,_,h7,rfl⟩:=h
 obtain⟨a,rfl⟩:=ty_u8 h1
 obtain⟨b,rfl⟩:=ty_u8 h2
 obtain⟨c,rfl⟩:=ty_u8 h3
 obtain⟨d,rfl⟩:=ty_u8 h4
 obtain⟨g,rfl⟩:=ty_bool h5
 obtain⟨l,rfl,hl⟩:=ty_pieces h6
 obtain⟨x,y,z,rfl⟩:=ty_arr3 h7
 exact⟨⟨a,b,c,d,g,l,x,y,z⟩,rfl,hl⟩
theorem ty_parts {m:Nat} {xs:List PV} (h:TyT Tryz.prog (m+6) 49 xs):∃ l:List Pt,xs=[.lsts 9 (l.map Pt.cells)]∧l.length≤9223372036854775807∧∀ p∈l,p.cases.length≤9223372036854775807:=by
 have hp:partsOf Tryz.prog 49=none:=by simp [partsOf,Tryz.underlying49]
 have hc:Tryz.prog.cellsOf 52=9:=by kernel_rfl
 rw [TyT] at h
 simp only [hp,Tryz.underlying49,hc] at h
 obtain⟨ys,rfl,hn,hy⟩:=h
 obtain⟨l,rfl,hl⟩:=lift_lists (f:=Pt.cells) (P:=fun p=>p.cases.length≤9223372036854775807) fun y hy'=>ty_part (hy y hy')
 rw [List.length_map] at hn
 exact⟨l,rfl,hn,hl⟩
theorem arg_draft38 {m:Nat} {x:PV} (h:ArgT Tryz.prog (m+7) 54 x):∃ d:Dp,x=.agg d.cells∧d.ok:=by
 have hp:partsOf Tryz.prog 54=some [(5,0),(5,1),(49,2),(52,3),(49,12),(4,13)]:=by kernel_rfl
 simp only [ArgT,hp] at h
 obtain⟨xs,rfl,h⟩:=h
 rw [TyT] at h
 simp only [hp] at h
 obtain⟨x1,_,rfl,_,h1,x2,_,rfl,_,h2,x3,_,rfl,_,h3,x4,_,rfl,_,h4,x5,_,rfl,_,h5,x6,_,rfl,_,h6,rfl⟩:=h
 obtain⟨a,rfl⟩:=ty_u8 h1
 obtain⟨b,rfl⟩:=ty_u8 h2
 obtain⟨l,rfl,l1,l2⟩:=ty_parts h3
 obtain⟨c,rfl,_⟩:=ty_part h4
 obtain⟨k,rfl,k1,k2⟩:=ty_parts h5
 obtain⟨g,rfl⟩:=ty_bool h6
 exact⟨⟨a,b,l,c,k,g⟩,rfl,l1,k1,l2,k2⟩
theorem own:ownKnob Tryz.prog.godebug=none:=by kernel_rfl
abbrev laidP : List (String × DataW Unit) := [("haruspex/lex.keys", Rows.laid_haruspex_lex_keys), ("haruspex/lex.marks", Rows.laid_haruspex_lex_marks)]
theorem door_metP (os:Os) (args:Array Value):laidMetH Tryz.prog laidP ((World.laidAll Tryz.prog os laidP).forCall (fun _ _=>0) ⟨#[],args,[]⟩).memory:=by
 rw [MakeChecks.laidMetH_plain _ _ _ (by kernel_rfl)]
 exact laidMet_laidAll _ (by kernel_rfl) (by kernel_rfl)
theorem gt_okP:gtOK Tryz.prog 4 cx.gt laidP:=
 ⟨by kernel_rfl,⟨213,by kernel_rfl,by kernel_rfl⟩,rfl,by kernel_rfl,⟨214,by kernel_rfl,by kernel_rfl⟩,rfl,trivial⟩
theorem glob_okP {W:World} (h:laidMetH Tryz.prog laidP W):∀ g cs,gget cx.gt g=some cs→GlobV (fzOf W) g cs:=by
 rw [MakeChecks.laidMetH_plain _ _ _ (by kernel_rfl)] at h
 obtain⟨ps,h,_⟩:=h
 exact glob_of_laid gt_okP h
abbrev scopeNames_set:List TypeId:=[40,38,37,3,9,35,23,34,33,31,28,29,54,5,49,52,4,50,139,24,56]
theorem scopeNames_closed:closedS Tryz.prog scopeNames_set=true:=by kernel_rfl
theorem scopeNames_pure:∀ xs,ArgsE Tryz.prog Tryz.f7.params.toList xs→Pure cx 7 xs (·=.ret [.bool true]):=by
 intro xs h
 rw [Tryz.params7] at h
 obtain⟨x0,_,rfl,⟨m0,h0⟩,x1,_,rfl,⟨m1,h1⟩,x2,_,rfl,⟨m2,h2⟩,rfl⟩:=h
 have h0:=ArgT_up h0 10
 obtain⟨v0,rfl,g0⟩:=arg_draft38 h0
 have h1:=ArgT_up h1 10
 obtain⟨v1,rfl,g1⟩:=arg_bend38 h1
 have h2:=ArgT_up h2 10
 obtain⟨v2,rfl,g2⟩:=arg_bend38 h2
 exact scopeNames_c v0 v1 v2 g0 g1 g2
theorem scopeNames_lifted (os:Os) (started:os.Started) (H:Type) (enc:TypeId × Value→H) :
  ReturnsInHanded {} Tryz.checked os 7 .any (fun w args=>(Rows.scopeNamesSpec.pre enc Tryz.prog Tryz.f7 [] false w args∧laidMetH Tryz.prog laidP w)∧sizedMet enc Tryz.prog Tryz.f7 (OpenSpec.ofChange Rows.scopeNamesSpec) false w args)
   (Rows.scopeNamesSpec.post enc Tryz.prog Tryz.f7 false true false false):=by
 refine returnsInHanded_of_change_and (C:=Tryz.checked) (X:=fun w _=>laidMetH Tryz.prog laidP w) (fun _ _ _ hh h=>h.of_heap hh) own started (by kernel_rfl) Tryz.func7
  (ChangeSpec.witness_shaped (enc:=enc) (C:=Tryz.checked) (os:=os) (X:=fun w _=>laidMetH Tryz.prog laidP w) false (World.laidAll Tryz.prog os laidP) #[.agg #[.int .u8 0, .int .u8 0, .slice none 0 0, .int .u8 0, .int .u8 0, .int .u8 0, .int .u8 0, .bool false, .slice none 0 0, .int .u8 0, .int .u8 0, .int .u8 0, .slice none 0 0, .bool false], .agg #[.int .u8 0, .int .u8 0, .int .u8 0, .int .i64 0, .string ⟨#[]⟩, .string ⟨#[]⟩, .int .i64 0, .string ⟨#[]⟩, .int .i64 0, .int .i64 0, .int .i64 0, .int .i64 0, .int .i64 0, .string ⟨#[]⟩, .int .i64 0, .string ⟨#[]⟩, .int .i64 0, .slice none 0 0, .slice none 0 0], .agg #[.int .u8 0, .int .u8 0, .int .u8 0, .int .i64 0, .string ⟨#[]⟩, .string ⟨#[]⟩, .int .i64 0, .string ⟨#[]⟩, .int .i64 0, .int .i64 0, .int .i64 0, .int .i64 0, .int .i64 0, .string ⟨#[]⟩, .int .i64 0, .string ⟨#[]⟩, .int .i64 0, .slice none 0 0, .slice none 0 0]] 8 (World.laidAll_os _ _ _) (World.shaped_of_ZipB (by kernel_rfl) (by kernel_rfl)) (by kernel_rfl) (by kernel_rfl) (by kernel_rfl) (door_metP os _)) ?_
 intro W base args ds gs before hval hW _ _ hL _
 obtain⟨p,q,hA,hV,_⟩:=id hW
 have hs:Tryz.f7.params.toList.all (fun t=>elemN t scopeNames_set)=true:=by kernel_rfl
 obtain⟨_,_,_,hlen⟩:=args_ofS scopeNames_closed hs (fun j t v ht hv=>hval j t v (by simpa using ht) (by simpa using hv)) hA
 refine(calls_of_pureS (cx:=cx) scopeNames_closed Tryz.func7 (by kernel_rfl) rfl hs scopeNames_pure hval hA (glob_okP hL)).mono fun e W' ⟨he,h1,h2,h3⟩=>?_
 subst he
 exact⟨_,rfl,post_of_keptS (cx:=cx) scopeNames_closed hs rfl (by kernel_rfl) Tryz.underlying4 (fun ds h=>by
  rw [Tryz.params7] at h
  match ds,h with
  | [_,_,_],_=>rfl) hW hlen h1 h2 h3⟩
theorem scopeNames_holds:Rows.ScopeNamesSaid:=
 OpenClaim.holds_of_wide 7 Tryz.f7 rfl rfl rfl rfl rfl rfl rfl ⟨rfl,rfl,rfl,rfl,rfl⟩ rfl rfl rfl rfl rfl (by kernel_rfl) Tryz.func7 (by kernel_rfl)
  (of_decide_eq_true (by kernel_rfl)) (by unfold Func.isWrapper;first | (rw [if_pos (by decide +kernel)];kernel_rfl) | (rw [if_neg (by decide +kernel)];exact⟨rfl,rfl⟩))
  (fun os started H enc _=>scopeNames_lifted os started H enc)
theorem scopeNames_card:Rows.ScopeNamesCardSaid:=
 Claim7.holds_tied_plain_at .later [] [.data, .data] true (true, "2fbbf534a6e22c1c9b79bfd1496d202898ccabc8df399125808e88f9538ac76c") true
  scopeNames_holds (fun _ h=>by cases h) (by kernel_rfl) (fun _ h=>by cases h) scopeNames_row_tie rfl ⟨rfl,rfl⟩ (by kernel_rfl) rfl
  (fun f fn hf hfn=>by
   obtain rfl : f = 7 := Option.some.inj ((show Tryz.prog.funcNamed "haruspex/haruspexlaw39.ScopeNames" = some 7 by kernel_rfl).symm.trans hf) |>.symm
   obtain rfl:fn=Tryz.f7:=(Option.some.inj (Tryz.func7.symm.trans hfn)).symm
   exact⟨by kernel_rfl,fun j t ht=>by
    have hall:(Tryz.f7.params.toList.all fun u=>!Tryz.prog.wantsStandIn u)=true:=by kernel_rfl
    exact(show Tryz.prog.wantsStandIn t=false by simpa using List.all_eq_true.1 hall t (by simpa using Array.mem_of_getElem? ht))⟩)
  (by kernel_rfl)
#print axioms scopeNames_card
end Go.Proofs.YtmepdfingcmkmaaGreatDoor

/- Part 2 of the proof: Yj Yx Yk Yl Ylx Ym Yn Yo Yp Yq Yr Ys Yt Yu Yv Yw -/
import Derived.Lib.UnsafeStr
import Derived.Lib.ConvBytes
import Derived.OrdersIn
import Derived.RecoverIn
import Derived.Test.YtkegmchjobphdaaGreatDoorQ1
namespace Go.Proofs.YtkegmchjobphdaaGreatDoor.Y
open Go
section
variable {C:Cx} {Γ:Gm} {H:Hp} {w:World}
def cnt:Cn→Nat
 | .pu xs=>xs.length
 | .pus xss=>xss.length
 | .mx xs=>xs.length
 | .mxs xss=>xss.length
 | _=>0
structure Elems (s:Nat) (c:Cn):Prop where
 cells:isCells c=true
 sized:∀ tc,Sized s tc c
 len:(flat c).length=cnt c * s
 empt:cnt c=0→Empt c
theorem elems_pu (xs:List PV):Elems 1 (.pu xs):=⟨rfl,fun _=>rfl,by simp [flat,cnt],fun h=>List.eq_nil_of_length_eq_zero h⟩
theorem elems_mx (xs:List AV):Elems 1 (.mx xs):=⟨rfl,fun _=>rfl,by simp [flat,cnt],fun h=>List.eq_nil_of_length_eq_zero h⟩
theorem elems_mxs {s:Nat} {xss:List (List AV)} (h:∀ cs∈xss,cs.length=s):Elems s (.mxs xss):=
 ⟨rfl,fun _=>h,by simp only [flat,cnt];exact flatten_length h,fun e=>List.eq_nil_of_length_eq_zero e⟩
theorem elems_pus {s:Nat} {xss:List (List PV)} (h:∀ cs∈xss,cs.length=s):Elems s (.pus xss):=
 ⟨rfl,fun _=>h,by simp only [flat,List.length_map,cnt];exact flatten_length h,fun e=>List.eq_nil_of_length_eq_zero e⟩
theorem part1_sound {c:Cn} {s tc off len:Nat} (hs:Sized s tc c) (hb:∀ cs,c ≠ .bx cs) {K:Cn→Prop} (hk:part1 c off len K) :
  ∃ c',K c'∧Elems s c'∧cnt c'=len∧flat c'=((flat c).drop (off * s)).take (len * s)∧off+len≤cnt c:=by
 cases c with
 | pu xs=>
  simp only [Sized] at hs
  subst hs
  obtain⟨hle,ys,hys,hK⟩:=hk
  exact⟨_,hK,elems_pu _,by rw [hys];simp [cnt];omega,by rw [hys];simp [flat,List.map_take,List.map_drop],hle⟩
 | pus xss=>
  simp only [Sized] at hs
  obtain⟨hle,ys,hys,hK⟩:=hk
  refine⟨_,hK,elems_pus (fun cs hcs=>?_),by rw [hys];simp [cnt];omega,?_,hle⟩
  ·rw [hys] at hcs
   exact hs cs (List.mem_of_mem_drop (List.mem_of_mem_take hcs))
  ·rw [hys]
   simp only [flat]
   rw [flatten_sub hs _ _ (by omega),List.map_take,List.map_drop]
 | mx xs=>
  simp only [Sized] at hs
  subst hs
  simp only [part1] at hk
  split at hk <;> try exact hk.elim
  rename_i ys hg
  obtain⟨g1,g2,g3⟩:=getN_some hg
  exact⟨_,hk,elems_mx _,g2,by simp only [flat,Nat.mul_one];exact g1,(getN_le hg).2.2⟩
 | mxs xss=>
  simp only [Sized] at hs
  obtain⟨hle,ys,hys,hK⟩:=hk
  refine⟨_,hK,elems_mxs (fun cs hcs=>?_),by rw [hys];simp [cnt];omega,?_,hle⟩
  ·rw [hys] at hcs
   exact hs cs (List.mem_of_mem_drop (List.mem_of_mem_take hcs))
  ·rw [hys]
   simp only [flat]
   rw [flatten_sub hs _ _ (by omega)]
 | bx cs=>exact absurd rfl (hb cs)
 | lp=>exact hs.elim
 | df=>exact hs.elim
 | ms=>exact hs.elim
 | mk=>exact hs.elim
 | it=>exact hs.elim
theorem src_sound (h:R C Γ H w) {s:Nat} (h0:0<s) {x:AV} {x':Value} (hx:VR Γ x x') {K:Nat→Cn→Hp→Prop} (hv:eSrc s x H K) :
  ∃ m c H1 Γ1 us,K m c H1∧Γ1.nm=Γ.nm∧Later C H.next Γ H w Γ1 H1 w∧(∀ d,(Builtin.lenOf x').run C.P { w with drawn:=d }=.ok m { w with drawn:=d })∧(∀ d,(Builtin.firstCells s m x').run C.P { w with drawn:=d }=.ok ⟨us⟩ { w with drawn:=d }) ∧
   VRL Γ1 (flat c) us∧(∀ v∈us,plainV v=true)∧Elems s c∧cnt c=m:=by
 have hrefl:=Later.refl h H.next (Nat.le_refl _)
 -- a real slice whose cells are known
 have sli:∀ {b o n c:Nat} {us:List Value},us.length=n * s→(∀ (j:Nat) (u:Value),us[j]?=some u→w.cell? ⟨b,o+j,none⟩=some u) →
   (∀ d,(Builtin.lenOf (.slice (some ⟨b,o,none⟩) n c)).run C.P { w with drawn:=d }=.ok n { w with drawn:=d })∧(∀ d,(Builtin.firstCells s n (.slice (some ⟨b,o,none⟩) n c)).run C.P { w with drawn:=d }=.ok ⟨us⟩ { w with drawn:=d }):=by
  intro b o n c us hl hc
  refine⟨fun _=>rfl,fun d=>?_⟩
  have:=run_loadN (P:=C.P) (w:={ w with drawn:=d }) b o us hc
  rw [hl] at this
  exact this
 have emp:∀ {a:Option Addr} {c:Nat},(∀ d,(Builtin.lenOf (.slice a 0 c)).run C.P { w with drawn:=d }=.ok 0 { w with drawn:=d })∧(∀ d,(Builtin.firstCells s 0 (.slice a 0 c)).run C.P { w with drawn:=d }=.ok ⟨[]⟩ { w with drawn:=d }):=by
  intro a c
  refine⟨fun _=>rfl,fun d=>?_⟩
  cases a with
  | none=>rfl
  | some a=>simp only [Builtin.firstCells,Nat.zero_mul];rfl
 have fzc:∀ {b o:Nat} {arr us:List Value},Γ.fz b=some arr→Seg arr o us→∀ (j:Nat) (u:Value),us[j]?=some u→w.cell? ⟨b,o+j,none⟩=some u:=by
  intro b o arr us hfz hseg j u hj
  obtain⟨t,z,hb⟩:=h.fzok b arr hfz
  simp only [World.cell?,hb,Option.isSome_none,Bool.false_eq_true,if_false,List.getElem?_toArray]
  exact hseg.get hj
 unfold eSrc at hv
 split at hv
 ·simp only [VR,VP] at hx
  subst hx
  split at hv
  ·rename_i hs
   have hs:=Nat.eq_of_beq_eq_true hs
   subst hs
   exact⟨0,_,H,Γ,[],hv,rfl,hrefl,emp.1,emp.2,rfl,by simp,elems_pu _,rfl⟩
  ·exact⟨0,_,H,Γ,[],hv,rfl,hrefl,emp.1,emp.2,rfl,by simp,elems_pus (by simp),rfl⟩
 ·rename_i xs
  split at hv <;> try exact hv.elim
  rename_i hs
  have hs:=Nat.eq_of_beq_eq_true hs
  subst hs
  simp only [VR,VP] at hx
  rcases hx with ⟨rfl,a,c,rfl⟩ | ⟨b,o,c,arr,us,rfl,hc,h1,h2,h3⟩
  ·exact⟨0,_,H,Γ,[],hv,rfl,hrefl,emp.1,emp.2,rfl,by simp,elems_pu _,rfl⟩
  ·obtain⟨r1,r2⟩:=sli (b:=b) (o:=o) (n:=xs.length) (c:=c) (us:=us) (by rw [VPL_length h2];simp) (fzc h1 h3)
   exact⟨_,_,H,Γ,us,hv,rfl,hrefl,r1,r2,VRL_p.2 h2,h3.plain,elems_pu _,rfl⟩
 ·rename_i s' xss
  split at hv <;> try exact hv.elim
  rename_i hs
  simp only [Bool.and_eq_true] at hs
  have hs:=Nat.eq_of_beq_eq_true hs.1
  subst hs
  simp only [VR,VP] at hx
  rcases hx with ⟨rfl,a,c,rfl⟩ | ⟨b,o,c,arr,us,rfl,hc,h1,h2,h3⟩
  ·exact⟨0,_,H,Γ,[],hv,rfl,hrefl,emp.1,emp.2,rfl,by simp,elems_pus (by simp),rfl⟩
  ·obtain⟨g1,g2⟩:=VPLL_flat.1 h2
   obtain⟨r1,r2⟩:=sli (b:=b) (o:=o) (n:=xss.length) (c:=c) (us:=us) (by rw [VPL_length g1,flatten_length g2]) (fzc h1 h3)
   exact⟨_,_,H,Γ,us,hv,rfl,hrefl,r1,r2,VRL_p.2 g1,h3.plain,elems_pus g2,rfl⟩
 ·rename_i n s' off len
  split at hv <;> try exact hv.elim
  rename_i o ho hs
  have hs:=Nat.eq_of_beq_eq_true hs
  subst hs
  simp only [VR] at hx
  obtain⟨q,hq,hqs,hsl⟩:=hx
  -- the choice
  have key:∀ c,Elems s c→cnt c=len→∀ us,VRL Γ (flat c) us→(∀ v∈us,plainV v=true)→(∀ d,(Builtin.lenOf x').run C.P { w with drawn:=d }=.ok len { w with drawn:=d })→(∀ d,(Builtin.firstCells s len x').run C.P { w with drawn:=d }=.ok ⟨us⟩ { w with drawn:=d }) →
    (match c with
     | .mx vs=>(∃ fs ps,marksOK H.l fs=true∧ResL (Res (marks H.l fs) 5) vs ps∧K len (.pu ps) (H.mrk fs))∨K len (.mx vs) H
     | .mxs vss=>(∃ fs pss,marksOK H.l fs=true∧ResLL (Res (marks H.l fs) 5) vss pss∧K len (.pus pss) (H.mrk fs))∨K len (.mxs vss) H
     | c=>K len c H) →
    ∃ m c H1 Γ1 us,K m c H1∧Γ1.nm=Γ.nm∧Later C H.next Γ H w Γ1 H1 w∧(∀ d,(Builtin.lenOf x').run C.P { w with drawn:=d }=.ok m { w with drawn:=d })∧(∀ d,(Builtin.firstCells s m x').run C.P { w with drawn:=d }=.ok ⟨us⟩ { w with drawn:=d }) ∧
     VRL Γ1 (flat c) us∧(∀ v∈us,plainV v=true)∧Elems s c∧cnt c=m:=by
   intro c hE hcl us hus hpl hln hfc hK
   have direct:K len c H→∃ m c H1 Γ1 us,K m c H1∧Γ1.nm=Γ.nm∧Later C H.next Γ H w Γ1 H1 w∧(∀ d,(Builtin.lenOf x').run C.P { w with drawn:=d }=.ok m { w with drawn:=d })∧(∀ d,(Builtin.firstCells s m x').run C.P { w with drawn:=d }=.ok ⟨us⟩ { w with drawn:=d }) ∧
     VRL Γ1 (flat c) us∧(∀ v∈us,plainV v=true)∧Elems s c∧cnt c=m:=fun hK=>⟨len,c,H,Γ,us,hK,rfl,hrefl,hln,hfc,hus,hpl,hE,hcl⟩
   cases c with
   | mx vs=>
    rcases hK with ⟨fs,ps,hm,hres,hK⟩ | hK
    ·obtain⟨Γ1,e1,hL⟩:=h.mark hm
     have hle:Γ.le Γ1:=⟨fun m q' e=>by rw [e1];exact e,hL.2.2.2.fz⟩
     have hs1:s=1:=hE.sized 0
     subst hs1
     have hp:=ResL_sound (Res_sound hL.1 5) (show ResL (Res (H.mrk fs).l 5) vs ps from hres) (VRL_mono hle _ _ hus)
     refine⟨len, .pu ps,H.mrk fs,Γ1,us,hK,e1,hL,hln,hfc,VRL_p.2 hp,hpl,elems_pu _,?_⟩
     show ps.length=len
     rw [← VPL_length hp,VRL_length hus]
     exact hcl
    ·exact direct hK
   | mxs vss=>
    rcases hK with ⟨fs,pss,hm,hres,hK⟩ | hK
    ·obtain⟨Γ1,e1,hL⟩:=h.mark hm
     have hle:Γ.le Γ1:=⟨fun m q' e=>by rw [e1];exact e,hL.2.2.2.fz⟩
     have hs1:∀ cs∈vss,cs.length=s:=hE.sized 0
     obtain⟨r1,r2⟩:=ResLL_len hres
     have hp:=ResL_sound (Res_sound hL.1 5) (show ResL (Res (H.mrk fs).l 5) vss.flatten pss.flatten from ResLL_flat hres) (VRL_mono hle _ _ hus)
     refine⟨len, .pus pss,H.mrk fs,Γ1,us,hK,e1,hL,hln,hfc,VRL_p.2 hp,hpl,elems_pus (r2 hs1),?_⟩
     show pss.length=len
     rw [r1]
     exact hcl
    ·exact direct hK
   | pu xs=>exact direct hK
   | pus xs=>exact direct hK
   | bx cs=>exact direct hK
   | lp=>exact direct hK
   | df=>exact direct hK
   | ms=>exact direct hK
   | mk=>exact direct hK
   | it=>exact direct hK
  rcases hsl with ⟨hnl,rfl,rfl,rfl⟩ | ⟨hnl,htc,o',rfl,ho'⟩
  ·obtain⟨q',hq',hob⟩:=h.objs n o ho
   rw [hq] at hq'
   injection hq' with e
   subst e
   -- an empty object
   have hcell:isCells o.c=true:=by
    cases hoc:o.c <;> first | rfl | (rw [hoc] at hv;simp [part1] at hv)
   have hbx:∀ cs,o.c ≠ .bx cs:=by
    intro cs e
    rw [e] at hv
    simp [part1] at hv
   rcases (ObjR_cells hcell).1 hob with ⟨_,he,hsz⟩ | ⟨e,_⟩
   ·rw [hqs] at hsz
    obtain⟨c',hK,hE,hcl,hfl,hle⟩:=part1_sound hsz hbx hv
    have hf0:flat c'=[]:=List.eq_nil_of_length_eq_zero (by rw [hE.len,hcl];simp)
    exact key c' hE hcl [] (by rw [hf0];rfl) (by simp) emp.1 emp.2 hK
   ·rw [hnl] at e;cases e
  ·have hcell:isCells o.c=true:=by
    cases hoc:o.c <;> first | rfl | (rw [hoc] at hv;simp [part1] at hv)
   obtain⟨us,rest,z,h1,h2,h3,h3',h4,h5,h6,h7,h8⟩:=cellsOf h ho hcell hq hnl
   rw [hqs] at h7
   have hbx:∀ cs,o.c ≠ .bx cs:=by
    intro cs e
    rw [e] at hv
    simp [part1] at hv
   obtain⟨c',hK,hE,hcl,hfl,hle⟩:=part1_sound h7 hbx hv
   have hv1:VRL Γ (flat c') ((us.drop (off * s)).take (len * s)):=by rw [hfl];exact VRL_take _ (VRL_drop _ h5)
   have hp1:∀ v∈(us.drop (off * s)).take (len * s),plainV v=true:=fun v hv=>h6 v (List.mem_of_mem_drop (List.mem_of_mem_take hv))
   have hl1:((us.drop (off * s)).take (len * s)).length=len * s:=by rw [VRL_length hv1,hE.len,hcl]
   rcases Nat.eq_zero_or_pos len with hz | hz
   ·subst hz
    have e0:(us.drop (off * s)).take (0 * s)=[]:=by simp
    rw [e0] at hv1
    exact key c' hE hcl [] hv1 (by simp) emp.1 emp.2 hK
   ·have ho2:o'=off * s:=by
     rcases ho' with e | e
     ·rw [e,hqs]
     ·omega
    subst ho2
    obtain⟨r1,r2⟩:=sli (b:=q.blk) (o:=off * s) (n:=len) (c:=q.tc - off) hl1 (fun j u hj=>by
     rw [List.getElem?_take] at hj
     split at hj
     ·rw [List.getElem?_drop] at hj
      exact cells_at h1 hj
     ·cases hj)
    exact key c' hE hcl _ hv1 hp1 r1 r2 hK
 ·rename_i str
  simp only [VR,VP] at hx
  subst hx
  split at hv <;> try exact hv.elim
  rename_i hs
  have hs:=Nat.eq_of_beq_eq_true hs
  subst hs
  have hsz:(⟨⟨str⟩⟩:ByteArray).size=str.length:=rfl
  refine⟨str.length,_,H,Γ,str.map fun b=>.int .u8 (b.toNat:Int),hv,rfl,hrefl,fun _=>rfl,fun d=>?_,?_,?_,elems_pu _,by simp [cnt]⟩
  ·have he:(⟨⟨str⟩⟩:ByteArray).extract 0 str.length=⟨⟨str⟩⟩:=by rw [extract_bytes];simp
   simp only [Builtin.firstCells,Sem.run_pure,he]
   congr 1
   apply Array.ext'
   simp
  ·refine VRL_p.2 ?_
   clear hv hsz
   induction str with
   | nil=>simp only [List.map_nil,VPL]
   | cons b r ih=>simp only [List.map_cons,VPL];exact⟨_,_,rfl,by simp only [ub,VP],ih⟩
  ·intro v hv
   obtain⟨b,_,rfl⟩:=List.mem_map.1 hv
   rfl
 ·exact hv.elim
theorem notInt_spec {t:TypeId} (h:notInt C t=true):(∃ e,C.P.underlying t=some (.slice e))∨C.P.underlying t=some .string:=by
 unfold notInt at h
 split at h
 ·exact .inl ⟨_,by assumption⟩
 ·exact .inr (by assumption)
 ·cases h
theorem run_append_fits {t t' ty e:TypeId} {s n c m:Nat} {a:Addr} {x:Value} {nc:List Value} (hu:C.P.underlying t=some (.slice e)) (ht':notInt C t'=true) (hs:szOf C.P e=some s)
  (hl:(Builtin.lenOf x).run C.P w=.ok m w) (hf:(Builtin.firstCells s m x).run C.P w=.ok ⟨nc⟩ w) (hfit:n+m≤c) {w':World} (hst:(storeCells (a.add (n * s)) nc).run C.P w=.ok () w') :
  (Builtin.append_ #[t,t'] ty #[.slice (some a) n c,x]).run C.P w=.ok (.slice (some a) (n+m) c) w':=by
 rcases notInt_spec ht' with ⟨e',hu'⟩ | hu' <;>
  simp [Builtin.append_,run_underlying hu,run_underlying hu',run_szOf hs,hl,hfit,hf,hst]
theorem run_append_nil {t t' ty e:TypeId} {s m:Nat} {x:Value} {nc:List Value} (hu:C.P.underlying t=some (.slice e)) (ht':notInt C t'=true) (hs:szOf C.P e=some s)
  (hl:(Builtin.lenOf x).run C.P w=.ok m w) (hf:(Builtin.firstCells s m x).run C.P w=.ok ⟨nc⟩ w) (hm:m=0) :
  (Builtin.append_ #[t,t'] ty #[.slice none 0 0,x]).run C.P w=.ok (.slice none 0 0) w:=by
 subst hm
 rcases notInt_spec ht' with ⟨e',hu'⟩ | hu' <;>
  simp [Builtin.append_,run_underlying hu,run_underlying hu',run_szOf hs,hl,hf]
theorem run_append_grow {t t' ty e : TypeId} {s b n c m : Nat} {z : PV} {base : Option Addr} {x : Value} {old nc : List Value} (hu : C.P.underlying t = some (.slice e)) (ht' : notInt C t' = true)
    (hs : szOf C.P e = some s) (hz : zeroOf C.P e = some z) (hb : byOf C e = some b) (hb0 : 0 < b)
    (hl : (Builtin.lenOf x).run C.P w = .ok m w) (hfit : ¬ n + m ≤ c) (hroom : (n + m) * b ≤ 140737488355328)
    (hold : (Builtin.firstCells s n (.slice base n c)).run C.P { w with drawn := w.drawn + 1 } = .ok ⟨old⟩ { w with drawn := w.drawn + 1 })
    (hf : (Builtin.firstCells s m x).run C.P { w with drawn := w.drawn + 1 } = .ok ⟨nc⟩ { w with drawn := w.drawn + 1 }) :
    ∃ k z', absV z' = some z ∧ (Builtin.append_ #[t, t'] ty #[.slice base n c, x]).run C.P w = .ok (.slice (some ⟨w.heap.size, 0, none⟩) (n + m) (n + m + k))
      (({ w with drawn := w.drawn + 1 } : World).alloc (.cells ((⟨old⟩ : Array Value) ++ ⟨nc⟩ ++ Builtin.zeroCells z'.cells k) e)) := by
  obtain ⟨i, z', i1, i2, i3, iz, i4⟩ := info_of hs hz hb
  have hfits := growslice_fits (need := n + m) (old := c) (bytes := b) (by omega) hroom
  have h63 : n + m ≤ (n + m) * b := Nat.le_mul_of_pos_right _ hb0
  have h63' : ¬ (9223372036854775807 < ((n : Int) + (m : Int))) := by omega
  have h48' : ¬ (281474976710656 < Builtin.nextslicecap (n + m) c * i.bytes) := by rw [i4]; omega
  have hold' : (Builtin.firstCells s n (.slice base n c)).run C.P w.drew = .ok ⟨old⟩ w.drew := hold
  have hf' : (Builtin.firstCells s m x).run C.P w.drew = .ok ⟨nc⟩ w.drew := hf
  refine ⟨w.tape w.drawn (.appendCap (n + m) c e) % (2 ^ 63 - (n + m)), z', iz, ?_⟩
  show _ = Result.ok _ (w.drew.alloc _)
  have fin : ∀ (X : Array Value), X = (⟨old⟩ : Array Value) ++ ⟨nc⟩ ++ Builtin.zeroCells z'.cells (w.tape w.drawn (.appendCap (n + m) c e) % (2 ^ 63 - (n + m))) →
      (Builtin.append_ #[t, t'] ty #[.slice base n c, x]).run C.P w = .ok (.slice (some ⟨w.heap.size, 0, none⟩) (n + m) (n + m + w.tape w.drawn (.appendCap (n + m) c e) % (2 ^ 63 - (n + m)))) (w.drew.alloc (.cells X e)) := by
    intro X hX
    rcases notInt_spec ht' with ⟨e', hu'⟩ | hu' <;>
      (simp [Builtin.append_, run_underlying hu, run_underlying hu', run_szOf hs, hl, hfit, typeInfo, zeroValue, i1, i3, h63', h48', Question.forced, Question.cut, hold', hf', newRow, hX]
       congr 2
       apply Array.ext'
       simp)
  exact fin _ rfl
theorem zeroCells_mkz (z:Array Value) (k:Nat):(Builtin.zeroCells z k).toList=mkz k z.toList:=range_mkz k z
theorem grow_block (h:R C Γ H w) {e:TypeId} {s k m:Nat} {z:PV} {z':Value} {c:Cn} {old nc:List Value} (hs:szOf C.P e=some s) (h0:0<s) (hz:absV z'=some z) (hzl:(vCells (.p z)).length=s)
  (hE:Elems s c) (hc:cnt c=m) (hv:VRL Γ (flat c) (old++nc)) (hp:∀ v∈old++nc,plainV v=true) :
  Later C H.next Γ H { w with drawn:=w.drawn+1 } (Γ.put H.next ⟨w.heap.size,s,m+k,false⟩) (H.push ⟨e,false,c⟩) (({ w with drawn:=w.drawn+1 }:World).alloc (.cells ((⟨old⟩:Array Value)++⟨nc⟩++Builtin.zeroCells z'.cells k) e)):=by
 have hzs:z'.cells.toList.length=s:=by rw [VRL_length (abs_cells (Γ:=Γ) hz),hzl]
 have harr:((⟨old⟩:Array Value)++⟨nc⟩++Builtin.zeroCells z'.cells k)=⟨(old++nc)++mkz k z'.cells.toList⟩:=by
  apply Array.ext'
  rw [Array.toList_append,Array.toList_append,zeroCells_mkz]
 rw [harr]
 have hlen:=VRL_length hv
 have:=push_cells (w:={ w with drawn:=w.drawn+1 }) (rest:=mkz k z'.cells.toList) (tc:=m+k) h.drew hE.cells hs h0 hv hp (by rw [List.length_append,hlen,hE.len,hc,mkz_length,hzs,Nat.add_mul]) (hE.sized _)
 exact this
theorem join_sound {s:Nat} {a b:Cn} (ha:Elems s a) (hb:Elems s b) {K:Cn→Prop} (hk:joinC a b K):∃ c,K c∧Elems s c∧flat c=flat a++flat b∧cnt c=cnt a+cnt b:=by
 unfold joinC at hk
 split at hk
 ·obtain⟨zs,rfl,hk⟩:=hk
  have:s=1:=ha.sized 0
  subst this
  exact⟨_,hk,elems_pu _,by simp [flat],by simp [cnt]⟩
 ·obtain⟨zs,rfl,hk⟩:=hk
  have h1:=ha.sized 0
  have h2:=hb.sized 0
  simp only [Sized] at h1 h2
  exact⟨_,hk,elems_pus (fun cs hcs=>(List.mem_append.1 hcs).elim (h1 cs) (h2 cs)),by simp [flat],by simp [cnt]⟩
 ·have:s=1:=ha.sized 0
  subst this
  exact⟨_,hk,elems_mx _,by simp [flat],by simp [cnt]⟩
 ·have:s=1:=ha.sized 0
  subst this
  exact⟨_,hk,elems_mx _,by simp [flat],by simp [cnt]⟩
 ·have:s=1:=ha.sized 0
  subst this
  exact⟨_,hk,elems_mx _,by simp [flat],by simp [cnt]⟩
 ·obtain⟨zs,rfl,hk⟩:=hk
  have h1:=ha.sized 0
  have h2:=hb.sized 0
  simp only [Sized] at h1 h2
  exact⟨_,hk,elems_mxs (fun cs hcs=>(List.mem_append.1 hcs).elim (h1 cs) (h2 cs)),by simp [flat],by simp [cnt]⟩
 ·obtain⟨zs,rfl,hk⟩:=hk
  have h1:=ha.sized 0
  have h2:=hb.sized 0
  simp only [Sized] at h1 h2
  exact⟨_,hk,elems_mxs (fun cs hcs=>(List.mem_append.1 hcs).elim (h1 cs) (mapsP_sized h2 cs)),by simp [flat,mapsP_flat],by simp [cnt,mapsP_length]⟩
 ·obtain⟨zs,rfl,hk⟩:=hk
  have h1:=ha.sized 0
  have h2:=hb.sized 0
  simp only [Sized] at h1 h2
  exact⟨_,hk,elems_mxs (fun cs hcs=>(List.mem_append.1 hcs).elim (mapsP_sized h1 cs) (h2 cs)),by simp [flat,mapsP_flat],by simp [cnt,mapsP_length]⟩
 ·exact hk.elim
theorem append_sound (h : R C Γ H w) {t t' ty : TypeId} {x y : AV} {x' y' : Value} (hx : VR Γ x x') (hy : VR Γ y y') (ht' : notInt C t' = true) {K : KH} (hv : eAppend C t x y H K) :
    ∃ v' w', (Builtin.append_ #[t, t'] ty #[x', y']).run C.P w = .ok v' w' ∧ NV C Γ H w K v' w' := by
  unfold eAppend at hv
  split at hv <;> try exact hv.elim
  rename_i e hu
  split at hv <;> try exact hv.elim
  rename_i s z b hs hz hb
  split at hv <;> try exact hv.elim
  rename_i hcc
  simp only [Bool.and_eq_true] at hcc
  obtain ⟨⟨⟨g1, g2⟩, g3⟩, g4⟩ := hcc
  have g1 := Nat.eq_of_beq_eq_true g1
  have g2 : 0 < s := by simpa using g2
  have g3 : 0 < b := by simpa using g3
  -- nothing was there
  have nilc : ∀ (m : Nat) (c : Cn) (H1 H2 : Hp) (Γ1 : Gm) (us : List Value), Later C H.next Γ H w Γ1 H2 w → H2.next = H1.next → (∀ d, (Builtin.lenOf y').run C.P { w with drawn := d } = .ok m { w with drawn := d }) → (∀ d, (Builtin.firstCells s m y').run C.P { w with drawn := d } = .ok ⟨us⟩ { w with drawn := d }) →
      VRL Γ1 (flat c) us → (∀ v ∈ us, plainV v = true) → Elems s c → cnt c = m → m * b ≤ 140737488355328 → K (.sl H1.next s 0 m) (H2.push ⟨e, false, c⟩) → ∃ v' w', (Builtin.append_ #[t, t'] ty #[.slice none 0 0, y']).run C.P w = .ok v' w' ∧ NV C Γ H w K v' w' := by
    intro m c H1 H2 Γ1 us hL hnx hl hf hvl hpl hE hcm hroom hK
    rw [← hnx] at hK
    by_cases hm : m = 0
    · subst hm
      have hL2 := hL.1.pushNil (q := ⟨0, s, 0, true⟩) (o := ⟨e, false, c⟩) rfl hE.cells (hE.empt hcm) (hE.sized _)
      refine ⟨_, _, run_append_nil hu ht' hs (hl w.drawn) (hf w.drawn) rfl, _, _, _, hK, ?_, hL.trans (hL2.mono hL.2.2.1)⟩
      simp only [VR]
      exact ⟨⟨0, s, 0, true⟩, Gm.put_same _ _ _, rfl, .inl ⟨rfl, rfl, rfl, rfl⟩⟩
    · obtain ⟨k, z', hz', hrun⟩ := run_append_grow (ty := ty) (base := none) (n := 0) (c := 0) (old := []) hu ht' hs hz hb g3 (hl w.drawn) (by omega) (by simpa using hroom) rfl (hf _)
      have hL2 := grow_block (k := k) (old := []) (nc := us) hL.1 hs g2 hz' g1 hE hcm hvl hpl
      have hd := Later.drew hL.1 H.next hL.2.2.1
      refine ⟨_, _, by simpa using hrun, _, _, _, hK, VR_slNext (Γ := Γ1) ⟨w.heap.size, s, m + k, false⟩ H2.next m rfl (Nat.le_add_right _ _), ?_⟩
      have := (hL.trans hd).trans (hL2.mono hL.2.2.1)
      simpa using this
  split at hv
  · -- nil
    simp only [VR, VP] at hx
    subst hx
    obtain ⟨m, c, H1, Γ1, us, ⟨hroom, hK⟩, e1, hL, hl, hf, hvl, hpl, hE, hcm⟩ := src_sound h g2 hy hv
    exact nilc m c H1 H1 Γ1 us hL rfl hl hf hvl hpl hE hcm hroom hK
  · -- a slice of the heap's own
    rename_i n s' off len
    split at hv <;> try exact hv.elim
    rename_i hso
    simp only [Bool.and_eq_true] at hso
    have hs' := Nat.eq_of_beq_eq_true hso.1
    have hoff := Nat.eq_of_beq_eq_true hso.2
    subst hs'; subst hoff
    obtain ⟨m, c1, H1, Γ1, us, hK, e1, hL, hl, hf, hvl, hpl, hE1, hcm⟩ := src_sound h g2 hy hv
    split at hK <;> try exact hK.elim
    rename_i o ho
    split at hK <;> try exact hK.elim
    rename_i hfr0
    simp only [Bool.or_eq_false_iff, Bool.not_eq_false'] at hfr0
    have hte := Nat.eq_of_beq_eq_true hfr0.2
    have hfr := hfr0.1
    clear hfr0
    simp only [VR] at hx
    obtain ⟨q, hq, hqs, hsl⟩ := hx
    have hq1 : Γ1.nm n = some q := by rw [e1]; exact hq
    have hcell : isCells o.c = true := by
      cases hoc : o.c <;> first | rfl | (rw [hoc] at hK; simp [part1] at hK)
    have hbx : ∀ cs, o.c ≠ .bx cs := by
      intro cs e
      rw [e] at hK
      simp [part1] at hK
    obtain ⟨q', hq', hob⟩ := hL.1.objs n o ho
    rw [hq1] at hq'
    injection hq' with eq
    subst eq
    have hdel := hL.1.del n
    rcases hsl with ⟨hnl, _, rfl, rfl⟩ | ⟨hnl, htc, o', rfl, ho'⟩
    · rcases (ObjR_cells hcell).1 hob with ⟨_, he, hsz⟩ | ⟨e, _⟩
      · rw [hqs] at hsz
        obtain ⟨c0, ⟨hroom, hK⟩, hE0, hc0, hf0, _⟩ := part1_sound hsz hbx hK
        obtain ⟨c, hK, hE, hfc, hcc⟩ := join_sound hE0 hE1 hK
        have hf00 : flat c0 = [] := List.eq_nil_of_length_eq_zero (by rw [hE0.len, hc0]; simp)
        refine nilc m c H1 { H1 with l := ldel H1.l n } Γ1 us (hL.trans (hdel.mono hL.2.2.1)) rfl hl hf ?_ hpl hE (by rw [hcc, hc0, hcm]; simp) (by simpa using hroom) ?_
        · rw [hfc, hf00]; exact hvl
        · rw [Nat.zero_add] at hK; exact hK
      · rw [hnl] at e; cases e
    · rcases (ObjR_cells hcell).1 hob with ⟨e, _⟩ | ⟨_, hcr⟩
      · rw [hnl] at e; cases e
      obtain ⟨us0, rest, zz, h1, h2, h3, h3', h4, h5, h6, h7, h8⟩ := hcr
      rw [hqs] at h7 h4
      obtain ⟨c0, ⟨hroom, hK⟩, hE0, hc0, hf0, hle0⟩ := part1_sound h7 hbx hK
      obtain ⟨c, hK, hE, hfc, hcc⟩ := join_sound hE0 hE1 hK
      simp only [Nat.zero_mul, List.drop_zero] at hf0
      have hlu := VRL_length h5
      have hv0 : VRL Γ1 (flat c0) (us0.take (len * s)) := by rw [hf0]; exact VRL_take _ h5
      have hl0 : (us0.take (len * s)).length = len * s := by rw [VRL_length hv0, hE0.len, hc0]
      have hp0 : ∀ v ∈ us0.take (len * s), plainV v = true := fun v hv => h6 v (List.mem_of_mem_take hv)
      have hlus : us.length = m * s := by rw [VRL_length hvl, hE1.len, hcm]
      have hvc : VRL Γ1 (flat c) (us0.take (len * s) ++ us) := by rw [hfc]; exact VRL_append hv0 hvl
      have hpc : ∀ v ∈ us0.take (len * s) ++ us, plainV v = true := by
        intro v hv
        rcases List.mem_append.1 hv with hv | hv
        · exact hp0 v hv
        · exact hpl v hv
      have hcnt : cnt c = len + m := by rw [hcc, hc0, hcm]
      simp only [Nat.sub_zero]
      by_cases hin : len + m ≤ q.tc
      · -- there is room
        have hren := hL.1.rename ho hq1
        have hgn : lget (Hp.push { H1 with l := ldel H1.l n } o).l H1.next = some o := lget_cons_same
        have hnm : (Γ1.put H1.next q).nm H1.next = some q := Gm.put_same _ _ _
        have hle1 : Γ1.le (Γ1.put H1.next q) := Gm.le_put (hL.1.fresh _ (Nat.le_refl _))
        have hmul : (len + m) * s ≤ q.tc * s := Nat.mul_le_mul_right _ hin
        rw [Nat.add_mul] at hmul
        have hrun := run_storeN (P := C.P) q.blk o.t zz us (len * s) 0 w ⟨us0 ++ rest⟩ h1 h2 (by simp only [List.size_toArray]; omega) hpl
        rw [Nat.add_zero] at hrun
        have htk : len * s ≤ us0.length := by rw [List.length_take] at hl0; omega
        have hsp : spl (us0 ++ rest) (len * s) us = (us0.take (len * s) ++ us) ++ (us0 ++ rest).drop (len * s + us.length) := by
          rw [spl_eq (by omega), List.take_append_of_le_length htk]
        simp only [hsp] at hrun
        have hst : (storeCells ((⟨q.blk, o', none⟩ : Addr).add (len * s)) us).run C.P w = .ok () (putBlk w q.blk (.cells ⟨(us0.take (len * s) ++ us) ++ (us0 ++ rest).drop (len * s + us.length)⟩ o.t zz)) := by
          rcases ho' with rfl | ho'
          · rw [add_spot _ rfl]
            simpa using hrun
          · have hm0 : m = 0 := by omega
            have hus : us = [] := List.eq_nil_of_length_eq_zero (by rw [hlus, hm0]; simp)
            subst hus
            exact hrun
        subst hte
        have hrep := hren.1.repl hgn hfr hnm hnl (o' := ⟨o.t, false, c⟩) rfl (x := .cells ⟨(us0.take (len * s) ++ us) ++ (us0 ++ rest).drop (len * s + us.length)⟩ o.t zz)
          ((ObjR_cells (o := ⟨o.t, false, c⟩) hE.cells).2 (.inr ⟨hnl, us0.take (len * s) ++ us, (us0 ++ rest).drop (len * s + us.length), zz, putBlk_same h1, by
            have : ((us0.take (len * s) ++ us) ++ (us0 ++ rest).drop (len * s + us.length)).length = (us0 ++ rest).length := by rw [← hsp, spl_length]
            rw [this]; exact h2, h3, h3', by
            have : ((us0.take (len * s) ++ us) ++ (us0 ++ rest).drop (len * s + us.length)).length = (us0 ++ rest).length := by rw [← hsp, spl_length]
            rw [this, h4, hqs], VRL_mono hle1 _ _ hvc, hpc, by rw [hqs]; exact hE.sized _, fun e => by cases e⟩))
        refine ⟨_, _, run_append_fits hu ht' hs (hl w.drawn) (hf w.drawn) hin hst, _, _, Γ1.put H1.next q, hK, ?_, ?_⟩
        · simp only [VR]
          refine ⟨q, Gm.put_same _ _ _, hqs, .inr ⟨hnl, by omega, o', rfl, ?_⟩⟩
          rcases ho' with e' | e'
          · left; simpa using e'
          · right; exact e'
        · have hx := (hL.trans (hren.mono hL.2.2.1)).trans (hrep.mono (by show H.next ≤ H1.next + 1; have := hL.2.2.1; omega))
          have hset : lset (Hp.push { H1 with l := ldel H1.l n } o).l H1.next ⟨o.t, false, c⟩ = (Hp.push { H1 with l := ldel H1.l n } ⟨o.t, false, c⟩).l := by
            simp [Hp.push, lset]
          rw [hset] at hx
          exact hx
      · -- a new block
        have hold : (Builtin.firstCells s len (.slice (some ⟨q.blk, o', none⟩) len q.tc)).run C.P { w with drawn := w.drawn + 1 } = .ok ⟨us0.take (len * s)⟩ { w with drawn := w.drawn + 1 } := by
          rcases Nat.eq_zero_or_pos len with hz0 | hz0
          · subst hz0
            simp only [Nat.zero_mul, List.take_zero, Builtin.firstCells]
            rfl
          · have ho2 : o' = 0 := by
              rcases ho' with e' | e'
              · simpa using e'
              · omega
            subst ho2
            have := run_loadN (P := C.P) (w := { w with drawn := w.drawn + 1 }) q.blk 0 (us0.take (len * s)) (fun j u hj => by
              rw [Nat.zero_add]
              rw [List.getElem?_take] at hj
              split at hj
              · exact cells_at (w := { w with drawn := w.drawn + 1 }) h1 hj
              · cases hj)
            rw [hl0] at this
            exact this
        obtain ⟨k, z', hz', hrun⟩ := run_append_grow (ty := ty) hu ht' hs hz hb g3 (hl w.drawn) hin hroom hold (hf _)
        have hL2 := grow_block (k := k) (m := len + m) (old := us0.take (len * s)) (nc := us) (hdel.1) hs g2 hz' g1 hE hcnt hvc hpc
        have hd := Later.drew hdel.1 H.next (by show H.next ≤ H1.next; exact hL.2.2.1)
        refine ⟨_, _, hrun, _, _, _, hK, VR_slNext (Γ := Γ1) ⟨w.heap.size, s, len + m + k, false⟩ H1.next (len + m) rfl (Nat.le_add_right _ _), ?_⟩
        exact ((hL.trans (hdel.mono hL.2.2.1)).trans hd).trans (hL2.mono hL.2.2.1)
  · exact hv.elim
end
end Go.Proofs.YtkegmchjobphdaaGreatDoor.Y
namespace Go.Proofs.YtkegmchjobphdaaGreatDoor.Y
open Go
section
variable {C:Cx} {Γ:Gm} {H:Hp} {w:World}
theorem R.blank (h:R C Γ H w) (ob:Obj):Later C H.next Γ H w Γ H (w.alloc ob):=by
 have hold:∀ k,k<w.heap.size→(w.alloc ob).heap[k]?=w.heap[k]?:=fun k hk=>RowKit.Below.heap_alloc w _ k hk
 refine⟨⟨h.glob,h.fresh,fun b arr hfz=>?_,fun n p hp=>?_,h.own,h.apart⟩,Ext.refl _ _,Nat.le_refl _,⟨rfl,rfl,rfl,by simp,fun k hk _=>hold k hk,fun k hk=>.inr hk,Fzn.le_refl _,fun k a hk=>.inl hk⟩⟩
 ·obtain⟨t,z,e⟩:=h.fzok b arr hfz
  exact⟨t,z,by rw [hold _ (fz_lt h hfz)];exact e⟩
 ·obtain⟨q1,e1,e2⟩:=h.objs n p hp
  exact⟨q1,e1,e2.ext (Gm.le_refl _) fun hnl=>hold _ (e2.blk_lt hnl)⟩
theorem R.lose (h:R C Γ H w) {n:Nat} {o:AObj} {q:Pl} {w':World} (hn:lget H.l n=some o) (hfr:o.fr=false) (hq:Γ.nm n=some q) (hnl:q.nl=false) (h1:w'.os=w.os) (h2:w'.tape=w.tape) (h3:w'.output=w.output)
  (h4:w'.heap.size=w.heap.size) (h5:∀ k,k ≠ q.blk→w'.heap[k]?=w.heap[k]?):Later C H.next Γ H w Γ { H with l:=ldel H.l n } w':=by
 have hd:=h.del n
 have hfz:=h.own n o q hn hfr hq hnl
 have how:Own Γ H q.blk:=⟨n,o,q,hn,hfr,hq,hnl,rfl⟩
 refine⟨⟨h.glob,h.fresh,fun b arr hb=>?_,fun m p hm=>?_,hd.1.own,hd.1.apart⟩,Ext.refl _ _,Nat.le_refl _,⟨h1,h2,h3,by omega,fun k hk hno=>?_,hd.2.2.2.prov,Fzn.le_refl _,fun _ _ h=>.inl h⟩⟩
 ·obtain⟨t,z,e⟩:=h.fzok b arr hb
  refine⟨t,z,?_⟩
  rw [h5 b fun e'=>?_];exact e
  rw [e',hfz] at hb;cases hb
 ·obtain⟨hne,hm⟩:=lget_ldel.1 hm
  obtain⟨q1,e1,e2⟩:=h.objs m p hm
  refine⟨q1,e1,e2.ext (Gm.le_refl _) fun hnl1=>h5 _ fun e'=>?_⟩
  exact h.apart n o m p q q1 hn hm (Ne.symm hne) hq e1 hfr hnl hnl1 e'.symm
 ·by_cases e:k=q.blk
  ·exact absurd (e ▸ how) hno
  ·exact h5 k e
theorem lset_self {l:List (Nat × AObj)} {n:Nat} {o:AObj} (h:lget l n=some o):lset l n o=l:=by
 induction l with
 | nil=>rfl
 | cons p r ih=>
  obtain⟨k,y⟩:=p
  by_cases hk:k=n
  ·subst hk
   rw [lget_cons_same] at h
   injection h with h
   subst h
   simp [lset]
  ·rw [lget_cons_ne hk] at h
   simp only [lset,beq_ne hk,ih h]
theorem spl_nil {α:Type} (l:List α) (k:Nat):spl l k []=l:=by
 apply List.ext_getElem?
 intro i
 rw [spl_get];simp;omega
theorem map_spl {α β:Type} (g:α→β) (l:List α) (k:Nat) (vs:List α):(spl l k vs).map g=spl (l.map g) k (vs.map g):=by
 apply List.ext_getElem?
 intro i
 rw [List.getElem?_map,spl_get,spl_get]
 simp only [List.length_map,List.getElem?_map]
 split <;> rfl
theorem copy_sound (h:R C Γ H w) {t t' ty:TypeId} {x y:AV} {x' y':Value} (hx:VR Γ x x') (hy:VR Γ y y') {K:KH} (hv:eCopy C t x y H K) :
  ∃ v' w',(Builtin.copy_ #[t,t'] ty #[x',y']).run C.P w=.ok v' w'∧NV C Γ H w K v' w':=by
 unfold eCopy at hv
 split at hv <;> try exact hv.elim
 rename_i e hu
 split at hv <;> try exact hv.elim
 rename_i s hs
 split at hv <;> try exact hv.elim
 rename_i n s' off len
 split at hv <;> try exact hv.elim
 rename_i hso
 simp only [Bool.and_eq_true] at hso
 have hs':=Nat.eq_of_beq_eq_true hso.1
 subst hs'
 have g2:0<s:=by simpa using hso.2
 obtain⟨m,c1,H1,Γ1,us,hK,e1,hL,hl,hf,hvl,hpl,hE1,hcm⟩:=src_sound h g2 hy hv
 split at hK <;> try exact hK.elim
 rename_i o ho
 split at hK <;> try exact hK.elim
 rename_i hfr
 simp only [VR] at hx
 obtain⟨q,hq,hqs,hsl⟩:=hx
 have hq1:Γ1.nm n=some q:=by rw [e1];exact hq
 have hl':(Builtin.lenOf y').run C.P w=.ok m w:=hl w.drawn
 have hlus:us.length=m * s:=by rw [VRL_length hvl,hE1.len,hcm]
 have hf':(Builtin.firstCells s m y').run C.P w=.ok ⟨us⟩ w:=hf w.drawn
 unfold putC at hK
 split at hK <;> try exact hK.elim
 rename_i xs ys hoc
 obtain⟨⟨hle,hml⟩,zs,rfl,hK⟩:=hK
 have hs1:s=1:=hE1.sized 0
 subst hs1
 have hmin:Nat.min m len=m:=Nat.min_eq_left hml
 have hym:ys.length=m:=hcm
 rcases hsl with ⟨hnl,rfl,rfl,rfl⟩ | ⟨hnl,htc,o',rfl,ho'⟩
 ·-- nothing
  have hm0:m=0:=by omega
  have hys:ys=[]:=List.eq_nil_of_length_eq_zero (by omega)
  subst hm0;subst hys
  have hset:lset H1.l n { o with c:=.pu (spl xs 0 []) }=H1.l:=by
   have e0:({ o with c:=.pu (spl xs 0 []) }:AObj)=o:=by
    cases o;simp only at hoc;subst hoc;simp [spl,spl0]
   rw [e0];exact lset_self ho
  rw [hset] at hK
  refine⟨.int .i64 0,w,?_,_,_,Γ1,hK,by simp only [VR,VP];rfl,hL⟩
  simp [Builtin.copy_,run_underlying hu,hl',run_szOf hs,hf',goInt]
 ·rcases Nat.eq_zero_or_pos m with hm0 | hm0
  ·have hys:ys=[]:=List.eq_nil_of_length_eq_zero (by omega)
   subst hm0;subst hys
   have hus:us=[]:=List.eq_nil_of_length_eq_zero (by omega)
   subst hus
   have hset:lset H1.l n { o with c:=.pu (spl xs off []) }=H1.l:=by
    have e0:({ o with c:=.pu (spl xs off []) }:AObj)=o:=by
     cases o;simp only at hoc;subst hoc;simp [spl_nil]
    rw [e0];exact lset_self ho
   rw [hset] at hK
   refine⟨.int .i64 0,w,?_,_,_,Γ1,hK,by simp only [VR,VP];rfl,hL⟩
   simp [Builtin.copy_,run_underlying hu,hl',run_szOf hs,hf',goInt,storeCells]
  ·have ho2:o'=off:=by
    rcases ho' with e' | e'
    ·rw [e',hqs];simp
    ·omega
   subst ho2
   have hvy:VRL Γ1 (ys.map .p) us:=hvl
   obtain⟨w',hst,hL2⟩:=store_gen (k:=o') (vs:=ys.map .p) (vs':=us) (c':=.pu (spl xs o' ys)) hL.1 ho hfr (by rw [hoc];rfl) hq1 hnl (by rw [hoc];simp [flat];omega) hvy hpl rfl (by
    rw [hoc]
    simp only [flat]
    exact map_spl _ _ _ _) (by rw [hqs];rfl)
   refine⟨.int .i64 m,w',?_,_,_,Γ1,hK,by simp only [VR,VP],hL.trans (hL2.mono hL.2.2.1)⟩
   simp [Builtin.copy_,run_underlying hu,hl',run_szOf hs,hmin,hf',hst,goInt]
theorem data_sound (h:R C Γ H w) {ts:Array TypeId} {ty:TypeId} {x:AV} {x':Value} (hx:VR Γ x x') {K:KH} (hv:eData C ty x H K) :
  ∃ v' w',(Builtin.unsafeSliceData_ ts ty #[x']).run C.P w=.ok v' w'∧NV C Γ H w K v' w':=by
 have hrefl:=Later.refl h H.next (Nat.le_refl _)
 unfold eData at hv
 split at hv <;> try exact hv.elim
 rename_i e hu
 split at hv <;> try exact hv.elim
 ·simp only [VR,VP] at hx
  subst hx
  exact⟨_,_,Lib.run_unsafeSliceData_nil w ts ty 0 0,_,_,Γ,hv,by simp only [VR,VP],hrefl⟩
 ·rename_i n s off len
  split at hv <;> try exact hv.elim
  rename_i o ho
  split at hv <;> try exact hv.elim
  rename_i hc
  simp only [VR] at hx
  obtain⟨q,hq,hqs,hsl⟩:=hx
  rcases hsl with ⟨hnl,rfl,rfl,rfl⟩ | ⟨hnl,htc,o',rfl,ho'⟩
  ·exact⟨_,_,Lib.run_unsafeSliceData_nil w ts ty 0 0,_,_,Γ,hv.2 rfl,by simp only [VR];exact⟨_,rfl⟩,hrefl⟩
  ·by_cases hcap:q.tc - off=0
   ·have hl0:len=0:=by omega
    rw [hcap]
    obtain⟨us,rest,z,h1,_⟩:=cellsOf h ho hc hq hnl
    have hsh:w.shape? (⟨q.blk,o',none⟩:Addr).block=some (o.t,(us++rest).length):=by simp [World.shape?,h1]
    exact⟨_,_,Lib.run_unsafeSliceData_zero w ts ty e hu ⟨q.blk,o',none⟩ len _ hsh,_,_,Γ,hv.2 hl0,by simp only [VR];exact⟨_,rfl⟩,h.blank _⟩
   ·rcases Nat.eq_zero_or_pos len with hl0 | hl0
    ·exact⟨_,_,Lib.run_unsafeSliceData_row w ts ty _ len _ hcap,_,_,Γ,hv.2 hl0,by simp only [VR];exact⟨_,rfl⟩,hrefl⟩
    ·have ho2:o'=off * q.s:=by
      rcases ho' with e' | e'
      ·exact e'
      ·omega
     exact⟨_,_,Lib.run_unsafeSliceData_row w ts ty _ len _ hcap,_,_,Γ,hv.1 hl0,by simp only [VR];exact⟨q,hq,hnl,by rw [ho2];rfl⟩,hrefl⟩
theorem ustr_sound (h:R C Γ H w) {t t' ty:TypeId} {x y:AV} {x' y':Value} (hx:VR Γ x x') (hy:VR Γ y y') {K:KH} (hv:eUStr C t x y H K) :
  ∃ v' w',(Builtin.unsafeString_ #[t,t'] ty #[x',y']).run C.P w=.ok v' w'∧NV C Γ H w K v' w':=by
 have hrefl:=Later.refl h H.next (Nat.le_refl _)
 unfold eUStr at hv
 split at hv <;> try exact hv.elim
 rename_i k m
 split at hv <;> try exact hv.elim
 rename_i hk
 have hk:k=.i64:=by simpa using hk
 subst hk
 simp only [VR,VP] at hy
 subst hy
 split at hv <;> try exact hv.elim
 ·obtain⟨rfl,hv⟩:=hv
  simp only [VR,VP] at hx
  subst hx
  exact⟨_,_,Lib.run_unsafeString_none w t t' ty none,_,_,Γ,hv,by simp only [VR,VP];rfl,hrefl⟩
 ·obtain⟨rfl,hv⟩:=hv
  simp only [VR] at hx
  obtain⟨a,rfl⟩:=hx
  exact⟨_,_,Lib.run_unsafeString_none w t t' ty a,_,_,Γ,hv,by simp only [VR,VP];rfl,hrefl⟩
 ·rename_i a i f
  split at hv <;> try exact hv.elim
  rename_i o hb ho
  simp only [Bool.and_eq_true] at hb
  have hi:=Nat.eq_of_beq_eq_true hb.1
  have hf:=Nat.eq_of_beq_eq_true hb.2
  subst hi;subst hf
  split at hv <;> try exact hv.elim
  rename_i e hu
  split at hv <;> try exact hv.elim
  rename_i hcc
  simp only [Bool.or_eq_false_iff,Bool.not_eq_false'] at hcc
  obtain⟨⟨hfr,hte⟩,hce⟩:=hcc
  have hte:=Nat.eq_of_beq_eq_true hte
  have hce:=Nat.eq_of_beq_eq_true hce
  split at hv <;> try exact hv.elim
  rename_i xs hoc
  obtain⟨s,hs0,rfl,hs63,hsx,hsm,hv⟩:=hv
  simp only [VR] at hx
  obtain⟨q,hq,hnl,rfl⟩:=hx
  simp only [Nat.zero_mul,Nat.add_zero]
  obtain⟨us,rest,z,h1,h2,h3,h3',h4,h5,h6,h7,h8⟩:=cellsOf h ho (by rw [hoc];rfl) hq hnl
  rw [hoc] at h5
  have h5:=VRL_p.1 h5
  have hlu:=VPL_length h5
  have h5':=VPL_take s.length h5
  rw [hsm] at h5'
  have hus:=VPL_ub h5'
  have hrun:=Lib.run_unsafeString_row (P:=C.P) w t t' ty e hu hce q.blk (us++rest).length (by simp [World.shape?,h1,hte]) s hs0 (by simp;omega) hs63 (by
   intro j x hj
   rw [add_spot _ rfl]
   simp only [Nat.zero_add]
   have hg:(us.take s.length)[j]?=some (.int .u8 (x.toNat:Int)):=by rw [hus,List.getElem?_map,hj];rfl
   rw [List.getElem?_take] at hg
   split at hg
   ·exact cells_at h1 hg
   ·cases hg)
  refine⟨_,_,hrun,_,_,Γ,hv,by simp only [VR,VP],h.lose ho hfr hq hnl ?_ ?_ ?_ ?_ ?_⟩
  all_goals unfold World.freeze
  all_goals split
  all_goals first | rfl | skip
  ·simp
  ·intro k hk;rfl
  ·intro k hk
   simp [Array.getElem?_modify,Ne.symm hk]
theorem bytesWorld_alloc (w:World) (e:TypeId) (s:ByteArray):Lib.bytesWorld w e s=w.drew.alloc (.cells (Lib.bytesCells w e s) e ((Lib.bytesCells w e s).size,(Lib.bytesCells w e s).size+1)):=by
 have h1:=Lib.bytesWorld_at_new w e s
 have hh:(Lib.bytesWorld w e s).heap=(w.drew.alloc (.cells (Lib.bytesCells w e s) e ((Lib.bytesCells w e s).size,(Lib.bytesCells w e s).size+1))).heap:=by
  apply Array.ext_getElem?
  intro j
  by_cases hj:j<w.heap.size
  ·rw [Lib.bytesWorld_at_old w e s j hj]
   exact(RowKit.Below.heap_alloc w.drew _ j hj).symm
  ·by_cases hj2:j=w.heap.size
   ·subst hj2
    rw [h1]
    exact(heap_alloc_new w.drew _).symm
   ·have hs:=Lib.bytesWorld_size w e s
    rw [Array.getElem?_eq_none (by omega),Array.getElem?_eq_none]
    show(w.drew.heap.push _).size≤j
    rw [Array.size_push]
    show w.heap.size+1≤j
    omega
 have key:∀ (a b:World),a.heap=b.heap→a={ b with heap:=a.heap }→a=b:=by
  intro a b h1 h2
  rw [h2,h1]
 exact key _ _ hh rfl
theorem bytes_sound (h : R C Γ H w) {s d e : TypeId} (hd : C.P.underlying d = some (.slice e)) {x : AV} {x' : Value} (hx : VR Γ x x') {K : KH} (hv : eBytes C s e x H K) :
    ∃ v' w', (convert s d x').run C.P w = .ok v' w' ∧ NV C Γ H w K v' w' := by
  unfold eBytes at hv
  split at hv <;> try exact hv.elim
  rename_i k z hs he hz
  split at hv <;> try exact hv.elim
  rename_i b hkz
  simp only [Bool.and_eq_true] at hkz
  have hk : k = .u8 := by simpa using hkz.1
  have hz1 := Nat.eq_of_beq_eq_true hkz.2
  subst hk; subst hz1
  simp only [VR, VP] at hx
  subst hx
  have hrun := Lib.run_convert_string_bytes (P := C.P) w s d e ⟨⟨b⟩⟩ hs hd he
  rw [bytesWorld_alloc] at hrun
  have hsz : (⟨⟨b⟩⟩ : ByteArray).size = b.length := rfl
  have hge : b.length ≤ grownCap w b.length 0 e := grownCap_ge w b.length 0 e
  have hcells : Lib.bytesCells w e ⟨⟨b⟩⟩ = ⟨(b.map fun c => Value.int .u8 (c.toNat : Int)) ++ List.replicate (grownCap w b.length 0 e - b.length) (.int .u8 0)⟩ := by
    apply Array.ext'
    simp [Lib.bytesCells, hsz]
  have hcs : (Lib.bytesCells w e ⟨⟨b⟩⟩).size = grownCap w b.length 0 e := by rw [hcells]; simp; omega
  have hvl : VRL Γ (flat (.pu (b.map ub))) (b.map fun c => Value.int .u8 (c.toNat : Int)) := by
    refine VRL_p.2 ?_
    clear hv hrun hsz hge hcells hcs
    induction b with
    | nil => simp only [List.map_nil, VPL]
    | cons c r ih => simp only [List.map_cons, VPL]; exact ⟨_, _, rfl, by simp only [ub, VP], ih⟩
  have hd1 := Later.drew h H.next (Nat.le_refl _)
  have hR : R C Γ H w.drew := hd1.1
  have hL2 := hR.push (q := ⟨w.heap.size, 1, grownCap w b.length 0 e, false⟩) (o := ⟨e, false, .pu (b.map ub)⟩) (ob := .cells (Lib.bytesCells w e ⟨⟨b⟩⟩) e ((Lib.bytesCells w e ⟨⟨b⟩⟩).size, (Lib.bytesCells w e ⟨⟨b⟩⟩).size + 1)) rfl rfl rfl
    ((ObjR_cells (o := ⟨e, false, .pu (b.map ub)⟩) rfl).2 (.inr ⟨rfl, b.map fun c => Value.int .u8 (c.toNat : Int), List.replicate (grownCap w b.length 0 e - b.length) (.int .u8 0), ((Lib.bytesCells w e ⟨⟨b⟩⟩).size, (Lib.bytesCells w e ⟨⟨b⟩⟩).size + 1), by
      rw [← hcells]; exact heap_alloc_new w.drew _, .inr (by simp only [hcs]; simp; omega), hz, Nat.one_pos, by simp; omega, VRL_mono (Gm.le_put (hR.fresh _ (Nat.le_refl _))) _ _ hvl, by
      intro u hu
      obtain ⟨c, _, rfl⟩ := List.mem_map.1 hu
      rfl, rfl, fun e => by cases e⟩))
  refine ⟨_, _, hrun, _, _, _, hv, ?_, hd1.trans hL2⟩
  exact VR_slNext (Γ := Γ) ⟨w.heap.size, 1, grownCap w b.length 0 e, false⟩ H.next b.length rfl hge
end
end Go.Proofs.YtkegmchjobphdaaGreatDoor.Y
namespace Go.Proofs.YtkegmchjobphdaaGreatDoor.Y
open Go
section
variable {C:Cx} {df0:Option (List Deferred)} {Γ:Gm} {H:Hp} {w:World} {σ:Sg} {ds:List AD} {N:Nat} {a:Act}
theorem SR.mono {Γ':Gm} (h:SR df0 Γ σ ds N a) (hb:Γ.le Γ'):SR df0 Γ' σ ds N a:=⟨h.size,fun t=>VR_mono hb _ _ (h.tm t),DRL_mono hb h.df⟩
theorem SR.put {Γ':Gm} {ds':List AD} (h:SR df0 Γ σ ds N a) (hb:Γ.le Γ') {d:Nat} {v:AV} {v':Value} {dd':List Deferred} (hv:VR Γ' v v') (hd:DRL df0 Γ' ds' dd') (hN:d<N):SR df0 Γ' (upd σ d v) ds' N (({ a with defers:=dd' }:Act).put (some d) v'):=by
 refine⟨by simp [Act.put,h.size],fun t=>?_,by simpa [Act.put] using hd⟩
 simp only [Act.put,Array.getD_eq_getD_getElem?]
 by_cases e:t=d
 ·subst e
  rw [upd_same,Array.getElem?_setIfInBounds_self_of_lt (by rw [h.size];exact hN)]
  exact hv
 ·rw [upd_other _ _ e,Array.getElem?_setIfInBounds_ne (Ne.symm e)]
  have:=h.tm t
  rw [Array.getD_eq_getD_getElem?] at this
  exact VR_mono hb _ _ this
theorem evl_sound (h:R C Γ H w) (hS:SR df0 Γ σ ds N a) (x:Operand):VR Γ (evl C σ x) (a.eval x):=by
 cases x with
 | tmp t=>exact hS.tm t
 | const v=>
  simp only [evl,Act.eval]
  split
  ·rename_i x e;simp only [VR];exact VP_abs _ _ _ e
  ·exact VR_junk Γ v
 | global g=>
  simp only [evl,Act.eval]
  split
  ·rename_i cs e
   simp only [VR]
   exact(h.glob g cs e).1
  ·exact VR_junk Γ _
 | func f=>simp only [evl,Act.eval,VR,VP];exact⟨rfl,#[],#[],rfl,VPL_nil,VPL_nil⟩
theorem PEL_single {v:AV} {v':Value} (h:VR Γ v v'):PEL Γ [⟨v,false⟩] [{ v:=v',recovered:=false }]:=by
 simp only [PEL]
 exact⟨_,_,rfl,⟨h,rfl,rfl⟩,rfl⟩
theorem calls_in {P:Program} {ro:Option Nat} {f:FuncId} {args:Array Value} {Q:Ending→World→Prop} (h:Calls P f args w Q):CallsIn (Fz ro) 0 P f args w Q:=(callsIn_wide (n:=0)).2 h
structure Cont (C:Cx) (df0:Option (List Deferred)) (Γ:Gm) (H:Hp) (w:World) (a:Act) (dst:Option Tmp) (K:AV→List AD→Hp→Prop) (X:List AP→Hp→Prop) (next:Act→World→Prop) (Q:Exit→Act→World→Prop):Prop where
 k:∀ v ds' H' Γ' v' dd' w',K v ds' H'→VR Γ' v v'→DRL df0 Γ' ds' dd'→Later C H.next Γ H w Γ' H' w'→next (({ a with defers:=dd' }:Act).put dst v') w'
 x:∀ ch H' Γ' ch' w',X ch H'→PEL Γ' ch ch'→Later C H.next Γ H w Γ' H' w'→Q (.panic ch') a w'
theorem fnOf_sound {v:AV} {v':Value} (hv:VR Γ v v') {f:Fn} {fs cs:List AV} (h:fnOf v=some (f,fs,cs)):∃ f' fs' cs',v'=.func f' fs' cs'∧FR Γ f f'∧VRL Γ fs fs'.toList∧VRL Γ cs cs'.toList:=by
 cases v with
 | fn f0 a b=>
  simp only [fnOf,Option.some.injEq,Prod.mk.injEq] at h
  obtain⟨rfl,rfl,rfl⟩:=h
  simpa only [VR] using hv
 | p x=>
  cases x <;> simp only [fnOf,reduceCtorEq,Option.some.injEq,Prod.mk.injEq] at h
  obtain⟨rfl,rfl,rfl⟩:=h
  simp only [VR,VP] at hv
  obtain⟨hok,fs',cs',rfl,h1,h2⟩:=hv
  exact⟨_,fs',cs',rfl,(FR_ok hok).2 rfl,VRL_p.2 h1,VRL_p.2 h2⟩
 | _=>simp [fnOf] at h
theorem nilX_sound {x:AV} {x':Value} {neg neg' b:Bool} {p:Prop} (hx:VR Γ x x') (h:nilX x neg=some (neg',b,p)):neg'=neg∧∃ a n c,x'=.slice a n c∧(a=none→p)∧(a ≠ none→b=true):=by
 unfold nilX at h
 split at h
 ·simp only [Option.some.injEq,Prod.mk.injEq] at h
  obtain⟨rfl,rfl,rfl⟩:=h
  simp only [VR,VP] at hx
  exact⟨rfl,none,0,0,hx,fun _=>trivial,fun e=>absurd rfl e⟩
 ·simp only [Option.some.injEq,Prod.mk.injEq] at h
  obtain⟨rfl,rfl,rfl⟩:=h
  simp only [VR,VP] at hx
  rcases hx with ⟨e,a,c,rfl⟩ | ⟨b,o,c,arr,us,rfl,_⟩
  ·exact⟨rfl,a,0,c,rfl,fun _=>e,fun _=>rfl⟩
  ·exact⟨rfl,_,_,c,rfl,fun e=>(by cases e),fun _=>rfl⟩
 ·simp only [Option.some.injEq,Prod.mk.injEq] at h
  obtain⟨rfl,rfl,rfl⟩:=h
  simp only [VR,VP] at hx
  rcases hx with ⟨e,a,c,rfl⟩ | ⟨b,o,c,arr,us,rfl,_⟩
  ·exact⟨rfl,a,0,c,rfl,fun _=>e,fun _=>rfl⟩
  ·exact⟨rfl,_,_,c,rfl,fun e=>(by cases e),fun _=>rfl⟩
 ·simp only [Option.some.injEq,Prod.mk.injEq] at h
  obtain⟨rfl,rfl,rfl⟩:=h
  simp only [VR] at hx
  obtain⟨q,_,_,h1⟩:=hx
  rcases h1 with ⟨_,_,e,rfl⟩ | ⟨_,_,o,rfl,_⟩
  ·exact⟨rfl,none,0,0,rfl,fun _=>e,fun e=>absurd rfl e⟩
  ·exact⟨rfl,_,_,_,rfl,fun e=>(by cases e),fun _=>rfl⟩
 ·cases h
theorem eqi_sl {P:Program} {w:World} {t e:TypeId} (d:Nat) (hu:P.underlying t=some (.slice e)) (a:Option Addr) (n c:Nat):(Op.equalIn (d+1) t (.slice a n c) (.slice none 0 0)).run P w=.ok a.isNone w:=by
 cases a <;> simp [Op.equalIn,run_underlying hu]
theorem run_eqNil {P:Program} {w:World} {t e:TypeId} (hu:P.underlying t=some (.slice e)) (a:Option Addr) (n c:Nat) :
  (binOp .eql t (.slice a n c) (.slice none 0 0)).run P w=.ok (.bool a.isNone) w∧(binOp .neq t (.slice a n c) (.slice none 0 0)).run P w=.ok (.bool (!a.isNone)) w:=by
 have h:=eqi_sl (w:=w) 9999 hu a n c
 constructor <;> simp [binOp,Op.equal,Op.maxDepth,h]
theorem lift_run {P:Program} {w w':World} {s:Sem Value} {v:Value} (h:s.run P w=.ok v w'):(do pure (.value (← s)):Sem Next).run P w=.ok (.value v) w':=by simp [h]
theorem nil_sound {C:Cx} {H:Hp} {w:World} (h:R C Γ H w) {op:BinOp} {t:TypeId} {x y:AV} {x' y':Value} {neg b:Bool} {p:Prop} {X Y:Operand} (hx:VR Γ x x') (hy:VR Γ y y') (hq:nilQ op x y=some (neg,b,p)) {K:KH} (hv:eNil C t neg b p H K) :
  ∃ v' w',(do eqGuard op t X Y x' y';binOp op t x' y':Sem Value).run C.P w=.ok v' w'∧NV C Γ H w K v' w':=by
 unfold eNil at hv
 split at hv <;> try exact hv.elim
 rename_i e hu
 have fin:∀ (neg0:Bool),op=(if neg0 then .neq else .eql)→y'=.slice none 0 0→nilX x neg0=some (neg,b,p)→∃ v' w',(do eqGuard op t X Y x' y';binOp op t x' y':Sem Value).run C.P w=.ok v' w'∧NV C Γ H w K v' w':=by
  intro neg0 hop hy' hn
  obtain⟨rfl,a,n,c,rfl,h1,h2⟩:=nilX_sound hx hn
  subst hy'
  obtain⟨e1,e2⟩:=run_eqNil (w:=w) hu a n c
  refine⟨.bool (if neg then !a.isNone else a.isNone),w,?_,?_⟩
  ·rw [Sem.run_bind,guard_plain _ _ _ _ rfl,hop]
   simp only [Result.andThen_ok]
   cases neg
   ·simpa using e1
   ·simpa using e2
  ·cases a with
   | none=>
    refine⟨vB (!neg),H,Γ,hv.2 (h1 rfl),?_,Later.refl h _ (Nat.le_refl _)⟩
    simp only [VR,VP]
    cases neg <;> rfl
   | some a=>
    have hb:=h2 (by simp)
    rw [hb] at hv
    refine⟨vB neg,H,Γ,hv.1,?_,Later.refl h _ (Nat.le_refl _)⟩
    simp only [VR,VP]
    cases neg <;> rfl
 unfold nilQ at hq
 split at hq <;> try (cases hq;done)
 simp only [VR,VP] at hy
 split at hq <;> try (cases hq;done)
 ·exact fin false rfl hy hq
 ·exact fin true rfl hy hq
theorem met_sound {C:Cx} {Γ:Gm} {H:Hp} {w:World} (_:R C Γ H w) {t:TypeId} {name:String} {g:FuncId} {k:Option Nat} {v u:AV} {v':Value} (hm:metOf C t name=some (g,k)) (hv:VR Γ v v') (hu:moved v k=some u) :
  ∃ u',(∀ n,(method (n+1) t v' name).run C.P w=.ok (g,u') w)∧VR Γ u u':=by
 unfold metOf at hm
 split at hm <;> try cases hm
 rename_i i hi
 split at hm <;> try cases hm
 rename_i m hmm
 split at hm <;> try cases hm
 rename_i g' pr hf
 have ht:(typeInfo t).run C.P w=.ok i w:=by simp [typeInfo,program,Sem.run,hi]
 split at hm
 ·rename_i hp
  have key : ∀ d, C.P.underlying t = some d → (receiverAt t (.val v') pr (if m.path.isEmpty then some ((name.splitOn ".").getLastD name) else none)).run C.P w = .ok v' w → k = none → g' = g → ∃ u', (∀ n, (method (n + 1) t v' name).run C.P w = .ok (g, u') w) ∧ VR Γ u u' := by
   rintro d hd hr rfl rfl
   simp only [moved,Option.some.injEq] at hu
   subst hu
   refine⟨v',fun n=>?_,hv⟩
   simp only [method,Sem.run_bind,ht,Result.andThen_ok,hmm,hp,follow,Sem.run_pure,hf]
   rw [hr]
   rfl
  split at hm <;> try cases hm
  ·rename_i e hd
   refine key _ hd ?_ rfl rfl
   simp only [receiverAt,Sem.run_bind,run_underlying hd,Result.andThen_ok]
   rfl
  ·rename_i d hne hd
   refine key _ hd ?_ rfl rfl
   simp only [receiverAt,Sem.run_bind,run_underlying hd,Result.andThen_ok]
   cases d <;> first | rfl | exact(hne _ rfl).elim
 ·rename_i s hp
  split at hm <;> try cases hm
  rename_i fs hb hs
  simp only [Bool.and_eq_true] at hb
  split at hm <;> try cases hm
  rename_i fd hfd
  split at hm <;> try cases hm
  rename_i z d hne hz hd
  cases v <;> simp only [moved,Option.some.injEq,reduceCtorEq] at hu
  rename_i n j f
  subst hu
  simp only [VR] at hv
  obtain⟨q,hq,hnl,rfl⟩:=hv
  refine⟨.pointer (some ⟨q.blk,j * q.s+(f+fd.offset),none⟩),fun n=>?_,by simp only [VR];exact⟨q,hq,hnl,rfl⟩⟩
  obtain⟨i',hi1,hi2⟩:=szOf_info hz
  have hsz:(sizeOf fd.type).run C.P w=.ok (z+1) w:=run_szOf hz w
  have hfp:(fieldPlace ⟨q.blk,j * q.s+f,none⟩ fd).run C.P w=.ok ⟨q.blk,j * q.s+(f+fd.offset),none⟩ w:=by
   simp [fieldPlace,hsz,Addr.add,Nat.add_assoc]
  have hfo:(follow [s] t (.val (.pointer (some ⟨q.blk,j * q.s+f,none⟩)))).run C.P w=.ok (fd.type, .var ⟨q.blk,j * q.s+(f+fd.offset),none⟩) w:=by
   simp only [follow,Sem.run_bind,run_underlying hs,Result.andThen_ok,hfd,hb.1,if_true,Place.get,Sem.run_pure,asAddr,hfp]
  have hrv : (receiverAt fd.type (.var ⟨q.blk, j * q.s + (f + fd.offset), none⟩) true (if m.path.isEmpty then some ((name.splitOn ".").getLastD name) else none)).run C.P w = .ok (.pointer (some ⟨q.blk, j * q.s + (f + fd.offset), none⟩)) w := by
   simp only [receiverAt,Sem.run_bind,run_underlying hd,Result.andThen_ok]
   cases d <;> first | rfl | exact(hne _ rfl).elim
  simp only [method,Sem.run_bind,ht,Result.andThen_ok,hmm,hp,hfo,hf,hb.2,hrv,Sem.run_pure]
 ·cases hm
theorem run_setObj' {P:Program} {w:World} {b:Nat} {x y:Obj} (h:w.heap[b]?=some x) (hx:rowB x=false):(setObj b y).run P w=.ok () (putBlk w b y):=by
 cases x <;> first | (simp [rowB] at hx;done) | simp [setObj,putBlk,h,Sem.run]
theorem strMap_spec {t:TypeId} (h:strMap C t=true):∃ kt e,C.P.underlying t=some (.map kt e)∧C.P.underlying kt=some .string:=by
 unfold strMap at h
 split at h
 ·rename_i kt e hu
  split at h
  ·rename_i hk
   exact⟨kt,e,hu,hk⟩
  ·cases h
 ·cases h
theorem makeMap_sound (h:R C Γ H w) {t:TypeId} {K:KH} (hv:eMakeMap C t H K):∃ v' w',(Instr.makeMap t none).run C.P w=.ok v' w'∧NV C Γ H w K v' w':=by
 unfold eMakeMap at hv
 split at hv
 ·have hL:=h.push (ob:=.map #[] 0) (q:=⟨w.heap.size,0,0,false⟩) (o:=⟨t,false, .ms []⟩) rfl rfl rfl (by simp only [ObjR];exact⟨trivial,trivial,#[],0,heap_alloc_new w _,rfl⟩)
  refine⟨.map (some w.heap.size),_,?_,_,_,_,hv,?_,hL⟩
  ·simp [Instr.makeMap]
  ·simp only [VR]
   exact⟨_,Gm.put_same _ _ _,rfl⟩
 ·split at hv <;> try exact hv.elim
  rename_i zs hz
  have hL:=h.push (ob:=.map #[] 0) (q:=⟨w.heap.size,0,0,false⟩) (o:=⟨t,false, .mk zs []⟩) rfl rfl rfl (by simp only [ObjR];exact⟨trivial,trivial,#[],0,heap_alloc_new w _,rfl⟩)
  refine⟨.map (some w.heap.size),_,?_,_,_,_,hv,?_,hL⟩
  ·simp [Instr.makeMap]
  ·simp only [VR]
   exact⟨_,Gm.put_same _ _ _,rfl⟩
theorem modify_spec {fz:Fzn} {a:List UInt8} {y:PV} {y':Value} (hy:VP fz y y'):∀ {es:List (List UInt8 × PV)} {us:List MapEntry} (i:Nat),EntR fz es us →
  match Instr.findNow .string (.string ⟨⟨a⟩⟩) us i with
  | some (some (j,_))=>i≤j∧(∃ e,us[j - i]?=some e∧e.key=.string ⟨⟨a⟩⟩)∧EntR fz (putM es a y) (us.modify (j - i) fun e=>{ e with key:=.string ⟨⟨a⟩⟩,val:=y' })
  | some none=>∀ (c:Nat),EntR fz (putM es a y) (us++[{ key:=.string ⟨⟨a⟩⟩,val:=y',born:=c }])
  | none=>False
 | [],us,i,h=>by
  simp only [EntR] at h
  subst h
  intro c
  exact⟨_,_,rfl,rfl,hy,rfl⟩
 | (k,z)::r,us,i,h=>by
  simp only [EntR] at h
  obtain⟨e,us',rfl,h2,h3,h4⟩:=h
  have ih:=modify_spec (a:=a) hy (i+1) h4
  by_cases hk:a=k
  ·subst hk
   have e1:Instr.sameNow .string (.string ⟨⟨a⟩⟩) e.key=some true:=by rw [h2];simp [Instr.sameNow,bytes_beq]
   have e2:putM ((a,z)::r) a y=(a,y)::r:=by simp [putM]
   simp only [Instr.findNow,e1,e2,Nat.sub_self]
   refine⟨Nat.le_refl _,⟨e,rfl,h2⟩,?_⟩
   exact⟨_,_,rfl,rfl,hy,h4⟩
  ·have e1:Instr.sameNow .string (.string ⟨⟨a⟩⟩) e.key=some false:=by rw [h2];simp [Instr.sameNow,bytes_beq,hk]
   have e2:putM ((k,z)::r) a y=(k,z)::putM r a y:=by simp [putM,hk]
   simp only [Instr.findNow,e1,e2]
   split at ih
   ·rename_i j v hj
    obtain⟨g1,⟨e',g2,g3⟩,g4⟩:=ih
    obtain⟨d,rfl⟩:∃ d,j=i+1+d:=⟨j - (i+1),by omega⟩
    have e3:i+1+d - (i+1)=d:=by omega
    have e4:i+1+d - i=d+1:=by omega
    rw [e3] at g2 g4
    simp only [e4]
    refine⟨by omega,⟨e',by simpa using g2,g3⟩,?_⟩
    rw [List.modify_succ_cons]
    exact⟨_,_,rfl,h2,h3,g4⟩
   ·rename_i hj
    intro c
    exact⟨_,_,rfl,h2,h3,ih c⟩
   ·exact ih.elim
theorem insert_soundS (h:R C Γ H w) {t:TypeId} {m k x:AV} {m' k' x':Value} {K:KH} (hm:VR Γ m m') (hk:VR Γ k k') (hx:VR Γ x x') (hv:eInsertS C t m k x H K) :
  ∃ w',(Instr.mapUpdate t m' k' x').run C.P w=.ok () w'∧∃ v H' Γ',K v H'∧v=und∧Later C H.next Γ H w Γ' H' w':=by
 unfold eInsertS at hv
 split at hv <;> try exact hv.elim
 rename_i n a y hst
 obtain⟨kt,e,hu,hkt⟩:=strMap_spec hst
 have hk:k'=.string ⟨⟨a⟩⟩:=by simpa only [VR,VP] using hk
 subst hk
 simp only [VR] at hx
 split at hv <;> try exact hv.elim
 rename_i o ho
 split at hv <;> try exact hv.elim
 rename_i es hc
 obtain⟨es',rfl,hv⟩:=hv
 simp only [VR] at hm
 obtain⟨q,hq,rfl⟩:=hm
 obtain⟨q',hq',hob⟩:=h.objs n o ho
 rw [hq] at hq'
 injection hq' with e'
 subst e'
 obtain⟨t0,fr0,c0⟩:=o
 simp only at hc
 subst hc
 simp only [ObjR] at hob
 obtain⟨hnl,hfr,us,kk,hob,hes⟩:=hob
 subst hfr
 have hS:=modify_spec (a:=a) hx 0 hes
 split at hS
 ·rename_i j v hj
  obtain⟨_,⟨e1,g2,g3⟩,g4⟩:=hS
  rw [Nat.sub_zero] at g2 g4
  have g2':us[j]?=some e1:=by rw [← Array.getElem?_toList];exact g2
  have h3:=run_findKey (P:=C.P) (w:=w) hkt hj
  have h5:(Instr.keyThatStays (.string ⟨⟨a⟩⟩) (.string ⟨⟨a⟩⟩)).run C.P w=.ok (.string ⟨⟨a⟩⟩) w:=by simp [Instr.keyThatStays,Instr.sameBits,bytes_beq]
  have hrep:=h.repl ho rfl hq hnl (o':=⟨t0,false, .ms (putM es a y)⟩) rfl (x:=.map (us.modify j fun e=>{ e with key:=.string ⟨⟨a⟩⟩,val:=x' }) kk) (by
   simp only [ObjR]
   refine⟨hnl,trivial,_,_,putBlk_same hob,?_⟩
   rw [Array.toList_modify]
   exact g4)
  refine⟨_,?_,und,_,Γ,hv,rfl,hrep⟩
  simp [Instr.mapUpdate,run_underlying hu,run_getObj' hob rfl,run_checkKey hkt,h3,g2',g3,h5,run_setObj' hob rfl]
 ·rename_i hj
  have h3:=run_findKey (P:=C.P) (w:=w) hkt hj
  have hrep:=h.repl ho rfl hq hnl (o':=⟨t0,false, .ms (putM es a y)⟩) rfl (x:=.map (us.push { key:=.string ⟨⟨a⟩⟩,val:=x',born:=kk }) (kk+1)) (by
   simp only [ObjR]
   refine⟨hnl,trivial,_,_,putBlk_same hob,?_⟩
   rw [Array.toList_push]
   exact hS kk)
  refine⟨_,?_,und,_,Γ,hv,rfl,hrep⟩
  simp [Instr.mapUpdate,run_underlying hu,run_getObj' hob rfl,run_checkKey hkt,h3,run_setObj' hob rfl]
 ·exact hS.elim
theorem keyZ_spec {t:TypeId} {zs:List PV} (h:keyZ C t=some zs) (hf:fitOK C t zs=true):∃ kt e fs,C.P.underlying t=some (.map kt e)∧C.P.underlying kt=some (.struct fs)∧fitT C.P 9 kt zs=true:=by
 unfold keyZ at h
 split at h
 ·rename_i kt e hu
  unfold fitOK at hf
  rw [hu] at hf
  split at h
  ·rename_i fs zs' hk hz
   exact⟨kt,e,fs,hu,hk,hf⟩
  ·cases h
 ·cases h
theorem modifyK_spec {P:Program} {w:World} {fz:Fzn} {zs a:List PV} {y:PV} {y':Value} {kt:TypeId} {fs:Array Field} (hk:P.underlying kt=some (.struct fs)) (hz:fitT P 9 kt zs=true) (ha:sameKinds zs a=true) (hy:VP fz y y') :
  ∀ {es:List (List PV × PV)} {us:List MapEntry} (i:Nat),EntK fz zs es us →
  (∃ j v,(Instr.findAsking kt (.agg ⟨a.map real⟩) us i).run P w=.ok (some (i+j,v)) w∧(∃ e,us[j]?=some e∧e.key=.agg ⟨a.map real⟩)∧EntK fz zs (putK es a y) (us.modify j fun e=>{ e with key:=.agg ⟨a.map real⟩,val:=y' })) ∨
  ((Instr.findAsking kt (.agg ⟨a.map real⟩) us i).run P w=.ok none w∧∀ (c:Nat),EntK fz zs (putK es a y) (us++[{ key:=.agg ⟨a.map real⟩,val:=y',born:=c }]))
 | [],us,i,h=>by
  simp only [EntK] at h
  subst h
  refine .inr ⟨by simp [Instr.findAsking],fun c=>?_⟩
  exact⟨_,_,rfl,⟨ha,rfl⟩,hy,rfl⟩
 | (k,z)::r,us,i,h=>by
  simp only [EntK] at h
  obtain⟨e,us',rfl,⟨h1,h2⟩,h3,h4⟩:=h
  have ih:=modifyK_spec (w:=w) hk hz ha hy (i+1) h4
  obtain⟨b,hb,hbx⟩:=run_eqT (P:=P) (w:=w) 9 kt a k (fitT_same 9 kt zs a hz ha) (sameKinds_trans (sameKinds_symm ha) h1) 9991
  rw [keyV hk,keyV hk] at hb
  have hb:(Op.equal kt (.agg ⟨a.map real⟩) e.key).run P w=.ok b w:=by rw [h2];exact hb
  by_cases e1:a=k
  ·have hbt:b=true:=hbx.2 e1
   subst hbt
   have e2:putK ((k,z)::r) a y=(k,y)::r:=by rw [putK,if_pos e1]
   rw [e2]
   refine .inl ⟨0,e.val,by simp [Instr.findAsking,hb],⟨e,rfl,by rw [h2,e1]⟩,?_⟩
   exact⟨_,_,rfl,⟨h1,by rw [e1]⟩,hy,h4⟩
  ·have hbf:b=false:=by
    cases b with
    | false=>rfl
    | true=>exact absurd (hbx.1 rfl) e1
   subst hbf
   have e2:putK ((k,z)::r) a y=(k,z)::putK r a y:=by rw [putK,if_neg e1]
   rw [e2]
   have hst:(Instr.findAsking kt (.agg ⟨a.map real⟩) (e::us') i).run P w=(Instr.findAsking kt (.agg ⟨a.map real⟩) us' (i+1)).run P w:=by
    simp only [Instr.findAsking,Sem.run_bind,hb,Result.andThen_ok]
    simp
   rw [hst]
   rcases ih with ⟨j,v,g1,⟨e',g2,g3⟩,g4⟩ | ⟨g1,g2⟩
   ·refine .inl ⟨j+1,v,by rw [g1,show i+(j+1)=i+1+j by omega],⟨e',by simpa using g2,g3⟩,?_⟩
    rw [List.modify_succ_cons]
    exact⟨_,_,rfl,⟨h1,h2⟩,h3,g4⟩
   ·exact .inr ⟨g1,fun c=>⟨_,_,rfl,⟨h1,h2⟩,h3,g2 c⟩⟩
theorem sameBit_real {z x:PV} (h:sameKind z x=true) (n:Nat):Instr.sameBits n (real x) (real x)=true:=by
 unfold sameKind at h
 split at h
 ·cases n <;> simp [real,Instr.sameBits]
 ·cases n <;> simp [real,Instr.sameBits,bytes_beq]
 ·cases n <;> simp [real,Instr.sameBits]
 ·cases h
theorem sameBits_real:∀ (xs zs:List PV),sameKinds zs xs=true→∀ n,((xs.map real).zip (xs.map real)).all (fun (x,y)=>Instr.sameBits n x y)=true
 | [],_,_,_=>rfl
 | x::xs,[],h,_=>by simp [sameKinds] at h
 | x::xs,z::zs,h,n=>by
  simp only [sameKinds,Bool.and_eq_true] at h
  have ih:=sameBits_real xs zs h.2 n
  simp only [List.map_cons,List.zip_cons_cons,List.all_cons,Bool.and_eq_true]
  exact⟨sameBit_real h.1 n,ih⟩
theorem insert_soundK (h:R C Γ H w) {t:TypeId} {m x:AV} {cs:List PV} {m' k' x':Value} {K:KH} (hm:VR Γ m m') (hk:VR Γ (.p (.agg cs)) k') (hx:VR Γ x x') (hv:eInsertK C t m cs x H K) :
  ∃ w',(Instr.mapUpdate t m' k' x').run C.P w=.ok () w'∧∃ v H' Γ',K v H'∧v=und∧Later C H.next Γ H w Γ' H' w':=by
 unfold eInsertK at hv
 split at hv <;> try exact hv.elim
 rename_i zk n hzk
 obtain⟨hfo,fs,y,hmk,hres,hv⟩:=hv
 obtain⟨kt,e,fls,hu,hkt,hfit⟩:=keyZ_spec hzk hfo
 obtain⟨Γ1,e1,hL⟩:=h.mark hmk
 have hle:=hL.le h
 have hy:VP Γ1.fz y x':=by
  have:=Res_sound hL.1 5 _ _ _ (show Res (H.mrk fs).l 5 x y from hres) (VR_mono hle _ _ hx)
  simpa only [VR] using this
 split at hv <;> try exact hv.elim
 rename_i o ho
 split at hv <;> try exact hv.elim
 rename_i zs es hc
 obtain⟨hkk,es',rfl,hv⟩:=hv
 simp only [Bool.and_eq_true] at hkk
 simp only [VR,VP] at hk
 obtain⟨cs',rfl,hcs⟩:=hk
 have hreal:=(sameKinds_real (sameKinds_trans (sameKinds_symm hkk.2) hkk.2) hcs hcs).1
 obtain⟨lcs⟩:=cs'
 simp only at hreal
 subst hreal
 have hm1:=VR_mono hle _ _ hm
 simp only [VR] at hm1
 obtain⟨q,hq,rfl⟩:=hm1
 obtain⟨q',hq',hob⟩:=hL.1.objs n o ho
 rw [hq] at hq'
 injection hq' with e'
 subst e'
 obtain⟨t0,fr0,c0⟩:=o
 simp only at hc
 subst hc
 simp only [ObjR] at hob
 obtain⟨hnl,hfr,us,kk,hob,hes⟩:=hob
 subst hfr
 have hfz:=fitT_same 9 kt zk zs hfit hkk.1
 have hS:=modifyK_spec (P:=C.P) (w:=w) (a:=cs) hkt hfz hkk.2 hy 0 hes
 have hck:∀ b,(Instr.checkKey b 10000 kt (.agg ⟨cs.map real⟩)).run C.P w=.ok () w:=fun b=>by
  have:=run_keyT (P:=C.P) (w:=w) (b:=b) 9 kt cs (fitT_same 9 kt zs cs hfz hkk.2) 9991
  rw [keyV hkt] at this
  exact this
 have hfk:=run_findKeyK (P:=C.P) (w:=w) hkt ⟨cs.map real⟩ us.toList
 rcases hS with ⟨j,v,hj,⟨e2,g2,g3⟩,g4⟩ | ⟨hj,g4⟩
 ·rw [hj,Nat.zero_add] at hfk
  have g2':us[j]?=some e2:=by rw [← Array.getElem?_toList];exact g2
  have h5:(Instr.keyThatStays (.agg ⟨cs.map real⟩) (.agg ⟨cs.map real⟩)).run C.P w=.ok (.agg ⟨cs.map real⟩) w:=by
   have hb:Instr.sameBits 10000 (.agg ⟨cs.map real⟩) (.agg ⟨cs.map real⟩)=true:=by
    rw [show(10000:Nat)=9999+1 from rfl]
    unfold Instr.sameBits
    simp only [Bool.and_eq_true,beq_self_eq_true,true_and]
    exact sameBits_real cs zs hkk.2 9999
   simp [Instr.keyThatStays,hb]
  have hrep:=hL.1.repl ho rfl hq hnl (o':=⟨t0,false, .mk zs (putK es cs y)⟩) rfl (x:=.map (us.modify j fun e=>{ e with key:=.agg ⟨cs.map real⟩,val:=x' }) kk) (by
   simp only [ObjR]
   refine⟨hnl,trivial,_,_,putBlk_same hob,?_⟩
   rw [Array.toList_modify]
   exact g4)
  refine⟨_,?_,und,_,_,hv,rfl,hL.trans hrep⟩
  simp [Instr.mapUpdate,run_underlying hu,run_getObj' hob rfl,hck,hfk,g2',g3,h5,run_setObj' hob rfl]
 ·rw [hj] at hfk
  have hrep:=hL.1.repl ho rfl hq hnl (o':=⟨t0,false, .mk zs (putK es cs y)⟩) rfl (x:=.map (us.push { key:=.agg ⟨cs.map real⟩,val:=x',born:=kk }) (kk+1)) (by
   simp only [ObjR]
   refine⟨hnl,trivial,_,_,putBlk_same hob,?_⟩
   rw [Array.toList_push]
   exact g4 kk)
  refine⟨_,?_,und,_,_,hv,rfl,hL.trans hrep⟩
  simp [Instr.mapUpdate,run_underlying hu,run_getObj' hob rfl,hck,hfk,run_setObj' hob rfl]
theorem insert_sound (h:R C Γ H w) {t:TypeId} {m k x:AV} {m' k' x':Value} {K:KH} (hm:VR Γ m m') (hk:VR Γ k k') (hx:VR Γ x x') (hv:eInsert C t m k x H K) :
  ∃ w',(Instr.mapUpdate t m' k' x').run C.P w=.ok () w'∧∃ v H' Γ',K v H'∧v=und∧Later C H.next Γ H w Γ' H' w':=by
 unfold eInsert at hv
 split at hv
 ·exact insert_soundK h hm hk hx hv
 ·exact insert_soundS h hm hk hx hv
theorem range_sound (h:R C Γ H w) {t:TypeId} {x:AV} {x':Value} {K:KH} (hx:VR Γ x x') (hv:eRange C t x H K):∃ v' w',(Instr.range t x').run C.P w=.ok v' w'∧NV C Γ H w K v' w':=by
 unfold eRange at hv
 split at hv <;> try exact hv.elim
 rename_i s hu
 have hx:x'=.string ⟨⟨s⟩⟩:=by simpa only [VR,VP] using hx
 subst hx
 have hL:=h.push (ob:=.stringIter ⟨⟨s⟩⟩ 0) (q:=⟨w.heap.size,0,0,false⟩) (o:=⟨t,false, .it s 0⟩) rfl rfl rfl (by simp only [ObjR];exact⟨trivial,trivial,heap_alloc_new w _⟩)
 refine⟨.pointer (some ⟨w.heap.size,0,none⟩),_,?_,_,_,_,hv,?_,hL⟩
 ·simp [Instr.range,run_underlying hu]
 ·simp only [VR]
  exact⟨_,Gm.put_same _ _ _,rfl,by simp⟩
theorem next_sound (h:R C Γ H w) {ty:TypeId} {x:AV} {x':Value} {b:Bool} {K:KH} (hx:VR Γ x x') (hv:eNext x b H K):∃ v' w',(Instr.next x' b ty).run C.P w=.ok v' w'∧NV C Γ H w K v' w':=by
 unfold eNext at hv
 split at hv <;> try exact hv.elim
 rename_i n
 split at hv <;> try exact hv.elim
 rename_i o ho
 split at hv <;> try exact hv.elim
 rename_i s i hc
 simp only [VR] at hx
 obtain⟨q,hq,hnl,rfl⟩:=hx
 obtain⟨q',hq',hob⟩:=h.objs n o ho
 rw [hq] at hq'
 injection hq' with e'
 subst e'
 obtain⟨t0,fr0,c0⟩:=o
 simp only at hc
 subst hc
 simp only [ObjR] at hob
 obtain⟨_,hfr,hob⟩:=hob
 subst hfr
 have hsz:(⟨⟨s⟩⟩:ByteArray).size=s.length:=rfl
 rcases Nat.lt_or_ge i s.length with hi | hi
 ·obtain⟨c,d,hd,hk⟩:=hv.2 hi
  have hrep:=h.repl ho rfl hq hnl (o':=⟨t0,false, .it s (i+d)⟩) rfl (x:=.stringIter ⟨⟨s⟩⟩ (i+d)) (by
   simp only [ObjR]
   exact⟨hnl,trivial,putBlk_same hob⟩)
  refine⟨.tuple #[.bool true,goInt i, .int .i32 c],_,?_,_,_,_,hk,?_,hrep⟩
  ·simp [Instr.next,run_getObj' hob rfl,hsz,hi,hd,run_setObj' hob rfl]
  ·simp only [VR,VRL,VP]
   exact⟨_,rfl,_,_,rfl,rfl,_,_,rfl,rfl,_,_,rfl,rfl,rfl⟩
 ·refine⟨.tuple #[.bool false],w,?_,_,_,_,hv.1 hi,?_,Later.refl h _ (Nat.le_refl _)⟩
  ·simp [Instr.next,run_getObj' hob rfl,hsz,Nat.not_lt.2 hi]
  ·simp only [VR,VRL,VP]
   exact⟨_,rfl,_,_,rfl,rfl,rfl⟩
theorem zero_one {t:TypeId} {z:PV} (hz:zeroOf C.P t=some z) (hp:pl (.p z)=true) (hl:(vCells (.p z)).length=1) (w:World):∃ z',(zeroValue t).run C.P w=.ok z' w∧z'.cells.toList=[z']∧∀ Γ:Gm,VR Γ (.p z) z':=by
 obtain⟨z',h1,h2⟩:=run_zero hz w ⟨fun _=>none,fun _=>none⟩
 obtain⟨i,z2,h3,h4,h5⟩:=zero_info hz
 refine⟨z',h1,?_,fun Γ=>?_⟩
 ·rw [rCells_eq]
  cases z' <;> first | rfl | skip
  rename_i cs
  simp only [VR] at h2
  obtain⟨l,rfl⟩:=VP_notagg h2
  simp [pl] at hp
 ·obtain⟨z3,h6,h7⟩:=run_zero hz w Γ
  rw [h1] at h6
  injection h6 with h6
  subst h6
  exact h7
theorem mkz_rep {α:Type} (x:α):∀ n:Nat,mkz n [x]=List.replicate n x
 | 0=>rfl
 | n+1=>by rw [mkz,mkz_rep x n,List.replicate_succ];rfl
theorem VRL_rep {Γ:Gm} {x:PV} {v:Value} (h:VR Γ (.p x) v):∀ n:Nat,VRL Γ (List.replicate n (.p x)) (List.replicate n v)
 | 0=>by simp [VRL]
 | n+1=>by
  rw [List.replicate_succ,List.replicate_succ]
  simp only [VRL]
  exact⟨_,_,rfl,h,VRL_rep h n⟩
theorem clear_sound (h:R C Γ H w) {t ty:TypeId} {x:AV} {x':Value} (hx:VR Γ x x') {K:KH} (hv:eClear C t x H K) :
  ∃ v' w',(Builtin.clear_ #[t] ty #[x']).run C.P w=.ok v' w'∧NV C Γ H w K v' w':=by
 unfold eClear at hv
 split at hv <;> try exact hv.elim
 rename_i e hu
 split at hv <;> try exact hv.elim
 rename_i s z hs hz
 split at hv <;> try exact hv.elim
 rename_i n s' off len hb
 simp only [Bool.and_eq_true] at hb
 obtain⟨⟨b1,b2⟩,b3⟩:=hb
 have b1:=Nat.eq_of_beq_eq_true b1
 have b3:=Nat.eq_of_beq_eq_true b3
 subst b1
 split at hv <;> try exact hv.elim
 rename_i o hs' ho
 have hs':=Nat.eq_of_beq_eq_true hs'
 subst hs'
 split at hv <;> try exact hv.elim
 rename_i hfr
 split at hv <;> try exact hv.elim
 rename_i xs hoc
 obtain⟨hle,ys,rfl,hK⟩:=hv
 simp only [VR] at hx
 obtain⟨q,hq,hqs,hsl⟩:=hx
 have nothing:len=0→K und H:=by
  intro h0
  subst h0
  have e0:({ o with c:=.pu (spl xs off (List.replicate 0 z)) }:AObj)=o:=by
   cases o;simp only at hoc;subst hoc;simp [spl_nil]
  rw [e0,lset_self ho] at hK
  exact hK
 have hU:∀ Γ:Gm,VR Γ und (.tuple #[]):=fun Γ=>by simp only [VR];exact⟨#[],rfl,rfl⟩
 rcases hsl with ⟨hnl,rfl,rfl,rfl⟩ | ⟨hnl,htc,o',rfl,ho'⟩
 ·exact⟨.tuple #[],w,by simp [Builtin.clear_,run_underlying hu],und,H,Γ,nothing rfl,hU _,Later.refl h _ (Nat.le_refl _)⟩
 ·rcases Nat.eq_zero_or_pos len with h0 | h0
  ·subst h0
   exact⟨.tuple #[],w,by simp [Builtin.clear_,run_underlying hu],und,H,Γ,nothing rfl,hU _,Later.refl h _ (Nat.le_refl _)⟩
  ·have ho2:o'=off:=by
    rcases ho' with e' | e'
    ·rw [e',hqs];simp
    ·omega
   subst ho2
   obtain⟨z',hz1,hz2,hz3⟩:=zero_one hz b2 b3 w
   have hcells:isCells o.c=true:=by rw [hoc];rfl
   have hzl:(Builtin.zeroCells z'.cells len).toList=List.replicate len z':=by rw [zeroCells_mkz,hz2,mkz_rep]
   obtain⟨w',h1,h2⟩:=store_gen h (k:=o') (vs:=List.replicate len (.p z)) (vs':=List.replicate len z') (c':=.pu (spl xs o' (List.replicate len z))) ho hfr hcells hq hnl (by rw [hoc];simp [flat];exact hle) (VRL_rep (hz3 Γ) len)
    (fun v hv=>by
     rw [(List.mem_replicate.1 hv).2]
     exact pl_plain (hz3 Γ) b2)
    rfl (by rw [hoc];simp only [flat];rw [map_spl,List.map_replicate]) (by show q.s=1;exact hqs)
   refine⟨.tuple #[],w',?_,und,_,Γ,hK,hU _,h2⟩
   obtain⟨n1,rfl⟩:∃ n1,len=n1+1:=⟨len - 1,by omega⟩
   simp [Builtin.clear_,run_underlying hu,hz1,hzl,h1]
theorem vOp_sound {ro:Option Nat} {rd:Bool} {o:Oper} {K:AV→List AD→Hp→Prop} {X:List AP→Hp→Prop} {next:Act→World→Prop} {Q:Exit→Act→World→Prop}
  (h:R C Γ H w) (hS:SR df0 Γ σ ds N a) (hrd:rd=ro.isSome) (hC:Cont C df0 Γ H w a o.dst K X next Q) (hv:vOp C rd o σ ds H K X):o.wpIn (Fz ro) 0 C.P a w next Q:=by
 refine⟨fun _ _=>trivial,?_⟩
 have hev:=evl_sound h hS
 have hde:∀ {Γ'},Γ.le Γ'→DRL df0 Γ' ds a.defers:=fun hb=>DRL_mono hb hS.df
 -- an operation that gives a value
 have valu:∀ {v':Value} {w':World},(o.semAt ro a.eval).run C.P w=.ok (.value v') w'→NV C Γ H w (fun v H'=>K v ds H') v' w' →
   o.uponIn (Fz ro) 0 C.P a next Q ((o.semAt (Fz ro).round a.eval).run C.P w):=by
  rintro v' w' hr ⟨v,H',Γ',h1,h2,h3⟩
  show o.uponIn (Fz ro) 0 C.P a next Q ((o.semAt ro a.eval).run C.P w)
  rw [hr]
  exact hC.k v ds H' Γ' v' a.defers w' h1 h2 (hde (h3.le h)) h3
 have hsem:(∀ c,o.op ≠ .defer c)→o.semAt ro a.eval=execOp a.eval o:=Oper.semAt_eq ro a.eval o
 -- behind a call
 have hpost:∀ e' w',Post C Γ H w (onE (fun v H'=>K v ds H') X) e' w' →
   (match e',w' with | .returned v,w''=>next (a.put o.dst v) w'' | .panicked chain,w''=>Q (.panic chain) a w'' | .outgrown,_=>LetsOut Q):=by
  rintro e' w' ⟨e0,H',Γ',k1,k2,hL⟩
  cases e0 with
  | returned v=>obtain⟨v',rfl,hvv⟩:=k2;exact hC.k v ds H' Γ' v' a.defers w' k1 hvv (hde (hL.le h)) hL
  | panicked ch=>obtain⟨ch',rfl,hvv⟩:=k2;exact hC.x ch H' Γ' ch' w' k1 hvv hL
 unfold vOp at hv
 split at hv
 ·rename_i t e
  have hx:=hsem (by rw [e];simp)
  obtain⟨v',w',h1,h2⟩:=alloc_sound h hv
  exact valu (by rw [hx];simp [execOp,e,h1]) h2
 ·rename_i t x e
  have hx:=hsem (by rw [e];simp)
  obtain⟨v',w',h1,h2⟩:=box_sound h (hev x) hv
  exact valu (by rw [hx];simp [execOp,e,h1]) h2
 ·rename_i t x y e
  have hx:=hsem (by rw [e];simp)
  obtain⟨w',h1,v,H',Γ',k1,k2,k3⟩:=store_sound h (hev x) (hev y) hv
  show o.uponIn (Fz ro) 0 C.P a next Q ((o.semAt ro a.eval).run C.P w)
  rw [hx]
  have:(execOp a.eval o).run C.P w=.ok .skip w':=by simp [execOp,e,h1]
  rw [this]
  exact hC.k v ds H' Γ' undef a.defers w' k1 k2 (hde (k3.le h)) k3
 ·rename_i t n parts e
  have hx:=hsem (by rw [e];simp)
  obtain⟨v',w',h1,h2⟩:=buildSlice_sound h hev hv
  exact valu (by rw [hx];simp [execOp,e,h1]) h2
 ·rename_i t l c e
  have hx:=hsem (by rw [e];simp)
  obtain⟨v',w',h1,h2⟩:=makeSlice_sound h (hev l) (hev c) hv
  exact valu (by rw [hx];simp [execOp,e,h1]) h2
 ·rename_i f args argTypes e
  have hx:=hsem (by rw [e];simp)
  have hf:=hev f
  split at hv <;> try exact hv.elim
  ·rename_i g first cap ef
   obtain⟨fn',first',cap',ef',hfr,hfirst,hcap⟩:=fnOf_sound hf ef
   simp only [FR] at hfr
   subst hfr
   have hargs:VRL Γ (first++args.toList.map (evl C σ)++cap) (first'++args.map a.eval++cap').toList:=by
    simp only [Array.toList_append,Array.toList_map]
    exact VRL_append (VRL_append hfirst (VRL_map hev _)) hcap
   have harr:(⟨(first'++args.map a.eval++cap').toList⟩:Array Value)=first'++args.map a.eval++cap':=by simp
   have hexec:(execOp a.eval o).run C.P w=(callFunc g (first'++args.map a.eval++cap')).run C.P w:=by
    simp [execOp,e,resolve,ef',Deferred.ofValue,invoke]
   show o.uponIn (Fz ro) 0 C.P a next Q ((o.semAt ro a.eval).run C.P w)
   rw [hx,hexec]
   rcases hv Γ w _ h hargs with ⟨h1,h2⟩ | ⟨v',w',h1,h2⟩
   ·rw [harr] at h1 h2
    rw [h1]
    exact⟨fun hd=>by simp [Fz,Fence.wide] at hd,calls_in (h2.mono hpost)⟩
   ·rw [harr] at h1
    rw [h1]
    exact hpost _ _ h2
  ·rename_i L ef
   obtain⟨fn',first',cap',ef',hfr,hfirst,hcap⟩:=fnOf_sound hf ef
   simp only [FR] at hfr
   obtain⟨q,hq,rfl⟩:=hfr
   simp only [VRL] at hfirst hcap
   have hf0:first'=#[]:=Array.ext' (by simpa using hfirst)
   have hc0:cap'=#[]:=Array.ext' (by simpa using hcap)
   subst hf0;subst hc0
   have hargs:VRL Γ (args.toList.map (evl C σ)) (args.map a.eval).toList:=by
    rw [Array.toList_map]
    exact VRL_map hev _
   obtain⟨q',f',tmps,asg,bd,hq',hy,hr⟩:=hv Γ w _ ro h hargs
   rw [hq] at hq'
   injection hq' with e'
   subst e'
   have harr:(⟨(args.map a.eval).toList⟩:Array Value)=args.map a.eval:=rfl
   rw [harr] at hy
   have hexec:(execOp a.eval o).run C.P w=.ok (.round q.blk f' tmps asg bd) w:=by
    simp [execOp,e,resolve,ef',Deferred.ofValue,invoke,hy]
   show o.uponIn (Fz ro) 0 C.P a next Q ((o.semAt ro a.eval).run C.P w)
   rw [hx,hexec]
   exact⟨fun hd=>by simp [Fz,Fence.wide] at hd,hr.mono hpost⟩
 ·rename_i r name args argTypes e
  have hx:=hsem (by rw [e];simp)
  have hr:=hev r
  split at hv <;> try exact hv.elim
  rename_i t v ei
  obtain⟨v',ev',hvv⟩:=(ifParts_sound hr).2 _ _ ei
  obtain⟨g,k,u,hm,hu,hH⟩:=hv
  obtain⟨u',hru,hvu⟩:=met_sound h hm hvv hu
  have hargs:VRL Γ (u::args.toList.map (evl C σ)) (#[u']++args.map a.eval).toList:=by
   simp only [Array.toList_append,Array.toList_map,VRL]
   exact⟨u',_,rfl,hvu,VRL_map hev _⟩
  have harr:(⟨(#[u']++args.map a.eval).toList⟩:Array Value)=#[u']++args.map a.eval:=by simp
  have hexec:(execOp a.eval o).run C.P w=(callFunc g (#[u']++args.map a.eval)).run C.P w:=by
   have hru':=hru (C.P.types.size+99)
   have e1:(#[a.eval r]++args.map a.eval)[0]?=some (.iface t v'):=by rw [ev',Array.getElem?_append_left (Nat.zero_lt_one)];rfl
   have e2:(#[a.eval r]++args.map a.eval).extract 1 (#[a.eval r]++args.map a.eval).size=args.map a.eval:=by
    apply Array.ext'
    rw [Array.toList_extract,List.extract_eq_take_drop,Array.toList_append,Array.size_append]
    exact List.take_of_length_le (by simp)
   simp only [execOp,e,resolve,pure_bind,invoke,e1,e2,callMethod]
   rw [Sem.run_bind]
   have e3:(program:Sem Program).run C.P w=.ok C.P w:=rfl
   rw [e3]
   simp only [Result.andThen_ok]
   rw [show C.P.types.size+Made.depth=C.P.types.size+99+1 from rfl,Sem.run_bind,hru']
   rfl
  show o.uponIn (Fz ro) 0 C.P a next Q ((o.semAt ro a.eval).run C.P w)
  rw [hx,hexec]
  rcases hH Γ w _ h hargs with ⟨h1,h2⟩ | ⟨v',w',h1,h2⟩
  ·rw [harr] at h1 h2
   rw [h1]
   exact⟨fun hd=>by simp [Fz,Fence.wide] at hd,calls_in (h2.mono hpost)⟩
  ·rw [harr] at h1
   rw [h1]
   exact hpost _ _ h2
 ·rename_i args argTypes e
  have hx:=hsem (by rw [e];simp)
  obtain⟨args⟩:=args
  obtain⟨argTypes⟩:=argTypes
  simp only at hv
  split at hv <;> try exact hv.elim
  rename_i s x t t'
  split at hv <;> try exact hv.elim
  rename_i hni
  obtain⟨v',w',h1,h2⟩:=append_sound (ty:=o.type) h (hev s) (hev x) hni hv
  exact valu (by rw [hx];simp [execOp,e,resolve,invoke,builtin,h1]) h2
 ·rename_i args argTypes e
  have hx:=hsem (by rw [e];simp)
  obtain⟨args⟩:=args
  obtain⟨argTypes⟩:=argTypes
  simp only at hv
  split at hv <;> try exact hv.elim
  rename_i s x t t'
  obtain⟨v',w',h1,h2⟩:=copy_sound (t':=t') (ty:=o.type) h (hev s) (hev x) hv
  exact valu (by rw [hx];simp [execOp,e,resolve,invoke,builtin,h1]) h2
 ·rename_i args argTypes e
  have hx:=hsem (by rw [e];simp)
  obtain⟨args⟩:=args
  obtain⟨argTypes⟩:=argTypes
  simp only at hv
  split at hv <;> try exact hv.elim
  rename_i x t
  obtain⟨v',w',h1,h2⟩:=clear_sound (ty:=o.type) h (hev x) hv
  exact valu (by rw [hx];simp [execOp,e,resolve,invoke,builtin,h1]) h2
 ·rename_i args argTypes e
  have hx:=hsem (by rw [e];simp)
  obtain⟨args⟩:=args
  obtain⟨argTypes⟩:=argTypes
  simp only at hv
  split at hv <;> try exact hv.elim
  rename_i x
  obtain⟨v',w',h1,h2⟩:=data_sound (ts:=⟨argTypes⟩) h (hev x) hv
  exact valu (by rw [hx];simp [execOp,e,resolve,invoke,builtin,h1]) h2
 ·rename_i args argTypes e
  have hx:=hsem (by rw [e];simp)
  obtain⟨args⟩:=args
  obtain⟨argTypes⟩:=argTypes
  simp only at hv
  split at hv <;> try exact hv.elim
  rename_i x y t t'
  obtain⟨v',w',h1,h2⟩:=ustr_sound (t':=t') (ty:=o.type) h (hev x) (hev y) hv
  exact valu (by rw [hx];simp [execOp,e,resolve,invoke,builtin,h1]) h2
 ·rename_i sc dc x e
  have hx:=hsem (by rw [e];simp)
  split at hv
  ·rename_i el hd
   obtain⟨v',w',h1,h2⟩:=bytes_sound (d:=dc) h hd (hev x) hv
   exact valu (by rw [hx];simp [execOp,e,h1]) h2
  ·obtain⟨v,hy,hk⟩:=PRes.yld hv
   obtain⟨v',h1,h2⟩:=pop_sound h hev o (v:=v) (by rw [e];exact hy)
   exact valu (by rw [hx];exact h1) ⟨v,H,Γ,hk,h2,Later.refl h _ (Nat.le_refl _)⟩
 ·rename_i f args argTypes e
  have hf:=hev f
  split at hv <;> try exact hv.elim
  rename_i g first cap ef
  obtain⟨fn',first',cap',ef',hfr,hfirst,hcap⟩:=fnOf_sound hf ef
  simp only [FR] at hfr
  subst hfr
  have hro:ro=none:=by
   cases ro with
   | none=>rfl
   | some l=>simp at hrd
  subst hro
  show o.uponIn (Fz none) 0 C.P a next Q ((execOp a.eval o).run C.P w)
  have:(execOp a.eval o).run C.P w=.ok (.defer { target:=.fn (.func g) cap',args:=first'++args.map a.eval }) w:=by
   simp [execOp,e,resolve,ef',Deferred.ofValue]
  rw [this]
  refine hC.k und _ H Γ undef _ w hv (VR_undef Γ) ?_ (Later.refl h _ (Nat.le_refl _))
  simp only [DRL]
  refine⟨_,_,rfl,?_,hS.df⟩
  simp only [DR]
  refine⟨cap',first'++args.map a.eval,rfl,hcap,?_⟩
  simp only [Array.toList_append,Array.toList_map]
  exact VRL_append hfirst (VRL_map hev _)
 ·rename_i x e
  have hx:=hsem (by rw [e];simp)
  have hxx:=hev x
  unfold ePanic at hv
  split at hv <;> try exact hv.elim
  rename_i tv ex
  obtain⟨t,u⟩:=tv
  show o.uponIn (Fz ro) 0 C.P a next Q ((o.semAt ro a.eval).run C.P w)
  rw [hx]
  obtain⟨u',eu,_⟩:=(ifParts_sound hxx).2 _ _ ex
  have:(execOp a.eval o).run C.P w=.halt (.panic (.iface t u')) w:=by
   simp [execOp,e,eu,Instr.panic,goPanic,Sem.run]
  rw [this]
  rw [eu] at hxx
  exact hC.x _ H Γ _ w hv (PEL_single hxx) (Later.refl h _ (Nat.le_refl _))
 ·rename_i t e
  have hx:=hsem (by rw [e];simp)
  obtain⟨v',w',h1,h2⟩:=makeMap_sound h hv
  exact valu (by rw [hx];simp [execOp,e,h1]) h2
 ·rename_i t m k x e
  have hx:=hsem (by rw [e];simp)
  obtain⟨w',h1,v,H',Γ',k1,rfl,k3⟩:=insert_sound h (hev m) (hev k) (hev x) hv
  show o.uponIn (Fz ro) 0 C.P a next Q ((o.semAt ro a.eval).run C.P w)
  rw [hx]
  have:(execOp a.eval o).run C.P w=.ok .skip w':=by simp [execOp,e,h1]
  rw [this]
  exact hC.k und ds H' Γ' undef a.defers w' k1 (VR_undef _) (hde (k3.le h)) k3
 ·rename_i t m k x e
  have hx:=hsem (by rw [e];simp)
  obtain⟨w',h1,v,H',Γ',k1,rfl,k3⟩:=insert_sound h (hev m) (hev k) (hev x) hv
  show o.uponIn (Fz ro) 0 C.P a next Q ((o.semAt ro a.eval).run C.P w)
  rw [hx]
  have:(execOp a.eval o).run C.P w=.ok .skip w':=by simp [execOp,e,h1]
  rw [this]
  exact hC.k und ds H' Γ' undef a.defers w' k1 (VR_undef _) (hde (k3.le h)) k3
 ·rename_i t x e
  have hx:=hsem (by rw [e];simp)
  obtain⟨v',w',h1,h2⟩:=range_sound h (hev x) hv
  exact valu (by rw [hx];simp [execOp,e,h1]) h2
 ·rename_i x b e
  have hx:=hsem (by rw [e];simp)
  obtain⟨v',w',h1,h2⟩:=next_sound (ty:=o.type) h (hev x) hv
  exact valu (by rw [hx];simp [execOp,e,h1]) h2
 ·rename_i bop t x y c e
  have hx:=hsem (by rw [e];simp)
  split at hv
  ·rename_i neg b p hq
   obtain⟨v',w',h1,h2⟩:=nil_sound (X:=x) (Y:=y) h (hev x) (hev y) hq hv
   exact valu (by rw [hx];simp only [execOp,e];exact lift_run h1) h2
  ·obtain⟨v,hy,hk⟩:=PRes.yld hv
   obtain⟨v',h1,h2⟩:=pop_sound h hev o (v:=v) (by rw [e];exact hy)
   exact valu (by rw [hx];exact h1) ⟨v,H,Γ,hk,h2,Later.refl h _ (Nat.le_refl _)⟩
 ·rename_i op hne
  obtain⟨v,hy,hk⟩:=PRes.yld hv
  obtain⟨v',h1,h2⟩:=pop_sound h hev o hy
  have hx:=hsem (by
   intro c hc
   rw [hc] at hy
   simp [pop,PRes.Yld] at hy)
  exact valu (by rw [hx];exact h1) ⟨v,H,Γ,hk,h2,Later.refl h _ (Nat.le_refl _)⟩
theorem onth_eq (l:List Oper) (n:Nat):onth l n=l[n]?:=by
 induction l generalizing n with
 | nil=>rfl
 | cons x l ih=>cases n with
  | zero=>rfl
  | succ n=>simpa [onth] using ih n
theorem gd_sound (hS:SR df0 Γ σ ds N a) {ops:Array Oper} {o:Oper} {b:Bool} (h:gd ops.toList o σ=some b):Region.wanted o (yielded ops a.tmps)=b:=by
 unfold gd at h
 unfold Region.wanted
 split at h
 ·rename_i e
  rw [e]
  injection h
 ·rename_i j want e
  rw [e]
  simp only
  split at h <;> try (cases h;done)
  rename_i oj hj
  rw [onth_eq,Array.getElem?_toList] at hj
  split at h <;> try (cases h;done)
  rename_i d hd
  have ht:=hS.tm d
  unfold yielded
  rw [hj]
  simp only [Option.bind_some,hd]
  split at h
  ·rename_i c ec
   rw [ec] at ht
   have ht:=VR_bool ht
   injection h with h
   rw [Array.getD_eq_getD_getElem?] at ht
   cases hg:a.tmps[d]? with
   | none=>rw [hg] at ht;simp [undef] at ht
   | some v=>
    rw [hg] at ht
    simp only [Option.getD_some] at ht
    subst ht
    rw [← h]
    cases c <;> cases want <;> rfl
  ·rename_i vs ec
   rw [ec] at ht
   injection h with h
   subst h
   simp only [VR] at ht
   obtain⟨vs',ht,_⟩:=ht
   rw [Array.getD_eq_getD_getElem?] at ht
   cases hg:a.tmps[d]? with
   | none=>rfl
   | some v=>
    rw [hg] at ht
    simp only [Option.getD_some] at ht
    subst ht
    rfl
  ·cases h
theorem vput_some {N:Nat} {d:Nat} {σ:Sg} {v:AV} {K:Sg→Prop} (h:vput N (some d) σ v K):d<N∧K (upd σ d v):=by
 simp only [vput] at h
 split at h
 ·rename_i e;exact⟨by simpa using e,force_eq h⟩
 ·exact h.elim
theorem vOps_sound {ro:Option Nat} {rd:Bool} (hrd:rd=ro.isSome) {ops:Array Oper} {Q:Exit→Act→World→Prop} {n0:Nat}
  {K:Sg→List AD→Hp→Prop} {X:List AP→Sg→List AD→Hp→Prop} :
  ∀ (rest pre:List Oper) (σ:Sg) (ds:List AD) (H:Hp) (Γ:Gm) (a:Act) (w:World),ops.toList=pre++rest→n0≤H.next→R C Γ H w→SR df0 Γ σ ds N a →
   vOps C rd N ops.toList rest σ ds H K X →
   (∀ σ' ds' H' Γ' a' w',K σ' ds' H'→SR df0 Γ' σ' ds' N a'→Later C n0 Γ H w Γ' H' w'→Q .normal a' w') →
   (∀ ch σ' ds' H' Γ' ch' a' w',X ch σ' ds' H'→PEL Γ' ch ch'→SR df0 Γ' σ' ds' N a'→Later C n0 Γ H w Γ' H' w'→Q (.panic ch') a' w') →
   wpOpsIn (Fz ro) 0 C.P ops Q (List.range' pre.length rest.length) a w
 | [],pre,σ,ds,H,Γ,a,w,_,hn,hR,hS,hv,hK,_=>by
  simp only [List.length_nil,List.range'_zero,wpOpsIn]
  exact hK σ ds H Γ a w hv hS (Later.refl hR n0 hn)
 | o::rest,pre,σ,ds,H,Γ,a,w,hops,hn,hR,hS,hv,hK,hX=>by
  have hi:ops[pre.length]?=some o:=by
   rw [← Array.getElem?_toList,hops]
   simp
  simp only [List.length_cons,List.range'_succ,wpOpsIn,hi]
  have ih:=vOps_sound hrd (ops:=ops) (Q:=Q) (n0:=n0) (K:=K) (X:=X) rest (pre++[o])
  simp only [List.length_append,List.length_cons,List.length_nil,Nat.zero_add] at ih
  have hops':ops.toList=(pre++[o])++rest:=by rw [hops];simp
  -- behind the operation
  have go:∀ (v:AV) (ds':List AD) (H1:Hp) (Γ1:Gm) (v':Value) (dd':List Deferred) (w1:World),
    vput N o.dst σ v (fun σ'=>vOps C rd N ops.toList rest σ' ds' H1 K X)→VR Γ1 v v'→DRL df0 Γ1 ds' dd'→Later C H.next Γ H w Γ1 H1 w1 →
    wpOpsIn (Fz ro) 0 C.P ops Q (List.range' (pre.length+1) rest.length) (({ a with defers:=dd' }:Act).put o.dst v') w1:=by
   intro v ds' H1 Γ1 v' dd' w1 hp hvv hdd hL
   have hLn:Later C n0 Γ H w Γ1 H1 w1:=hL.mono hn
   cases hd:o.dst with
   | none=>
    rw [hd] at hp
    refine ih σ ds' H1 Γ1 _ w1 hops' (Nat.le_trans hn hL.2.2.1) hL.1 ⟨hS.size,fun t=>VR_mono (hL.le hR) _ _ (hS.tm t),hdd⟩ hp (fun σ' ds'' H' Γ' a' w' hk hs hl=>hK _ _ _ _ _ _ hk hs (hLn.trans hl)) (fun ch σ' ds'' H' Γ' ch' a' w' hx hp hs hl=>hX _ _ _ _ _ _ _ _ hx hp hs (hLn.trans hl))
   | some d=>
    rw [hd] at hp
    obtain⟨hdN,hp⟩:=vput_some hp
    exact ih (upd σ d v) ds' H1 Γ1 _ w1 hops' (Nat.le_trans hn hL.2.2.1) hL.1 (hS.put (hL.le hR) hvv hdd hdN) hp (fun σ' ds'' H' Γ' a' w' hk hs hl=>hK _ _ _ _ _ _ hk hs (hLn.trans hl)) (fun ch σ' ds'' H' Γ' ch' a' w' hx hp hs hl=>hX _ _ _ _ _ _ _ _ hx hp hs (hLn.trans hl))
  simp only [vOps_cons] at hv
  split at hv
  ·rename_i hg
   rw [gd_sound hS hg]
   simp only [if_true]
   exact vOp_sound hR hS hrd ⟨fun v ds' H' Γ' v' dd' w' hk hvv hdd hL=>go v ds' H' Γ' v' dd' w' hk hvv hdd hL,
    fun ch H' Γ' ch' w' hx hp hL=>hX ch σ ds H' Γ' ch' a w' hx hp (hS.mono (hL.le hR)) (hL.mono hn)⟩ hv
  ·rename_i hg
   rw [gd_sound hS hg]
   simp only [Bool.false_eq_true,if_false]
   exact⟨fun _ _=>trivial,go und ds H Γ undef a.defers w hv (VR_undef Γ) hS.df (Later.refl hR _ (Nat.le_refl _))⟩
  ·exact hv.elim
end
end Go.Proofs.YtkegmchjobphdaaGreatDoor.Y
namespace Go.Proofs.YtkegmchjobphdaaGreatDoor.Y
open Go
theorem elemN_iff {n:Nat} {l:List Nat}:elemN n l=true ↔ n∈l:=by
 induction l with
 | nil=>simp [elemN]
 | cons m r ih=>
  simp only [elemN]
  by_cases e:n=m
  ·subst e;simp
  ·have:Nat.beq n m=false:=by
    cases h:Nat.beq n m
    ·rfl
    ·exact absurd (Nat.eq_of_beq_eq_true h) e
   rw [this]
   simp [ih,e]
theorem elemN_false {n:Nat} {l:List Nat}:elemN n l=false ↔ n ∉ l:=by
 rw [← elemN_iff];simp
inductive Bef (all:List Oper):Nat→Nat→Prop
 | one {i j:Nat} {o:Oper}:onth all i=some o→j∈dps o→Bef all i j
 | more {i k j:Nat} {o:Oper}:onth all i=some o→k∈dps o→Bef all k j→Bef all i j
def Clo (all:List Oper) (S:Nat→Bool):Prop:=∀ i o,S i=true→onth all i=some o→∀ d∈dps o,S d=true
theorem Bef.mem {all:List Oper} {S:Nat→Bool} (hS:Clo all S) {i j:Nat} (h:Bef all i j):(∀ o,onth all i=some o→∀ d∈dps o,S d=true)→S j=true:=by
 induction h with
 | one h1 h2=>exact fun h=>h _ h1 _ h2
 | more h1 h2 _ ih=>exact fun h=>ih fun o ho=>hS _ o (h _ h1 _ h2) ho
theorem nthN_append (a:List Nat) (m i:Nat):nthN (a++[m]) i=if i=a.length then m else nthN a i:=by
 induction a generalizing i with
 | nil=>cases i <;> simp [nthN]
 | cons x r ih=>
  cases i with
  | zero=>simp [nthN]
  | succ i=>simp [nthN,ih]
theorem maskOf_spec {acc:List Nat} {j:Nat}:∀ {l:List Nat},(maskOf acc l).testBit j=true→∃ d∈l,j=d∨(nthN acc d).testBit j=true
 | [],h=>by simp [maskOf] at h
 | d::r,h=>by
  simp only [maskOf,Nat.testBit_or,Bool.or_eq_true,Nat.testBit_two_pow,decide_eq_true_eq] at h
  rcases h with (h | h) | h
  ·exact⟨d,by simp, .inl h.symm⟩
  ·exact⟨d,by simp, .inr h⟩
  ·obtain⟨d',h1,h2⟩:=maskOf_spec h
   exact⟨d',List.mem_cons_of_mem _ h1,h2⟩
theorem masks_sound {all:List Oper}:∀ (r pre:List Oper) (acc:List Nat),all=pre++r→acc.length=pre.length→(∀ i j,(nthN acc i).testBit j=true→Bef all i j)→∀ i j,(nthN (masks r acc) i).testBit j=true→Bef all i j
 | [],_,_,_,_,h,i,j,hm=>h i j hm
 | o::r,pre,acc,ha,hl,h,i,j,hm=>by
  refine masks_sound r (pre++[o]) _ (by rw [ha];simp) (by simp [hl]) (fun i j hij=>?_) i j hm
  rw [nthN_append] at hij
  split at hij
  ·rename_i e
   have ho:onth all i=some o:=by rw [onth_eq,ha,e,hl];simp
   obtain⟨d,h1,rfl | h2⟩:=maskOf_spec hij
   ·exact .one ho h1
   ·exact .more ho h1 (h _ _ h2)
  ·exact h i j hij
theorem allIx_spec {f:Nat→Oper→Bool}:∀ {l:List Oper} {k:Nat},allIx f k l=true→∀ {i:Nat} {o:Oper},onth l i=some o→f (k+i) o=true
 | [],_,_,i,o,ho=>by simp [onth] at ho
 | x::l,k,h,i,o,ho=>by
  simp only [allIx,Bool.and_eq_true] at h
  cases i with
  | zero=>simp only [onth,Option.some.injEq] at ho;subst ho;exact h.1
  | succ i=>
   have:=allIx_spec h.2 (i:=i) (o:=o) (by simpa [onth] using ho)
   rwa [show k+1+i=k+(i+1) by omega] at this
def SO (N:Nat) (all:List Oper):Prop:=(∀ j oj d,onth all j=some oj→oj.dst=some d→d<N) ∧
 ∀ i j oi oj d,onth all i=some oi→onth all j=some oj→i ≠ j→oj.dst=some d→(d∈looks all oi∨oi.dst=some d)→Bef all i j∨Bef all j i
theorem slotsOK_spec {N:Nat} {all:List Oper} (h:slotsOK N all (masks all [])=true):SO N all:=by
 have hm:∀ i j,(nthN (masks all []) i).testBit j=true→Bef all i j:=masks_sound all [] [] rfl rfl (by intro i j hij;simp [nthN] at hij)
 refine⟨fun j oj d h1 h2=>?_,fun i j oi oj d h1 h2 hne h3 h4=>?_⟩
 ·have:=allIx_spec h h1
  simp only [h2,Bool.and_eq_true] at this
  exact Nat.lt_of_lt_of_le (Nat.lt_succ_self d) (Nat.le_of_ble_eq_true this.1)
 ·have:=allIx_spec h h2
  simp only [h3,Bool.and_eq_true] at this
  have:=allIx_spec this.2 h1
  simp only [Nat.zero_add,Bool.or_eq_true,Bool.not_eq_true',Bool.or_eq_false_iff] at this
  rcases this with ((h5 | h5) | h5) | h5
  ·exact absurd (Nat.eq_of_beq_eq_true h5) hne
  ·exfalso
   rcases h4 with h4 | h4
   ·rw [elemN_iff.2 h4] at h5;cases h5.1
   ·rw [h4] at h5;simp at h5
  ·exact .inl (hm _ _ h5)
  ·exact .inr (hm _ _ h5)
def dm (L:List En):List Nat:=L.map (·.i)
def LOK (all:List Oper):List En→Prop
 | []=>True
 | e::L=>onth all e.i=some e.o∧(∀ d∈dps e.o,d∈dm L)∧e.i ∉ dm L∧LOK all L
theorem LOK.tail {all:List Oper} {A B:List En} (h:LOK all (A++B)):LOK all B:=by
 induction A with
 | nil=>exact h
 | cons x r ih=>exact ih h.2.2.2
theorem LOK.notin {all:List Oper} {A B:List En} (h:LOK all (A++B)) {x:En} (hx:x∈A):x.i ∉ dm B:=by
 induction A with
 | nil=>simp at hx
 | cons y r ih=>
  rcases List.mem_cons.1 hx with rfl | hx
  ·intro hm
   refine h.2.2.1 ?_
   show x.i∈dm (r++B)
   simp only [dm,List.map_append,List.mem_append] at hm ⊢
   exact Or.inr hm
  ·exact ih h.2.2.2 hx
theorem LOK.get {all:List Oper} {L:List En} (h:LOK all L) {x:En} (hx:x∈L):onth all x.i=some x.o∧∀ d∈dps x.o,d∈dm L:=by
 induction L with
 | nil=>simp at hx
 | cons y r ih=>
  rcases List.mem_cons.1 hx with rfl | hx
  ·exact⟨h.1,fun d hd=>List.mem_cons_of_mem _ (h.2.1 d hd)⟩
  ·obtain⟨h1,h2⟩:=ih h.2.2.2 hx
   exact⟨h1,fun d hd=>List.mem_cons_of_mem _ (h2 d hd)⟩
theorem LOK.clo {all:List Oper} {L:List En} (h:LOK all L):Clo all (fun i=>elemN i (dm L)):=by
 intro i o hi ho d hd
 obtain⟨x,hx,rfl⟩:=List.mem_map.1 (elemN_iff.1 hi)
 obtain⟨h1,h2⟩:=h.get hx
 rw [h1] at ho
 injection ho with ho
 subst ho
 exact elemN_iff.2 (h2 d hd)
theorem ap_skip {σ0:Sg} {t:Nat} {A B:List En} (h:∀ x∈A,x.o.dst ≠ some t):ap σ0 (A++B) t=ap σ0 B t:=by
 induction A with
 | nil=>rfl
 | cons x r ih=>
  simp only [List.cons_append,ap]
  have hx:=h x (by simp)
  have ih:=ih fun y hy=>h y (List.mem_cons_of_mem _ hy)
  cases e:x.o.dst with
  | none=>exact ih
  | some d=>
   have hne:t ≠ d:=fun e'=>hx (by rw [e,e'])
   simp only [upd_other _ _ hne,ih]
theorem ap_mid {σ0:Sg} {t:Nat} {A B:List En} {e:En} (h:e.o.dst ≠ some t):ap σ0 (A++e::B) t=ap σ0 (A++B) t:=by
 induction A with
 | nil=>
  simp only [List.nil_append,ap]
  cases e':e.o.dst with
  | none=>rfl
  | some d=>
   have hne:t ≠ d:=fun k=>h (by rw [e',k])
   simp only [upd_other _ _ hne]
 | cons x r ih=>
  simp only [List.cons_append,ap]
  cases x.o.dst with
  | none=>exact ih
  | some d=>
   simp only [upd]
   split
   ·rfl
   ·exact ih
theorem ap_filter {σ0:Sg} {t:Nat} {S:Nat→Bool} {L:List En} (h:∀ x∈L,x.o.dst=some t→S x.i=true):ap σ0 (L.filter fun e=>S e.i) t=ap σ0 L t:=by
 induction L with
 | nil=>rfl
 | cons x r ih=>
  have ih:=ih fun y hy=>h y (List.mem_cons_of_mem _ hy)
  have hx:=h x (by simp)
  by_cases hs:S x.i=true
  ·rw [List.filter_cons_of_pos (p:=fun e:En=>S e.i) hs]
   simp only [ap]
   cases x.o.dst with
   | none=>exact ih
   | some d=>
    simp only [upd]
    split
    ·rfl
    ·exact ih
  ·rw [List.filter_cons_of_neg (p:=fun e:En=>S e.i) hs,ih]
   simp only [ap]
   cases e:x.o.dst with
   | none=>rfl
   | some d=>
    have hne:t ≠ d:=fun k=>hs (hx (by rw [e,k]))
    simp only [upd_other _ _ hne]
section
variable {N:Nat} {all:List Oper} {S:Nat→Bool} {L1 L2:List En} {e:En} {σ0:Sg}
theorem later_no (hso:SO N all) (hl:LOK all (L1++e::L2)) (hS:Clo all S) (he:S e.i=false) {d:Nat} (hd:d∈looks all e.o∨e.o.dst=some d) {x:En} (hx:x∈L1) (hxS:S x.i=true):x.o.dst ≠ some d:=by
 intro hxd
 have hle:=hl.tail
 have hx1:=hl.get (List.mem_append_left _ hx)
 have hne:e.i ≠ x.i:=fun k=>hl.notin hx (by rw [← k];simp [dm])
 rcases hso.2 _ _ _ _ d hle.1 hx1.1 hne hxd hd with h | h
 ·have:=h.mem hle.2.2.2.clo (fun o ho dd hdd=>by
   rw [hle.1] at ho;injection ho with ho;subst ho
   exact elemN_iff.2 (hle.2.1 dd hdd))
  exact hl.notin hx (by simp only [dm,List.map_cons];exact List.mem_cons_of_mem _ (elemN_iff.1 this))
 ·have:=h.mem hS (fun o ho dd hdd=>hS _ _ hxS ho dd hdd)
  rw [he] at this
  cases this
theorem view (hso:SO N all) (hl:LOK all (L1++e::L2)) (hS:Clo all S) (he:S e.i=false) (hd:∀ d∈dps e.o,S d=true) {t:Nat} (ht:t∈looks all e.o) :
  ap σ0 ((L1++e::L2).filter fun x=>S x.i) t=ap σ0 L2 t:=by
 have hle:=hl.tail
 rw [List.filter_append,ap_skip,List.filter_cons_of_neg (by rw [he];simp),ap_filter]
 ·intro x hx hxd
  have hx1:=hle.2.2.2.get hx
  have hne:e.i ≠ x.i:=fun k=>hle.2.2.1 (by rw [k];exact List.mem_map.2 ⟨x,hx,rfl⟩)
  rcases hso.2 _ _ _ _ t hle.1 hx1.1 hne hxd (.inl ht) with h | h
  ·exact h.mem hS (fun o ho dd hdd=>by
    rw [hle.1] at ho;injection ho with ho;subst ho
    exact hd dd hdd)
  ·have:=h.mem hle.2.2.2.clo (fun o ho dd hdd=>by
    rw [hx1.1] at ho;injection ho with ho;subst ho
    exact elemN_iff.2 (hx1.2 dd hdd))
   exact absurd (elemN_iff.1 this) hle.2.2.1
 ·intro x hx
  obtain⟨h1,h2⟩:=List.mem_filter.1 hx
  exact later_no hso hl hS he (.inl ht) h1 h2
theorem filter_put (hso:SO N all) (hl:LOK all (L1++e::L2)) (hS:Clo all S) (he:S e.i=false) {S':Nat→Bool} (hS':∀ i,S' i=(S i || Nat.beq i e.i)) (t:Nat) :
  ap σ0 ((L1++e::L2).filter fun x=>S' x.i) t=(match e.o.dst with | none=>ap σ0 ((L1++e::L2).filter fun x=>S x.i) | some d=>upd (ap σ0 ((L1++e::L2).filter fun x=>S x.i)) d e.v) t:=by
 have hle:=hl.tail
 have f1:∀ (M:List En),(∀ x∈M,x.i ≠ e.i)→M.filter (fun x=>S' x.i)=M.filter fun x=>S x.i:=by
  intro M hM
  apply List.filter_congr
  intro x hx
  rw [hS']
  have:Nat.beq x.i e.i=false:=by
   cases h:Nat.beq x.i e.i
   ·rfl
   ·exact absurd (Nat.eq_of_beq_eq_true h) (hM x hx)
  simp [this]
 have h1:∀ x∈L1,x.i ≠ e.i:=fun x hx k=>hl.notin hx (by rw [k];simp [dm])
 have h2:∀ x∈L2,x.i ≠ e.i:=fun x hx k=>hle.2.2.1 (by rw [← k];exact List.mem_map.2 ⟨x,hx,rfl⟩)
 rw [List.filter_append,List.filter_append,List.filter_cons_of_pos (by rw [hS'];simp),List.filter_cons_of_neg (by rw [he];simp),f1 _ h1,f1 _ h2]
 cases hd:e.o.dst with
 | none=>exact ap_mid (by rw [hd];simp)
 | some d=>
  simp only
  by_cases k:t=d
  ·subst k
   rw [upd_same,ap_skip]
   ·simp only [ap,hd,upd_same]
   ·intro x hx
    obtain⟨h1,h2⟩:=List.mem_filter.1 hx
    exact later_no hso hl hS he (.inr hd) h1 h2
  ·rw [upd_other _ _ k]
   exact ap_mid (by rw [hd];intro k';injection k' with k';exact k k'.symm)
theorem first_missing (h:LOK all L1) (hm:∃ e∈L1,S e.i=false):∃ A e B,L1=A++e::B∧S e.i=false∧∀ x∈B,S x.i=true:=by
 induction L1 with
 | nil=>obtain⟨e,he,_⟩:=hm;simp at he
 | cons x r ih=>
  by_cases hr:∃ e∈r,S e.i=false
  ·obtain⟨A,e,B,h1,h2,h3⟩:=ih h.2.2.2 hr
   exact⟨x::A,e,B,by rw [h1];rfl,h2,h3⟩
  ·obtain⟨e,he,hs⟩:=hm
   rcases List.mem_cons.1 he with rfl | he
   ·refine⟨[],e,r,rfl,hs,fun y hy=>?_⟩
    cases hy':S y.i
    ·exact absurd ⟨y,hy,hy'⟩ hr
    ·rfl
   ·exact absurd ⟨e,he,hs⟩ hr
end
end Go.Proofs.YtkegmchjobphdaaGreatDoor.Y
namespace Go.Proofs.YtkegmchjobphdaaGreatDoor.Y
open Go
section
variable {C:Cx}
theorem R.noob {Γ:Gm} {H:Hp} {w:World} (h:R C Γ H w):R C ⟨fun _=>none,Γ.fz⟩ ⟨0,[]⟩ w:=
 ⟨h.glob,fun _ _=>rfl,h.fzok,fun n o hn=>by simp [lget] at hn,fun n o q hn=>by simp [lget] at hn,fun n o m p q q' hn=>by simp [lget] at hn⟩
theorem own_none {Γ:Gm} {n k:Nat} (h:Own Γ ⟨n,[]⟩ k):False:=by
 obtain⟨n,o,q,h1,_⟩:=h
 simp [lget] at h1
theorem lift_post {Γ1:Gm} {H1:Hp} {w:World} (hR1:R C Γ1 H1 w) {Γd:Gm} {Hd:Hp} {w':World} (hLL:Later C 0 ⟨fun _=>none,Γ1.fz⟩ ⟨0,[]⟩ w Γd Hd w'):Later C H1.next Γ1 H1 w ⟨Γ1.nm,Γd.fz⟩ H1 w':=by
 have hT:=hLL.2.2.2
 have hkept:∀ k,k<w.heap.size→w'.heap[k]?=w.heap[k]?:=fun k hk=>hT.kept k hk own_none
 have hle:Γ1.le ⟨Γ1.nm,Γd.fz⟩:=⟨fun _ _ h=>h,hT.fz⟩
 have hobj:∀ n o,lget H1.l n=some o→∃ q,(⟨Γ1.nm,Γd.fz⟩:Gm).nm n=some q∧ObjR C.P ⟨Γ1.nm,Γd.fz⟩ w' q o:=by
  intro n o ho
  obtain⟨q,h1,h2⟩:=hR1.objs n o ho
  exact⟨q,h1,h2.ext hle fun hnl=>hkept _ (h2.blk_lt hnl)⟩
 have hown:∀ n o q,lget H1.l n=some o→o.fr=false→Γ1.nm n=some q→q.nl=false→Γd.fz q.blk=none:=by
  intro n o q h1 h2 h3 h4
  have h0:=hR1.own n o q h1 h2 h3 h4
  cases hx:Γd.fz q.blk with
  | none=>rfl
  | some a=>
   rcases hT.fzprov _ _ hx with h5 | h5 | h5
   ·simp only at h5;rw [h0] at h5;cases h5
   ·obtain⟨q',e1,e2⟩:=hR1.objs n o h1
    rw [h3] at e1;injection e1 with e1;subst e1
    have:=e2.blk_lt h4
    omega
   ·exact(own_none h5).elim
 refine⟨⟨hLL.1.glob,hR1.fresh,hLL.1.fzok,hobj,hown,hR1.apart⟩,fun _ _=>rfl,Nat.le_refl _,?_⟩
 refine⟨hT.os,hT.tape,hT.output,hT.size,fun k hk _=>hkept k hk,fun k hk=>.inr hk,hT.fz,fun k a hk=>?_⟩
 rcases hT.fzprov k a hk with h5 | h5 | h5
 ·exact .inl h5
 ·exact .inr (.inl h5)
 ·exact(own_none h5).elim
theorem datA_VR {Γ:Gm} {nm:Nat→Option Pl} {v:AV} {v':Value} (h:VR Γ v v'):VR ⟨nm,Γ.fz⟩ (datA v) v':=by
 cases v with
 | p x=>simp only [datA,VR] at h ⊢;exact h
 | _=>exact VR_junk _ _
theorem flat_lenS {α:Type} {s:Nat}:∀ {l:List (List α)},(∀ c∈l,c.length=s)→l.flatten.length=l.length * s
 | [],_=>by simp
 | c::l,h=>by
  rw [List.flatten_cons,List.length_append,h c (List.mem_cons_self ..),flat_lenS fun x hx=>h x (List.mem_cons_of_mem _ hx),List.length_cons,Nat.succ_mul];omega
theorem popB_sound {Γ:Gm} {H:Hp} {w:World} (h:R C Γ H w) {ev:Operand→AV} {ev':Operand→Value} (hev:∀ x,VR Γ (ev x) (ev' x)) {t:TypeId} {n:Nat} {parts:Array (Nat × Operand)} {v:AV} (hv:(popB C t n parts.toList ev).Yld v) :
  ∃ v' w' Γ',(Instr.buildSlice t n (parts.map fun p=>(p.1,ev' p.2))).run C.P w=.ok v' w'∧VR Γ' v v'∧Later C H.next Γ H w Γ' H w':=by
 have hev0:∀ x,VR ⟨fun _=>none,Γ.fz⟩ (datA (ev x)) (ev' x):=fun x=>datA_VR (hev x)
 have key:∃ (s:Nat) (e:TypeId) (c:Cn) (x:PV),v=.p x∧isCells c=true∧Res [(0,⟨e,true,c⟩)] 1 (.sl 0 s 0 n) x∧eBuild C t n parts.toList (fun x=>datA (ev x)) ⟨0,[]⟩ fun v0 H'=>v0=.sl 0 s 0 n∧H'=⟨1,[(0,⟨e,false,c⟩)]⟩:=by
  unfold popB at hv
  split at hv <;> try exact hv.elim
  rename_i e hu
  split at hv <;> try exact hv.elim
  rename_i s z hs hz
  split at hv <;> try exact hv.elim
  rename_i hc
  split at hv <;> try exact hv.elim
  rename_i cs hb
  have hcl:cs.length=n * s:=by
   simp only [Bool.and_eq_true] at hc
   rw [bld_length hb,mkz_length,Nat.eq_of_beq_eq_true hc.1.1.2]
  have h3:0<s:=by
   simp only [Bool.and_eq_true] at hc
   simpa using hc.1.2
  split at hv <;> try exact hv.elim
  ·rename_i xs hpl hcn
   obtain⟨c1,c2,c3⟩:=cnOf_spec hcn hcl
   have hv:v=.p (.lst xs):=hv
   have hs1:s=1:=c3 0
   have hl:xs.length=n:=by
    have:=congrArg List.length c2
    simp only [flat,List.length_map] at this
    rw [hcl,hs1,Nat.mul_one] at this
    exact this
   refine⟨s,e, .pu xs, .lst xs,hv,rfl,?_,?_⟩
   ·simp only [Res,lget]
    exact⟨xs,rfl,by omega,by rw [List.drop_zero,List.take_of_length_le (by omega)]⟩
   ·unfold eBuild
    simp only [hu,hs,hz,hc,hb,hpl,hcn]
    refine⟨?_,?_⟩ <;> first | trivial | rfl
  ·rename_i xss hpl hcn
   obtain⟨c1,c2,c3⟩:=cnOf_spec hcn hcl
   have hv:v=.p (.lsts s xss):=hv
   have hs1:∀ c∈xss,c.length=s:=c3 0
   have hl:xss.length=n:=by
    have:=congrArg List.length c2
    simp only [flat,List.length_map] at this
    rw [flat_lenS hs1,hcl] at this
    exact Nat.eq_of_mul_eq_mul_right h3 this
   refine⟨s,e, .pus xss, .lsts s xss,hv,rfl,?_,?_⟩
   ·simp only [Res,lget]
    exact⟨xss,rfl,by omega,by rw [List.drop_zero,List.take_of_length_le (by omega)]⟩
   ·unfold eBuild
    simp only [hu,hs,hz,hc,hb,hpl,hcn]
    refine⟨?_,?_⟩ <;> first | trivial | rfl
 obtain⟨s,e,c,x,rfl,hc,hres,hb⟩:=key
 obtain⟨v',w',h1,v0,H',Γ',⟨rfl,rfl⟩,h2,h3⟩:=buildSlice_sound h.noob hev0 hb
 obtain⟨Γd,e2,hLd⟩:=h3.1.mark (fs:=[0]) (by simp [marksOK,lget,hc])
 have hLL:=h3.trans (hLd.mono (Nat.zero_le _))
 have h2':=VR_mono (hLd.le h3.1) _ _ h2
 refine⟨v',w',_,h1,?_,lift_post h hLL⟩
 simp only [VR]
 exact Res_sound hLd.1 1 _ _ _ hres h2'
end
end Go.Proofs.YtkegmchjobphdaaGreatDoor.Y
namespace Go.Proofs.YtkegmchjobphdaaGreatDoor.Y
open Go
section
variable {C:Cx} {df0:Option (List Deferred)}
structure DI (C:Cx) (df0:Option (List Deferred)) (N:Nat) (all:List Oper) (σ0:Sg) (S:Nat→Bool) (L:List En) (ds:List AD) (Γ:Gm) (H:Hp) (a:Act) (w:World):Prop where
 lok:LOK all L
 clo:Clo all S
 sub:∀ i,S i=true→i∈dm L
 syn:∀ e∈L,e.sy=true→S e.i=true
 r:R C Γ H w
 sr:SR df0 Γ (ap σ0 (L.filter fun e=>S e.i)) ds N a
 held:∀ L1 e L2,L=L1++e::L2→e.sy=false→S e.i=false→HeldAt C all σ0 H e L2
theorem R.bare {Γ:Gm} {H:Hp} {w:World} (h:R C Γ H w):R C Γ ⟨H.next,[]⟩ w:=
 ⟨h.glob,h.fresh,h.fzok,fun n o hn=>by simp [lget] at hn,fun n o q hn=>by simp [lget] at hn,fun n o m p q q' hn=>by simp [lget] at hn⟩
theorem popO_sound {Γ:Gm} {H:Hp} {w:World} (h:R C Γ H w) {ev:Operand→AV} {ev':Operand→Value} (hev:∀ x,VR Γ (ev x) (ev' x)) (o:Oper) {v:AV} (hv:(popX C o.op ev (lkO o.op H)).Yld v) :
  ∃ v' w' Γ',(execOp ev' o).run C.P w=.ok (.value v') w'∧VR Γ' v v'∧Later C H.next Γ H w Γ' H w':=by
 have plain:(pop C.P o.op ev (lkO o.op H)).Yld v→∃ v' w' Γ',(execOp ev' o).run C.P w=.ok (.value v') w'∧VR Γ' v v'∧Later C H.next Γ H w Γ' H w':=by
  intro hv
  have:∃ v',(execOp ev' o).run C.P w=.ok (.value v') w∧VR Γ v v':=by
   unfold lkO at hv
   split at hv
   ·exact pop_sound h hev o hv
   ·exact pop_sound (H:=⟨H.next,[]⟩) h.bare hev o hv
  obtain⟨v',h1,h2⟩:=this
  exact⟨v',w,Γ,h1,h2,Later.refl h _ (Nat.le_refl _)⟩
 unfold popX at hv
 split at hv
 ·rename_i t n parts e
  obtain⟨v',w',Γ',h1,h2,h3⟩:=popB_sound h hev hv
  exact⟨v',w',Γ',by simp [execOp,e,h1],h2,h3⟩
 ·exact plain hv
theorem pop_defer {op:Op} {ev:Operand→AV} {lk:Nat→Option AObj} {v:AV} (h:(popX C op ev lk).Yld v):∀ c,op ≠ .defer c:=by
 rintro c rfl
 exact h
theorem rst_SR {Γ:Gm} {σ σ':Sg} {ds:List AD} {N:Nat} {a:Act} {l:List Nat} (h:SR df0 Γ σ ds N a) (he:∀ t∈l,σ t=σ' t):SR df0 Γ (rst l σ') ds N a:=by
 refine⟨h.size,fun t=>?_,h.df⟩
 unfold rst
 split
 ·rename_i e
  rw [← he t (elemN_iff.1 e)]
  exact h.tm t
 ·exact VR_junk _ _
theorem pend_sound {ro:Option Nat} {N:Nat} {ops:Array Oper} {σ0:Sg} {S:Nat→Bool} {L:List En} {ds:List AD} {Γ:Gm} {H:Hp} {a:Act} {w:World} {Q:Exit→Act→World→Prop} {K:Act→World→Prop}
  (hso:SO N ops.toList) (hI:DI C df0 N ops.toList σ0 S L ds Γ H a w) {L1 L2:List En} {e:En} (hL:L=L1++e::L2) (hs:e.sy=false) (he:S e.i=false) (hd:∀ d∈dps e.o,S d=true)
  (hn:∀ v' w' Γ',VR Γ' e.v v'→Later C H.next Γ H w Γ' H w'→K (a.put e.o.dst v') w'):wpOpIn (Fz ro) 0 C.P ops Q e.i K a w:=by
 have hh:=hI.held L1 e L2 hL hs he
 have hl:=hI.lok
 rw [hL] at hl
 have hsr:SR df0 Γ (rst (looks ops.toList e.o) (ap σ0 L2)) ds N a:=rst_SR hI.sr fun t ht=>by
  rw [hL];exact view hso hl hI.clo he hd ht
 have ho:ops[e.i]?=some e.o:=by
  have:=hl.tail.1
  rw [onth_eq,Array.getElem?_toList] at this
  exact this
 unfold wpOpIn
 simp only [ho]
 unfold HeldAt at hh
 split at hh
 ·rename_i hg
  rw [gd_sound hsr hg]
  simp only [if_true]
  refine⟨fun _ _=>trivial,?_⟩
  obtain⟨v',w',Γ',h1,h2,h3⟩:=popO_sound hI.r (evl_sound hI.r hsr) e.o hh
  show e.o.uponIn (Fz ro) 0 C.P a K Q ((e.o.semAt ro a.eval).run C.P w)
  rw [Oper.semAt_eq ro a.eval e.o (pop_defer hh),h1]
  exact hn v' w' Γ' h2 h3
 ·rename_i hg
  rw [gd_sound hsr hg]
  simp only [Bool.false_eq_true,if_false]
  refine⟨fun _ _=>trivial,hn undef w Γ ?_ (Later.refl hI.r _ (Nat.le_refl _))⟩
  rw [hh]
  exact VR_undef Γ
 ·exact hh.elim
theorem SR.putO {Γ Γ':Gm} {σ σ':Sg} {ds ds':List AD} {N:Nat} {a:Act} (h:SR df0 Γ σ ds N a) (hb:Γ.le Γ') {dst:Option Tmp} {v:AV} {v':Value} {dd':List Deferred} (hv:VR Γ' v v') (hd:DRL df0 Γ' ds' dd') (hN:∀ d,dst=some d→d<N)
  (hσ:∀ t,σ' t=(match dst with | none=>σ | some d=>upd σ d v) t):SR df0 Γ' σ' ds' N (({ a with defers:=dd' }:Act).put dst v'):=by
 cases dst with
 | none=>
  refine⟨h.size,fun t=>?_,hd⟩
  rw [hσ t]
  exact VR_mono hb _ _ (h.tm t)
 | some d=>
  have:σ'=upd σ d v:=funext hσ
  rw [this]
  exact h.put hb hv hd (hN d rfl)
theorem Held_get {all:List Oper} {σ0:Sg} {hs:List Nat} {H:Hp}:∀ {L:List En},Held C all σ0 hs H L→∀ {L1 L2:List En} {e:En},L=L1++e::L2→elemN e.i hs=true→HeldAt C all σ0 H e L2
 | [],_,L1,L2,e,h,_=>by simp at h
 | x::L,h,[],L2,e,hL,he=>by
  simp only [List.nil_append,List.cons.injEq] at hL
  obtain⟨rfl,rfl⟩:=hL
  simp only [Held,he] at h
  exact h.1
 | x::L,h,y::L1,L2,e,hL,he=>by
  simp only [List.cons_append,List.cons.injEq] at hL
  simp only [Held] at h
  split at h
  ·exact Held_get h.2 hL.2 he
  ·exact Held_get h hL.2 he
theorem HeldAt_calm {all:List Oper} {σ0:Sg} {H H':Hp} {e:En} {L:List En} (hr:rdHeap e.o.op=false) (h:HeldAt C all σ0 H e L):HeldAt C all σ0 H' e L:=by
 unfold HeldAt lkO at *
 simp only [hr] at *
 exact h
theorem advance {rd:Bool} {N:Nat} {all:List Oper} {ms:List Nat} {σ0:Sg} {K:Sg→List AD→Hp→Prop} {X:List AP→Sg→List AD→Hp→Prop} {S:Nat→Bool} {ds:List AD} {Γ:Gm} {H:Hp} {a:Act} {w:World} :
  ∀ (ot:OT) (L:List En) (pu:List Nat),otOK all ms ot (dm L) pu []=true→(∀ e∈L,e.sy=false→rdHeap e.o.op=true→e.i∈pu)→vD C rd all σ0 K X ot L ds H→DI C df0 N all σ0 S L ds Γ H a w →
   ∃ ot' L' pu',otOK all ms ot' (dm L') pu' []=true∧(∀ e∈L',e.sy=false→rdHeap e.o.op=true→e.i∈pu')∧vD C rd all σ0 K X ot' L' ds H∧DI C df0 N all σ0 S L' ds Γ H a w∧(ot'=.fin∨∃ i hs t alt,ot'=.eff i hs t alt)
 | .fin,L,pu,hok,hpu,hv,hI=>⟨_,L,pu,hok,hpu,hv,hI, .inl rfl⟩
 | .eff i hs t alt,L,pu,hok,hpu,hv,hI=>⟨_,L,pu,hok,hpu,hv,hI, .inr ⟨_,_,_,_,rfl⟩⟩
 | .nil,L,pu,hok,hpu,hv,hI=>by simp [otOK] at hok
 | .pure i t,L,pu,hok,hpu,hv,hI=>by
  simp only [otOK,Bool.and_eq_true,Bool.not_eq_true'] at hok
  obtain⟨hi,hok⟩:=hok
  simp only [vD_pure] at hv
  cases ho:onth all i with
  | none=>rw [ho] at hv;exact hv.elim
  | some o=>
   rw [ho] at hv hok
   simp only [Bool.and_eq_true] at hok hv
   obtain⟨hdp,hok⟩:=hok
   have hni:i ∉ dm L:=elemN_false.1 hi
   have hdep:∀ d∈dps o,d∈dm L:=fun d hd=>elemN_iff.1 (List.all_eq_true.1 hdp d hd)
   have hSi:S i=false:=by
    cases h:S i
    ·rfl
    ·exact absurd (hI.sub i h) hni
   -- with its value
   have go:∀ v,HeldAt C all σ0 H ⟨i,o,v,false⟩ L→DI C df0 N all σ0 S (⟨i,o,v,false⟩::L) ds Γ H a w:=by
    intro v hh
    refine⟨⟨ho,hdep,hni,hI.lok⟩,hI.clo,fun j hj=>List.mem_cons_of_mem _ (hI.sub j hj),fun e he hs=>?_,hI.r,?_,fun L1 e L2 hL hs hS=>?_⟩
    ·rcases List.mem_cons.1 he with rfl | he
     ·cases hs
     ·exact hI.syn e he hs
    ·rw [List.filter_cons_of_neg (by simp [hSi])]
     exact hI.sr
    ·cases L1 with
     | nil=>
      simp only [List.nil_append,List.cons.injEq] at hL
      obtain⟨rfl,rfl⟩:=hL
      exact hh
     | cons x L1=>
      simp only [List.cons_append,List.cons.injEq] at hL
      exact hI.held L1 e L2 hL.2 hs hS
   have hpu':∀ v,∀ e∈(⟨i,o,v,false⟩::L:List En),e.sy=false→rdHeap e.o.op=true→e.i∈(match rdHeap o.op with | true=>i::pu | false=>pu):=by
    intro v e he hs hr
    rcases List.mem_cons.1 he with rfl | he
    ·simp only at hr
     rw [hr]
     simp
    ·have:=hpu e he hs hr
     split
     ·exact List.mem_cons_of_mem _ this
     ·exact this
   cases hg:gd all o (rst (looks all o) (ap σ0 L)) with
   | none=>rw [hg] at hv;exact hv.elim
   | some b=>
    rw [hg] at hv
    cases b with
    | true=>
     obtain⟨v,h1,h2⟩:=PRes.yld hv
     exact advance t (⟨i,o,v,false⟩::L) _ hok (hpu' v) h2 (go v (by unfold HeldAt;simp only [hg];exact h1))
    | false=>
     exact advance t (⟨i,o,und,false⟩::L) _ hok (hpu' und) hv (go und (by unfold HeldAt;simp only [hg]))
def EffIt (C:Cx) (rd:Bool) (all:List Oper) (σ0:Sg) (K:Sg→List AD→Hp→Prop) (X:List AP→Sg→List AD→Hp→Prop) (i:Nat) (hs:List Nat) (t:OT) (L:List En) (ds:List AD) (H:Hp):Prop:=
 match onth all i with
   | none=>False
   | some o=>match gd all o (rst (looks all o) (ap σ0 L)) with
    | some true=>vOp C rd o (rst (looks all o) (ap σ0 L)) ds H
      (fun v ds' H'=>match hs with
       | []=>vD C rd all σ0 K X t (⟨i,o,v,true⟩::L) ds' H'
       | hs=>Held C all σ0 hs H' L∧vD C rd all σ0 K X t (⟨i,o,v,true⟩::L) ds' H')
      (fun ch H'=>X ch (unw all σ0) ds H')
    | some false=>vD C rd all σ0 K X t (⟨i,o,und,true⟩::L) ds H
    | none=>False
theorem eff_find {rd:Bool} {all:List Oper} {ms:List Nat} {σ0:Sg} {K:Sg→List AD→Hp→Prop} {X:List AP→Sg→List AD→Hp→Prop} {L:List En} {ds:List AD} {H:Hp} {dom pu:List Nat} {i:Nat} {o:Oper} (hi:i ∉ dom) (ho:onth all i=some o) (hd:∀ d∈dps o,d∈dom) :
  ∀ (ot:OT) (es:List Nat),otOK all ms ot dom pu es=true→(∃ j hs t alt,ot=.eff j hs t alt)→vD C rd all σ0 K X ot L ds H→i ∉ es →
   ∃ hs t,otOK all ms t (i::dom) pu []=true∧pu.all (fun k=>elemN k hs || (nthN ms i).testBit k)=true∧EffIt C rd all σ0 K X i hs t L ds H
 | .fin,_,_,h,_,_=>by obtain⟨_,_,_,_,h⟩:=h;cases h
 | .pure _ _,_,_,h,_,_=>by obtain⟨_,_,_,_,h⟩:=h;cases h
 | .nil,_,_,h,_,_=>by obtain⟨_,_,_,_,h⟩:=h;cases h
 | .eff j hs t alt,es,hok,_,hv,hes=>by
  simp only [otOK,Bool.and_eq_true,Bool.not_eq_true'] at hok
  obtain⟨hj,hok⟩:=hok
  cases hoj:onth all j with
  | none=>rw [hoj] at hok;cases hok
  | some oj=>
   rw [hoj] at hok
   simp only [Bool.and_eq_true] at hok
   obtain⟨⟨⟨h1,h2⟩,h3⟩,h4⟩:=hok
   have hit:EffIt C rd all σ0 K X j hs t L ds H∧(alt ≠ .nil→vD C rd all σ0 K X alt L ds H):=by
    simp only [vD_eff] at hv
    split at hv
    ·exact⟨hv,fun h=>absurd rfl h⟩
    ·exact⟨hv.1,fun _=>hv.2⟩
   by_cases e:i=j
   ·subst e
    exact⟨hs,t,h3,h2,hit.1⟩
   ·cases alt with
    | fin=>cases h4
    | pure _ _=>cases h4
    | nil=>
     exfalso
     have:=allIx_spec h4 ho
     simp only [Nat.zero_add,Bool.or_eq_true] at this
     rcases this with (h5 | h5) | h5
     ·exact hi (elemN_iff.1 h5)
     ·rcases List.mem_cons.1 (elemN_iff.1 h5) with h6 | h6
      ·exact e h6
      ·exact hes h6
     ·obtain⟨d,h6,h7⟩:=List.any_eq_true.1 h5
      rw [elemN_iff.2 (hd d h6)] at h7
      cases h7
    | eff j' hs' t' alt'=>
     exact eff_find hi ho hd _ (j::es) h4 ⟨_,_,_,_,rfl⟩ (hit.2 (by simp)) (by
      intro h
      rcases List.mem_cons.1 h with h | h
      ·exact e h
      ·exact hes h)
end
end Go.Proofs.YtkegmchjobphdaaGreatDoor.Y
namespace Go.Proofs.YtkegmchjobphdaaGreatDoor.Y
open Go
def unl:List Bool→Nat
 | []=>0
 | true::r=>unl r
 | false::r=>unl r+1
theorem unl_set:∀ {l:List Bool} {i:Nat},l[i]?=some false→unl (l.set i true)+1=unl l
 | [],i,h=>by simp at h
 | b::r,0,h=>by
  simp only [List.getElem?_cons_zero,Option.some.injEq] at h
  subst h
  rfl
 | b::r,i+1,h=>by
  simp only [List.getElem?_cons_succ] at h
  have:=unl_set h
  cases b <;> simp only [List.set_cons_succ,unl] <;> omega
theorem unl_zero:∀ {l:List Bool},unl l=0→∀ {i:Nat},l[i]? ≠ some false
 | [],_,i=>by simp
 | true::r,h,0=>by simp
 | true::r,h,i+1=>by
  simp only [List.getElem?_cons_succ]
  exact unl_zero (l:=r) h
 | false::r,h,_=>by simp [unl] at h
section
variable {C:Cx} {df0:Option (List Deferred)} {ops:Array Oper}
theorem mem_ready {listed:Array Bool} (hsz:listed.size=ops.size) {i:Nat}:i∈Region.ready .any ops listed ↔ ∃ o,onth ops.toList i=some o∧listed.getD i false=false∧∀ d∈dps o,listed.getD d false=true:=by
 unfold Region.ready
 rw [List.mem_filter,List.mem_range]
 constructor
 ·rintro⟨h1,h2⟩
  rw [Bool.and_eq_true] at h2
  have ho:ops[i]?=some (ops[i]'h1):=Array.getElem?_eq_getElem h1
  refine⟨ops[i]'h1,by rw [onth_eq,Array.getElem?_toList];exact ho,?_,fun d hd=>?_⟩
  ·have h3:=h2.1
   have hl:listed[i]?=some (listed[i]'(by omega)):=Array.getElem?_eq_getElem (by omega)
   simp only [Array.getD_eq_getD_getElem?,hl,Option.getD_some,Bool.not_eq_true'] at h3 ⊢
   exact h3
  ·have h3:=h2.2
   rw [ho] at h3
   simp only [Option.map_some,Option.getD_some] at h3
   rw [← Array.all_toList,List.all_eq_true] at h3
   unfold dps at hd
   obtain⟨e,he,rfl⟩:=List.mem_map.1 hd
   obtain⟨he1,he2⟩:=List.mem_filter.1 he
   have:=h3 e he1
   rw [he2] at this
   simpa using this
 ·rintro⟨o,h1,h2,h3⟩
  rw [onth_eq,Array.getElem?_toList] at h1
  have hlt:i<ops.size:=by
   rcases Nat.lt_or_ge i ops.size with h | h
   ·exact h
   ·rw [Array.getElem?_eq_none h] at h1;cases h1
  refine⟨hlt,?_⟩
  rw [Bool.and_eq_true,h1]
  refine⟨?_,?_⟩
  ·have hl:listed[i]?=some (listed[i]'(by omega)):=Array.getElem?_eq_getElem (by omega)
   simp only [Array.getD_eq_getD_getElem?,hl,Option.getD_some,Bool.not_eq_true'] at h2 ⊢
   exact h2
  ·simp only [Option.map_some,Option.getD_some]
   rw [← Array.all_toList,List.all_eq_true]
   intro e he
   by_cases hb:Region.binds .any e=true
   ·have:=h3 e.on (List.mem_map.2 ⟨e,List.mem_filter.2 ⟨he,hb⟩,rfl⟩)
    simp [hb,this]
   ·simp [hb]
theorem listed_set {listed:Array Bool} {i:Nat} (hi:i<listed.size) (j:Nat):(listed.setIfInBounds i true).getD j false=(listed.getD j false || Nat.beq j i):=by
 simp only [Array.getD_eq_getD_getElem?]
 by_cases e:j=i
 ·subst e
  rw [Array.getElem?_setIfInBounds_self_of_lt hi]
  simp
 ·rw [Array.getElem?_setIfInBounds_ne (Ne.symm e)]
  have:Nat.beq j i=false:=by
   cases h:Nat.beq j i
   ·rfl
   ·exact absurd (Nat.eq_of_beq_eq_true h) e
  rw [this]
  simp
theorem mem_dstsOf {d:Nat}:∀ {all:List Oper} {i:Nat} {o:Oper},onth all i=some o→o.dst=some d→d∈dstsOf all
 | [],i,o,h,_=>by simp [onth] at h
 | x::r,0,o,h,hd=>by
  simp only [onth,Option.some.injEq] at h
  subst h
  simp only [dstsOf,hd]
  simp
 | x::r,i+1,o,h,hd=>by
  have:=mem_dstsOf (all:=r) (i:=i) (by simpa [onth] using h) hd
  simp only [dstsOf]
  split
  ·exact this
  ·exact List.mem_cons_of_mem _ this
theorem unw_SR {Γ:Gm} {σ0:Sg} {ds:List AD} {N:Nat} {a:Act} {all:List Oper} {L:List En} (hl:LOK all L) {S:Nat→Bool} (h:SR df0 Γ (ap σ0 (L.filter fun e=>S e.i)) ds N a):SR df0 Γ (unw all σ0) ds N a:=by
 refine⟨h.size,fun t=>?_,h.df⟩
 unfold unw
 split
 ·exact VR_junk _ _
 ·rename_i e
  have:=h.tm t
  rw [show(L.filter fun e=>S e.i)=(L.filter fun e=>S e.i)++[] by simp,ap_skip] at this
  ·exact this
  ·intro x hx hd
   have:=(hl.get (List.mem_filter.1 hx).1).1
   exact elemN_false.1 e (mem_dstsOf this hd)
theorem DI.come {N:Nat} {all:List Oper} {σ0:Sg} {S S':Nat→Bool} {L:List En} {ds:List AD} {Γ:Gm} {H:Hp} {a:Act} {w:World} (hso:SO N all) (hI:DI C df0 N all σ0 S L ds Γ H a w) {L1 L2:List En} {e:En} (hL:L=L1++e::L2) (he:S e.i=false) (hd:∀ d∈dps e.o,S d=true)
  (hS':∀ j,S' j=(S j || Nat.beq j e.i)) {v':Value} {w':World} {Γ':Gm} (hv:VR Γ' e.v v') (hLx:Later C H.next Γ H w Γ' H w'):DI C df0 N all σ0 S' L ds Γ' H (a.put e.o.dst v') w':=by
 have hl:=hI.lok
 rw [hL] at hl
 have up:∀ j,S j=true→S' j=true:=fun j hj=>by rw [hS',hj];rfl
 have dn:∀ j,S' j=true→S j=true∨j=e.i:=fun j hj=>by
  rw [hS',Bool.or_eq_true] at hj
  exact hj.imp id Nat.eq_of_beq_eq_true
 refine⟨hI.lok,fun i o hi ho d hdd=>?_,fun i hi=>?_,fun x hx hs=>up _ (hI.syn x hx hs),hLx.1,?_,fun M1 x M2 hM hs hx=>hI.held M1 x M2 hM hs ?_⟩
 ·rcases dn i hi with h | rfl
  ·exact up _ (hI.clo i o h ho d hdd)
  ·rw [hl.tail.1] at ho
   injection ho with ho
   subst ho
   exact up _ (hd d hdd)
 ·rcases dn i hi with h | rfl
  ·exact hI.sub i h
  ·rw [hL]
   simp [dm]
 ·have:=hI.sr.putO (hLx.le hI.r) (dst:=e.o.dst) (σ':=ap σ0 (L.filter fun x=>S' x.i)) hv (DRL_mono (hLx.le hI.r) hI.sr.df) (fun d h=>hso.1 _ _ d hl.tail.1 h) (fun t=>by
   rw [hL]
   exact filter_put hso hl hI.clo he hS' t)
  exact this
 ·cases h:S x.i
  ·rfl
  ·rw [up _ h] at hx;cases hx
theorem vD_sound {ro:Option Nat} {rd:Bool} (hrd:rd=ro.isSome) {Q:Exit→Act→World→Prop} {n0 N:Nat} {K:Sg→List AD→Hp→Prop} {X:List AP→Sg→List AD→Hp→Prop} {Γ0:Gm} {H0:Hp} {w0:World} {σ0:Sg} (hso:SO N ops.toList)
  (hK:∀ σ' ds' H' Γ' a' w',K σ' ds' H'→SR df0 Γ' σ' ds' N a'→Later C n0 Γ0 H0 w0 Γ' H' w'→Q .normal a' w')
  (hX:∀ ch σ' ds' H' Γ' ch' a' w',X ch σ' ds' H'→PEL Γ' ch ch'→SR df0 Γ' σ' ds' N a'→Later C n0 Γ0 H0 w0 Γ' H' w'→Q (.panic ch') a' w') :
  ∀ (fuel:Nat) (ot:OT) (L:List En) (ds:List AD) (H:Hp) (Γ:Gm) (a:Act) (w:World) (listed:Array Bool) (pu:List Nat),
   otOK ops.toList (masks ops.toList []) ot (dm L) pu []=true→(∀ e∈L,e.sy=false→rdHeap e.o.op=true→e.i∈pu)→vD C rd ops.toList σ0 K X ot L ds H →
   DI C df0 N ops.toList σ0 (fun i=>listed.getD i false) L ds Γ H a w→Later C n0 Γ0 H0 w0 Γ H w→listed.size=ops.size→unl listed.toList≤fuel→wpAnyIn (Fz ro) 0 C.P .any ops Q fuel listed a w:=by
 intro fuel
 have hm:∀ i j,(nthN (masks ops.toList []) i).testBit j=true→Bef ops.toList i j:=masks_sound ops.toList [] [] rfl rfl (by intro i j hij;simp [nthN] at hij)
 -- nothing is left
 have fin:∀ (ot:OT) (L:List En) (ds:List AD) (H:Hp) (Γ:Gm) (a:Act) (w:World) (listed:Array Bool) (pu:List Nat),
   otOK ops.toList (masks ops.toList []) ot (dm L) pu []=true→(∀ e∈L,e.sy=false→rdHeap e.o.op=true→e.i∈pu)→vD C rd ops.toList σ0 K X ot L ds H →
   DI C df0 N ops.toList σ0 (fun i=>listed.getD i false) L ds Γ H a w→Later C n0 Γ0 H0 w0 Γ H w→listed.size=ops.size→Region.ready .any ops listed=[]→Q .normal a w:=by
  intro ot L ds H Γ a w listed pu hok hpu hv hI hL hsz hr
  have hno:∀ i,i ∉ Region.ready .any ops listed:=fun i h=>by rw [hr] at h;simp at h
  obtain⟨ot',L',pu',hok,hpu,hv,hI,ho⟩:=advance ot L pu hok hpu hv hI
  have hall:∀ e∈L',listed.getD e.i false=true:=by
   intro e he
   cases hc:listed.getD e.i false
   ·exfalso
    obtain⟨A,x,B,h1,h2,h3⟩:=first_missing (S:=fun i=>listed.getD i false) hI.lok ⟨e,he,hc⟩
    have hl:=hI.lok
    rw [h1] at hl
    refine hno x.i ((mem_ready hsz).2 ⟨x.o,hl.tail.1,h2,fun d hd=>?_⟩)
    obtain⟨y,hy,rfl⟩:=List.mem_map.1 (hl.tail.2.1 d hd)
    exact h3 y hy
   ·rfl
  rcases ho with rfl | ⟨i,hs,t,alt,rfl⟩
  ·have hf:L'.filter (fun e=>listed.getD e.i false)=L':=List.filter_eq_self.2 hall
   have:=hI.sr
   simp only [hf] at this
   exact hK _ _ _ _ _ _ hv this hL
  ·exfalso
   simp only [otOK,Bool.and_eq_true,Bool.not_eq_true'] at hok
   obtain⟨hi,hok⟩:=hok
   split at hok
   ·rename_i o ho
    simp only [Bool.and_eq_true] at hok
    refine hno i ((mem_ready hsz).2 ⟨o,ho,?_,fun d hd=>?_⟩)
    ·cases hc:listed.getD i false
     ·rfl
     ·exact absurd (hI.sub i hc) (elemN_false.1 hi)
    ·have:=elemN_iff.1 (List.all_eq_true.1 hok.1.1.1 d hd)
     obtain⟨y,hy,rfl⟩:=List.mem_map.1 this
     exact hall y hy
   ·cases hok
 induction fuel with
 | zero=>
  intro ot L ds H Γ a w listed pu hok hpu hv hI hL hsz hu
  have hr:Region.ready .any ops listed=[]:=by
   apply List.eq_nil_iff_forall_not_mem.2
   intro i hi
   obtain⟨o,h1,h2,_⟩:=(mem_ready hsz).1 hi
   have hlt:i<listed.size:=by
    rw [hsz]
    rw [onth_eq,Array.getElem?_toList] at h1
    rcases Nat.lt_or_ge i ops.size with h | h
    ·exact h
    ·rw [Array.getElem?_eq_none h] at h1;cases h1
   refine unl_zero (Nat.le_zero.1 hu) (i:=i) ?_
   rw [Array.getElem?_toList,Array.getElem?_eq_getElem hlt]
   rw [Array.getD_eq_getD_getElem?,Array.getElem?_eq_getElem hlt] at h2
   exact congrArg some h2
  exact⟨hr,fin ot L ds H Γ a w listed pu hok hpu hv hI hL hsz hr⟩
 | succ fuel ih=>
  intro ot L ds H Γ a w listed pu hok hpu hv hI hL hsz hu
  refine⟨fun hr=>fin ot L ds H Γ a w listed pu hok hpu hv hI hL hsz hr,fun i hi=>?_⟩
  obtain⟨o,ho,hiS,hdS⟩:=(mem_ready hsz).1 hi
  have hlt:i<listed.size:=by
   rw [hsz]
   have h1:=ho
   rw [onth_eq,Array.getElem?_toList] at h1
   rcases Nat.lt_or_ge i ops.size with h | h
   ·exact h
   ·rw [Array.getElem?_eq_none h] at h1;cases h1
  have hset:=fun j=>listed_set hlt j
  have hsz':(listed.setIfInBounds i true).size=ops.size:=by simpa using hsz
  have hu':unl (listed.setIfInBounds i true).toList≤fuel:=by
   rw [Array.toList_setIfInBounds]
   have:listed.toList[i]?=some false:=by
    rw [Array.getElem?_toList,Array.getElem?_eq_getElem hlt]
    rw [Array.getD_eq_getD_getElem?,Array.getElem?_eq_getElem hlt] at hiS
    exact congrArg some hiS
   have:=unl_set this
   omega
  obtain⟨ot',L',pu',hok,hpu,hv,hI,hot⟩:=advance ot L pu hok hpu hv hI
  by_cases him:i∈dm L'
  ·obtain⟨e,he,rfl⟩:=List.mem_map.1 him
   obtain⟨A,B,hAB⟩:=List.append_of_mem he
   have hsy:e.sy=false:=by
    cases h:e.sy
    ·rfl
    ·have:=hI.syn e he h;simp only [hiS] at this;cases this
   have heo:=(hI.lok.get he).1
   rw [ho] at heo
   injection heo with heo
   subst heo
   exact pend_sound hso hI hAB hsy hiS hdS fun v' w1 Γ1 hv' hLx=>
    ih ot' L' ds H Γ1 _ w1 _ pu' hok hpu hv (hI.come hso hAB hiS hdS hset hv' hLx) (hL.trans (hLx.mono hL.2.2.1)) hsz' hu'
  ·rcases hot with rfl | ⟨j,hs,t,alt,rfl⟩
   ·exfalso
    have:=allIx_spec hok ho
    rw [Nat.zero_add] at this
    exact him (elemN_iff.1 this)
   ·obtain⟨hs,t,k1,k2,k3⟩:=eff_find him ho (fun d hd=>hI.sub d (hdS d hd)) _ [] hok ⟨_,_,_,_,rfl⟩ hv (by simp)
    have hlk:∀ v,LOK ops.toList (⟨i,o,v,true⟩::L'):=fun v=>⟨ho,fun d hd=>hI.sub d (hdS d hd),him,hI.lok⟩
    have hff:∀ v,(List.filter (fun e=>listed.getD e.i false) (⟨i,o,v,true⟩::L'))=L'.filter fun e=>listed.getD e.i false:=fun v=>by
     rw [List.filter_cons_of_neg (by simp only [hiS];simp)]
    have hsr:SR df0 Γ (rst (looks ops.toList o) (ap σ0 L')) ds N a:=rst_SR hI.sr fun t ht=>by
     have:=view (σ0:=σ0) (L1:=[]) (e:=⟨i,o,und,true⟩) hso (hlk und) hI.clo hiS hdS ht
     simp only [List.nil_append] at this
     rw [hff] at this
     exact this
    have hoo:ops[i]?=some o:=by
     rw [onth_eq,Array.getElem?_toList] at ho
     exact ho
    -- behind the effect
    have go:∀ (v:AV) (ds':List AD) (H1:Hp) (Γ1:Gm) (v':Value) (dd':List Deferred) (w1:World),
      (∀ L1 e L2,L'=L1++e::L2→e.sy=false→listed.getD e.i false=false→HeldAt C ops.toList σ0 H1 e L2)→vD C rd ops.toList σ0 K X t (⟨i,o,v,true⟩::L') ds' H1→VR Γ1 v v'→DRL df0 Γ1 ds' dd'→Later C H.next Γ H w Γ1 H1 w1 →
      wpAnyIn (Fz ro) 0 C.P .any ops Q fuel (listed.setIfInBounds i true) (({ a with defers:=dd' }:Act).put o.dst v') w1:=by
     intro v ds' H1 Γ1 v' dd' w1 hh hvd hvv hdd hLL
     have up:∀ j,listed.getD j false=true→(listed.setIfInBounds i true).getD j false=true:=fun j hj=>by rw [hset,hj];rfl
     have dn:∀ j,(listed.setIfInBounds i true).getD j false=true→listed.getD j false=true∨j=i:=fun j hj=>by
      rw [hset,Bool.or_eq_true] at hj
      exact hj.imp id Nat.eq_of_beq_eq_true
     refine ih t (⟨i,o,v,true⟩::L') ds' H1 Γ1 _ w1 _ pu' k1 (fun e he hs hr=>?_) hvd ⟨hlk v,fun j oj hj hoj d hdd=>?_,fun j hj=>?_,fun e he hs=>?_,hLL.1,?_,fun M1 e M2 hM hs hS=>?_⟩ (hL.trans (hLL.mono hL.2.2.1)) hsz' hu'
     ·rcases List.mem_cons.1 he with rfl | he
      ·cases hs
      ·exact hpu e he hs hr
     ·rcases dn j hj with h | rfl
      ·exact up _ (hI.clo j oj h hoj d hdd)
      ·rw [ho] at hoj
       injection hoj with hoj
       subst hoj
       exact up _ (hdS d hdd)
     ·rcases dn j hj with h | rfl
      ·exact List.mem_cons_of_mem _ (hI.sub j h)
      ·simp [dm]
     ·rcases List.mem_cons.1 he with rfl | he
      ·show(listed.setIfInBounds i true).getD i false=true
       rw [hset];simp
      ·exact up _ (hI.syn e he hs)
     ·refine hI.sr.putO (hLL.le hI.r) hvv hdd (fun d h=>hso.1 _ _ d ho h) fun t=>?_
      have:=filter_put (σ0:=σ0) (L1:=[]) (e:=⟨i,o,v,true⟩) (S':=fun j=>(listed.setIfInBounds i true).getD j false) hso (hlk v) hI.clo hiS hset t
      simp only [List.nil_append] at this
      rw [hff] at this
      exact this
     ·cases M1 with
      | nil=>
       simp only [List.nil_append,List.cons.injEq] at hM
       obtain⟨rfl,rfl⟩:=hM
       cases hs
      | cons x M1=>
       simp only [List.cons_append,List.cons.injEq] at hM
       refine hh M1 e M2 hM.2 hs ?_
       cases h:listed.getD e.i false
       ·rfl
       ·rw [up _ h] at hS;cases hS
    unfold wpOpIn
    simp only [hoo]
    unfold EffIt at k3
    rw [ho] at k3
    simp only at k3
    split at k3
    ·rename_i hg
     rw [gd_sound hsr hg]
     simp only [if_true]
     refine vOp_sound hI.r hsr hrd ⟨fun v ds' H' Γ' v' dd' w' hk hvv hdd hLL=>?_,fun ch H' Γ' ch' w' hx hp hLL=>?_⟩ k3
     ·have hk':(∀ L1 e L2,L'=L1++e::L2→e.sy=false→listed.getD e.i false=false→HeldAt C ops.toList σ0 H' e L2)∧vD C rd ops.toList σ0 K X t (⟨i,o,v,true⟩::L') ds' H':=by
       have key:∀ e,e∈L'→e.sy=false→listed.getD e.i false=false→rdHeap e.o.op=true→elemN e.i hs=true:=by
        intro e he hsy hS hr
        have:=List.all_eq_true.1 k2 e.i (hpu e he hsy hr)
        rw [Bool.or_eq_true] at this
        rcases this with h | h
        ·exact h
        ·have:=(hm _ _ h).mem hI.clo (fun o' ho' d hd=>by
          rw [ho] at ho';injection ho' with ho';subst ho'
          exact hdS d hd)
         simp only [hS] at this
         cases this
       cases hs with
       | nil=>
        refine⟨fun L1 e L2 hM hsy hS=>?_,hk⟩
        cases hr:rdHeap e.o.op
        ·exact HeldAt_calm hr (hI.held L1 e L2 hM hsy hS)
        ·have:=key e (by rw [hM];simp) hsy hS hr
         simp [elemN] at this
       | cons x xs=>
        refine⟨fun L1 e L2 hM hsy hS=>?_,hk.2⟩
        cases hr:rdHeap e.o.op
        ·exact HeldAt_calm hr (hI.held L1 e L2 hM hsy hS)
        ·exact Held_get hk.1 hM (key e (by rw [hM];simp) hsy hS hr)
      exact go v ds' H' Γ' v' dd' w' hk'.1 hk'.2 hvv hdd hLL
     ·exact hX ch _ ds H' Γ' ch' a w' hx hp ((unw_SR (S:=fun i=>listed.getD i false) hI.lok hI.sr).mono (hLL.le hI.r)) (hL.trans (hLL.mono hL.2.2.1))
    ·rename_i hg
     rw [gd_sound hsr hg]
     simp only [Bool.false_eq_true,if_false]
     exact⟨fun _ _=>trivial,go und ds H Γ undef a.defers w (fun L1 e L2 hM hsy hS=>hI.held L1 e L2 hM hsy hS) k3 (VR_undef Γ) hI.sr.df (Later.refl hI.r _ (Nat.le_refl _))⟩
    ·exact k3.elim
end
end Go.Proofs.YtkegmchjobphdaaGreatDoor.Y
namespace Go.Proofs.YtkegmchjobphdaaGreatDoor.Y
open Go
def XR (Γ:Gm):AX→Exit→Prop
 | .normal,e'=>e'=.normal
 | .exit i,e'=>e'=.exit i
 | .goto l,e'=>e'=.goto l
 | .ret,e'=>e'=.ret
 | .panic ch,e'=>∃ ch',e'=.panic ch'∧PEL Γ ch ch'
def CP (C:Cx) (r:Bool) (B:Nat→Prop) (n0 N:Nat) (Γ:Gm) (H:Hp) (w:World) (Q:KQ) (e':Exit) (a':Act) (w':World):Prop:=
 ∃ e σ' ds' H' Γ',Q e σ' ds' H'∧XR Γ' e e'∧SX r B Γ' H' w' σ' ds' N a'∧Later C n0 Γ H w Γ' H' w'
def wpB (P:Program) (b:Frame) (c:Code) (Q:Exit→Act→World→Prop) (a:Act) (w:World):Prop:=
 ∀ (k:List Item) (cs:List Frame),∃ e a' w',Q e a' w'∧ArrivesIn (Machine.fenced P (Fz b.roundOf)) P (lone (b.atR a (.code c::k)) cs w) b k cs e a' w'
section
variable {P:Program} {b:Frame} {Q Q':Exit→Act→World→Prop} {a:Act} {w:World}
theorem room_Fz (ro:Option Nat) (n:Nat):(Fz ro).room n:=fun d hd=>by simp [Fz,Fence.wide] at hd
theorem fn_Fz (ro:Option Nat) (f:FuncId):(Fz ro).fn f:=trivial
theorem fenced_any {fr:Frame} {cs:List Frame} {w:World} (ro:Option Nat):(lone fr cs w).fenced P (Fz ro):=
 fenced_lone (.inl trivial) (fun _ _=>trivial) (room_Fz _ _)
theorem wpB_of {c:Code} (h:c.wpIn (Fz b.roundOf) 0 P Q a w):wpB P b c Q a w:=fun k cs=>h b k cs rfl (fn_Fz _ _) (room_Fz _ _)
theorem wpB_mono {c:Code} (h:wpB P b c Q a w) (hq:∀ e a w,Q e a w→Q' e a w):wpB P b c Q' a w:=
 fun k cs=>let ⟨e,a',w',q,r⟩:=h k cs;⟨e,a',w',hq _ _ _ q,r⟩
theorem wpB_seq {x y:Code} (h:wpB P b x (Exit.then (wpB P b y Q) Q) a w):wpB P b (.seq x y) Q a w:=by
 intro k cs
 obtain⟨e,a₁,w₁,hq,harr⟩:=h (.code y::k) cs
 have s0:StepsIn (Machine.fenced P (Fz b.roundOf)) P (lone (b.atR a (.code (.seq x y)::k)) cs w) (lone (b.atR a (.code x::.code y::k)) cs w):=.one (fenced_any _) stepR_seq
 cases e with
 | normal=>
  obtain⟨e₂,a₂,w₂,hq₂,harr₂⟩:=hq k cs
  exact⟨e₂,a₂,w₂,hq₂, .of_steps (StepsIn.trans s0 harr) harr₂⟩
 | exit id=>exact⟨_,a₁,w₁,hq, .of_steps s0 (.pass (x:=.code y) rfl (fun _ _=>.inl (by simp)) harr)⟩
 | goto l=>exact⟨_,a₁,w₁,hq, .of_steps s0 (.pass (x:=.code y) rfl (fun _ _=>.inl (by simp)) harr)⟩
 | ret=>exact⟨_,a₁,w₁,hq, .of_steps s0 (.pass (x:=.code y) rfl (fun _ _=>.inl (by simp)) harr)⟩
 | panic ch=>exact⟨_,a₁,w₁,hq, .of_steps s0 (.pass (x:=.code y) rfl (fun _ _=>.inl (by simp)) harr)⟩
 | outgrown=>exact⟨_,a₁,w₁,hq, .of_steps s0 (.pass (x:=.code y) rfl (fun _ _=>.inl (by simp)) harr)⟩
theorem wpB_cond {c:Operand} {x y:Code} {t:Bool} (hc:a.eval c=.bool t) (h:wpB P b (if t then x else y) Q a w):wpB P b (.cond c x y) Q a w:=
 fun k cs=>let ⟨e,a',w',q,r⟩:=h k cs;⟨e,a',w',q, .of_steps (.one (fenced_any _) (stepR_cond hc)) r⟩
theorem wpB_loop {c:Code} {α:Type} (I:α→Act→World→Prop) (μ:α→Nat) (x₀:α) (h₀:I x₀ a w)
  (round:∀ x a w,I x a w→wpB P b c (Exit.then (fun a' w'=>∃ x',I x' a' w'∧μ x'<μ x) Q) a w):wpB P b (.loop c) Q a w:=by
 intro k cs
 have key:∀ j x a w,μ x=j→I x a w →
   ∃ e a' w',Q e a' w'∧ArrivesIn (Machine.fenced P (Fz b.roundOf)) P (lone (b.atR a (.code c::.inLoop c::k)) cs w) b k cs e a' w':=by
  intro j
  induction j using Nat.strongRecOn with
  | _ j ih=>
   intro x a w hn hI
   obtain⟨e,a₁,w₁,hq,harr⟩:=round x a w hI (.inLoop c::k) cs
   cases e with
   | normal=>
    obtain⟨x',hI₁,hlt⟩:=hq
    obtain⟨e₂,a₂,w₂,hq₂,harr₂⟩:=ih (μ x') (hn ▸ hlt) x' a₁ w₁ rfl hI₁
    exact⟨e₂,a₂,w₂,hq₂, .of_steps (StepsIn.trans harr (.one (fenced_any _) stepR_inLoop)) harr₂⟩
   | exit id=>exact⟨_,a₁,w₁,hq, .pass (x:=.inLoop c) rfl (fun _ _=>.inl (by simp)) harr⟩
   | goto l=>exact⟨_,a₁,w₁,hq, .pass (x:=.inLoop c) rfl (fun _ _=>.inl (by simp)) harr⟩
   | ret=>exact⟨_,a₁,w₁,hq, .pass (x:=.inLoop c) rfl (fun _ _=>.inl (by simp)) harr⟩
   | panic ch=>exact⟨_,a₁,w₁,hq, .pass (x:=.inLoop c) rfl (fun _ _=>.inl (by simp)) harr⟩
   | outgrown=>exact⟨_,a₁,w₁,hq, .pass (x:=.inLoop c) rfl (fun _ _=>.inl (by simp)) harr⟩
 obtain⟨e,a',w',hq,harr⟩:=key _ x₀ a w rfl h₀
 exact⟨e,a',w',hq, .of_steps (.one (fenced_any _) stepR_loop) harr⟩
theorem wpB_block {id:Nat} {c:Code} (h:wpB P b c (Exit.inBlock id Q) a w):wpB P b (.block id c) Q a w:=by
 intro k cs
 obtain⟨e,a₁,w₁,hq,harr⟩:=h (.inBlock id::k) cs
 have s0:StepsIn (Machine.fenced P (Fz b.roundOf)) P (lone (b.atR a (.code (.block id c)::k)) cs w) (lone (b.atR a (.code c::.inBlock id::k)) cs w):=.one (fenced_any _) stepR_block
 cases e with
 | normal=>exact⟨.normal,a₁,w₁,hq,StepsIn.trans s0 (StepsIn.trans harr (.one (fenced_any _) stepR_inBlock))⟩
 | exit id'=>
  by_cases hid:id'=id
  ·subst hid
   simp only [Exit.inBlock,if_true] at hq
   exact⟨.normal,a₁,w₁,hq,StepsIn.trans s0 (harr.1 k (by simp [exitTo]))⟩
  ·simp only [Exit.inBlock,hid,if_false] at hq
   have hx:exitTo id' (.inBlock id::k)=exitTo id' k:=by
    have:(id == id')=false:=by simp;exact fun h=>hid h.symm
    simp [exitTo,this]
   refine⟨.exit id',a₁,w₁,hq,fun k' hk=>StepsIn.trans s0 (harr.1 k' (hx.trans hk)),fun hr hk=>?_⟩
   obtain⟨k₁,h1,h2⟩:=harr.2 hr (hx.trans hk)
   exact⟨k₁,h1,StepsIn.trans s0 h2⟩
 | goto l=>
  have hx:gotoIn l (.inBlock id::k)=gotoIn l k:=by simp [gotoIn]
  refine⟨_,a₁,w₁,hq,fun k' hk=>StepsIn.trans s0 (harr.1 k' (hx.trans hk)),fun hr hk=>?_⟩
  obtain⟨k₁,h1,h2⟩:=harr.2 hr (hx.trans hk)
  exact⟨k₁,h1,StepsIn.trans s0 h2⟩
 | ret=>exact⟨_,a₁,w₁,hq, .of_steps s0 harr⟩
 | panic ch=>exact⟨_,a₁,w₁,hq, .of_steps s0 harr⟩
 | outgrown=>exact⟨_,a₁,w₁,hq, .of_steps s0 harr⟩
theorem stepR_scope {c:Code} {k:List Item} {cs:List Frame}:step P (lone (b.atR a (.code (.scope c)::k)) cs w)=.next (lone (b.atR a (.code c::.inScope c::k)) cs w):=
 step_lone_go (by simp [stepG,stepG.exec,Frame.atR])
theorem stepR_inScope {c:Code} {k:List Item} {cs:List Frame}:step P (lone (b.atR a (.inScope c::k)) cs w)=.next (lone (b.atR a k) cs w):=
 step_lone_go (by simp [stepG,stepG.exec,Frame.atR])
theorem wpB_scope {c:Code} (h:wpB P b c (fun e a w=>(∀ l,e ≠ .goto l)∧Q e a w) a w):wpB P b (.scope c) Q a w:=by
 intro k cs
 obtain⟨e,a₁,w₁,⟨hng,hq⟩,harr⟩:=h (.inScope c::k) cs
 have s0:StepsIn (Machine.fenced P (Fz b.roundOf)) P (lone (b.atR a (.code (.scope c)::k)) cs w) (lone (b.atR a (.code c::.inScope c::k)) cs w):=.one (fenced_any _) stepR_scope
 cases e with
 | normal=>exact⟨.normal,a₁,w₁,hq,StepsIn.trans s0 (StepsIn.trans harr (.one (fenced_any _) stepR_inScope))⟩
 | exit id=>
  have hx:exitTo id (.inScope c::k)=exitTo id k:=by simp [exitTo]
  refine⟨.exit id,a₁,w₁,hq,fun k' hk=>StepsIn.trans s0 (harr.1 k' (hx.trans hk)),fun hr hk=>?_⟩
  obtain⟨k₁,h1,h2⟩:=harr.2 hr (hx.trans hk)
  exact⟨k₁,h1,StepsIn.trans s0 h2⟩
 | goto l=>exact absurd rfl (hng l)
 | ret=>exact⟨_,a₁,w₁,hq, .of_steps s0 harr⟩
 | panic ch=>exact⟨_,a₁,w₁,hq, .of_steps s0 harr⟩
 | outgrown=>exact⟨_,a₁,w₁,hq, .of_steps s0 harr⟩
def rngPost (P:Program) (b:Frame) (l:Nat) (Q:Exit→Act→World→Prop) (a':Act):Ending→World→Prop
 | .returned _,w₃=>∃ jump w₄,(Instr.endLoop l).run P w₃=.ok jump w₄∧(match jump with | none=>Q .normal a' w₄ | some c=>wpB P b c Q a' w₄)
 | .panicked chain,w₃=>Q (.panic chain) a' w₃
 | .outgrown,_=>False
theorem wpB_range {g:Operand} {ps:Array Tmp} {asg bd:Code} {l:Nat} {mark:List Deferred} {w₁ w₁' w₂:World} {d:Deferred} {f:FuncId} {args:Array Value}
  (he:(Instr.enterLoop b.fn a.tmps ps asg bd b.roundOf).run P w=.ok (l,mark) w₁) (hres:(resolve a.eval (rangeCall g l) 0).run P w₁=.ok d w₁') (hinv:(invoke d.target d.args).run P w₁'=.ok (.enter f args) w₂)
  (hcall:Calls P f args w₂ (rngPost P b l Q { a with defers:=mark++a.defers })):wpB P b (.rangeFunc g ps asg bd) Q a w:=by
 intro k cs
 have henter:=stepR_rangeFunc (P:=P) (b:=b) (a:=a) (k:=k) (cs:=cs) (w:=w) he hres hinv
 obtain⟨e,w₃,fr,hR,hsteps,hfn,hleave⟩:=(calls_in (ro:=b.roundOf) hcall).2 (b.atR { a with defers:=mark++a.defers } (.inRangeFunc l::k)::cs) (room_Fz _ _)
 cases e with
 | outgrown=>exact hR.elim
 | returned v=>
  obtain⟨jump,w₄,hend,hj⟩:=hR
  have sback:StepsIn (Machine.fenced P (Fz b.roundOf)) P (lone (b.atR a (.code (.rangeFunc g ps asg bd)::k)) cs w) (lone (b.atR { a with defers:=mark++a.defers } ((jump.map Item.code).toList++k)) cs w₄):=by
   refine .head (fenced_any _) henter (StepsIn.trans hsteps (.head (fenced_any _) ?_ (.one (fenced_any _) (stepR_endRangeFunc hend))))
   rw [← finish_atR_inRangeFunc l v];exact step_leave_returned hleave
  cases jump with
  | none=>exact⟨.normal,_,w₄,hj,sback⟩
  | some c=>
   obtain⟨e',a'',w₅,hq,harr⟩:=hj k cs
   exact⟨e',a'',w₅,hq, .of_steps sback harr⟩
 | panicked chain=>
  refine⟨.panic chain,_,w₃,hR, .inRangeFunc l::k, .head (fenced_any _) henter (StepsIn.trans hsteps (.one (fenced_any _) ?_))⟩
  rw [← Frame.raise_atR];exact step_leave_panicked hleave
theorem run_getLoop {l:Nat} {r:Loop} (h:w.heap[l]?=some (.loop r)):(Instr.getLoop l).run P w=.ok r w:=by
 simp [Instr.getLoop,getObj,Sem.run,h]
theorem run_setLoop {l:Nat} {r r':Loop} (h:w.heap[l]?=some (.loop r)):(setObj l (.loop r')).run P w=.ok () (putBlk w l (.loop r')):=by
 simp only [setObj,Sem.run,h,putBlk]
theorem run_endLoop {l:Nat} {r:Loop} (h:w.heap[l]?=some (.loop r)) (hs:r.state ≠ .busy):(Instr.endLoop l).run P w=.ok r.pending (putBlk w l (.loop { r with state:=.exhausted })):=by
 simp [Instr.endLoop,run_getLoop h,run_setLoop (r':={ r with state:=.exhausted }) h]
 exact fun e=>absurd e hs
end
section
variable {C:Cx}
theorem CP.trans {r:Bool} {B:Nat→Prop} {n0 N:Nat} {Γ Γ1:Gm} {H H1:Hp} {w w1:World} {Q:KQ} (hL:Later C n0 Γ H w Γ1 H1 w1) {e':Exit} {a':Act} {w':World} (h:CP C r B n0 N Γ1 H1 w1 Q e' a' w'):CP C r B n0 N Γ H w Q e' a' w':=by
 obtain⟨e,σ',ds',H',Γ',h1,h2,h3,h4⟩:=h
 exact⟨e,σ',ds',H',Γ',h1,h2,h3,hL.trans h4⟩
def RO (n0:Nat) (Γ:Gm):Option Nat→Option Nat→Prop
 | none,ro=>ro=none
 | some l,ro=>l<n0∧∃ q,Γ.nm l=some q∧ro=some q.blk
theorem RO.isSome {n0:Nat} {Γ:Gm} {rn ro:Option Nat} (h:RO n0 Γ rn ro):rn.isSome=ro.isSome:=by
 cases rn with
 | none=>simp only [RO] at h;subst h;rfl
 | some l=>obtain⟨_,q,_,rfl⟩:=h;rfl
theorem RO.ext {n0:Nat} {Γ Γ':Gm} {rn ro:Option Nat} (h:RO n0 Γ rn ro) (he:Ext n0 Γ Γ'):RO n0 Γ' rn ro:=by
 cases rn with
 | none=>exact h
 | some l=>obtain⟨h1,q,h2,h3⟩:=h;exact⟨h1,q,by rw [he l h1];exact h2,h3⟩
theorem SR_list {H:Hp} {w:World} {Γ:Gm} {σ:Sg} {ds:List AD} {N:Nat} {a:Act} {hd:Option (List Deferred)} (hR:R C Γ H w) (h:SR hd Γ σ ds N a):a.tmps.size=N∧∀ t,VR (Γ.cut H.next) (σ t) (a.tmps.getD t undef):=by
 have:Γ.le (Γ.cut H.next):=by
  refine⟨fun n q hq=>?_,Fzn.le_refl _⟩
  have hn:n<H.next:=by
   rcases Nat.lt_or_ge n H.next with h1 | h1
   ·exact h1
   ·rw [hR.fresh n h1] at hq;cases hq
  simp only [Gm.cut]
  rw [show Nat.blt n H.next=true by simpa using hn]
  exact hq
 exact⟨h.size,fun t=>VR_mono this _ _ (h.tm t)⟩
theorem range_post {r:Bool} {B:Nat→Prop} {b:Frame} {n0 N L:Nat} {Γ Γ1:Gm} {H H1:Hp} {w w1:World} {σ:Sg} {ds1:List AD} {Q:KQ} {a':Act} {q:Pl} (hL1:Later C n0 Γ H w Γ1 H1 w1) (hS1:SX r B Γ1 H1 w1 σ ds1 N a') (hq:Γ1.nm L=some q) (hlt:L<H1.next)
  {e':Ending} {w3:World} (hP:Post C Γ1 H1 w1 (fun e H'=>match e with
  | .returned _=>match lget H'.l L with
   | some o=>match o.c with
    | .lp st pend lim n a b c d dn=>match st with
     | .busy=>False
     | _=>pendQ pend Q σ ds1 { H' with l:=lset H'.l L { o with c:=.lp .exhausted pend lim n a b c d dn } }
    | _=>False
   | none=>False
  | .panicked ch=>Q (.panic ch) σ ds1 H') e' w3):rngPost C.P b q.blk (CP C r B n0 N Γ H w Q) a' e' w3:=by
 obtain⟨e,H',Γ',hQ,hE,hL⟩:=hP
 have hLn:Later C n0 Γ H w Γ' H' w3:=hL1.trans (hL.mono hL1.2.2.1)
 obtain⟨hd,hs1,hx1⟩:=hS1
 have hSR:SX r B Γ' H' w3 σ ds1 N a':=⟨hd,hs1.mono (hL.le hL1.1),hx1.tr hL.2.2.2⟩
 cases e with
 | panicked ch=>
  obtain⟨ch',rfl,hch⟩:=hE
  exact⟨.panic ch,σ,ds1,H',Γ',hQ,⟨ch',rfl,hch⟩,hSR,hLn⟩
 | returned v=>
  obtain⟨v',rfl,_⟩:=hE
  simp only at hQ
  split at hQ <;> try exact hQ.elim
  rename_i o ho
  split at hQ <;> try exact hQ.elim
  rename_i st pend lim n sg ps asg bd dn hc
  have hq':Γ'.nm L=some q:=by rw [hL.2.1 L hlt];exact hq
  obtain⟨q',hq'',hob⟩:=hL.1.objs L o ho
  rw [hq'] at hq''
  injection hq'' with eq
  subst eq
  obtain⟨t,fr,c⟩:=o
  simp only at hc
  subst hc
  simp only [ObjR] at hob
  obtain⟨hnl,hfr,fn,tm,qd,hfn,hob,hvl,hdn⟩:=hob
  subst hfr
  have hnb:st ≠ .busy:=by
   intro e
   subst e
   exact hQ
  have hQ':pendQ pend Q σ ds1 { H' with l:=lset H'.l L ⟨t,false, .lp .exhausted pend lim n sg ps asg bd dn⟩ }:=by
   cases st <;> first | exact hQ | exact absurd rfl hnb
  have hend:=run_endLoop (P:=C.P) hob hnb
  have hrep:=hL.1.repl ho rfl hq' hnl (o':=⟨t,false, .lp .exhausted pend lim n sg ps asg bd dn⟩) rfl (x:=.loop { state:=.exhausted,pending:=pend,fn:=fn,tmps:=tm,params:=⟨ps⟩,assign:=asg,body:=bd,defers:=qd.blk })
   (by simp only [ObjR];exact⟨hnl,trivial,fn,tm,qd,hfn,putBlk_same hob,hvl,hdn⟩)
  have hLL:=hLn.trans (hrep.mono hLn.2.2.1)
  obtain⟨hd2,hs2,hx2⟩:=hSR
  have hSR:SX r B Γ' _ _ σ ds1 N a':=⟨hd2,hs2,hx2.tr hrep.2.2.2⟩
  refine⟨pend,_,hend,?_⟩
  unfold pendQ at hQ'
  split at hQ'
  ·exact⟨.normal,σ,ds1,_,Γ',hQ',rfl,hSR,hLL⟩
  ·exact wpB_of (wpIn_ret ⟨.ret,σ,ds1,_,Γ',hQ',rfl,hSR,hLL⟩)
  ·exact wpB_of (wpIn_exit ⟨.exit _,σ,ds1,_,Γ',hQ',rfl,hSR,hLL⟩)
  ·exact wpB_of (wpIn_goto ⟨.goto _,σ,ds1,_,Γ',hQ',rfl,hSR,hLL⟩)
  ·exact hQ'.elim
end
end Go.Proofs.YtkegmchjobphdaaGreatDoor.Y
namespace Go.Proofs.YtkegmchjobphdaaGreatDoor.Y
open Go
section
variable {C:Cx}
theorem range_call {a:Act} {w:World} {f:Operand} {l:Nat} {g:FuncId} {first' cap':Array Value} (h:a.eval f=.func (.func g) first' cap') :
  ∃ d,(resolve a.eval (rangeCall f l) 0).run C.P w=.ok d w∧d.target=.fn (.func g) cap'∧d.args=first'++#[Value.func (.yield l) #[] #[]]:=by
 refine⟨{ target:=.fn (.func g) cap',args:=first'++#[Value.func (.yield l) #[] #[]] },?_,rfl,rfl⟩
 have e:a.eval (.const (.func (.yield l) #[] #[]))=.func (.yield l) #[] #[]:=rfl
 simp [resolve,h,Deferred.ofValue,e]
def noRange:Code→Bool
 | .seq x y=>noRange x && noRange y
 | .cond _ x y=>noRange x && noRange y
 | .block _ x=>noRange x
 | .loop x=>noRange x
 | .scope x=>noRange x
 | .rangeFunc ..=>false
 | _=>true
theorem vc_sound {r:Bool} {B:Nat→Prop} {rn:Option Nat} {n0 N:Nat} {b:Frame} (hfn:(C.P.funcs[b.fn]?).isSome=true):∀ (c:Code) (_:(r || rn.isSome || noRange c)=true) (σ:Sg) (ds:List AD) (H:Hp) (Q:KQ) (Γ:Gm) (a:Act) (w:World),
  n0≤H.next→RO n0 Γ rn b.roundOf→R C Γ H w→SX r B Γ H w σ ds N a→vc C rn n0 N c σ ds H Q→wpB C.P b c (CP C r B n0 N Γ H w Q) a w
 | .skip,hr,σ,ds,H,Q,Γ,a,w,hn,hro,hR,hS,hv=>wpB_of (wpIn_skip ⟨.normal,_,_,_,_,hv,rfl,hS,Later.refl hR n0 hn⟩)
 | .label l,hr,σ,ds,H,Q,Γ,a,w,hn,hro,hR,hS,hv=>wpB_of (wpIn_label ⟨.normal,_,_,_,_,hv,rfl,hS,Later.refl hR n0 hn⟩)
 | .exit i,hr,σ,ds,H,Q,Γ,a,w,hn,hro,hR,hS,hv=>wpB_of (wpIn_exit ⟨.exit i,_,_,_,_,hv,rfl,hS,Later.refl hR n0 hn⟩)
 | .goto i,hr,σ,ds,H,Q,Γ,a,w,hn,hro,hR,hS,hv=>wpB_of (wpIn_goto ⟨.goto i,_,_,_,_,hv,rfl,hS,Later.refl hR n0 hn⟩)
 | .ret,hr,σ,ds,H,Q,Γ,a,w,hn,hro,hR,hS,hv=>wpB_of (wpIn_ret ⟨.ret,_,_,_,_,hv,rfl,hS,Later.refl hR n0 hn⟩)
 | .region id ops draw,hr,σ,ds,H,Q,Γ,a,w,hn,hro,hR,hS,hv=>by
  have hrd:=hro.isSome
  obtain⟨df0,hs0,hx0⟩:=hS
  cases draw with
  | true=>
   simp only [vc_region] at hv
   obtain⟨ot,hok,hv⟩:=hv
   simp only [Bool.and_eq_true] at hok
   have hso:=slotsOK_spec hok.1.2
   have hI:DI C df0 N ops.toList σ (fun i=>(Array.replicate ops.size false).getD i false) [] ds Γ H a { w with drawn:=w.drawn+1 }:=by
    have hf:∀ i,(Array.replicate ops.size false).getD i false=false:=by
     intro i
     rw [Array.getD_eq_getD_getElem?,Array.getElem?_replicate]
     split <;> rfl
    refine⟨trivial,fun i o hi=>?_,fun i hi=>?_,fun e he=>by simp at he,hR.drew,?_,fun L1 e L2 hL=>by simp at hL⟩
    ·simp only [hf] at hi;cases hi
    ·simp only [hf] at hi;cases hi
    ·exact hs0
   have hu:unl (Array.replicate ops.size false).toList≤ops.size:=by
    rw [Array.toList_replicate]
    have:∀ n,unl (List.replicate n false)=n:=by
     intro n
     induction n with
     | zero=>rfl
     | succ n ih=>rw [List.replicate_succ];simp only [unl,ih]
    rw [this]
    exact Nat.le_refl _
   have hL0:=Later.drew hR n0 hn
   refine wpB_of (wpIn_region_any hok.1.1 ?_)
   rcases hv with hv | ⟨α,sl,hp,pr,hv,hj⟩
   ·exact vD_sound (C:=C) hrd (Q:=CP C r B n0 N Γ H w Q) (n0:=n0) (Γ0:=Γ) (H0:=H) (w0:=w) (σ0:=σ) hso
     (fun σ' ds' H' Γ' a' w' hk hs hl=>⟨.normal,σ',ds',H',Γ',hk,rfl,⟨df0,hs,hx0.tr hl.2.2.2⟩,hl⟩)
     (fun ch σ' ds' H' Γ' ch' a' w' hx hp hs hl=>⟨.panic ch,σ',ds',H',Γ',hx,⟨ch',rfl,hp⟩,⟨df0,hs,hx0.tr hl.2.2.2⟩,hl⟩)
     ops.size ot [] ds H Γ a _ _ [] hok.2 (fun e he=>by simp at he) hv hI hL0 (by simp) hu
   ·exact vD_sound (C:=C) hrd (Q:=CP C r B n0 N Γ H w Q) (n0:=n0) (Γ0:=Γ) (H0:=H) (w0:=w) (σ0:=σ) hso
     (fun σ' ds' H' Γ' a' w' hk hs hl=>by
      obtain⟨x,k1,k2⟩:=hk
      obtain⟨Γ2,k3,k4⟩:=k2 r B Γ' w' a' hl.2.2.1 hl.1 ⟨df0,hs,hx0.tr hl.2.2.2⟩
      exact⟨.normal,_,_,_,_,hj x k1,rfl,k3,hl.trans k4⟩)
     (fun ch σ' ds' H' Γ' ch' a' w' hx hp hs hl=>⟨.panic ch,σ',ds',H',Γ',hx,⟨ch',rfl,hp⟩,⟨df0,hs,hx0.tr hl.2.2.2⟩,hl⟩)
     ops.size ot [] ds H Γ a _ _ [] hok.2 (fun e he=>by simp at he) hv hI hL0 (by simp) hu
  | false=>
   simp only [vc_region] at hv
   refine wpB_of (wpIn_region ?_)
   have:=vOps_sound (C:=C) hrd (ops:=ops) (Q:=CP C r B n0 N Γ H w Q) (n0:=n0) ops.toList [] σ ds H Γ a w (by simp) hn hR hs0 hv
    (fun σ' ds' H' Γ' a' w' hk hs hl=>⟨.normal,σ',ds',H',Γ',hk,rfl,⟨df0,hs,hx0.tr hl.2.2.2⟩,hl⟩)
    (fun ch σ' ds' H' Γ' ch' a' w' hx hp hs hl=>⟨.panic ch,σ',ds',H',Γ',hx,⟨ch',rfl,hp⟩,⟨df0,hs,hx0.tr hl.2.2.2⟩,hl⟩)
   simpa [List.range_eq_range'] using this
 | .seq x y,hr,σ,ds,H,Q,Γ,a,w,hn,hro,hR,hS,hv=>by
  simp only [vc_seq] at hv
  have hr2:(r || rn.isSome || noRange x)=true∧(r || rn.isSome || noRange y)=true:=by
   simp only [noRange,Bool.or_eq_true,Bool.and_eq_true] at hr ⊢
   rcases hr with h | ⟨h1,h2⟩
   ·exact⟨.inl h, .inl h⟩
   ·exact⟨.inr h1, .inr h2⟩
  refine wpB_seq (wpB_mono (vc_sound hfn x hr2.1 σ ds H _ Γ a w hn hro hR hS hv) ?_)
  rintro e' a1 w1 ⟨e,σ',ds',H',Γ',h1,h2,h3,h4⟩
  cases e with
  | normal=>
   simp only [XR] at h2
   subst h2
   exact wpB_mono (vc_sound hfn y hr2.2 σ' ds' H' Q Γ' a1 w1 h4.2.2.1 (hro.ext h4.2.1) h4.1 h3 h1) fun _ _ _ hq=>CP.trans h4 hq
  | exit i=>simp only [XR] at h2;subst h2;exact⟨.exit i,_,_,_,_,h1,rfl,h3,h4⟩
  | goto i=>simp only [XR] at h2;subst h2;exact⟨.goto i,_,_,_,_,h1,rfl,h3,h4⟩
  | ret=>simp only [XR] at h2;subst h2;exact⟨.ret,_,_,_,_,h1,rfl,h3,h4⟩
  | panic ch=>simp only [XR] at h2;obtain⟨ch',rfl,hp⟩:=h2;exact⟨.panic ch,_,_,_,_,h1,⟨ch',rfl,hp⟩,h3,h4⟩
 | .cond c x y,hr,σ,ds,H,Q,Γ,a,w,hn,hro,hR,hS,hv=>by
  simp only [vc_cond] at hv
  have hr2:(r || rn.isSome || noRange x)=true∧(r || rn.isSome || noRange y)=true:=by
   simp only [noRange,Bool.or_eq_true,Bool.and_eq_true] at hr ⊢
   rcases hr with h | ⟨h1,h2⟩
   ·exact⟨.inl h, .inl h⟩
   ·exact⟨.inr h1, .inr h2⟩
  obtain⟨df0,hs0,hx0⟩:=hS
  have hc:=evl_sound hR hs0 c
  have hS:SX r B Γ H w σ ds N a:=⟨df0,hs0,hx0⟩
  split at hv
  ·rename_i e
   rw [e] at hc
   exact wpB_cond (t:=true) (VR_bool hc) (vc_sound hfn x hr2.1 σ ds H Q Γ a w hn hro hR hS hv)
  ·rename_i e
   rw [e] at hc
   exact wpB_cond (t:=false) (VR_bool hc) (vc_sound hfn y hr2.2 σ ds H Q Γ a w hn hro hR hS hv)
  ·exact hv.elim
 | .block id x,hr,σ,ds,H,Q,Γ,a,w,hn,hro,hR,hS,hv=>by
  simp only [vc_block] at hv
  refine wpB_block (wpB_mono (vc_sound hfn x (by simpa only [noRange] using hr) σ ds H _ Γ a w hn hro hR hS hv) ?_)
  rintro e' a1 w1 ⟨e,σ',ds',H',Γ',h1,h2,h3,h4⟩
  cases e with
  | normal=>simp only [XR] at h2;subst h2;exact⟨.normal,_,_,_,_,h1,rfl,h3,h4⟩
  | exit i=>
   simp only [XR] at h2
   subst h2
   simp only [Exit.inBlock]
   simp only at h1
   split at h1
   ·rename_i hb
    have hb:=Nat.eq_of_beq_eq_true hb
    rw [if_pos hb]
    exact⟨.normal,_,_,_,_,h1,rfl,h3,h4⟩
   ·rename_i hb
    rw [if_neg (by intro e;subst e;simp at hb)]
    exact⟨.exit i,_,_,_,_,h1,rfl,h3,h4⟩
  | goto i=>simp only [XR] at h2;subst h2;exact⟨.goto i,_,_,_,_,h1,rfl,h3,h4⟩
  | ret=>simp only [XR] at h2;subst h2;exact⟨.ret,_,_,_,_,h1,rfl,h3,h4⟩
  | panic ch=>simp only [XR] at h2;obtain⟨ch',rfl,hp⟩:=h2;exact⟨.panic ch,_,_,_,_,h1,⟨ch',rfl,hp⟩,h3,h4⟩
 | .loop x,hr,σ,ds,H,Q,Γ,a,w,hn,hro,hR,hS,hv=>by
  simp only [vc_loop] at hv
  obtain⟨α,sl,hp,pr,μ,⟨x0,hp0,hent⟩,hround⟩:=hv
  obtain⟨Γ0,hS0,hL0⟩:=hent r B Γ w a hn hR hS
  refine wpB_loop (α:=α) (fun y a1 w1=>pr y∧∃ Γ1,SX r B Γ1 (hp y) w1 (sets (fun _=>.junk) (sl y)) ds N a1∧Later C n0 Γ H w Γ1 (hp y) w1) μ x0 ⟨hp0,Γ0,hS0,hL0⟩ ?_
  rintro y a1 w1 ⟨hpy,Γ1,hS1,hL1⟩
  refine wpB_mono (vc_sound hfn x (by simpa only [noRange] using hr) _ ds (hp y) _ Γ1 a1 w1 hL1.2.2.1 (hro.ext hL1.2.1) hL1.1 hS1 (hround y hpy)) ?_
  rintro e' a2 w2 ⟨e,σ',ds',H',Γ',h1,h2,h3,h4⟩
  cases e with
  | normal=>
   simp only [XR] at h2
   subst h2
   obtain⟨x',hp',hent',hlt⟩:=h1
   obtain⟨Γ2,hS2,hL2⟩:=hent' r B Γ' w2 a2 h4.2.2.1 h4.1 h3
   exact⟨x',⟨hp',Γ2,hS2,(hL1.trans h4).trans hL2⟩,hlt⟩
  | exit i=>simp only [XR] at h2;subst h2;exact⟨.exit i,_,_,_,_,h1,rfl,h3,hL1.trans h4⟩
  | goto i=>simp only [XR] at h2;subst h2;exact⟨.goto i,_,_,_,_,h1,rfl,h3,hL1.trans h4⟩
  | ret=>simp only [XR] at h2;subst h2;exact⟨.ret,_,_,_,_,h1,rfl,h3,hL1.trans h4⟩
  | panic ch=>simp only [XR] at h2;obtain⟨ch',rfl,hpp⟩:=h2;exact⟨.panic ch,_,_,_,_,h1,⟨ch',rfl,hpp⟩,h3,hL1.trans h4⟩
 | .rangeFunc f params asg bd,hr,σ,ds,H,Q,Γ,a,w,hn,hro,hR,hS,hv=>by
  simp only [vc_rangeFunc] at hv
  split at hv <;> try exact hv.elim
  rename_i g first cap ef
  obtain⟨df0,hs0,hx0⟩:=hS
  obtain⟨fn',first',cap',ef',hfr,hfirst,hcap⟩:=fnOf_sound (evl_sound hR hs0 f) ef
  simp only [FR] at hfr
  subst hfr
  have hvl:=SR_list hR hs0
  -- the one call
  have call:∀ (L:Nat) (q:Pl) (mark:List Deferred) (w1:World) (Γ1:Gm) (H1:Hp) (ds1:List AD),(Instr.enterLoop b.fn a.tmps params asg bd b.roundOf).run C.P w=.ok (q.blk,mark) w1→Γ1.nm L=some q→L<H1.next →
    Later C n0 Γ H w Γ1 H1 w1→Γ.le Γ1→SR df0 Γ1 σ ds1 N { a with defers:=mark++a.defers }→RangeOK C N g first cap L σ ds1 H1 Q→wpB C.P b (.rangeFunc f params asg bd) (CP C r B n0 N Γ H w Q) a w:=by
   intro L q mark w1 Γ1 H1 ds1 he hq hlt hL1 hle hS1 hok
   obtain⟨d,hres,ht,ha⟩:=range_call (C:=C) (w:=w1) (l:=q.blk) ef'
   have hargs:VRL Γ1 (first++[.fn (.yield L) [] []]++cap) (first'++#[Value.func (.yield q.blk) #[] #[]]++cap').toList:=by
    simp only [Array.toList_append]
    refine VRL_append (VRL_append (VRL_mono hle _ _ hfirst) ?_) (VRL_mono hle _ _ hcap)
    simp only [VRL,VR,FR]
    exact⟨_,_,rfl,⟨.yield q.blk,#[],#[],rfl,⟨q,hq,rfl⟩,rfl,rfl⟩,rfl⟩
   obtain⟨h1,h2⟩:=hok Γ1 w1 _ hL1.1 hargs
   have harr:(⟨(first'++#[Value.func (.yield q.blk) #[] #[]]++cap').toList⟩:Array Value)=first'++#[Value.func (.yield q.blk) #[] #[]]++cap':=by simp
   rw [harr] at h1 h2
   have hinv:(invoke d.target d.args).run C.P w1=.ok (.enter g (first'++#[Value.func (.yield q.blk) #[] #[]]++cap')) w1:=by
    rw [ht,ha]
    exact h1
   exact wpB_range he hres hinv (h2.mono fun e' w3 hp=>range_post hL1 ⟨df0,hS1,hx0.tr hL1.2.2.2⟩ hq hlt hp)
  obtain⟨a0,hsize⟩:∃ a0,a0=w.heap.size:=⟨_,rfl⟩
  split at hv
  ·-- outermost
   simp only [RO] at hro
   have hLd:=hR.push (ob:=.deferred (some [])) (q:=⟨w.heap.size,0,0,false⟩) (o:=⟨0,false, .df⟩) rfl rfl rfl (by simp only [ObjR];exact⟨trivial,trivial,heap_alloc_new w _⟩)
   have hSd:=hs0.mono (hLd.le hR)
   have hLl:=hLd.1.push (ob:=.loop { state:=.ready,pending:=none,fn:=b.fn,tmps:=a.tmps,params:=params,assign:=asg,body:=bd,defers:=w.heap.size }) (q:=⟨(w.alloc (.deferred (some []))).heap.size,0,0,false⟩) (o:=loopRec H.next σ N params asg bd H.next) rfl rfl rfl
    (by
     simp only [loopRec,ObjR]
     refine⟨trivial,trivial,b.fn,a.tmps,⟨w.heap.size,0,0,false⟩,hfn,heap_alloc_new _ _,?_,?_⟩
     ·exact⟨hvl.1,fun t=>VR_mono (Gm.cut_mono (Gm.le_trans (hLd.le hR) (Gm.le_put (hLd.1.fresh _ (Nat.le_refl _)))) _) _ _ (hvl.2 t)⟩
     ·rw [Gm.put_other _ _ (by simp [Hp.push])];exact Gm.put_same _ _ _)
   have hL:Later C n0 Γ H w _ _ _:=(hLd.mono hn).trans (hLl.mono (by simp only [Hp.push];omega))
   have hle:Γ.le _:=Gm.le_trans (hLd.le hR) (hLl.le hLd.1)
   refine call (H.next+1) ⟨(w.alloc (.deferred (some []))).heap.size,0,0,false⟩ [{ target:=.collected w.heap.size,args:=#[] }] _ _ _ _ ?_ (Gm.put_same _ _ _) (by simp [Hp.push]) hL hle ?_ hv
   ·rw [hro]
    simp [Instr.enterLoop,newObj,Sem.run]
   ·refine⟨hs0.size,fun t=>VR_mono hle _ _ (hs0.tm t),?_⟩
    simp only [List.cons_append,List.nil_append,DRL]
    refine⟨_,_,rfl,?_,DRL_mono hle hs0.df⟩
    simp only [DR]
    refine⟨by rw [hx0.some'];simpa [noRange] using hr,⟨w.heap.size,0,0,false⟩,?_,rfl⟩
    rw [Gm.put_other _ _ (by simp [])]
    exact Gm.put_same _ _ _
  ·-- within a round
   rename_i l
   split at hv <;> try exact hv.elim
   rename_i o ho
   split at hv <;> try exact hv.elim
   rename_i st pend lim n sg ps as' bd' dn hc
   obtain⟨hln,q,hq,hro'⟩:=hro
   obtain⟨q',hq',hob⟩:=hR.objs l o ho
   rw [hq] at hq'
   injection hq' with eq
   subst eq
   obtain⟨t,fr,c⟩:=o
   simp only at hc
   subst hc
   simp only [ObjR] at hob
   obtain⟨hnl,hfr,fn0,tm0,qd,hfn0,hob,hvl0,hdn⟩:=hob
   have hLl:=hR.push (ob:=.loop { state:=.ready,pending:=none,fn:=b.fn,tmps:=a.tmps,params:=params,assign:=asg,body:=bd,defers:=qd.blk }) (q:=⟨w.heap.size,0,0,false⟩) (o:=loopRec H.next σ N params asg bd dn) rfl rfl rfl
    (by
     simp only [loopRec,ObjR]
     refine⟨trivial,trivial,b.fn,a.tmps,qd,hfn,heap_alloc_new _ _,?_,?_⟩
     ·exact⟨hvl.1,fun t=>VR_mono (Gm.cut_mono (Gm.le_put (hR.fresh _ (Nat.le_refl _))) _) _ _ (hvl.2 t)⟩
     ·exact(Gm.le_put (hR.fresh _ (Nat.le_refl _))).nm _ _ hdn)
   refine call H.next ⟨w.heap.size,0,0,false⟩ [] _ _ _ ds ?_ (Gm.put_same _ _ _) (by simp [Hp.push]) (hLl.mono hn) (hLl.le hR) ?_ hv
   ·rw [hro']
    simp [Instr.enterLoop,run_getLoop hob,newObj,Sem.run]
   ·exact⟨hs0.size,fun t=>VR_mono (hLl.le hR) _ _ (hs0.tm t),DRL_mono (hLl.le hR) hs0.df⟩
 | .scope x,hr,σ,ds,H,Q,Γ,a,w,hn,hro,hR,hS,hv=>by
  simp only [vc_scope] at hv
  refine wpB_scope (wpB_mono (vc_sound hfn x (by simpa only [noRange] using hr) σ ds H _ Γ a w hn hro hR hS hv) ?_)
  rintro e' a1 w1 ⟨e,σ',ds',H',Γ',h1,h2,h3,h4⟩
  cases e with
  | normal=>simp only [XR] at h2;subst h2;exact⟨by simp, .normal,_,_,_,_,h1,rfl,h3,h4⟩
  | exit i=>simp only [XR] at h2;subst h2;exact⟨by simp, .exit i,_,_,_,_,h1,rfl,h3,h4⟩
  | goto i=>exact h1.elim
  | ret=>simp only [XR] at h2;subst h2;exact⟨by simp, .ret,_,_,_,_,h1,rfl,h3,h4⟩
  | panic ch=>simp only [XR] at h2;obtain⟨ch',rfl,hp⟩:=h2;exact⟨by simp, .panic ch,_,_,_,_,h1,⟨ch',rfl,hp⟩,h3,h4⟩
 | .refuse _,_,_,_,_,_,_,_,_,_,_,_,_,hv=>hv.elim
end
end Go.Proofs.YtkegmchjobphdaaGreatDoor.Y
namespace Go.Proofs.YtkegmchjobphdaaGreatDoor.Y
open Go
section
variable {C:Cx}
def parS:Sg→List Tmp→List AV→Sg
 | σ,p::ps,v::vs=>parS (upd σ p v) ps vs
 | σ,_,_=>σ
def roundFin (L:Nat) (Q:AE→Hp→Prop):KQ:=fun e _ ds H=>
 match ds with
 | []=>match e with
  | .panic ch=>Q (.panicked ch) H
  | e=>match lget H.l L with
   | some o=>match o.c with
    | .lp .busy _ lim N s ps asg bd dn=>match e with
     | .normal=>Q (.returned (vB true)) { H with l:=lset H.l L { o with c:=.lp .ready none lim N s ps asg bd dn } }
     | .ret=>Q (.returned (vB false)) { H with l:=lset H.l L { o with c:=.lp .done (some .ret) lim N s ps asg bd dn } }
     | .exit i=>Q (.returned (vB false)) { H with l:=lset H.l L { o with c:=.lp .done (some (.exit i)) lim N s ps asg bd dn } }
     | .goto i=>Q (.returned (vB false)) { H with l:=lset H.l L { o with c:=.lp .done (some (.goto i)) lim N s ps asg bd dn } }
     | .panic _=>False
    | _=>False
   | none=>False
 | _=>False
def roundBeg (C:Cx) (L n0 N:Nat) (bd:Code) (Q:AE→Hp→Prop):KQ:=fun e σ ds H=>
 match e,ds with
 | .normal,[]=>match lget H.l L with
  | some o=>match o.c with
   | .lp .ready p lim n a b c d dn=>vc C (some L) n0 N bd σ [] { H with l:=lset H.l L { o with c:=.lp .busy p lim n a b c d dn } } (roundFin L Q)
   | _=>False
  | none=>False
 | _,_=>False
theorem parS_sound {Γ:Gm} {N:Nat}:∀ (ps:List Tmp) (vs:List AV) (vs':List Value) (σ:Sg) (tm:Array Value),ps.all (fun p=>Nat.blt p N)=true→VRL Γ vs vs'→tm.size=N→(∀ t,VR Γ (σ t) (tm.getD t undef)) →
  (((ps.zip vs').foldl (fun tmps (x:Tmp × Value)=>tmps.setIfInBounds x.1 x.2) tm).size=N∧∀ t,VR Γ (parS σ ps vs t) (((ps.zip vs').foldl (fun tmps (x:Tmp × Value)=>tmps.setIfInBounds x.1 x.2) tm).getD t undef))
 | [],vs,vs',σ,tm,_,_,hs,h=>by
  cases vs <;> exact⟨hs,h⟩
 | p::ps,[],vs',σ,tm,_,hv,hs,h=>by
  simp only [VRL] at hv
  subst hv
  exact⟨hs,h⟩
 | p::ps,v::vs,vs',σ,tm,hp,hv,hs,h=>by
  simp only [VRL] at hv
  obtain⟨u,us,rfl,h1,h2⟩:=hv
  simp only [List.all_cons,Bool.and_eq_true] at hp
  have hlt:p<N:=by simpa using hp.1
  simp only [List.zip_cons_cons,List.foldl_cons,parS]
  refine parS_sound ps vs us _ _ hp.2 h2 (by simp [hs]) fun t=>?_
  rw [Array.getD_eq_getD_getElem?]
  by_cases e:t=p
  ·subst e
   rw [upd_same,Array.getElem?_setIfInBounds_self_of_lt (by rw [hs];exact hlt)]
   exact h1
  ·rw [upd_other _ _ e,Array.getElem?_setIfInBounds_ne (Ne.symm e),← Array.getD_eq_getD_getElem?]
   exact h t
theorem run_beginRound {P:Program} {w:World} {l:Nat} {r:Loop} (h:w.heap[l]?=some (.loop r)) (hs:r.state=.ready):(Instr.beginRound l).run P w=.ok () (putBlk w l (.loop { r with state:=.busy })):=by
 simp [Instr.beginRound,run_getLoop h,run_setLoop (r':={ r with state:=.busy }) h,hs]
theorem run_endRound {P:Program} {w:World} {l:Nat} {r:Loop} (h:w.heap[l]?=some (.loop r)) (j:Option Code):(Instr.endRound l j).run P w=.ok (.bool j.isNone) (putBlk w l (.loop { r with state:=if j.isNone then .ready else .done,pending:=j })):=by
 have h2:=run_setLoop (P:=P) (r':={ r with state:=if j.isNone then .ready else .done,pending:=j }) h
 simp only [Instr.endRound,Sem.run_bind,run_getLoop h,Result.andThen_ok,h2]
 rfl
theorem setRec {Γ:Gm} {H:Hp} {w:World} {L:Nat} {q:Pl} {t:TypeId} {fr:Bool} {st st':LoopState} {pend pend':Option Code} {lim N:Nat} {s:Nat→AV} {ps:List Tmp} {asg bd:Code} {dn:Nat} (h:R C Γ H w) (ho:lget H.l L=some ⟨t,fr, .lp st pend lim N s ps asg bd dn⟩) (hq:Γ.nm L=some q) :
  ∃ fn tm qd,fr=false∧(C.P.funcs[fn]?).isSome=true∧w.heap[q.blk]?=some (.loop { state:=st,pending:=pend,fn:=fn,tmps:=tm,params:=⟨ps⟩,assign:=asg,body:=bd,defers:=qd })∧(tm.size=N∧∀ t,VR (Γ.cut lim) (s t) (tm.getD t undef)) ∧
   Later C H.next Γ H w Γ { H with l:=lset H.l L ⟨t,fr, .lp st' pend' lim N s ps asg bd dn⟩ } (putBlk w q.blk (.loop { state:=st',pending:=pend',fn:=fn,tmps:=tm,params:=⟨ps⟩,assign:=asg,body:=bd,defers:=qd })):=by
 obtain⟨q',hq',hob⟩:=h.objs _ _ ho
 rw [hq] at hq'
 injection hq' with eq
 subst eq
 simp only [ObjR] at hob
 obtain⟨hnl,hfr,fn,tm,qd,hfn,hob,hvl,hdn⟩:=hob
 subst hfr
 refine⟨fn,tm,qd.blk,rfl,hfn,hob,hvl,h.repl ho rfl hq hnl (o':=⟨t,false, .lp st' pend' lim N s ps asg bd dn⟩) rfl ?_⟩
 simp only [ObjR]
 exact⟨hnl,trivial,fn,tm,qd,hfn,putBlk_same hob,hvl,hdn⟩
theorem round_of_vc {L:Nat} {args:List AV} {H:Hp} {Q:AE→Hp→Prop} {t:TypeId} {fr:Bool} {pend:Option Code} {lim N:Nat} {s:Nat→AV} {ps:List Tmp} {asg bd:Code} {dn:Nat} (ho:lget H.l L=some ⟨t,fr, .lp .ready pend lim N s ps asg bd dn⟩) (hlt:Nat.blt L H.next=true)
  (hl:(Nat.beq args.length ps.length && ps.all (fun p=>Nat.blt p N))=true) (hv:vc C (some L) H.next N asg (parS s ps args) [] H (roundBeg C L H.next N bd Q)):RoundH C L args H Q:=by
 intro Γ w args' ro hR hA
 simp only [Bool.and_eq_true] at hl
 have hlen:=Nat.eq_of_beq_eq_true hl.1
 have hlt:L<H.next:=by simpa using hlt
 obtain⟨q,hq,_⟩:=hR.objs _ _ ho
 obtain⟨fn,tm,qd,_,hfn,hob,hvl,_⟩:=setRec (st':=.ready) (pend':=none) hR ho hq
 have hal:=VRL_length hA
 refine⟨q,fn,(ps.zip args').foldl (fun tmps (x:Tmp × Value)=>tmps.setIfInBounds x.1 x.2) tm,asg,bd,hq,?_,⟨trivial,fun c cs _=>?_⟩⟩
 ·have hsz:args'.length=ps.length:=by omega
  simp [Instr.yield,run_getLoop hob,hsz]
 ·let b:Frame:={ (default:Frame) with fn:=fn,kind:=.normal,roundOf:=some q.blk }
  have hbf:(C.P.funcs[b.fn]?).isSome=true:=hfn
  obtain⟨hs1,hs2⟩:=parS_sound (Γ:=Γ) ps args args' s tm hl.2 hA hvl.1 (fun t=>VR_mono (Gm.cut_le Γ lim) _ _ (hvl.2 t))
  have hS:SX false (fun _=>True) Γ H w (parS s ps args) [] N { tmps:=(ps.zip args').foldl (fun tmps (x:Tmp × Value)=>tmps.setIfInBounds x.1 x.2) tm,defers:=[] }:=⟨none,⟨hs1,hs2,rfl⟩,⟨rfl,⟨[],rfl,List.nodup_nil,fun b hb=>by cases hb⟩,fun _ _=>trivial,fun _ _=>trivial⟩⟩
  have hro:RO H.next Γ (some L) b.roundOf:=⟨hlt,q,hq,rfl⟩
  obtain⟨e1,a1,w1,⟨e,σ1,ds1,H1,Γ1,hQ1,hX1,hS1,hL1⟩,harr⟩:=vc_sound hbf asg (by simp) _ [] H _ Γ _ w (Nat.le_refl _) hro hR hS hv [.beginRound, .code bd] (c::cs)
  have hb0:Frame.round q.blk fn ((ps.zip args').foldl (fun tmps (x:Tmp × Value)=>tmps.setIfInBounds x.1 x.2) tm) asg bd .normal=b.atR { tmps:=(ps.zip args').foldl (fun tmps (x:Tmp × Value)=>tmps.setIfInBounds x.1 x.2) tm,defers:=[] } [.code asg, .beginRound, .code bd]:=by
   simp [Frame.round,Frame.atR,b]
  rw [← hb0] at harr
  -- a fence is asg good asg another one
  have conv:∀ {m m':Machine},StepsIn (Machine.fenced C.P (Fz b.roundOf)) C.P m m'→StepsIn (Machine.fenced C.P (Fz ro)) C.P m m':=fun h=>h
  unfold roundBeg at hQ1
  split at hQ1 <;> try exact hQ1.elim
  simp only [XR] at hX1
  subst hX1
  split at hQ1 <;> try exact hQ1.elim
  rename_i o1 ho1
  split at hQ1 <;> try exact hQ1.elim
  rename_i p1 lim1 n1 sg1 ps1 as1 bd1 dn1 hc1
  obtain⟨t1,fr1,c1⟩:=o1
  simp only at hc1
  subst hc1
  have hq1:Γ1.nm L=some q:=by rw [hL1.2.1 L hlt];exact hq
  obtain⟨fn1,tm1,qd1,_,_,hob1,_,hLb⟩:=setRec (st':=.busy) (pend':=p1) hL1.1 ho1 hq1
  have hbr:=run_beginRound (P:=C.P) hob1 rfl
  have s1:StepsIn (Machine.fenced C.P (Fz b.roundOf)) C.P (lone (b.atR a1 [.beginRound, .code bd]) (c::cs) w1) (lone (b.atR a1 [.code bd]) (c::cs) _):=.one (fenced_any _) (stepR_beginRound rfl hbr)
  have hLL1:Later C H.next Γ H w Γ1 _ _:=hL1.trans (hLb.mono hL1.2.2.1)
  obtain⟨df1,hs1',hx1'⟩:=hS1
  have hS1':SX false (fun _=>True) Γ1 _ _ σ1 [] N a1:=⟨df1,hs1',hx1'.tr hLb.2.2.2⟩
  obtain⟨e2,a2,w2,⟨e',σ2,ds2,H2,Γ2,hQ2,hX2,hS2,hL2⟩,harr2⟩:=vc_sound hbf bd (by simp) σ1 [] _ _ Γ1 a1 _ hLL1.2.2.1 (hro.ext hLL1.2.1) hLb.1 hS1' hQ1 [] (c::cs)
  have hsteps:=conv (StepsIn.trans harr s1)
  have hLL2:Later C H.next Γ H w Γ2 H2 w2:=hLL1.trans hL2
  have hq2:Γ2.nm L=some q:=by rw [hLL2.2.1 L hlt];exact hq
  unfold roundFin at hQ2
  split at hQ2 <;> try exact hQ2.elim
  obtain⟨df2,hs2',hx2'⟩:=hS2
  have hdf:=hs2'.df
  have hdn:df2=none:=by cases df2 with | none=>rfl | some l=>exact absurd hx2'.some' (by simp)
  subst hdn
  simp only [DRL,Option.getD_none] at hdf
  split at hQ2
  ·rename_i ch
   simp only [XR] at hX2
   obtain⟨ch',rfl,hch⟩:=hX2
   obtain⟨todo,hs⟩:=harr2
   obtain⟨fnx,hfx⟩:=Option.isSome_iff_exists.1 hfn
   refine⟨.panicked ch',w2,⟨.panicked ch,H2,Γ2,hQ2,⟨ch',rfl,hch⟩,hLL2⟩,StepsIn.trans hsteps (StepsIn.trans (conv hs) (.one (fenced_any _) ?_))⟩
   exact step_leave_panicked (fr:={ b.atR a2 todo with mode:=.panicking ch' }) ⟨rfl,hdf,fnx,hfx⟩
  ·rename_i e'' hnp
   split at hQ2 <;> try exact hQ2.elim
   rename_i o2 ho2
   split at hQ2 <;> try exact hQ2.elim
   rename_i p2 lim2 n2 sg2 ps2 as2 bd2 dn2 hc2
   obtain⟨t2,fr2,c2⟩:=o2
   simp only at hc2
   subst hc2
   -- the end
   have fin:∀ (j:Option Code) (bb:Bool),j.isNone=bb→Q (.returned (vB bb)) { H2 with l:=lset H2.l L ⟨t2,fr2, .lp (if j.isNone then .ready else .done) j lim2 n2 sg2 ps2 as2 bd2 dn2⟩ } →
     ∃ v w4,(Instr.endRound q.blk j).run C.P w2=.ok v w4∧Post C Γ H w Q (.returned v) w4:=by
    intro j bb hj hQ
    obtain⟨fn2,tm2,qd2,_,_,hob2,_,hLe⟩:=setRec (st':=if j.isNone then .ready else .done) (pend':=j) hLL2.1 ho2 hq2
    exact⟨_,_,run_endRound (P:=C.P) hob2 j, .returned (vB bb),_,Γ2,hQ,⟨_,rfl,by rw [hj];simp only [VR,VP]⟩,hLL2.trans (hLe.mono hLL2.2.2.1)⟩
   cases e' with
   | normal=>
    simp only [XR] at hX2
    subst hX2
    obtain⟨v,w4,hend,hR4⟩:=fin none true rfl hQ2
    exact⟨.returned v,w4,hR4,StepsIn.trans hsteps (StepsIn.trans (conv harr2) (.one (fenced_any _) (stepR_round_end rfl rfl hend)))⟩
   | ret=>
    simp only [XR] at hX2
    subst hX2
    obtain⟨v,w4,hend,hR4⟩:=fin (some .ret) false rfl hQ2
    obtain⟨k₁,hs⟩:=harr2.2 rfl
    exact⟨.returned v,w4,hR4,StepsIn.trans hsteps (StepsIn.trans (conv hs) (.one (fenced_any _) (stepR_round_ret rfl rfl hend)))⟩
   | exit i=>
    simp only [XR] at hX2
    subst hX2
    obtain⟨v,w4,hend,hR4⟩:=fin (some (.exit i)) false rfl hQ2
    obtain⟨k₁,hk,hs⟩:=harr2.2 rfl rfl
    exact⟨.returned v,w4,hR4,StepsIn.trans hsteps (StepsIn.trans (conv hs) (.one (fenced_any _) (stepR_round_exit rfl rfl hk hend)))⟩
   | goto i=>
    simp only [XR] at hX2
    subst hX2
    obtain⟨v,w4,hend,hR4⟩:=fin (some (.goto i)) false rfl hQ2
    obtain⟨k₁,hk,hs⟩:=harr2.2 rfl rfl
    exact⟨.returned v,w4,hR4,StepsIn.trans hsteps (StepsIn.trans (conv hs) (.one (fenced_any _) (stepR_round_goto rfl rfl hk hend)))⟩
   | panic ch=>exact hQ2.elim
end
end Go.Proofs.YtkegmchjobphdaaGreatDoor.Y
namespace Go.Proofs.YtkegmchjobphdaaGreatDoor.Y
open Go
inductive Md where
 | ret
 | pan (ch:List AP)
def MR (Γ:Gm):Md→FrameMode→Prop
 | .ret,m=>m=.returning
 | .pan ch,m=>∃ ch',m=.panicking ch'∧PEL Γ ch ch'
theorem MR_mono {a b:Gm} (h:a.le b) {u:Md} {m:FrameMode} (hm:MR a u m):MR b u m:=by
 cases u with
 | ret=>exact hm
 | pan ch=>obtain⟨ch',h1,h2⟩:=hm;exact⟨ch',h1,PEL_mono h h2⟩
def settleA:Md→Md
 | .pan (⟨_,true⟩::_)=>.ret
 | m=>m
def raisedA (u:Md) (ch:List AP):Md:=
 match u with
 | .pan old=>.pan (ch++old)
 | .ret=>.pan ch
theorem PEL_append {Γ:Gm}:∀ {a b:List AP} {a' b':List PanicEntry},PEL Γ a a'→PEL Γ b b'→PEL Γ (a++b) (a'++b')
 | [],_,_,_,h,k=>by simp only [PEL] at h;subst h;exact k
 | p::ps,_,_,_,h,k=>by
  simp only [PEL] at h
  obtain⟨q,qs,rfl,h1,h2⟩:=h
  simp only [List.cons_append,PEL]
  exact⟨q,_,rfl,h1,PEL_append h2 k⟩
theorem PEL_goexit {Γ:Gm}:∀ {a:List AP} {a':List PanicEntry},PEL Γ a a'→a'.dropWhile (!·.goexit)=[]
 | [],_,h=>by simp only [PEL] at h;subst h;rfl
 | p::ps,_,h=>by
  simp only [PEL] at h
  obtain⟨q,qs,rfl,h1,h2⟩:=h
  rw [List.dropWhile_cons]
  simp [h1.2.2,PEL_goexit h2]
theorem settle_sound {Γ:Gm} {u:Md} {m:FrameMode} (h:MR Γ u m):MR Γ (settleA u) (settle m):=by
 cases u with
 | ret=>simp only [MR] at h;subst h;rfl
 | pan ch=>
  obtain⟨ch',rfl,hc⟩:=h
  match ch,hc with
  | [],hc=>simp only [PEL] at hc;subst hc;exact⟨[],rfl,rfl⟩
  | ⟨v,true⟩::r,hc=>
   simp only [PEL] at hc
   obtain⟨⟨qv,qr,qg⟩,qs,rfl,⟨h1,h2,h3⟩,h4⟩:=hc
   simp only at h2
   subst h2
   simp only [settleA,MR,settle,PEL_goexit h4]
  | ⟨v,false⟩::r,hc=>
   have hc':=hc
   simp only [PEL] at hc
   obtain⟨⟨qv,qr,qg⟩,qs,rfl,⟨h1,h2,h3⟩,h4⟩:=hc
   simp only at h2
   subst h2
   exact⟨_,rfl,hc'⟩
theorem raised_sound {Γ:Gm} {u:Md} {m:FrameMode} (h:MR Γ u m) {ch:List AP} {ch':List PanicEntry} (hc:PEL Γ ch ch'):MR Γ (raisedA u ch) (raised m ch'):=by
 cases u with
 | ret=>simp only [MR] at h;subst h;exact⟨ch',rfl,hc⟩
 | pan old=>
  obtain⟨old',rfl,ho⟩:=h
  exact⟨ch'++old',rfl,PEL_append hc ho⟩
section
variable (C:Cx)
def PostD (Γ:Gm) (H:Hp) (w:World) (Q:AE→Md→Hp→Prop) (e':Ending) (m':FrameMode) (w':World):Prop:=
 ∃ e u H' Γ',Q e u H'∧ER Γ' e e'∧MR Γ' u m'∧Later C H.next Γ H w Γ' H' w'
def HoldsD (g:FuncId) (args:List AV) (u:Md) (H:Hp) (Q:AE→Md→Hp→Prop):Prop:=
 ∀ (Γ:Gm) (w:World) (args':List Value) (m:FrameMode),R C Γ H w→VRL Γ args args'→MR Γ u m →
  (callFunc g ⟨args'⟩).run C.P w=.ok (.enter g ⟨args'⟩) w∧CallsDIn (Fz none) 0 C.P g ⟨args'⟩ m w (PostD C Γ H w Q)
def tupA:List AV→AV
 | [v]=>v
 | vs=>.tup vs
def resV (σ:Sg) (H:Hp):List ResultVar→(List AV→Prop)→Prop
 | [],K=>K []
 | .tmp t::r,K=>resV σ H r fun vs=>K (σ t::vs)
 | .cell a t::r,K=>(popLoad C.P t (σ a) (lget H.l)).Then fun v=>resV σ H r fun vs=>K (v::vs)
def LeaveA (σ:Sg) (rs:List ResultVar) (Q:AE→Hp→Prop):List AD→Md→Hp→Prop
 | [], .ret,H=>resV C σ H rs fun vs=>Q (.returned (tupA vs)) H
 | [], .pan ch,H=>Q (.panicked ch) H
 | .col n::ds,u,H=>match lget H.l n with
  | some o=>match o.c with
   | .df=>LeaveA σ rs Q ds u { H with l:=ldel H.l n }
   | _=>False
  | none=>False
 | .fn g cap args::ds,u,H=>HoldsD C g (args++cap) u H fun e u' H'=>match e with
  | .returned _=>LeaveA σ rs Q ds (settleA u') H'
  | .panicked ch=>LeaveA σ rs Q ds (raisedA u' ch) H'
def Fin (rs:List ResultVar) (Q:AE→Hp→Prop):KQ:=fun e σ ds H=>
 match e with
 | .normal=>LeaveA C σ rs Q ds .ret H
 | .ret=>LeaveA C σ rs Q ds .ret H
 | .panic ch=>LeaveA C σ rs Q ds (.pan ch) H
 | _=>False
end
def LeavesB (P:Program) (fn:Func) (tmps:Array Value) (Q:Ending→World→Prop):List Deferred→FrameMode→World→Prop
 | [], .returning,w=>∃ v,(results fn tmps).run P w=.ok v w∧Q (.returned v) w
 | [], .panicking chain,w=>Q (.panicked chain) w
 | [], .run,_=>False
 | d::ds,u,w=>u ≠ .run∧((∃ blk w',d={ target:=.collected blk,args:=#[] }∧(Instr.takeDeferred blk).run P w=.ok [] w'∧LeavesB P fn tmps Q ds u w') ∨
   (∃ fv cap f args,d.target=.fn fv cap∧(invoke d.target d.args).run P w=.ok (.enter f args) w ∧
    CallsDIn (Fz none) 0 P f args u w fun
     | .returned _,u',w'=>LeavesB P fn tmps Q ds (settle u') w'
     | .panicked chain,u',w'=>LeavesB P fn tmps Q ds (raised u' chain) w'
     | .outgrown,_,_=>False))
theorem step_collected {P:Program} {fr:Frame} {cs:List Frame} {w w':World} {blk:Nat} {ds:List Deferred} (hm:fr.mode ≠ .run) (hd:fr.defers={ target:=.collected blk,args:=#[] }::ds)
  (ht:(Instr.takeDeferred blk).run P w=.ok [] w'):step P (lone fr cs w)=.next (lone { fr with defers:=ds } cs w'):=by
 refine step_lone_go ?_
 cases hmode:fr.mode with
 | run=>exact absurd hmode hm
 | returning=>simp [stepG,unwind,hmode,hd,Sem.runT_eq,ht]
 | panicking chain=>simp [stepG,unwind,hmode,hd,Sem.runT_eq,ht]
theorem leavesB_steps {P:Program} {fn:Func} {tmps:Array Value} {Q:Ending→World→Prop}:∀ (ds:List Deferred) (u:FrameMode) (w:World) (fr:Frame) (cs:List Frame),fr.mode=u→fr.defers=ds→fr.tmps=tmps→P.funcs[fr.fn]?=some fn→fr.kind=.normal→LeavesB P fn tmps Q ds u w →
  ∃ e w' fr',Q e w'∧ComesIn (Machine.fenced P (Fz none)) P (lone fr cs w) (lone fr' cs w') e∧fr'.fn=fr.fn∧fr'.leaving P w' e:=by
 intro ds
 induction ds with
 | nil=>
  intro u w fr cs hu hd ht hf hk h
  cases u with
  | run=>exact h.elim
  | returning=>
   obtain⟨v,hr,hR⟩:=h
   exact⟨.returned v,w,fr,hR,StepsIn.refl _,rfl,hu,hd,hk,fn,hf,ht ▸ hr⟩
  | panicking chain=>exact⟨.panicked chain,w,fr,h,StepsIn.refl _,rfl,hu,hd,fn,hf⟩
 | cons d ds ih=>
  intro u w fr cs hu hd ht hf hk h
  obtain⟨hrun,⟨blk,w1,rfl,hcol,h⟩ | ⟨fv,cap,f,args,htar,hinv,_,hcall⟩⟩:=h
  ·have h1:=step_collected (cs:=cs) (hu ▸ hrun) hd hcol
   obtain⟨e',w'',fr',hR',hs',hfn',hl'⟩:=ih u w1 { fr with defers:=ds } cs hu rfl ht hf hk h
   exact⟨e',w'',fr',hR',ComesIn.of_steps (.one (fenced_any _) h1) hs',hfn',hl'⟩
  ·have h1:=step_defer (cs:=cs) (hu ▸ hrun) hd htar hinv
   obtain⟨e,u',w',frX,hR,hsteps,hkX,hfX,hgo⟩:=hcall { fr with defers:=ds } cs hu (room_Fz _ _)
   cases e with
   | returned v=>
    have h2:=step_going_returned (c:={ { fr with defers:=ds } with mode:=u' }) (cs:=cs) hkX hgo
    obtain⟨e',w'',fr',hR',hs',hfn',hl'⟩:=ih (settle u') w' { { { fr with defers:=ds } with mode:=u' } with mode:=settle u' } cs rfl rfl ht hf hk hR
    exact⟨e',w'',fr',hR',ComesIn.of_steps (.head (fenced_any _) h1 (StepsIn.trans hsteps (.one (fenced_any _) h2))) hs',hfn',hl'⟩
   | panicked chain=>
    have h2:=step_going_panicked (c:={ { fr with defers:=ds } with mode:=u' }) (cs:=cs) hgo
    obtain⟨e',w'',fr',hR',hs',hfn',hl'⟩:=ih (raised u' chain) w' { { { fr with defers:=ds } with mode:=u' } with mode:=raised u' chain } cs rfl rfl ht hf hk hR
    exact⟨e',w'',fr',hR',ComesIn.of_steps (.head (fenced_any _) h1 (StepsIn.trans hsteps (.one (fenced_any _) h2))) hs',hfn',hl'⟩
   | outgrown=>exact hR.elim
section
variable {C:Cx}
theorem resV_sound {Γ:Gm} {H:Hp} {w:World} {σ:Sg} {ds:List AD} {N:Nat} {a:Act} {df0:Option (List Deferred)} (hR:R C Γ H w) (hS:SR df0 Γ σ ds N a):∀ {rs:List ResultVar} {K:List AV→Prop},resV C σ H rs K →
  ∃ vs vs',K vs∧VRL Γ vs vs'∧(rs.mapM (fun r=>match r with | .tmp t=>pure (a.tmps.getD t undef) | .cell x t=>do loadVar t (← asAddr (a.tmps.getD x undef)):ResultVar→Sem Value)).run C.P w=.ok vs' w
 | [],K,h=>⟨[],[],h,rfl,rfl⟩
 | .tmp t::r,K,h=>by
  simp only [resV] at h
  obtain⟨vs,vs',h1,h2,h3⟩:=resV_sound hR hS h
  refine⟨_,a.tmps.getD t undef::vs',h1,⟨_,_,rfl,hS.tm t,h2⟩,?_⟩
  rw [List.mapM_cons]
  simp only [Sem.run_bind,Sem.run_pure,Result.andThen_ok]
  rw [h3]
  rfl
 | .cell x t::r,K,h=>by
  simp only [resV] at h
  obtain⟨v,hy,h⟩:=PRes.yld h
  obtain⟨vs,vs',h1,h2,h3⟩:=resV_sound hR hS h
  obtain⟨v',h4,h5⟩:=load_sound hR (hS.tm x) hy
  refine⟨_,v'::vs',h1,⟨_,_,rfl,h5,h2⟩,?_⟩
  rw [List.mapM_cons]
  have hl:(do loadVar t (← asAddr (a.tmps.getD x undef)):Sem Value).run C.P w=.ok v' w:=by
   generalize a.tmps.getD x undef=p at h4 ⊢
   unfold Instr.loadAt at h4
   cases p with
   | pointer q=>cases q with
    | none=>simp [Instr.sureAddr,stuck,Sem.run] at h4
    | some q=>simpa [Instr.sureAddr,asAddr] using h4
   | _=>simp [Instr.sureAddr,stuck,Sem.run] at h4
  simp only [Sem.run_bind] at hl ⊢
  rw [hl]
  simp only [Result.andThen_ok]
  rw [h3]
  rfl
def tup:List Value→Value
 | [v]=>v
 | vs=>.tuple ⟨vs⟩
theorem run_results {P:Program} {fn:Func} {tmps:Array Value} {w:World} {vs':List Value}
  (h:(fn.results.toList.mapM (fun r=>match r with | .tmp t=>pure (tmps.getD t undef) | .cell x t=>do loadVar t (← asAddr (tmps.getD x undef)):ResultVar→Sem Value)).run P w=.ok vs' w) :
  (results fn tmps).run P w=.ok (tup vs') w:=by
 obtain⟨rs,hrs⟩:∃ rs,fn.results=⟨rs⟩:=⟨fn.results.toList,by simp⟩
 rw [hrs] at h
 simp only at h
 have e:∀ (g:ResultVar→Sem Value),(∀ r,g r=(match r with | .tmp t=>pure (tmps.getD t undef) | .cell x t=>do loadVar t (← asAddr (tmps.getD x undef))))→(rs.mapM g).run P w=.ok vs' w:=by
  intro g hg
  rw [show g=(fun r=>match r with | .tmp t=>pure (tmps.getD t undef) | .cell x t=>do loadVar t (← asAddr (tmps.getD x undef))) from funext hg]
  exact h
 have fin:∀ (g:ResultVar→Sem Value),(rs.mapM g).run P w=.ok vs' w→(do let vs ← (⟨rs⟩:Array ResultVar).mapM g;pure (if h:vs.size=1 then vs[0] else .tuple vs):Sem Value).run P w=.ok (tup vs') w:=by
  intro g hg
  rw [List.mapM_toArray]
  simp [hg]
  match vs' with
  | []=>rfl
  | [v]=>rfl
  | v1::v2::r=>simp [tup]
 unfold results
 rw [hrs]
 exact fin _ (e _ fun r=>by cases r <;> rfl)
theorem VR_tup {Γ:Gm} {vs:List AV} {vs':List Value} (h:VRL Γ vs vs'):VR Γ (tupA vs) (tup vs'):=by
 match vs,h with
 | [],h=>simp only [VRL] at h;subst h;simp only [tupA,VR,tup];exact⟨_,rfl,rfl⟩
 | [v],h=>
  simp only [VRL] at h
  obtain⟨u,us,rfl,h1,rfl⟩:=h
  exact h1
 | v1::v2::r,h=>
  have h':=h
  simp only [VRL] at h
  obtain⟨u,us,rfl,h1,u2,us2,rfl,h2,h3⟩:=h
  simp only [tupA,VR]
  exact⟨_,rfl,h'⟩
theorem run_takeDeferred {P:Program} {w:World} {b:Nat} (h:w.heap[b]?=some (.deferred (some []))):(Instr.takeDeferred b).run P w=.ok [] (putBlk w b (.deferred none)):=by
 simp only [Instr.takeDeferred,getObj,setObj,Sem.run_bind,Sem.run,h,Result.andThen_ok,putBlk]
 rfl
theorem R.drop {Γ:Gm} {H:Hp} {w:World} (h:R C Γ H w) {n:Nat} {o:AObj} {q:Pl} {x:Obj} (hn:lget H.l n=some o) (hfr:o.fr=false) (hq:Γ.nm n=some q) (hnl:q.nl=false) :
  Later C H.next Γ H w Γ { H with l:=ldel H.l n } (putBlk w q.blk x):=by
 have hownq:Own Γ H q.blk:=⟨n,o,q,hn,hfr,hq,hnl,rfl⟩
 refine⟨⟨h.glob,h.fresh,fun b arr hfz=>?_,fun m p hp=>?_,fun m p q1 hp=>h.own m p q1 (lget_ldel.1 hp).2,fun m p m' p' q1 q2 hp hp'=>h.apart m p m' p' q1 q2 (lget_ldel.1 hp).2 (lget_ldel.1 hp').2⟩,Ext.refl _ _,Nat.le_refl _,⟨rfl,rfl,rfl,by simp [putBlk],fun k hk hno=>putBlk_other (fun e=>hno (e ▸ hownq)),fun k hk=>?_,Fzn.le_refl _,fun k a hk=>.inl hk⟩⟩
 ·obtain⟨t,z,e⟩:=h.fzok b arr hfz
  refine⟨t,z,?_⟩
  rw [putBlk_other (fun e'=>?_)]
  ·exact e
  ·subst e';rw [h.own n o q hn hfr hq hnl] at hfz;cases hfz
 ·obtain⟨hne,hp⟩:=lget_ldel.1 hp
  obtain⟨q1,e1,e2⟩:=h.objs m p hp
  exact⟨q1,e1,e2.ext (Gm.le_refl _) fun hl=>putBlk_other (Ne.symm (h.apart n o m p q q1 hn hp (Ne.symm hne) hq e1 hfr hnl hl))⟩
 ·obtain⟨m,p,q1,h1,h2⟩:=hk
  exact .inr ⟨m,p,q1,(lget_ldel.1 h1).2,h2⟩
theorem ObjR.deferred {P:Program} {Γ:Gm} {w:World} {q:Pl} {o:AObj} {l:Option (List Deferred)} (h:ObjR P Γ w q o) (hnl:q.nl=false) (hb:w.heap[q.blk]?=some (.deferred l)):o.fr=false:=by
 by_cases hc:isCells o.c=true
 ·rw [ObjR_cells hc] at h
  rcases h with h | ⟨_,us,rest,z,h1,_⟩
  ·rw [hnl] at h;cases h.1
  ·rw [hb] at h1;cases h1
 ·obtain⟨t,fr,c⟩:=o
  cases c <;> first | exact absurd rfl hc | (simp only [ObjR] at h;exact h.2.1)
theorem R.putHid {Γ:Gm} {H:Hp} {w:World} (h:R C Γ H w) {b:Nat} {x:Obj} (hno:¬ Own Γ H b) (hb:w.heap[b]?=some (.deferred (some []))):R C Γ H (putBlk w b x):=by
 refine⟨h.glob,h.fresh,fun k arr hfz=>?_,fun m p hp=>?_,h.own,h.apart⟩
 ·obtain⟨t,z,e⟩:=h.fzok k arr hfz
  refine⟨t,z,?_⟩
  rw [putBlk_other (fun e'=>?_)]
  ·exact e
  ·subst e';rw [hb] at e;cases e
 ·obtain⟨q1,e1,e2⟩:=h.objs m p hp
  refine⟨q1,e1,e2.ext (Gm.le_refl _) fun hl=>putBlk_other fun e'=>?_⟩
  subst e'
  exact hno ⟨m,p,q1,hp,e2.deferred hl hb,e1,hl,rfl⟩
theorem later_put {n0:Nat} {Γ0 Γ:Gm} {H0 H:Hp} {w0 w:World} {b:Nat} {x:Obj} (hL:Later C n0 Γ0 H0 w0 Γ H w) (hB:w0.heap.size≤b∨Own Γ0 H0 b) (hno:¬ Own Γ H b) (hb:w.heap[b]?=some (.deferred (some []))):Later C n0 Γ0 H0 w0 Γ H (putBlk w b x):=by
 obtain⟨h1,h2,h3,t⟩:=hL
 refine⟨h1.putHid hno hb,h2,h3,⟨t.os,t.tape,t.output,by simpa [putBlk] using t.size,fun k hk hn=>?_,t.prov,t.fz,t.fzprov⟩⟩
 rw [putBlk_other (fun e'=>?_)]
 ·exact t.kept k hk hn
 ·subst e'
  rcases hB with h | h
  ·omega
  ·exact hn h
theorem leave_hid {fn:Func} {tmps:Array Value} {Q:Ending→World→Prop} {m:FrameMode} {n0:Nat} {Γ0 Γ:Gm} {H0 H:Hp} {w0:World} (hmr:m ≠ .run):∀ (bs:List Nat) (w:World),bs.Nodup→(∀ b∈bs,(w0.heap.size≤b∨Own Γ0 H0 b)∧¬ Own Γ H b∧w.heap[b]?=some (.deferred (some [])))→Later C n0 Γ0 H0 w0 Γ H w →
  (∀ w',Later C n0 Γ0 H0 w0 Γ H w'→LeavesB C.P fn tmps Q [] m w')→LeavesB C.P fn tmps Q (bs.map colD) m w
 | [],w,_,_,hL,hK=>hK w hL
 | b::bs,w,hnd,hb,hL,hK=>by
  obtain⟨k1,k2,k3⟩:=hb b (List.mem_cons_self ..)
  rw [List.nodup_cons] at hnd
  refine⟨hmr, .inl ⟨b,_,rfl,run_takeDeferred k3,?_⟩⟩
  refine leave_hid hmr bs _ hnd.2 (fun c hc=>?_) (later_put hL k1 k2 k3) hK
  obtain⟨j1,j2,j3⟩:=hb c (List.mem_cons_of_mem _ hc)
  refine⟨j1,j2,?_⟩
  rw [putBlk_other (fun e=>by subst e;exact hnd.1 hc)]
  exact j3
theorem leave_sound {df0:Option (List Deferred)} {fn:Func} {σ:Sg} {N:Nat} {Q:AE→Hp→Prop} {Γ0:Gm} {H0:Hp} {w0:World}:∀ (ds:List AD) (u:Md) (H:Hp) (Γ:Gm) (w:World) (a:Act) (m:FrameMode),LeaveA C σ fn.results.toList Q ds u H→R C Γ H w→SR df0 Γ σ ds N a→HX true (fun k=>w0.heap.size≤k∨Own Γ0 H0 k) df0 Γ H w→MR Γ u m→Later C H0.next Γ0 H0 w0 Γ H w→LeavesB C.P fn a.tmps (Post C Γ0 H0 w0 Q) a.defers m w
 | [],u,H,Γ,w,a,m,hl,hR,hS,hX,hM,hL=>by
  have hdf:=hS.df
  simp only [DRL] at hdf
  obtain⟨bs,ebs,hnd,hbs⟩:=hX.hid
  rw [hdf,ebs]
  have hmr:m ≠ .run:=by
   cases u with
   | ret=>simp only [MR] at hM;subst hM;simp
   | pan ch=>obtain⟨ch',rfl,_⟩:=hM;simp
  refine leave_hid hmr bs w hnd (fun b hb=>⟨(hbs b hb).1,(hbs b hb).2.2.1,(hbs b hb).2.2.2⟩) hL fun w' hL'=>?_
  cases u with
  | ret=>
   simp only [MR] at hM
   subst hM
   simp only [LeaveA] at hl
   obtain⟨vs,vs',k1,k2,k3⟩:=resV_sound hL'.1 hS hl
   exact⟨tup vs',run_results k3,_,H,Γ,k1,⟨_,rfl,VR_tup k2⟩,hL'⟩
  | pan ch=>
   obtain⟨ch',rfl,hc⟩:=hM
   simp only [LeaveA] at hl
   exact⟨_,H,Γ,hl,⟨ch',rfl,hc⟩,hL'⟩
 | .col n::ds,u,H,Γ,w,a,m,hl,hR,hS,hX,hM,hL=>by
  have hdf:=hS.df
  simp only [DRL,DR] at hdf
  obtain⟨d,dd,hdd,⟨_,q,hq,rfl⟩,hds⟩:=hdf
  rw [hdd]
  simp only [LeaveA] at hl
  split at hl <;> try exact hl.elim
  rename_i o ho
  split at hl <;> try exact hl.elim
  rename_i hc
  obtain⟨q',hq',hob⟩:=hR.objs n o ho
  rw [hq] at hq'
  injection hq' with eq
  subst eq
  obtain⟨t,fr,c⟩:=o
  simp only at hc
  subst hc
  simp only [ObjR] at hob
  obtain⟨hnl,hfr,hob⟩:=hob
  have hdrop:=hR.drop (x:=.deferred none) ho hfr hq hnl
  have hmr:m ≠ .run:=by
   cases u with
   | ret=>simp only [MR] at hM;subst hM;simp
   | pan ch=>obtain⟨ch',rfl,_⟩:=hM;simp
  refine⟨hmr, .inl ⟨q.blk,_,rfl,run_takeDeferred hob,?_⟩⟩
  exact leave_sound ds u _ Γ _ { a with defers:=dd } m hl hdrop.1 ⟨hS.size,hS.tm,hds⟩ (hX.tr hdrop.2.2.2) hM (hL.trans (hdrop.mono hL.2.2.1))
 | .fn g cap args::ds,u,H,Γ,w,a,m,hl,hR,hS,hX,hM,hL=>by
  have hdf:=hS.df
  simp only [DRL,DR] at hdf
  obtain⟨d,dd,hdd,⟨cap',args',rfl,h1,h2⟩,hds⟩:=hdf
  rw [hdd]
  simp only [LeaveA] at hl
  have hmr:m ≠ .run:=by
   cases u with
   | ret=>simp only [MR] at hM;subst hM;simp
   | pan ch=>obtain⟨ch',rfl,_⟩:=hM;simp
  obtain⟨k1,k2⟩:=hl Γ w (args'++cap').toList m hR (by rw [Array.toList_append];exact VRL_append h2 h1) hM
  have harr:(⟨(args'++cap').toList⟩:Array Value)=args'++cap':=by simp
  rw [harr] at k1 k2
  refine⟨hmr, .inr ⟨.func g,cap',g,args'++cap',rfl,k1,k2.mono ?_⟩⟩
  rintro e' m' w' ⟨e,u',H',Γ',hq,hE,hM',hL'⟩
  have hLL:=hL.trans (hL'.mono hL.2.2.1)
  have hX':=hX.tr hL'.2.2.2
  have hS':SR df0 Γ' σ ds N { a with defers:=dd }:=⟨hS.size,fun t=>VR_mono (hL'.le hR) _ _ (hS.tm t),DRL_mono (hL'.le hR) hds⟩
  cases e with
  | returned v=>
   obtain⟨v',rfl,_⟩:=hE
   exact leave_sound ds (settleA u') H' Γ' w' { a with defers:=dd } _ hq hL'.1 hS' hX' (settle_sound hM') hLL
  | panicked ch=>
   obtain⟨ch',rfl,hch⟩:=hE
   exact leave_sound ds (raisedA u' ch) H' Γ' w' { a with defers:=dd } _ hq hL'.1 hS' hX' (raised_sound hM' hch) hLL
def argS:Nat→List AV→List (Nat × AV)
 | _,[]=>[]
 | k,v::vs=>(k,v)::argS (k+1) vs
theorem argS_get:∀ (args:List AV) (k:Nat) (t:Nat),sets (fun _=>und) (argS k args) t=if k≤t then args.getD (t - k) und else und
 | [],k,t=>by simp [argS,sets]
 | v::vs,k,t=>by
  simp only [argS,sets]
  by_cases e:t=k
  ·subst e
   rw [upd_same]
   simp
  ·rw [upd_other _ _ e,argS_get vs (k+1) t]
   by_cases h:k≤t
   ·rw [if_pos (by omega),if_pos h,show t - k=(t - (k+1))+1 by omega]
    simp
   ·rw [if_neg (by omega),if_neg h]
theorem run_enter {P : Program} {f : FuncId} {fn : Func} {c : Code} (hf : P.funcs[f]? = some fn) (hname : (fn.name == "runtime.NumGoroutine") = false) (hb : fn.body = some c) (args : Array Value) (w : World) :
  (callFunc f args).run P w=.ok (.enter f args) w:=by
 have h1 : fn.name ≠ "runtime.NumGoroutine" := by simpa using hname
 simp [callFunc,hf,h1,hb]
theorem entry_SR {df0:Option (List Deferred)} (h0:[]=df0.getD []) {Γ:Gm} {args:List AV} {args':List Value} {n:Nat} (hA:VRL Γ args args') (hN:args.length≤n):SR df0 Γ (sets (fun _=>und) (argS 0 args)) [] n { tmps:=(⟨args'⟩:Array Value)++Array.replicate (n - args'.length) undef,defers:=[] }:=by
 have hlen:=VRL_length hA
 refine⟨by simp;omega,fun t=>?_,h0⟩
 rw [argS_get,if_pos (Nat.zero_le _),Nat.sub_zero,Array.getD_eq_getD_getElem?,Array.getElem?_append]
 simp only [List.size_toArray,List.getElem?_toArray]
 rw [List.getD_eq_getElem?_getD]
 by_cases ht:t<args'.length
 ·rw [if_pos ht]
  have:args[t]?=some (args[t]'(by omega)):=List.getElem?_eq_getElem (by omega)
  rw [this]
  obtain⟨v',h1,h2⟩:=VRL_get hA this
  rw [h1]
  exact h2
 ·rw [if_neg ht,List.getElem?_eq_none (by omega)]
  have:((Array.replicate (n - args'.length) undef)[t - args'.length]?).getD undef=undef:=by
   rw [Array.getElem?_replicate]
   split <;> rfl
  rw [this]
  exact VR_undef Γ
theorem holds_of_vc {f : FuncId} {fn : Func} {c : Code} {args : List AV} {H : Hp} {Q : AE → Hp → Prop} (hf : C.P.funcs[f]? = some fn) (hname : (fn.name == "runtime.NumGoroutine") = false) (hb : fn.body = some c)
  (hN:Nat.ble args.length fn.ntmps=true) (hv:vc C none H.next fn.ntmps c (sets (fun _=>und) (argS 0 args)) [] H (Fin C fn.results.toList Q)):HoldsG C f args H Q:=by
 intro Γ w args' hR hA
 have hlen:=VRL_length hA
 refine⟨run_enter hf hname hb _ _,(callsIn_wide (n:=0)).1 ⟨trivial,fun cs _=>?_⟩⟩
 let b:Frame:={ (default:Frame) with fn:=f,kind:=.normal,roundOf:=none }
 have hbf:(C.P.funcs[b.fn]?).isSome=true:=by show(C.P.funcs[f]?).isSome=true;rw [hf];rfl
 have henter:Frame.enter C.P f ⟨args'⟩ .normal=b.atR { tmps:=(⟨args'⟩:Array Value)++Array.replicate (fn.ntmps - args'.length) undef,defers:=[] } [.code c]:=by
  simp [Frame.enter,Frame.atR,hf,hb,b]
 have hS:SX true (fun k=>w.heap.size≤k∨Own Γ H k) Γ H w _ _ _ _:=⟨some [],entry_SR rfl (n:=fn.ntmps) hA (Nat.le_of_ble_eq_true hN),⟨rfl,⟨[],rfl,List.nodup_nil,fun b hb=>by cases hb⟩,fun k h=>.inr h,fun k h=>.inl h⟩⟩
 obtain⟨e1,a',w',⟨e,σ',ds',H',Γ',h1,h2,⟨df0,h3,hx3⟩,h4⟩,harr⟩:=vc_sound (r:=true) (rn:=none) (n0:=H.next) hbf c (by simp) _ [] H _ Γ _ w (Nat.le_refl _) rfl hR hS hv [] cs
 rw [← henter] at harr
 have fin:∀ (u:Md) (m:FrameMode) (todo:List Item),LeaveA C σ' fn.results.toList Q ds' u H'→MR Γ' u m→StepsIn (Machine.fenced C.P (Fz none)) C.P (lone (Frame.enter C.P f ⟨args'⟩ .normal) cs w) (lone { b.atR a' todo with mode:=m } cs w') →
   ∃ e w'' fr,Post C Γ H w Q e w''∧ComesIn (Machine.fenced C.P (Fz none)) C.P (lone (Frame.enter C.P f ⟨args'⟩ .normal) cs w) (lone fr cs w'') e∧fr.fn=f∧fr.leaving C.P w'' e:=by
  intro u m todo hl hm hs
  have:=leave_sound ds' u H' Γ' w' a' m hl h4.1 h3 hx3 hm h4
  obtain⟨e',w'',fr',hR',hs',hfn',hl'⟩:=leavesB_steps (P:=C.P) a'.defers m w' { b.atR a' todo with mode:=m } cs rfl rfl rfl hf rfl this
  exact⟨e',w'',fr',hR',ComesIn.of_steps hs hs',hfn',hl'⟩
 cases e with
 | normal=>
  simp only [XR] at h2;subst h2
  exact fin .ret .returning [] h1 rfl (StepsIn.trans harr (.one (fenced_any _) (stepR_end rfl)))
 | ret=>
  simp only [XR] at h2;subst h2
  obtain⟨todo,hs⟩:=harr.1 rfl
  exact fin .ret .returning todo h1 rfl hs
 | panic ch=>
  simp only [XR] at h2
  obtain⟨ch',rfl,hp⟩:=h2
  obtain⟨todo,hs⟩:=harr
  exact fin (.pan ch) (.panicking ch') todo h1 ⟨ch',rfl,hp⟩ hs
 | exit i=>exact h1.elim
 | goto i=>exact h1.elim
end
end Go.Proofs.YtkegmchjobphdaaGreatDoor.Y
namespace Go.Proofs.YtkegmchjobphdaaGreatDoor.Y
open Go
def look:List (Nat × Nat)→Nat→Nat
 | [],n=>n
 | (k,v)::r,n=>match Nat.beq k n with
  | true=>v
  | false=>look r n
def niGet:List (Nat × Nat)→Nat→Option Nat
 | [],_=>none
 | (k,s)::r,n=>match Nat.beq k n with
  | true=>some s
  | false=>niGet r n
def rmap (n0:Nat) (ps:List (Nat × Nat)) (N1 N n:Nat):Nat:=
 match Nat.blt n n0 with
 | true=>n
 | false=>match Nat.blt n N1 with
  | true=>look ps n
  | false=>n - N1+N
def renF (ρ:Nat→Nat):Fn→Fn
 | .yield l=>.yield (ρ l)
 | f=>f
def yOK (ni:List (Nat × Nat)):Fn→Bool
 | .yield l=>(niGet ni l).isNone
 | _=>true
section
variable (ρ:Nat→Nat) (ni:List (Nat × Nat)) (L:List (Nat × AObj))
def aggP:AV→Option (List AV)
 | .agg cs=>some cs
 | .p (.agg ps)=>some (ps.map .p)
 | _=>none
mutual
def See:AV→AV→Prop
 | v, .p x=>Res L 5 v x
 | v, .ptr n i f=>niGet ni n=none∧v=.ptr (ρ n) i f
 | v, .ptd n i f=>niGet ni n=none∧v=.ptd (ρ n) i f
 | v, .sl n s off len=>match niGet ni n with
  | some s'=>s'=s∧off=0∧len=0∧v=.p .nils
  | none=>v=.sl (ρ n) s off len
 | v, .mp n=>niGet ni n=none∧v=.mp (ρ n)
 | v, .fn f a b=>yOK ni f=true∧∃ a0 b0,fnOf v=some (renF ρ f,a0,b0)∧SeeL a0 a∧SeeL b0 b
 | v, .iface t x=>∃ y,ifParts v=some (some (t,y))∧See y x
 | v, .agg cs=>∃ cs0,aggP v=some cs0∧SeeL cs0 cs
 | v, .tup vs=>∃ vs0,v=.tup vs0∧SeeL vs0 vs
 | v, .anyp=>v=.anyp
 | _, .junk=>True
def SeeL:List AV→List AV→Prop
 | l0,[]=>l0=[]
 | l0,v::vs=>∃ u us,l0=u::us∧See u v∧SeeL us vs
end
def SeeLL:List (List AV)→List (List AV)→Prop
 | l0,[]=>l0=[]
 | l0,v::vs=>∃ u us,l0=u::us∧SeeL ρ ni L u v∧SeeLL us vs
def mxOf:Cn→Option (List AV)
 | .mx vs=>some vs
 | .pu xs=>some (xs.map .p)
 | _=>none
def mxsOf:Cn→Option (List (List AV))
 | .mxs vs=>some vs
 | .pus xs=>some (mapsP xs)
 | _=>none
def SeeC (n0:Nat) (c0 c1:Cn):Prop:=
 match c1 with
 | .bx cs1=>∃ cs0,c0=.bx cs0∧SeeL ρ ni L cs0 cs1
 | .pu ys=>match c0 with
  | .pu xs=>xs=ys
  | .mx vs=>ResL (Res L 5) vs ys
  | _=>False
 | .pus yss=>match c0 with
  | .pus xss=>xss=yss
  | .mxs vss=>ResLL (Res L 5) vss yss
  | _=>False
 | .mx vs1=>∃ vs0,mxOf c0=some vs0∧SeeL ρ ni L vs0 vs1
 | .mxs vs1=>∃ vs0,mxsOf c0=some vs0∧SeeLL ρ ni L vs0 vs1
 | .lp _ _ lim _ _ _ _ _ dn=>c0=c1∧Nat.ble lim n0=true∧Nat.blt dn n0=true
 | .df=>c0=.df
 | .ms es=>c0=.ms es
 | .mk zs es=>c0=.mk zs es
 | .it s i=>c0=.it s i
def SeeO (n0:Nat) (n:Nat) (o1:AObj):Prop:=
 match niGet ni n with
 | some s=>o1.fr=false∧(match o1.c with
  | .pu xs=>xs=[]∧s=1
  | .pus xs=>xs=[]
  | .mx xs=>xs=[]∧s=1
  | .mxs xs=>xs=[]
  | _=>False)
 | none=>∃ o0,lget L (ρ n)=some o0∧o0.t=o1.t∧o0.fr=o1.fr∧SeeC ρ ni L n0 o0.c o1.c
def SeeH (n0:Nat):List (Nat × AObj)→Prop
 | []=>True
 | (n,o)::r=>SeeO ρ ni L n0 n o∧SeeH n0 r
def SeeS (σ:Sg):List (Nat × AV)→Prop
 | []=>True
 | (k,v)::r=>See ρ ni L (σ k) v∧SeeS σ r
def SeeD:List AD→List AD→Prop
 | d0,[]=>d0=[]
 | d0, .fn g cap args::ds=>∃ cap0 args0 r,d0=.fn g cap0 args0::r∧SeeL ρ ni L cap0 cap∧SeeL ρ ni L args0 args∧SeeD r ds
 | d0, .col n::ds=>niGet ni n=none∧∃ r,d0=.col (ρ n)::r∧SeeD r ds
def injOn:List (Nat × AObj)→Bool
 | []=>true
 | (n,_)::r=>((niGet ni n).isSome || r.all (fun p=>(niGet ni p.1).isSome || Nat.beq p.1 n || !Nat.beq (ρ p.1) (ρ n))) && injOn r
end
theorem SeeL_app {ρ:Nat→Nat} {ni:List (Nat × Nat)} {L:List (Nat × AObj)}:∀ {b d:List AV} {a c:List AV},SeeL ρ ni L a b→SeeL ρ ni L c d→SeeL ρ ni L (a++c) (b++d)
 | [],d,a,c,h,k=>by simp only [SeeL] at h;subst h;exact k
 | v::b,d,a,c,h,k=>by
  simp only [SeeL] at h
  obtain⟨z,zs,rfl,h1,h2⟩:=h
  simp only [List.cons_append,SeeL]
  exact⟨z,zs++c,rfl,h1,SeeL_app h2 k⟩
theorem SeeLL_len {ρ:Nat→Nat} {ni:List (Nat × Nat)} {L:List (Nat × AObj)} (len:∀ {vs vs1:List AV},SeeL ρ ni L vs vs1→vs.length=vs1.length):∀ {b a:List (List AV)},SeeLL ρ ni L a b →
  a.length=b.length∧(∀ {s:Nat},(∀ cs∈a,cs.length=s)→∀ cs∈b,cs.length=s)∧SeeL ρ ni L a.flatten b.flatten
 | [],a,h=>by simp only [SeeLL] at h;subst h;exact⟨rfl,fun _ _ h=>by simp at h,by simp [SeeL]⟩
 | v::b,a,h=>by
  simp only [SeeLL] at h
  obtain⟨z,zs,rfl,h1,h2⟩:=h
  obtain⟨i1,i2,i3⟩:=SeeLL_len len h2
  refine⟨by simp [i1],fun hs y hy=>?_,by simp only [List.flatten_cons];exact SeeL_app h1 i3⟩
  rcases List.mem_cons.1 hy with rfl | hy
  ·rw [← len h1];exact hs z (by simp)
  ·exact i2 (fun cs hc=>hs cs (by simp [hc])) y hy
def niOK (n0 N1:Nat) (ni:List (Nat × Nat)):Bool:=ni.all fun p=>Nat.ble n0 p.1 && Nat.blt p.1 N1
section
variable {C:Cx}
theorem niGet_mem {ni:List (Nat × Nat)} {n s:Nat} (h:niGet ni n=some s):(n,s)∈ni:=by
 induction ni with
 | nil=>simp [niGet] at h
 | cons p r ih=>
  obtain⟨k,x⟩:=p
  simp only [niGet] at h
  split at h
  ·rename_i e
   have e:=Nat.eq_of_beq_eq_true e
   injection h with h
   subst e;subst h
   simp
  ·exact List.mem_cons_of_mem _ (ih h)
theorem injOn_spec {ρ:Nat→Nat} {ni:List (Nat × Nat)}:∀ {l:List (Nat × AObj)},injOn ρ ni l=true→∀ {n m:Nat} {o p:AObj},(n,o)∈l→(m,p)∈l→n ≠ m→niGet ni n=none→niGet ni m=none→ρ n ≠ ρ m
 | [],_,n,m,o,p,hn,_,_,_,_=>by simp at hn
 | (k,x)::r,h,n,m,o,p,hn,hm,hne,h1,h2=>by
  simp only [injOn,Bool.and_eq_true,Bool.or_eq_true,List.all_eq_true,Bool.not_eq_true'] at h
  have key:∀ (q:Nat × AObj),q∈r→q.1 ≠ k→niGet ni q.1=none→niGet ni k=none→ρ q.1 ≠ ρ k:=by
   intro q hq hqk hq1 hk1 e
   rcases h.1 with h3 | h3
   ·rw [hk1] at h3;cases h3
   ·rcases h3 q hq with (h4 | h4) | h4
    ·rw [hq1] at h4;cases h4
    ·exact hqk (Nat.eq_of_beq_eq_true h4)
    ·rw [e] at h4;simp at h4
  rcases List.mem_cons.1 hn with e1 | hn' <;> rcases List.mem_cons.1 hm with e2 | hm'
  ·injection e1 with e1 _;injection e2 with e2 _;exact absurd (e1.trans e2.symm) hne
  ·injection e1 with e1 _
   subst e1
   exact fun e=>key _ hm' (Ne.symm hne) h2 h1 e.symm
  ·injection e2 with e2 _
   subst e2
   exact key _ hn' hne h1 h2
  ·exact injOn_spec h.2 hn' hm' hne h1 h2
def Gm.see (Γ:Gm) (ρ:Nat→Nat) (ni:List (Nat × Nat)):Gm:=⟨fun m=>match niGet ni m with | some s=>some ⟨0,s,0,true⟩ | none=>Γ.nm (ρ m),Γ.fz⟩
variable {Γ:Gm} {H:Hp} {w:World} {ρ:Nat→Nat} {ni:List (Nat × Nat)}
theorem aggP_sound {v:AV} {v':Value} (hv:VR Γ v v') {cs:List AV} (h:aggP v=some cs):∃ cs',v'=.agg cs'∧VRL Γ cs cs'.toList:=by
 cases v with
 | agg c=>simp only [aggP,Option.some.injEq] at h;subst h;simpa only [VR] using hv
 | p x=>
  cases x <;> simp only [aggP,reduceCtorEq,Option.some.injEq] at h
  subst h
  simp only [VR,VP] at hv
  obtain⟨cs',h1,h2⟩:=hv
  exact⟨cs',h1,VRL_p.2 h2⟩
 | _=>simp [aggP] at h
mutual
theorem See_sound (hR:R C Γ H w):∀ (v1 v:AV) (v':Value),See ρ ni H.l v v1→VR Γ v v'→VR (Γ.see ρ ni) v1 v'
 | .p x,v,v',hs,hv=>by
  simp only [See] at hs
  simp only [VR]
  exact Res_sound hR 5 v x v' hs hv
 | .ptr n i f,v,v',hs,hv=>by
  simp only [See] at hs
  obtain⟨hni,rfl⟩:=hs
  simp only [VR] at hv ⊢
  obtain⟨q,hq,hnl,e⟩:=hv
  exact⟨q,by simp only [Gm.see,hni];exact hq,hnl,e⟩
 | .ptd n i f,v,v',hs,hv=>by
  simp only [See] at hs
  obtain⟨hni,rfl⟩:=hs
  simp only [VR] at hv ⊢
  obtain⟨q,hq,hnl,e⟩:=hv
  exact⟨q,by simp only [Gm.see,hni];exact hq,hnl,e⟩
 | .sl n s off len,v,v',hs,hv=>by
  simp only [See] at hs
  split at hs
  ·rename_i s' e
   obtain⟨rfl,rfl,rfl,rfl⟩:=hs
   simp only [VR,VP] at hv ⊢
   subst hv
   exact⟨⟨0,s',0,true⟩,by simp only [Gm.see,e],rfl, .inl ⟨rfl,rfl,rfl,rfl⟩⟩
  ·rename_i e
   subst hs
   simp only [VR] at hv ⊢
   obtain⟨q,hq,h2⟩:=hv
   exact⟨q,by simp only [Gm.see,e];exact hq,h2⟩
 | .mp n,v,v',hs,hv=>by
  simp only [See] at hs
  obtain⟨hni,rfl⟩:=hs
  simp only [VR] at hv ⊢
  obtain⟨q,hq,e⟩:=hv
  exact⟨q,by simp only [Gm.see,hni];exact hq,e⟩
 | .fn f a b,v,v',hs,hv=>by
  simp only [See] at hs
  obtain⟨hy,a0,b0,hf,ha,hb⟩:=hs
  obtain⟨f',fs',cs',rfl,h1,h2,h3⟩:=fnOf_sound hv hf
  simp only [VR]
  refine⟨f',fs',cs',rfl,?_,SeeL_sound hR a a0 _ ha h2,SeeL_sound hR b b0 _ hb h3⟩
  cases f <;> simp only [renF,FR] at h1 ⊢ <;> first | exact h1 | skip
  obtain⟨q,hq,e⟩:=h1
  simp only [yOK,Option.isNone_iff_eq_none] at hy
  exact⟨q,by simp only [Gm.see,hy];exact hq,e⟩
 | .iface t x,v,v',hs,hv=>by
  simp only [See] at hs
  obtain⟨y,h1,h2⟩:=hs
  obtain⟨u,rfl,hu⟩:=(ifParts_sound hv).2 _ _ h1
  simp only [VR]
  exact⟨u,rfl,See_sound hR x y u h2 hu⟩
 | .agg cs,v,v',hs,hv=>by
  simp only [See] at hs
  obtain⟨cs0,h1,h2⟩:=hs
  obtain⟨cs',rfl,h3⟩:=aggP_sound hv h1
  simp only [VR]
  exact⟨cs',rfl,SeeL_sound hR cs cs0 _ h2 h3⟩
 | .tup cs,v,v',hs,hv=>by
  simp only [See] at hs
  obtain⟨cs0,rfl,h2⟩:=hs
  simp only [VR] at hv ⊢
  obtain⟨cs',rfl,h3⟩:=hv
  exact⟨cs',rfl,SeeL_sound hR cs cs0 _ h2 h3⟩
 | .anyp,v,v',hs,hv=>by
  simp only [See] at hs
  subst hs
  simpa only [VR] using hv
 | .junk,_,_,_,_=>by simp only [VR]
theorem SeeL_sound (hR:R C Γ H w):∀ (vs1 vs:List AV) (vs':List Value),SeeL ρ ni H.l vs vs1→VRL Γ vs vs'→VRL (Γ.see ρ ni) vs1 vs'
 | [],vs,vs',hs,hv=>by
  simp only [SeeL] at hs
  subst hs
  exact hv
 | v1::vs1,vs,vs',hs,hv=>by
  simp only [SeeL] at hs
  obtain⟨u,us,rfl,h1,h2⟩:=hs
  simp only [VRL] at hv ⊢
  obtain⟨u',us',rfl,h3,h4⟩:=hv
  exact⟨u',us',rfl,See_sound hR v1 u u' h1 h3,SeeL_sound hR vs1 us us' h2 h4⟩
end
theorem SeeH_get {n0:Nat} {L:List (Nat × AObj)}:∀ {l:List (Nat × AObj)},SeeH ρ ni L n0 l→∀ {n:Nat} {o:AObj},lget l n=some o→SeeO ρ ni L n0 n o
 | [],_,n,o,hn=>by simp [lget] at hn
 | (k,p)::r,h,n,o,hn=>by
  simp only [SeeH] at h
  by_cases e:k=n
  ·subst e;rw [lget_cons_same] at hn;injection hn with hn;subst hn;exact h.1
  ·rw [lget_cons_ne e] at hn
   exact SeeH_get h.2 hn
theorem R.see {n0:Nat} {H1:Hp} (hR:R C Γ H w) (hs:SeeH ρ ni H.l n0 H1.l) (hi:∀ {n m:Nat} {o p:AObj},(n,o)∈H1.l→(m,p)∈H1.l→n ≠ m→niGet ni n=none→niGet ni m=none→ρ n ≠ ρ m) (hn:niOK n0 H1.next ni=true) (hfix:∀ n,n<n0→ρ n=n) (hlow:n0≤H1.next) (hfr:∀ n,H1.next≤n→H.next≤ρ n) :
  Later C n0 Γ H w (Γ.see ρ ni) H1 w:=by
 have hnil:∀ {n s},niGet ni n=some s→n0≤n∧n<H1.next:=by
  intro n s h
  have:=List.all_eq_true.1 hn _ (niGet_mem h)
  simp only [Bool.and_eq_true] at this
  exact⟨Nat.le_of_ble_eq_true this.1,by simpa using this.2⟩
 have hlo:∀ m,m<n0→niGet ni m=none:=by
  intro m hm
  cases h:niGet ni m with
  | none=>rfl
  | some s=>have:=hnil h;omega
 have hext:∀ m,m<n0→(Γ.see ρ ni).nm m=Γ.nm m:=by
  intro m hm
  simp only [Gm.see,hlo m hm,hfix m hm]
 have hcut:∀ l,l≤n0→(Γ.cut l).le ((Γ.see ρ ni).cut l):=by
  intro l hl
  refine⟨fun m q hq=>?_,Fzn.le_refl _⟩
  simp only [Gm.cut] at hq ⊢
  split at hq
  ·rename_i e
   have:m<l:=by simpa using e
   rw [hext m (by omega)]
   exact hq
  ·cases hq
 -- objects that were there
 have old:∀ {n o q},lget H1.l n=some o→niGet ni n=none→(Γ.see ρ ni).nm n=some q→∃ o0,lget H.l (ρ n)=some o0∧o0.t=o.t∧o0.fr=o.fr∧SeeC ρ ni H.l n0 o0.c o.c∧Γ.nm (ρ n)=some q:=by
  intro n o q h1 h2 h3
  have:=SeeH_get hs h1
  unfold SeeO at this
  rw [h2] at this
  simp only at this
  obtain⟨o0,k1,k2,k3,k4⟩:=this
  exact⟨o0,k1,k2,k3,k4,by simpa only [Gm.see,h2] using h3⟩
 have nn:∀ {n q},(Γ.see ρ ni).nm n=some q→q.nl=false→(∃ s,niGet ni n=some s)→False:=by
  rintro n q h1 h2 ⟨s,h3⟩
  simp only [Gm.see,h3,Option.some.injEq] at h1
  subst h1
  cases h2
 have none_of:∀ {n q},(Γ.see ρ ni).nm n=some q→q.nl=false→niGet ni n=none:=by
  intro n q h1 h2
  cases h:niGet ni n with
  | none=>rfl
  | some s=>exact(nn h1 h2 ⟨s,h⟩).elim
 refine⟨⟨hR.glob,fun n hn1=>?_,hR.fzok,fun n o ho=>?_,fun n o q ho hf hq hnl=>?_,fun n o m p q q' ho hp hne hq hq' hf hnl hnl'=>?_⟩,hext,hlow,⟨rfl,rfl,rfl,Nat.le_refl _,fun _ _ _=>rfl,fun k hk=>.inr ?_,Fzn.le_refl _,fun k a hk=>.inl hk⟩⟩
 ·have:niGet ni n=none:=by
   cases h:niGet ni n with
   | none=>rfl
   | some s=>have:=hnil h;omega
  simp only [Gm.see,this]
  exact hR.fresh _ (hfr n hn1)
 ·have hso:=SeeH_get hs ho
  unfold SeeO at hso
  split at hso
  ·rename_i s e
   refine⟨⟨0,s,0,true⟩,by simp only [Gm.see,e],?_⟩
   obtain⟨t,fr,c⟩:=o
   obtain⟨hfr',hc⟩:=hso
   cases c with
   | pu xs=>exact(ObjR_cells (o:=⟨t,fr, .pu xs⟩) rfl).2 (.inl ⟨rfl,hc.1,hc.2⟩)
   | pus xs=>simp only at hc;subst hc;exact(ObjR_cells (o:=⟨t,fr, .pus []⟩) rfl).2 (.inl ⟨rfl,rfl,fun _ h=>by simp at h⟩)
   | mx xs=>exact(ObjR_cells (o:=⟨t,fr, .mx xs⟩) rfl).2 (.inl ⟨rfl,hc.1,hc.2⟩)
   | mxs xs=>simp only at hc;subst hc;exact(ObjR_cells (o:=⟨t,fr, .mxs []⟩) rfl).2 (.inl ⟨rfl,rfl,fun _ h=>by simp at h⟩)
   | bx=>exact hc.elim
   | lp=>exact hc.elim
   | df=>exact hc.elim
   | ms=>exact hc.elim
   | mk=>exact hc.elim
   | it=>exact hc.elim
  ·rename_i e
   obtain⟨o0,k1,k2,k3,k4⟩:=hso
   obtain⟨q,hq,hob⟩:=hR.objs _ _ k1
   refine⟨q,by simp only [Gm.see,e];exact hq,?_⟩
   obtain⟨t0,fr0,c0⟩:=o0
   obtain⟨t,fr,c⟩:=o
   simp only at k2 k3 k4
   subst k2;subst k3
   -- cells
   have cells:isCells c0=true→isCells c=true→(Empt c0→Empt c)→(∀ s tc,Sized s tc c0→Sized s tc c)→(∀ us,VRL Γ (flat c0) us→VRL (Γ.see ρ ni) (flat c) us)→ObjR C.P (Γ.see ρ ni) w q ⟨t0,fr0,c⟩:=by
    intro h1 h2 h3 h4 h5
    rw [ObjR_cells (o:=⟨t0,fr0,c⟩) h2]
    rcases (ObjR_cells (o:=⟨t0,fr0,c0⟩) h1).1 hob with ⟨g1,g2,g3⟩ | ⟨g0,us,rest,z,g1,g2,g3,g3',g4,g5,g6,g7,g8⟩
    ·exact .inl ⟨g1,h3 g2,h4 _ _ g3⟩
    ·exact .inr ⟨g0,us,rest,z,g1,g2,g3,g3',g4,h5 us g5,g6,h4 _ _ g7,g8⟩
   have len:∀ {vs vs1:List AV},SeeL ρ ni H.l vs vs1→vs.length=vs1.length:=by
    intro vs vs1
    induction vs1 generalizing vs with
    | nil=>intro h;simp only [SeeL] at h;subst h;rfl
    | cons x xs ih=>intro h;simp only [SeeL] at h;obtain⟨u,us,rfl,_,h2⟩:=h;simp [ih h2]
   have lenR:∀ {vs:List AV} {ys:List PV},ResL (Res H.l 5) vs ys→vs.length=ys.length:=by
    intro vs
    induction vs with
    | nil=>intro ys h;simp only [ResL] at h;subst h;rfl
    | cons x xs ih=>intro ys h;simp only [ResL] at h;obtain⟨u,us,rfl,_,h2⟩:=h;simp [ih h2]
   cases c with
   | bx cs1=>
    obtain⟨cs0,rfl,h2⟩:=k4
    refine cells rfl rfl (fun h=>h) (fun s tc h=>⟨by rw [← len h2];exact h.1,h.2⟩) fun us hus=>SeeL_sound hR _ _ _ h2 hus
   | pu ys=>
    simp only [SeeC] at k4
    split at k4 <;> try exact k4.elim
    ·subst k4
     exact cells rfl rfl (fun h=>h) (fun s tc h=>h) fun us hus=>VRL_p.2 (VRL_p (Γ:=Γ).1 hus)
    ·refine cells rfl rfl (fun h=>?_) (fun s tc h=>h) fun us hus=>VRL_p.2 (ResL_sound (Res_sound hR 5) k4 hus)
     simp only [Empt] at h ⊢
     subst h
     simpa only [ResL] using k4
   | pus yss=>
    simp only [SeeC] at k4
    split at k4 <;> try exact k4.elim
    ·subst k4
     exact cells rfl rfl (fun h=>h) (fun s tc h=>h) fun us hus=>VRL_p.2 (VRL_p (Γ:=Γ).1 hus)
    ·obtain⟨r1,r2⟩:=ResLL_len k4
     refine cells rfl rfl (fun h=>?_) (fun s tc h=>r2 h) fun us hus=>VRL_p.2 (ResL_sound (Res_sound hR 5) (ResLL_flat k4) hus)
     simp only [Empt] at h ⊢
     subst h
     simpa only [ResLL] using k4
   | mx vs1=>
    obtain⟨vs0,h1,h2⟩:=k4
    have hl:=len h2
    cases c0 <;> simp only [mxOf,Option.some.injEq,reduceCtorEq] at h1
    ·subst h1
     refine cells rfl rfl (fun h=>?_) (fun s tc h=>h) fun us hus=>SeeL_sound hR _ _ _ h2 hus
     simp only [Empt] at h ⊢
     subst h
     exact List.eq_nil_of_length_eq_zero hl.symm
    ·subst h1
     refine cells rfl rfl (fun h=>?_) (fun s tc h=>h) fun us hus=>SeeL_sound hR _ _ _ h2 hus
     simp only [Empt] at h ⊢
     subst h
     exact List.eq_nil_of_length_eq_zero hl.symm
   | mxs vs1=>
    obtain⟨vs0,h1,h2⟩:=k4
    obtain⟨l1,l2,l3⟩:=SeeLL_len len h2
    cases c0 <;> simp only [mxsOf,Option.some.injEq,reduceCtorEq] at h1
    ·subst h1
     refine cells rfl rfl (fun h=>?_) (fun s tc h=>l2 (mapsP_sized h)) fun us hus=>SeeL_sound hR _ _ _ l3 (by rw [mapsP_flat];exact hus)
     simp only [Empt] at h ⊢
     subst h
     exact List.eq_nil_of_length_eq_zero l1.symm
    ·subst h1
     refine cells rfl rfl (fun h=>?_) (fun s tc h=>l2 h) fun us hus=>SeeL_sound hR _ _ _ l3 hus
     simp only [Empt] at h ⊢
     subst h
     exact List.eq_nil_of_length_eq_zero l1.symm
   | lp st pend lim N sg ps asg bd dn=>
    obtain⟨rfl,h2,h3⟩:=k4
    simp only [ObjR] at hob ⊢
    obtain⟨g0,g1,fn,tm,qd,g2,g3,g4,g5⟩:=hob
    have h2:=Nat.le_of_ble_eq_true h2
    have h3:dn<n0:=by simpa using h3
    exact⟨g0,g1,fn,tm,qd,g2,g3,⟨g4.1,fun t=>VR_mono (hcut lim h2) _ _ (g4.2 t)⟩,by rw [hext dn h3];exact g5⟩
   | df=>
    simp only [SeeC] at k4
    subst k4
    exact hob
   | ms=>
    simp only [SeeC] at k4
    subst k4
    exact hob
   | mk=>
    simp only [SeeC] at k4
    subst k4
    exact hob
   | it=>
    simp only [SeeC] at k4
    subst k4
    exact hob
 ·have hni:=none_of hq hnl
  obtain⟨o0,k1,k2,k3,k4,k5⟩:=old ho hni hq
  exact hR.own _ o0 q k1 (by rw [k3];exact hf) k5 hnl
 ·have hni:=none_of hq hnl
  have hni':=none_of hq' hnl'
  obtain⟨o0,k1,k2,k3,k4,k5⟩:=old ho hni hq
  obtain⟨p0,j1,j2,j3,j4,j5⟩:=old hp hni' hq'
  exact hR.apart _ o0 _ p0 q q' k1 j1 (hi (lget_mem ho) (lget_mem hp) hne hni hni') k5 j5 (by rw [k3];exact hf) hnl hnl'
 ·obtain⟨n,o,q,h1,h2,h3,h4,rfl⟩:=hk
  have hni:=none_of h3 h4
  obtain⟨o0,k1,k2,k3,k4,k5⟩:=old h1 hni h3
  exact⟨_,o0,q,k1,by rw [k3];exact h2,k5,h4,rfl⟩
theorem SeeD_sound {df0:Option (List Deferred)} (hR:R C Γ H w):∀ (ds1 ds:List AD) (dd:List Deferred),SeeD ρ ni H.l ds ds1→DRL df0 Γ ds dd→DRL df0 (Γ.see ρ ni) ds1 dd
 | [],ds,dd,hs,hd=>by simp only [SeeD] at hs;subst hs;exact hd
 | .fn g cap args::ds1,ds,dd,hs,hd=>by
  simp only [SeeD] at hs
  obtain⟨cap0,args0,r,rfl,h1,h2,h3⟩:=hs
  simp only [DRL,DR] at hd ⊢
  obtain⟨u,us,rfl,⟨cap',args',rfl,k1,k2⟩,k3⟩:=hd
  exact⟨_,us,rfl,⟨cap',args',rfl,SeeL_sound hR _ _ _ h1 k1,SeeL_sound hR _ _ _ h2 k2⟩,SeeD_sound hR ds1 r us h3 k3⟩
 | .col n::ds1,ds,dd,hs,hd=>by
  simp only [SeeD] at hs
  obtain⟨hni,r,rfl,h3⟩:=hs
  simp only [DRL,DR] at hd ⊢
  obtain⟨u,us,rfl,⟨k0,q,k1,rfl⟩,k3⟩:=hd
  exact⟨_,us,rfl,⟨k0,q,by simp only [Gm.see,hni];exact k1,rfl⟩,SeeD_sound hR ds1 r us h3 k3⟩
theorem SeeS_sound (hR:R C Γ H w) {σ:Sg} {a:Act} (h:∀ t,VR Γ (σ t) (a.tmps.getD t undef)):∀ {l:List (Nat × AV)},SeeS ρ ni H.l σ l→∀ t,VR (Γ.see ρ ni) (sets (fun _=>.junk) l t) (a.tmps.getD t undef)
 | [],_,t=>VR_junk _ _
 | (k,v)::r,hs,t=>by
  simp only [SeeS] at hs
  simp only [sets]
  by_cases e:t=k
  ·subst e
   rw [upd_same]
   exact See_sound hR _ _ _ hs.1 (h t)
  ·rw [upd_other _ _ e]
   exact SeeS_sound hR h hs.2 t
theorem rmap_fix {n0 N1 N n:Nat} {ps:List (Nat × Nat)} (h:n<n0):rmap n0 ps N1 N n=n:=by
 unfold rmap
 rw [show Nat.blt n n0=true by simpa using h]
theorem rmap_new {n0 N1 N n:Nat} {ps:List (Nat × Nat)} (h0:n0≤N1) (h:N1≤n):rmap n0 ps N1 N n=n - N1+N:=by
 unfold rmap
 rw [show Nat.blt n n0=false by rw [Bool.eq_false_iff];intro e;have:n<n0:=(by simpa using e);omega]
 rw [show Nat.blt n N1=false by rw [Bool.eq_false_iff];intro e;have:n<N1:=(by simpa using e);omega]
theorem ent_of {n0 N:Nat} {σ:Sg} {ds ds1:List AD} {H H1:Hp} {l:List (Nat × AV)} (fs:List Nat) (ps ni:List (Nat × Nat))
  (hb:(marksOK H.l fs && Nat.ble n0 H1.next && niOK n0 H1.next ni && injOn (rmap n0 ps H1.next H.next) ni H1.l)=true)
  (hS:SeeS (rmap n0 ps H1.next H.next) ni (marks H.l fs) σ l) (hH:SeeH (rmap n0 ps H1.next H.next) ni (marks H.l fs) n0 H1.l) (hD:SeeD (rmap n0 ps H1.next H.next) ni (marks H.l fs) ds ds1) :
  Ent C n0 N σ ds H (sets (fun _=>.junk) l) ds1 H1:=by
 rintro r B Γ w a hn hR ⟨df0,hSR,hX⟩
 simp only [Bool.and_eq_true] at hb
 obtain⟨⟨⟨b1,b2⟩,b3⟩,b4⟩:=hb
 have b2:=Nat.le_of_ble_eq_true b2
 obtain⟨Γ',e1,hL⟩:=hR.mark b1
 have hSR':=hSR.mono (hL.le hR)
 have hsee:=R.see (H1:=H1) (ρ:=rmap n0 ps H1.next H.next) hL.1 hH (injOn_spec b4) b3 (fun n h=>rmap_fix h) b2 (fun n h=>by rw [rmap_new b2 h];show H.next≤_;omega)
 have hT:=(hL.mono hn).trans hsee
 exact⟨_,⟨df0,⟨hSR'.size,SeeS_sound hL.1 hSR'.tm hS,SeeD_sound hL.1 _ _ _ hD hSR'.df⟩,hX.tr hT.2.2.2⟩,hT⟩
end
end Go.Proofs.YtkegmchjobphdaaGreatDoor.Y
namespace Go.Proofs.YtkegmchjobphdaaGreatDoor.Y
open Go
inductive PEnd where
 | ret (vs:List PV)
 | pan (v:PV)
def absE:PEnd→AE
 | .ret [x]=>.returned (.p x)
 | .ret xs=>.returned (.tup (xs.map .p))
 | .pan x=>.panicked [⟨.p x,false⟩]
def ResE (L:List (Nat × AObj)) (e:AE) (r:PEnd):Prop:=
 match r with
 | .ret [x]=>∃ v,e=.returned v∧Res L 5 v x
 | .ret xs=>∃ vs,e=.returned (.tup vs)∧ResL (Res L 5) vs xs
 | .pan x=>∃ v,e=.panicked [⟨v,false⟩]∧Res L 5 v x
def fsOf:List (Nat × AObj)→List Nat
 | []=>[]
 | (n,o)::r=>match isCells o.c with
  | true=>n::fsOf r
  | false=>fsOf r
section
variable (C:Cx)
def EndP (Q:PEnd→Prop) (e:AE) (H':Hp):Prop:=∃ r,(marksOK H'.l (fsOf H'.l)=true∧ResE (marks H'.l (fsOf H'.l)) e r)∧Q r
def Pure (g:FuncId) (args:List PV) (Q:PEnd→Prop):Prop:=Holds C g (args.map .p) ⟨0,[]⟩ (EndP Q)
end
section
variable {C:Cx}
theorem Pure.mono {g:FuncId} {args:List PV} {Q Q':PEnd→Prop} (h:Pure C g args Q) (hq:∀ r,Q r→Q' r):Pure C g args Q':=
 Holds.mono h fun _ _ ⟨r,h1,h2⟩=>⟨r,h1,hq r h2⟩
theorem R.noobj {Γ:Gm} {H:Hp} {w:World} (h:R C Γ H w):R C ⟨fun _=>none,Γ.fz⟩ ⟨0,[]⟩ w:=
 ⟨h.glob,fun _ _=>rfl,h.fzok,fun n o hn=>by simp [lget] at hn,fun n o q hn=>by simp [lget] at hn,fun n o m p q q' hn=>by simp [lget] at hn⟩
theorem own_nil {Γ:Gm} {n k:Nat} (h:Own Γ ⟨n,[]⟩ k):False:=by
 obtain⟨n,o,q,h1,_⟩:=h
 simp [lget] at h1
theorem ResE_sound {Γ:Gm} {H:Hp} {w:World} (hR:R C Γ H w) {e:AE} {r:PEnd} {e':Ending} (h:ResE H.l e r) (he:ER Γ e e'):∀ nm,ER ⟨nm,Γ.fz⟩ (absE r) e':=by
 intro nm
 have one:∀ x v,e=.returned v→Res H.l 5 v x→ER ⟨nm,Γ.fz⟩ (.returned (.p x)) e':=by
  rintro x v rfl h2
  obtain⟨v',rfl,hv⟩:=he
  exact⟨v',rfl,by simp only [VR];exact Res_sound hR 5 _ _ _ h2 hv⟩
 have many:∀ xs vs,e=.returned (.tup vs)→ResL (Res H.l 5) vs xs→ER ⟨nm,Γ.fz⟩ (.returned (.tup (xs.map .p))) e':=by
  rintro xs vs rfl h2
  obtain⟨v',rfl,hv⟩:=he
  simp only [VR] at hv
  obtain⟨vs',rfl,hv⟩:=hv
  exact⟨_,rfl,by simp only [VR];exact⟨vs',rfl,VRL_p.2 (ResL_sound (Res_sound hR 5) h2 hv)⟩⟩
 match r,h with
 | .ret [],h=>obtain⟨vs,h1,h2⟩:=h;exact many [] vs h1 h2
 | .ret [x],h=>obtain⟨v,h1,h2⟩:=h;exact one x v h1 h2
 | .ret (x::y::xs),h=>obtain⟨vs,h1,h2⟩:=h;exact many (x::y::xs) vs h1 h2
 | .pan x,h=>
  obtain⟨v,rfl,h2⟩:=h
  obtain⟨c',rfl,hc⟩:=he
  simp only [PEL] at hc
  obtain⟨q,qs,rfl,⟨k1,k2⟩,rfl⟩:=hc
  refine⟨_,rfl,?_⟩
  simp only [PEL]
  exact⟨q,[],rfl,⟨by simp only [VR];exact Res_sound hR 5 _ _ _ h2 k1,k2⟩,rfl⟩
theorem pure_post {Γ1:Gm} {H1:Hp} {w:World} (hR1:R C Γ1 H1 w) {Q:PEnd→Prop} {e':Ending} {w':World} (h:Post C ⟨fun _=>none,Γ1.fz⟩ ⟨0,[]⟩ w (EndP Q) e' w') :
  ∃ r Γ',Q r∧Γ'.nm=Γ1.nm∧ER Γ' (absE r) e'∧Later C H1.next Γ1 H1 w Γ' H1 w'∧Tr Γ1 H1 w Γ1 H1 w'∧R C Γ1 H1 w':=by
 obtain⟨e,H',Γc,⟨r,⟨hm,hres⟩,hq⟩,hE,hL⟩:=h
 obtain⟨Γd,ed,hLd⟩:=hL.1.mark hm
 have hLL:=hL.trans (hLd.mono (Nat.zero_le _))
 have hE':=ER_mono (hLd.le hL.1) hE
 have hT:=hLL.2.2.2
 have hkept:∀ k,k<w.heap.size→w'.heap[k]?=w.heap[k]?:=fun k hk=>hT.kept k hk own_nil
 have hle:Γ1.le ⟨Γ1.nm,Γd.fz⟩:=⟨fun _ _ h=>h,hT.fz⟩
 have hobj:∀ (Γx:Gm),Γ1.le Γx→Γx.nm=Γ1.nm→∀ n o,lget H1.l n=some o→∃ q,Γx.nm n=some q∧ObjR C.P Γx w' q o:=by
  intro Γx hx hnm n o ho
  obtain⟨q,h1,h2⟩:=hR1.objs n o ho
  exact⟨q,by rw [hnm];exact h1,h2.ext hx fun hnl=>hkept _ (h2.blk_lt hnl)⟩
 have hown:∀ n o q,lget H1.l n=some o→o.fr=false→Γ1.nm n=some q→q.nl=false→Γd.fz q.blk=none:=by
  intro n o q h1 h2 h3 h4
  have h0:=hR1.own n o q h1 h2 h3 h4
  cases hx:Γd.fz q.blk with
  | none=>rfl
  | some a=>
   rcases hT.fzprov _ _ hx with h5 | h5 | h5
   ·simp only at h5;rw [h0] at h5;cases h5
   ·obtain⟨q',e1,e2⟩:=hR1.objs n o h1
    rw [h3] at e1;injection e1 with e1;subst e1
    have:=e2.blk_lt h4
    omega
   ·exact(own_nil h5).elim
 refine⟨r,⟨Γ1.nm,Γd.fz⟩,hq,rfl,ResE_sound hLd.1 hres hE' _,⟨⟨hLd.1.glob,hR1.fresh,hLd.1.fzok,hobj _ hle rfl,hown,hR1.apart⟩,fun _ _=>rfl,Nat.le_refl _,?_⟩,?_,?_⟩
 ·refine⟨hT.os,hT.tape,hT.output,hT.size,fun k hk _=>hkept k hk,fun k hk=>.inr hk,hT.fz,fun k a hk=>?_⟩
  rcases hT.fzprov k a hk with h5 | h5 | h5
  ·exact .inl h5
  ·exact .inr (.inl h5)
  ·exact(own_nil h5).elim
 ·exact⟨hT.os,hT.tape,hT.output,hT.size,fun k hk _=>hkept k hk,fun k hk=>.inr hk,Fzn.le_refl _,fun k a hk=>.inl hk⟩
 ·exact⟨hR1.glob,hR1.fresh,fun b arr hb=>by
   obtain⟨t,z,h1⟩:=hR1.fzok b arr hb
   exact⟨t,z,by rw [hkept _ (fz_lt hR1 hb)];exact h1⟩,hobj _ (Gm.le_refl _) rfl,hR1.own,hR1.apart⟩
theorem Pure.use {g:FuncId} {pargs:List PV} {Q:PEnd→Prop} {args:List AV} {H:Hp} {Q':AE→Hp→Prop} (h:Pure C g pargs Q) (fs:List Nat) (hm:marksOK H.l fs=true) (ha:ResL (Res (marks H.l fs) 5) args pargs)
  (hQ:∀ r,Q r→Q' (absE r) (H.mrk fs)):Holds C g args H Q':=by
 intro Γ w args' hR hA
 obtain⟨Γ1,e1,hL1⟩:=hR.mark hm
 have hA1:=VRL_mono (hL1.le hR) _ _ hA
 have hp:=ResL_sound (Res_sound hL1.1 5) (show ResL (Res (H.mrk fs).l 5) args pargs from ha) hA1
 have key:∀ e w',Post C ⟨fun _=>none,Γ1.fz⟩ ⟨0,[]⟩ w (EndP Q) e w'→Post C Γ H w Q' e w':=by
  intro e w' hP
  obtain⟨r,Γ',hq,e2,hE,hL,_⟩:=pure_post hL1.1 hP
  exact⟨_,_,Γ',hQ r hq,hE,hL1.trans (hL.mono hL1.2.2.1)⟩
 rcases h ⟨fun _=>none,Γ1.fz⟩ w args' hL1.1.noobj (VRL_p.2 hp) with ⟨h1,h2⟩ | ⟨v',w',h1,h2⟩
 ·exact .inl ⟨h1,h2.mono key⟩
 ·exact .inr ⟨v',w',h1,key _ _ h2⟩
mutual
def flatP:PV→Bool
 | .bool _=>true
 | .int _ _=>true
 | .str _=>true
 | .nilp=>true
 | .nils=>true
 | .nilm=>true
 | .nilFn=>true
 | .nilIface=>true
 | .iface _ v=>flatP v
 | .agg cs=>flatPL cs
 | _=>false
def flatPL:List PV→Bool
 | []=>true
 | v::vs=>flatP v && flatPL vs
end
mutual
theorem VP_flat {a b:Fzn}:∀ (v:PV) (v':Value),flatP v=true→VP a v v'→VP b v v'
 | .bool _,_,_,h=>by simpa only [VP] using h
 | .int _ _,_,_,h=>by simpa only [VP] using h
 | .str _,_,_,h=>by simpa only [VP] using h
 | .nilp,_,_,h=>by simpa only [VP] using h
 | .nils,_,_,h=>by simpa only [VP] using h
 | .nilm,_,_,h=>by simpa only [VP] using h
 | .nilFn,_,_,h=>by simpa only [VP] using h
 | .nilIface,_,_,h=>by simpa only [VP] using h
 | .iface _ v,_,hf,h=>by
  simp only [VP] at h ⊢
  obtain⟨u,h1,h2⟩:=h
  exact⟨u,h1,VP_flat v u (by simpa only [flatP] using hf) h2⟩
 | .agg cs,_,hf,h=>by
  simp only [VP] at h ⊢
  obtain⟨u,h1,h2⟩:=h
  exact⟨u,h1,VPL_flat cs _ (by simpa only [flatP] using hf) h2⟩
 | .fp _,_,hf,_=>by simp [flatP] at hf
 | .lst _,_,hf,_=>by simp [flatP] at hf
 | .lsts _ _,_,hf,_=>by simp [flatP] at hf
 | .fn _ _ _,_,hf,_=>by simp [flatP] at hf
theorem VPL_flat {a b:Fzn}:∀ (v:List PV) (v':List Value),flatPL v=true→VPL a v v'→VPL b v v'
 | [],_,_,h=>by simpa only [VPL] using h
 | x::xs,_,hf,h=>by
  simp only [flatPL,Bool.and_eq_true] at hf
  simp only [VPL] at h ⊢
  obtain⟨u,us,h1,h2,h3⟩:=h
  exact⟨u,us,h1,VP_flat x u hf.1 h2,VPL_flat xs us hf.2 h3⟩
end
theorem res_p (L:List (Nat × AObj)) (x:PV):Res L 5 (.p x) x:=by
 cases x with
 | nils=>exact .inl rfl
 | agg cs=>
  cases cs with
  | nil=>rfl
  | cons a r=>
   cases a with
   | nils=>exact⟨_,rfl,nilAsL_refl _⟩
   | _=>rfl
 | _=>rfl
theorem resL_p (L:List (Nat × AObj)):∀ (l:List PV),ResL (Res L 5) (l.map .p) l
 | []=>rfl
 | x::l=>by
  simp only [List.map_cons,ResL]
  exact⟨x,l,rfl,res_p L x,resL_p L l⟩
theorem Pure.at {g:FuncId} {pargs:List PV} {Q:PEnd→Prop} {H:Hp} {Q':AE→Hp→Prop} (h:Pure C g pargs Q) (hQ:∀ r,Q r→Q' (absE r) H):Holds C g (pargs.map .p) H Q':=
 h.use [] rfl (resL_p _ _) hQ
theorem pure_of_vc {f : FuncId} {fn : Func} {c : Code} {args : List PV} {Q : PEnd → Prop} (hf : C.P.funcs[f]? = some fn) (hname : (fn.name == "runtime.NumGoroutine") = false) (hb : fn.body = some c)
  (hN:Nat.ble (args.map AV.p).length fn.ntmps=true) (hv:vc C none 0 fn.ntmps c (sets (fun _=>und) (argS 0 (args.map .p))) [] ⟨0,[]⟩ (Fin C fn.results.toList (EndP Q))):Pure C f args Q:=
 (holds_of_vc hf hname hb hN hv).holds
end
end Go.Proofs.YtkegmchjobphdaaGreatDoor.Y
namespace Go.Proofs.YtkegmchjobphdaaGreatDoor.Y
open Go
section
variable (ρ:Nat→Nat) (ni:List (Nat × Nat)) (L:List (Nat × AObj))
def SeeP:List AP→List AP→Prop
 | l0,[]=>l0=[]
 | l0,p::ps=>∃ v r,l0=⟨v,p.rcv⟩::r∧See ρ ni L v p.v∧SeeP r ps
def SeeE:AE→AE→Prop
 | e, .returned v1=>∃ v,e=.returned v∧See ρ ni L v v1
 | e, .panicked c1=>∃ c,e=.panicked c∧SeeP ρ ni L c c1
end
def EndN (n0:Nat) (Q:AE→Hp→Prop) (e:AE) (H':Hp):Prop:=
 ∃ fs ps ni e1 H1,(marksOK H'.l fs && Nat.ble n0 (Hp.next H1) && niOK n0 (Hp.next H1) ni && injOn (rmap n0 ps (Hp.next H1) H'.next) ni (Hp.l H1))=true ∧
  SeeE (rmap n0 ps (Hp.next H1) H'.next) ni (marks H'.l fs) e e1∧SeeH (rmap n0 ps (Hp.next H1) H'.next) ni (marks H'.l fs) n0 (Hp.l H1)∧Q e1 H1
section
variable {C:Cx}
theorem SeeP_sound {Γ:Gm} {H:Hp} {w:World} {ρ:Nat→Nat} {ni:List (Nat × Nat)} (hR:R C Γ H w):∀ (c1 c:List AP) (c':List PanicEntry),SeeP ρ ni H.l c c1→PEL Γ c c'→PEL (Γ.see ρ ni) c1 c'
 | [],c,c',hs,hc=>by simp only [SeeP] at hs;subst hs;exact hc
 | p::ps,c,c',hs,hc=>by
  simp only [SeeP] at hs
  obtain⟨v,r,rfl,h1,h2⟩:=hs
  simp only [PEL] at hc ⊢
  obtain⟨q,qs,rfl,⟨k1,k2⟩,k3⟩:=hc
  exact⟨q,qs,rfl,⟨See_sound hR _ _ _ h1 k1,k2⟩,SeeP_sound hR ps r qs h2 k3⟩
theorem SeeE_sound {Γ:Gm} {H:Hp} {w:World} {ρ:Nat→Nat} {ni:List (Nat × Nat)} (hR:R C Γ H w) {e e1:AE} {e':Ending} (hs:SeeE ρ ni H.l e e1) (he:ER Γ e e'):ER (Γ.see ρ ni) e1 e':=by
 cases e1 with
 | returned v1=>
  obtain⟨v,rfl,h1⟩:=hs
  obtain⟨v',rfl,h2⟩:=he
  exact⟨v',rfl,See_sound hR _ _ _ h1 h2⟩
 | panicked c1=>
  obtain⟨c,rfl,h1⟩:=hs
  obtain⟨c',rfl,h2⟩:=he
  exact⟨c',rfl,SeeP_sound hR _ _ _ h1 h2⟩
theorem Post.gc {Γ:Gm} {H:Hp} {w:World} {Q:AE→Hp→Prop} {e':Ending} {w':World} (h:Post C Γ H w (EndN H.next Q) e' w'):Post C Γ H w Q e' w':=by
 obtain⟨e,H',Γ',⟨fs,ps,ni,e1,H1,hb,hE,hH,hq⟩,hER,hL⟩:=h
 simp only [Bool.and_eq_true] at hb
 obtain⟨⟨⟨b1,b2⟩,b3⟩,b4⟩:=hb
 have b2:=Nat.le_of_ble_eq_true b2
 obtain⟨Γ2,e2,hL2⟩:=hL.1.mark b1
 have hsee:=R.see (H1:=H1) (ρ:=rmap H.next ps H1.next H'.next) hL2.1 hH (injOn_spec b4) b3 (fun n h=>rmap_fix h) b2 (fun n h=>by rw [rmap_new b2 h];show H'.next≤_;omega)
 exact⟨e1,H1,_,hq,SeeE_sound hL2.1 hE (ER_mono (hL2.le hL.1) hER),(hL.trans (hL2.mono hL.2.2.1)).trans hsee⟩
theorem holdsN_of_vc {f : FuncId} {fn : Func} {c : Code} {args : List AV} {H : Hp} {Q : AE → Hp → Prop} (hf : C.P.funcs[f]? = some fn) (hname : (fn.name == "runtime.NumGoroutine") = false) (hb : fn.body = some c)
  (hN:Nat.ble args.length fn.ntmps=true) (hv:vc C none H.next fn.ntmps c (sets (fun _=>und) (argS 0 args)) [] H (Fin C fn.results.toList (EndN H.next Q))):HoldsG C f args H Q:=by
 intro Γ w args' hR hA
 obtain⟨h1,h2⟩:=holds_of_vc hf hname hb hN hv Γ w args' hR hA
 exact⟨h1,h2.mono fun _ _=>Post.gc⟩
mutual
def renV (ρ:Nat→Nat):AV→AV
 | .p v=>.p v
 | .ptr n i f=>.ptr (ρ n) i f
 | .ptd n i f=>.ptd (ρ n) i f
 | .sl n s off len=>.sl (ρ n) s off len
 | .mp n=>.mp (ρ n)
 | .fn f a b=>.fn (renF ρ f) (renL ρ a) (renL ρ b)
 | .iface t v=>.iface t (renV ρ v)
 | .agg cs=>.agg (renL ρ cs)
 | .tup cs=>.tup (renL ρ cs)
 | .anyp=>.anyp
 | .junk=>.junk
def renL (ρ:Nat→Nat):List AV→List AV
 | []=>[]
 | v::vs=>renV ρ v::renL ρ vs
end
mutual
theorem VR_ren {a b:Gm} {ρ:Nat→Nat} (hn:∀ n,b.nm (ρ n)=a.nm n) (hf:a.fz=b.fz):∀ (v:AV) (v':Value),VR a v v'→VR b (renV ρ v) v'
 | .p v,v',h=>by simp only [VR,renV] at h ⊢;rw [← hf];exact h
 | .ptr n i f,v',h=>by
  simp only [VR,renV] at h ⊢
  obtain⟨q,h1,h2⟩:=h
  exact⟨q,by rw [hn];exact h1,h2⟩
 | .ptd n i f,v',h=>by
  simp only [VR,renV] at h ⊢
  obtain⟨q,h1,h2⟩:=h
  exact⟨q,by rw [hn];exact h1,h2⟩
 | .sl n s off len,v',h=>by
  simp only [VR,renV] at h ⊢
  obtain⟨q,h1,h2⟩:=h
  exact⟨q,by rw [hn];exact h1,h2⟩
 | .mp n,v',h=>by
  simp only [VR,renV] at h ⊢
  obtain⟨q,h1,h2⟩:=h
  exact⟨q,by rw [hn];exact h1,h2⟩
 | .fn f a1 b1,v',h=>by
  simp only [VR,renV] at h ⊢
  obtain⟨f',fs',cs',h1,h2,h3,h4⟩:=h
  refine⟨f',fs',cs',h1,?_,VRL_ren hn hf a1 _ h3,VRL_ren hn hf b1 _ h4⟩
  cases f <;> simp only [renF,FR] at h2 ⊢ <;> first | exact h2 | skip
  obtain⟨q,k1,k2⟩:=h2
  exact⟨q,by rw [hn];exact k1,k2⟩
 | .iface t v,v',h=>by
  simp only [VR,renV] at h ⊢
  obtain⟨u,h1,h2⟩:=h
  exact⟨u,h1,VR_ren hn hf v u h2⟩
 | .agg cs,v',h=>by
  simp only [VR,renV] at h ⊢
  obtain⟨u,h1,h2⟩:=h
  exact⟨u,h1,VRL_ren hn hf cs _ h2⟩
 | .tup cs,v',h=>by
  simp only [VR,renV] at h ⊢
  obtain⟨u,h1,h2⟩:=h
  exact⟨u,h1,VRL_ren hn hf cs _ h2⟩
 | .anyp,v',h=>by simpa only [VR,renV] using h
 | .junk,v',h=>by simp only [VR,renV]
theorem VRL_ren {a b:Gm} {ρ:Nat→Nat} (hn:∀ n,b.nm (ρ n)=a.nm n) (hf:a.fz=b.fz):∀ (v:List AV) (v':List Value),VRL a v v'→VRL b (renL ρ v) v'
 | [],_,h=>by simpa only [renL,VRL] using h
 | v::vs,_,h=>by
  simp only [renL,VRL] at h ⊢
  obtain⟨u,us,h1,h2,h3⟩:=h
  exact⟨u,us,h1,VR_ren hn hf v u h2,VRL_ren hn hf vs us h3⟩
end
theorem renL_length (ρ:Nat→Nat):∀ (l:List AV),(renL ρ l).length=l.length
 | []=>rfl
 | v::vs=>by simp [renL,renL_length ρ vs]
def renP (ρ:Nat→Nat):List AP→List AP
 | []=>[]
 | p::r=>⟨renV ρ p.v,p.rcv⟩::renP ρ r
def renE (ρ:Nat→Nat):AE→AE
 | .returned v=>.returned (renV ρ v)
 | .panicked c=>.panicked (renP ρ c)
theorem PEL_ren {a b:Gm} {ρ:Nat→Nat} (hn:∀ n,b.nm (ρ n)=a.nm n) (hf:a.fz=b.fz):∀ {c:List AP} {c':List PanicEntry},PEL a c c'→PEL b (renP ρ c) c'
 | [],_,h=>h
 | p::r,_,h=>by
  simp only [renP,PEL] at h ⊢
  obtain⟨q,qs,h1,⟨h2,h3⟩,h4⟩:=h
  exact⟨q,qs,h1,⟨VR_ren hn hf _ _ h2,h3⟩,PEL_ren hn hf h4⟩
theorem ER_ren {a b:Gm} {ρ:Nat→Nat} (hn:∀ n,b.nm (ρ n)=a.nm n) (hf:a.fz=b.fz) {e:AE} {e':Ending} (h:ER a e e'):ER b (renE ρ e) e':=by
 cases e with
 | returned v=>obtain⟨v',h1,h2⟩:=h;exact⟨v',h1,VR_ren hn hf _ _ h2⟩
 | panicked c=>obtain⟨c',h1,h2⟩:=h;exact⟨c',h1,PEL_ren hn hf h2⟩
def renLL (ρ:Nat→Nat):List (List AV)→List (List AV)
 | []=>[]
 | v::vs=>renL ρ v::renLL ρ vs
theorem renLL_eq (ρ:Nat→Nat):∀ l:List (List AV),renLL ρ l=l.map (renL ρ)
 | []=>rfl
 | v::l=>by rw [renLL,renLL_eq ρ l];rfl
theorem renL_app (ρ:Nat→Nat):∀ a b:List AV,renL ρ (a++b)=renL ρ a++renL ρ b
 | [],b=>rfl
 | x::a,b=>by simp only [List.cons_append,renL,renL_app ρ a b]
theorem renLL_flat (ρ:Nat→Nat):∀ l:List (List AV),(renLL ρ l).flatten=renL ρ l.flatten
 | []=>rfl
 | v::l=>by simp only [renLL,List.flatten_cons,renL_app,renLL_flat ρ l]
def renC (ρ:Nat→Nat):Cn→Cn
 | .bx cs=>.bx (renL ρ cs)
 | .mx cs=>.mx (renL ρ cs)
 | .mxs css=>.mxs (renLL ρ css)
 | c=>c
def renO (ρ:Nat→Nat) (o:AObj):AObj:={ o with c:=renC ρ o.c }
theorem renO_sound {P:Program} {a b:Gm} {ρ:Nat→Nat} {w:World} {q:Pl} {o:AObj} (hn:∀ n,b.nm (ρ n)=a.nm n) (hf:a.fz=b.fz) (hc:isCells o.c=true) (h:ObjR P a w q o):ObjR P b w q (renO ρ o):=by
 obtain⟨t,fr,c⟩:=o
 have key:isCells (renC ρ c)=true∧(Empt c→Empt (renC ρ c))∧(∀ s tc,Sized s tc c→Sized s tc (renC ρ c))∧(∀ us,VRL a (flat c) us→VRL b (flat (renC ρ c)) us):=by
  cases c with
  | bx cs=>exact⟨rfl,fun h=>h,fun s tc h=>⟨by rw [renL_length];exact h.1,h.2⟩,fun us h=>VRL_ren hn hf _ _ h⟩
  | mx cs=>exact⟨rfl,fun h=>by simp only [Empt] at h;subst h;rfl,fun s tc h=>h,fun us h=>VRL_ren hn hf _ _ h⟩
  | mxs css=>exact⟨rfl,fun h=>by simp only [Empt] at h;subst h;rfl,fun s tc h cs hc=>by
    rw [renLL_eq] at hc
    obtain⟨c,hc',rfl⟩:=List.mem_map.1 hc
    rw [renL_length];exact h c hc',fun us h=>by
    simp only [renC,flat] at h ⊢
    rw [renLL_flat];exact VRL_ren hn hf _ _ h⟩
  | pu xs=>exact⟨rfl,fun h=>h,fun s tc h=>h,fun us h=>VRL_p.2 (by rw [← hf];exact VRL_p.1 h)⟩
  | pus xs=>exact⟨rfl,fun h=>h,fun s tc h=>h,fun us h=>VRL_p.2 (by rw [← hf];exact VRL_p.1 h)⟩
  | lp=>cases hc
  | df=>cases hc
  | ms=>cases hc
  | mk=>cases hc
  | it=>cases hc
 obtain⟨k1,k2,k3,k4⟩:=key
 rw [ObjR_cells (o:=renO ρ ⟨t,fr,c⟩) k1]
 rcases (ObjR_cells (o:=⟨t,fr,c⟩) hc).1 h with ⟨g1,g2,g3⟩ | ⟨g0,us,rest,z,g1,g2,g3,g3',g4,g5,g6,g7,g8⟩
 ·exact .inl ⟨g1,k2 g2,k3 _ _ g3⟩
 ·exact .inr ⟨g0,us,rest,z,g1,g2,g3,g3',g4,k4 us g5,g6,k3 _ _ g7,fun e=>by rw [← hf];exact g8 e⟩
def movC:Cn→Bool
 | .lp ..=>false
 | .df=>false
 | _=>true
theorem renO_mov {P:Program} {a b:Gm} {ρ:Nat→Nat} {w:World} {q:Pl} {o:AObj} (hn:∀ n,b.nm (ρ n)=a.nm n) (hf:a.fz=b.fz) (hc:movC o.c=true) (h:ObjR P a w q o):ObjR P b w q (renO ρ o):=by
 by_cases hcs:isCells o.c=true
 ·exact renO_sound hn hf hcs h
 ·obtain⟨t,fr,c⟩:=o
  cases c <;> first | exact absurd rfl hcs | cases hc | skip
  ·simp only [ObjR,renO,renC] at h ⊢
   rw [← hf];exact h
  ·simp only [ObjR,renO,renC] at h ⊢
   rw [← hf];exact h
  ·simp only [ObjR,renO,renC] at h ⊢
   exact h
theorem mov_cells {P:Program} {a:Gm} {w:World} {q:Pl} {o:AObj} (hc:movC o.c=true) (h:ObjR P a w q o) (hf:o.fr=true):isCells o.c=true:=by
 obtain⟨t,fr,c⟩:=o
 cases c <;> first | rfl | cases hc | skip
 ·simp only [ObjR] at h hf
  rw [h.2.1] at hf;cases hf
 ·simp only [ObjR] at h hf
  rw [h.2.1] at hf;cases hf
 ·simp only [ObjR] at h hf
  rw [h.2.1] at hf;cases hf
def renH (ρ:Nat→Nat):List (Nat × AObj)→List (Nat × AObj)
 | []=>[]
 | (n,o)::r=>match movC o.c with
  | true=>(ρ n,renO ρ o)::renH ρ r
  | false=>renH ρ r
def imgs (ρ:Nat→Nat):List (Nat × AObj)→Nat→Bool
 | [],_=>false
 | (n,_)::r,m=>Nat.beq (ρ n) m || imgs ρ r m
def rest (ρ:Nat→Nat) (L0:List (Nat × AObj)):List (Nat × AObj)→List (Nat × AObj)
 | []=>[]
 | (m,o)::r=>match imgs ρ L0 m with
  | true=>rest ρ L0 r
  | false=>(m,o)::rest ρ L0 r
def nodupK:List (Nat × AObj)→Bool
 | []=>true
 | (n,_)::r=>r.all (fun p=>!Nat.beq p.1 n) && nodupK r
def mrg (ρ:Nat→Nat) (n0:Nat) (L0:List (Nat × AObj)) (H H0':Hp):Hp:=⟨H.next+(H0'.next - n0),renH ρ H0'.l++rest ρ L0 H.l⟩
theorem lget_append {a b:List (Nat × AObj)} {m:Nat} {o:AObj} (h:lget (a++b) m=some o):(m,o)∈a∨lget b m=some o:=by
 induction a with
 | nil=>exact .inr h
 | cons p r ih=>
  obtain⟨k,x⟩:=p
  simp only [List.cons_append] at h
  by_cases e:k=m
  ·subst e;rw [lget_cons_same] at h;injection h with h;subst h;exact .inl (by simp)
  ·rw [lget_cons_ne e] at h
   rcases ih h with h1 | h1
   ·exact .inl (List.mem_cons_of_mem _ h1)
   ·exact .inr h1
theorem nodupK_get {l:List (Nat × AObj)} (h:nodupK l=true) {n:Nat} {o:AObj} (hm:(n,o)∈l):lget l n=some o:=by
 induction l with
 | nil=>simp at hm
 | cons p r ih=>
  obtain⟨k,x⟩:=p
  simp only [nodupK,Bool.and_eq_true,List.all_eq_true,Bool.not_eq_true'] at h
  rcases List.mem_cons.1 hm with e | e
  ·injection e with e1 e2;subst e1;subst e2;exact lget_cons_same
  ·have:=h.1 _ e
   rw [lget_cons_ne (fun e'=>by subst e';simp at this)]
   exact ih h.2 e
theorem mem_renH {ρ:Nat→Nat} {l:List (Nat × AObj)} {m:Nat} {o:AObj} (h:(m,o)∈renH ρ l):∃ n o',(n,o')∈l∧movC o'.c=true∧m=ρ n∧o=renO ρ o':=by
 induction l with
 | nil=>simp [renH] at h
 | cons p r ih=>
  obtain⟨k,x⟩:=p
  simp only [renH] at h
  split at h
  ·rename_i hx
   rcases List.mem_cons.1 h with e | e
   ·injection e with e1 e2
    exact⟨k,x,by simp,hx,e1,e2⟩
   ·obtain⟨n,o',h1,h2⟩:=ih e
    exact⟨n,o',List.mem_cons_of_mem _ h1,h2⟩
  ·obtain⟨n,o',h1,h2⟩:=ih h
   exact⟨n,o',List.mem_cons_of_mem _ h1,h2⟩
theorem imgs_spec {ρ:Nat→Nat} {l:List (Nat × AObj)} {m:Nat} (h:imgs ρ l m=false) {n:Nat} {o:AObj} (hn:(n,o)∈l):ρ n ≠ m:=by
 induction l with
 | nil=>simp at hn
 | cons p r ih=>
  obtain⟨k,x⟩:=p
  simp only [imgs,Bool.or_eq_false_iff] at h
  rcases List.mem_cons.1 hn with e | e
  ·injection e with e1 e2
   subst e1
   intro e
   rw [e] at h
   simp at h
  ·exact ih h.2 e
theorem lget_rest {ρ:Nat→Nat} {L0 l:List (Nat × AObj)} {m:Nat} {o:AObj} (h:lget (rest ρ L0 l) m=some o):imgs ρ L0 m=false∧lget l m=some o:=by
 induction l with
 | nil=>simp [rest,lget] at h
 | cons p r ih=>
  obtain⟨k,x⟩:=p
  simp only [rest] at h
  split at h
  ·rename_i hi
   obtain⟨h1,h2⟩:=ih h
   rw [lget_cons_ne (fun e=>by subst e;rw [hi] at h1;cases h1)]
   exact⟨h1,h2⟩
  ·rename_i hi
   by_cases e:k=m
   ·subst e
    rw [lget_cons_same] at h ⊢
    exact⟨hi,h⟩
   ·rw [lget_cons_ne e] at h ⊢
    exact ih h
theorem Holds.useN {g:FuncId} {args0 args:List AV} {n0:Nat} {L0:List (Nat × AObj)} {H:Hp} {Q0 Q:AE→Hp→Prop} (h:Holds C g args0 ⟨n0,L0⟩ Q0) (fs:List Nat) (ps:List (Nat × Nat))
  (hb:(marksOK H.l fs && (List.range n0).all (fun n=>Nat.blt (look ps n) H.next) && injOn (rmap 0 ps n0 H.next) [] L0)=true)
  (hH:SeeH (rmap 0 ps n0 H.next) [] (marks H.l fs) 0 L0) (hA0:SeeL (rmap 0 ps n0 H.next) [] (marks H.l fs) args args0)
  (hQ:∀ e0 H0',Q0 e0 H0'→nodupK H0'.l=true∧Q (renE (rmap 0 ps n0 H.next) e0) (mrg (rmap 0 ps n0 H.next) n0 L0 (H.mrk fs) H0')):Holds C g args H Q:=by
 intro Γ0 w args' hR0 hA
 simp only [Bool.and_eq_true] at hb
 obtain⟨⟨b1,b2⟩,b3⟩:=hb
 obtain⟨Γ,e1,hLm⟩:=hR0.mark b1
 have hR:=hLm.1
 have hA:=VRL_mono (hLm.le hR0) _ _ hA
 have hlt:∀ n,n<n0→rmap 0 ps n0 H.next n<H.next:=by
  intro n hn
  unfold rmap
  rw [show Nat.blt n 0=false from rfl]
  rw [show Nat.blt n n0=true by simpa using hn]
  have:=List.all_eq_true.1 b2 n (List.mem_range.2 hn)
  simpa using this
 have hge:∀ n,n0≤n→rmap 0 ps n0 H.next n=n - n0+H.next:=fun n hn=>rmap_new (Nat.zero_le _) hn
 have hsee:=R.see (H1:=⟨n0,L0⟩) (ρ:=rmap 0 ps n0 H.next) (ni:=[]) (n0:=0) hR hH (injOn_spec b3) rfl (fun n h=>by omega) (Nat.zero_le _) (fun n h=>by rw [hge n h];show H.next≤_;omega)
 have hA1:=SeeL_sound hR _ _ _ hA0 hA
 have key:∀ e w',Post C (Γ.see (rmap 0 ps n0 H.next) []) ⟨n0,L0⟩ w Q0 e w'→Post C Γ (H.mrk fs) w Q e w':=by
  rintro e' w' ⟨e0,H0',Γc,h1,h2,hL⟩
  obtain⟨hnd,hq⟩:=hQ e0 H0' h1
  obtain⟨h3,h4,h5,h6⟩:=hL
  simp only at h4 h5
  let Γ':Gm:=⟨fun m=>if m<H.next then Γ.nm m else Γc.nm (m - H.next+n0),Γc.fz⟩
  have hnm:∀ n,Γ'.nm (rmap 0 ps n0 H.next n)=Γc.nm n:=by
   intro n
   by_cases hn:n<n0
   ·simp only [Γ',if_pos (hlt n hn)]
    rw [h4 n hn]
    rfl
   ·have hn':=hge n (by omega)
    simp only [Γ']
    rw [hn',if_neg (by omega)]
    congr 1
    omega
  have hle:Γ.le Γ':=by
   refine⟨fun n q hq=>?_,h6.fz⟩
   have hn:n<H.next:=by
    rcases Nat.lt_or_ge n H.next with h1 | h1
    ·exact h1
    ·rw [hR.fresh n h1] at hq;cases hq
   simp only [Γ',if_pos hn]
   exact hq
  have hOwn0:∀ k,Own (Γ.see (rmap 0 ps n0 H.next) []) ⟨n0,L0⟩ k→Own Γ (H.mrk fs) k:=fun k hk=>by
   rcases hsee.2.2.2.prov k hk with h1 | h1
   ·exact absurd (Own.blk_lt hsee.1 hk) (by omega)
   ·exact h1
  -- an owned block of the callee's is not one of the frame
  have hframe:∀ m o q,imgs (rmap 0 ps n0 H.next) L0 m=false→lget (H.mrk fs).l m=some o→Γ.nm m=some q→q.nl=false→q.blk<w.heap.size∧¬ Own (Γ.see (rmap 0 ps n0 H.next) []) ⟨n0,L0⟩ q.blk:=by
   intro m o q hno hm hq hnl
   obtain⟨q',e1,e2⟩:=hR.objs m o hm
   rw [hq] at e1;injection e1 with e1;subst e1
   refine⟨e2.blk_lt hnl,?_⟩
   rintro⟨n,o0,q0,k1,k2,k3,k4,k5⟩
   have hso:=SeeH_get hH k1
   unfold SeeO at hso
   simp only [niGet] at hso
   obtain⟨oc,j1,j2,j3,j4⟩:=hso
   have hne:=imgs_spec hno (lget_mem k1)
   exact hR.apart _ oc m o q0 q j1 hm hne k3 hq (by rw [j3];exact k2) k4 hnl k5
  have hwh:∀ m o,lget (mrg (rmap 0 ps n0 H.next) n0 L0 (H.mrk fs) H0').l m=some o→(∃ n o',m=rmap 0 ps n0 H.next n∧lget H0'.l n=some o'∧movC o'.c=true∧o=renO (rmap 0 ps n0 H.next) o')∨(imgs (rmap 0 ps n0 H.next) L0 m=false∧lget (H.mrk fs).l m=some o):=by
   intro m o hm
   rcases lget_append hm with h1 | h1
   ·obtain⟨n,o',k1,k2,k3,k4⟩:=mem_renH h1
    exact .inl ⟨n,o',k3,nodupK_get hnd k1,k2,k4⟩
   ·exact .inr (lget_rest h1)
  have hfrq:∀ m o q,imgs (rmap 0 ps n0 H.next) L0 m=false→lget (H.mrk fs).l m=some o→Γ'.nm m=some q→Γ.nm m=some q:=by
   intro m o q _ hm hq
   obtain⟨q',e1,_⟩:=hR.objs m o hm
   have:=hle.nm _ _ e1
   rw [hq] at this
   rw [this];exact e1
  -- a block of the callee's that the heap owns,or that is not written any more,is none of an owned object of the frame
  have hblk:∀ n o' qc m o q,lget H0'.l n=some o'→Γc.nm n=some qc→qc.nl=false→imgs (rmap 0 ps n0 H.next) L0 m=false→lget (H.mrk fs).l m=some o→Γ.nm m=some q→q.nl=false→(o'.fr=false∨o.fr=false)→movC o'.c=true→qc.blk ≠ q.blk:=by
   intro n o' qc m o q k1 k2 k3 k4 k5 k6 k7 k8 k9 e
   obtain⟨l1,l2⟩:=hframe m o q k4 k5 k6 k7
   cases hfr:o'.fr with
   | false=>
    rcases h6.prov qc.blk ⟨n,o',qc,k1,hfr,k2,k3,rfl⟩ with c1 | c1
    ·omega
    ·exact l2 (e ▸ c1)
   | true=>
    have hof:o.fr=false:=by
     rcases k8 with k8 | k8
     ·rw [hfr] at k8;cases k8
     ·exact k8
    obtain⟨qx,x1,x2⟩:=h3.objs n o' k1
    rw [k2] at x1;injection x1 with x1;subst x1
    have k9:isCells o'.c=true:=mov_cells k9 x2 hfr
    rcases (ObjR_cells k9).1 x2 with ⟨y,_⟩ | ⟨_,us,rr,z,g1,g2,g3,g3',g4,g5,g6,g7,g8⟩
    ·rw [k3] at y;cases y
    ·rcases h6.fzprov _ _ (g8 hfr) with c1 | c1 | c1
     ·have c1':Γ.fz qc.blk=some _:=c1
      rw [e,hR.own m o q k5 hof k6 k7] at c1'
      cases c1'
     ·omega
     ·exact l2 (e ▸ c1)
  refine⟨_,_,Γ',hq,ER_ren hnm rfl h2,⟨h3.glob,fun n hn=>?_,h3.fzok,fun m o hm=>?_,fun m o q hm hf hq1 hnl=>?_,fun m o m' o' q q' hm hm' hne hq1 hq2 hf hnl hnl'=>?_⟩,fun m hm=>by have hm:m<H.next:=hm;simp only [Γ',if_pos hm],by show H.next≤H.next+_;omega,⟨h6.os,h6.tape,h6.output,h6.size,fun k hk hno=>h6.kept k hk (fun e=>hno (hOwn0 k e)),fun k hk=>?_,h6.fz,fun k a hk=>?_⟩⟩
  ·have hn:H.next+(H0'.next - n0)≤n:=hn
   simp only [Γ',if_neg (show ¬ n<H.next by omega)]
   exact h3.fresh _ (by omega)
  ·rcases hwh m o hm with ⟨n,o',rfl,k2,k3,rfl⟩ | ⟨k1,k2⟩
   ·obtain⟨q,x1,x2⟩:=h3.objs n o' k2
    exact⟨q,by rw [hnm];exact x1,renO_mov hnm rfl k3 x2⟩
   ·obtain⟨q,x1,x2⟩:=hR.objs m o k2
    refine⟨q,hle.nm _ _ x1,x2.ext hle fun hnl=>?_⟩
    obtain⟨l1,l2⟩:=hframe m o q k1 k2 x1 hnl
    exact h6.kept _ l1 l2
  ·rcases hwh m o hm with ⟨n,o',rfl,k2,k3,rfl⟩ | ⟨k1,k2⟩
   ·rw [hnm] at hq1
    exact h3.own n o' q k2 hf hq1 hnl
   ·have hq2:=hfrq m o q k1 k2 hq1
    have h0:=hR.own m o q k2 hf hq2 hnl
    obtain⟨l1,l2⟩:=hframe m o q k1 k2 hq2 hnl
    cases hx:Γc.fz q.blk with
    | none=>rfl
    | some a=>
     rcases h6.fzprov _ _ hx with c1 | c1 | c1
     ·have c1':Γ.fz q.blk=some _:=c1
      rw [h0] at c1';cases c1'
     ·omega
     ·exact(l2 c1).elim
  ·rcases hwh m o hm with ⟨n,o1,rfl,k2,k3,rfl⟩ | ⟨k1,k2⟩
   ·rw [hnm] at hq1
    rcases hwh m' o' hm' with ⟨n',o2,rfl,j2,j3,rfl⟩ | ⟨j1,j2⟩
    ·rw [hnm] at hq2
     exact h3.apart n o1 n' o2 q q' k2 j2 (fun e=>hne (by rw [e])) hq1 hq2 hf hnl hnl'
    ·exact hblk n o1 q m' o' q' k2 hq1 hnl j1 j2 (hfrq _ _ _ j1 j2 hq2) hnl' (.inl hf) k3
   ·have hq1':=hfrq m o q k1 k2 hq1
    rcases hwh m' o' hm' with ⟨n',o2,rfl,j2,j3,rfl⟩ | ⟨j1,j2⟩
    ·rw [hnm] at hq2
     exact Ne.symm (hblk n' o2 q' m o q j2 hq2 hnl' k1 k2 hq1' hnl (.inr hf) j3)
    ·exact hR.apart m o m' o' q q' k2 j2 hne hq1' (hfrq _ _ _ j1 j2 hq2) hf hnl hnl'
  ·obtain⟨m,o,q,k1,k2,k3,k4,rfl⟩:=hk
   rcases hwh m o k1 with ⟨n,o1,rfl,j2,j3,rfl⟩ | ⟨j1,j2⟩
   ·rw [hnm] at k3
    rcases h6.prov q.blk ⟨n,o1,q,j2,k2,k3,k4,rfl⟩ with c1 | c1
    ·exact .inl c1
    ·exact .inr (hOwn0 _ c1)
   ·exact .inr ⟨m,o,q,j2,k2,hfrq _ _ _ j1 j2 k3,k4,rfl⟩
  ·rcases h6.fzprov k a hk with c1 | c1 | c1
   ·exact .inl c1
   ·exact .inr (.inl c1)
   ·exact .inr (.inr (hOwn0 _ c1))
 have fin:∀ e w',Post C (Γ.see (rmap 0 ps n0 H.next) []) ⟨n0,L0⟩ w Q0 e w'→Post C Γ0 H w Q e w':=by
  intro e w' hP
  obtain⟨e0,H',Γ',k1,k2,k3⟩:=key e w' hP
  exact⟨e0,H',Γ',k1,k2,hLm.trans (k3.mono hLm.2.2.1)⟩
 rcases h _ w args' hsee.1 hA1 with ⟨h1,h2⟩ | ⟨v',w',h1,h2⟩
 ·exact .inl ⟨h1,h2.mono fin⟩
 ·exact .inr ⟨v',w',h1,fin _ _ h2⟩
end
end Go.Proofs.YtkegmchjobphdaaGreatDoor.Y
namespace Go.Proofs.YtkegmchjobphdaaGreatDoor.Y
open Go
section
variable {C:Cx}
def FinD (C:Cx) (rs:List ResultVar) (n0:Nat) (u:Md) (Q:AE→Md→Hp→Prop):KQ:=fun e σ ds H=>
 match ds with
 | []=>match e with
  | .normal=>resV C σ H rs fun vs=>EndN n0 (fun e H'=>Q e u H') (.returned (tupA vs)) H
  | .ret=>resV C σ H rs fun vs=>EndN n0 (fun e H'=>Q e u H') (.returned (tupA vs)) H
  | .panic ch=>EndN n0 (fun e H'=>Q e u H') (.panicked ch) H
  | _=>False
 | _=>False
def dataM:Md→Bool
 | .ret=>true
 | .pan ch=>ch.all fun p=>match p.v with
  | .p _=>true
  | _=>false
theorem MR_data {a b:Gm} (hf:a.fz.le b.fz) {u:Md} (hu:dataM u=true) {m:FrameMode} (h:MR a u m):MR b u m:=by
 cases u with
 | ret=>exact h
 | pan ch=>
  obtain⟨ch',rfl,hc⟩:=h
  refine⟨ch',rfl,?_⟩
  simp only [dataM] at hu
  induction ch generalizing ch' with
  | nil=>exact hc
  | cons p ps ih=>
   simp only [PEL] at hc ⊢
   obtain⟨q,qs,rfl,⟨h1,h2⟩,h3⟩:=hc
   simp only [List.all_cons,Bool.and_eq_true] at hu
   refine⟨q,qs,rfl,⟨?_,h2⟩,ih hu.2 qs h3⟩
   obtain⟨v,rc⟩:=p
   cases v <;> simp only [Bool.false_eq_true,false_and] at hu
   simp only [VR] at h1 ⊢
   exact VP_mono hf _ _ h1
theorem PostD_gc {Γ:Gm} {H:Hp} {w:World} {Q:AE→Md→Hp→Prop} {u:Md} (hu:dataM u=true) {e':Ending} {m':FrameMode} {w':World} {e:AE} {H':Hp} {Γ':Gm} (hq:EndN H.next (fun e H'=>Q e u H') e H') (hE:ER Γ' e e') (hM:MR Γ' u m') (hL:Later C H.next Γ H w Γ' H' w'):PostD C Γ H w Q e' m' w':=by
 obtain⟨e1,H1,Γ1,k1,k2,k3⟩:=Post.gc (C:=C) (Q:=fun e H'=>Q e u H') ⟨e,H',Γ',hq,hE,hL⟩
 obtain⟨fs,ps,ni,e1,H1,hb,hEE,hH,hqq⟩:=hq
 simp only [Bool.and_eq_true] at hb
 obtain⟨⟨⟨b1,b2⟩,b3⟩,b4⟩:=hb
 have b2:=Nat.le_of_ble_eq_true b2
 obtain⟨Γ2,e2,hL2⟩:=hL.1.mark b1
 have hsee:=R.see (H1:=H1) (ρ:=rmap H.next ps H1.next H'.next) hL2.1 hH (injOn_spec b4) b3 (fun n h=>rmap_fix h) b2 (fun n h=>by rw [rmap_new b2 h];show H'.next≤_;omega)
 exact⟨e1,u,H1,_,hqq,SeeE_sound hL2.1 hEE (ER_mono (hL2.le hL.1) hE),MR_data (b:=Γ2.see (rmap H.next ps H1.next H'.next) ni) (hL2.2.2.2.fz) hu hM,(hL.trans (hL2.mono hL.2.2.1)).trans hsee⟩
def pOps (C:Cx) (N:Nat) (all:List Oper):List Oper→Sg→Hp→(Sg→Prop)→Prop
 | [],σ,_,K=>K σ
 | o::r,σ,H,K=>match gd all o σ with
  | some true=>(pop C.P o.op (evl C σ) (lget H.l)).Then fun v=>vput N o.dst σ v fun σ'=>pOps C N all r σ' H K
  | some false=>vput N o.dst σ und fun σ'=>pOps C N all r σ' H K
  | none=>False
def recA:Md→AV × Md
 | .pan (⟨v,false⟩::r)=>(v, .pan (⟨v,true⟩::r))
 | u=>(.p .nilIface,u)
def isRec:Op→Bool
 | .call { callee:=.builtin .recover, .. }=>true
 | _=>false
theorem rec_sound {Γ:Gm} {u:Md} {c₀:Frame} {cs:List Frame} (h:MR Γ u c₀.mode):∃ v' m',(match recoverD (c₀::cs) with | some (v,cs')=>(v,cs') | none=>(.nilIface,c₀::cs))=(v',{ c₀ with mode:=m' }::cs)∧VR Γ (recA u).1 v'∧MR Γ (recA u).2 m':=by
 cases u with
 | ret=>
  simp only [MR] at h
  refine⟨.nilIface,c₀.mode,?_,by simp only [recA,VR,VP],by simp only [recA,MR];exact h⟩
  simp only [recoverD,h]
  rw [← h]
 | pan ch=>
  obtain⟨ch',hm,hc⟩:=h
  match ch,hc with
  | [],hc=>
   simp only [PEL] at hc
   subst hc
   refine⟨.nilIface,c₀.mode,?_,by simp only [recA,VR,VP],⟨[],hm,rfl⟩⟩
   simp only [recoverD,hm]
   rw [← hm]
  | ⟨v,true⟩::r,hc=>
   have hc':=hc
   simp only [PEL] at hc
   obtain⟨⟨qv,qr,qg⟩,qs,rfl,⟨h1,h2,h3⟩,h4⟩:=hc
   simp only at h2
   subst h2
   refine⟨.nilIface,c₀.mode,?_,by simp only [recA,VR,VP],⟨_,hm,hc'⟩⟩
   simp only [recoverD,hm]
   rw [← hm]
  | ⟨v,false⟩::r,hc=>
   simp only [PEL] at hc
   obtain⟨⟨qv,qr,qg⟩,qs,rfl,⟨h1,h2,h3⟩,h4⟩:=hc
   simp only at h2 h3
   subst h2;subst h3
   refine⟨qv, .panicking ({ v:=qv,recovered:=true }::qs),?_,h1,⟨_,rfl,?_⟩⟩
   ·simp only [recoverD,hm]
   ·simp only [PEL]
    exact⟨_,qs,rfl,⟨h1,rfl,rfl⟩,h4⟩
theorem pOps_sound {ops:Array Oper} {Q:Exit→Act→List Frame→World→Prop} {N:Nat} {Γ:Gm} {H:Hp} {w:World} {cs:List Frame} (hR:R C Γ H w) {K:Sg→Prop} (hK:∀ σ' a',K σ'→SR none Γ σ' [] N a'→Q .normal a' cs w) :
  ∀ (rest pre:List Oper) (σ:Sg) (a:Act),ops.toList=pre++rest→SR none Γ σ [] N a→pOps C N ops.toList rest σ H K→wpOpsSIn (Fz none) 0 C.P ops Q (List.range' pre.length rest.length) a cs w
 | [],pre,σ,a,_,hS,hv=>by
  simp only [List.length_nil,List.range'_zero,wpOpsSIn]
  exact hK σ a hv hS
 | o::rest,pre,σ,a,hops,hS,hv=>by
  have hi:ops[pre.length]?=some o:=by
   rw [← Array.getElem?_toList,hops]
   simp
  simp only [List.length_cons,List.range'_succ,wpOpsSIn,hi]
  refine⟨fun _ _=>trivial,?_⟩
  have ih:=pOps_sound (ops:=ops) (Q:=Q) hR hK rest (pre++[o])
  simp only [List.length_append,List.length_cons,List.length_nil,Nat.zero_add] at ih
  have hops':ops.toList=(pre++[o])++rest:=by rw [hops];simp
  have go:∀ (v:AV) (v':Value),vput N o.dst σ v (fun σ'=>pOps C N ops.toList rest σ' H K)→VR Γ v v'→wpOpsSIn (Fz none) 0 C.P ops Q (List.range' (pre.length+1) rest.length) (a.put o.dst v') cs w:=by
   intro v v' hp hvv
   cases hd:o.dst with
   | none=>rw [hd] at hp;exact ih σ _ hops' hS hp
   | some d=>
    rw [hd] at hp
    obtain⟨hdN,hp⟩:=vput_some hp
    exact ih (upd σ d v) _ hops' (hS.put (Gm.le_refl _) hvv hS.df hdN) hp
  simp only [pOps] at hv
  split at hv
  ·rename_i hg
   rw [gd_sound hS hg]
   simp only [if_true]
   obtain⟨v,hy,hk⟩:=PRes.yld hv
   obtain⟨v',h1,h2⟩:=pop_sound hR (evl_sound hR hS) o hy
   rw [h1]
   exact go v v' hk h2
  ·rename_i hg
   rw [gd_sound hS hg]
   simp only [Bool.false_eq_true,if_false]
   exact go und undef hv (VR_undef Γ)
  ·exact hv.elim
theorem holdsD_rec {f : FuncId} {fn : Func} {id : Nat} {o : Oper} {ops : List Oper} {c2 : Code} {args : List AV} {u : Md} {H : Hp} {Q : AE → Md → Hp → Prop} (hf : C.P.funcs[f]? = some fn) (hname : (fn.name == "runtime.NumGoroutine") = false) (hb : fn.body = some (.seq (.region id ⟨o :: ops⟩ false) c2))
  (hN:(Nat.ble args.length fn.ntmps && isRec o.op && o.guard.isNone && dataM u && noRange c2)=true)
  (hv:vput fn.ntmps o.dst (sets (fun _=>und) (argS 0 args)) (recA u).1 fun σ=>pOps C fn.ntmps (o::ops) ops σ H fun σ'=>vc C none H.next fn.ntmps c2 σ' [] H (FinD C fn.results.toList H.next (recA u).2 Q)):HoldsD C f args u H Q:=by
 intro Γ w args' m hR hA hM
 simp only [Bool.and_eq_true] at hN
 obtain⟨⟨⟨⟨n1,n2⟩,n3⟩,n4⟩,n5⟩:=hN
 have hdata:dataM (recA u).2=true:=by
  cases u with
  | ret=>rfl
  | pan ch=>
   match ch,n4 with
   | [],_=>rfl
   | ⟨v,true⟩::r,n4=>exact n4
   | ⟨v,false⟩::r,n4=>exact n4
 refine⟨run_enter hf hname hb _ _,trivial,fun c₀ cs hu _=>?_⟩
 let b:Frame:={ (default:Frame) with fn:=f,kind:=.deferred,roundOf:=none }
 have hbf:(C.P.funcs[b.fn]?).isSome=true:=by show(C.P.funcs[f]?).isSome=true;rw [hf];rfl
 have henter:Frame.enter C.P f ⟨args'⟩ .deferred=b.atR { tmps:=(⟨args'⟩:Array Value)++Array.replicate (fn.ntmps - args'.length) undef,defers:=[] } [.code (.seq (.region id ⟨o::ops⟩ false) c2)]:=by
  simp [Frame.enter,Frame.atR,hf,hb,b]
 have hS:=entry_SR (df0:=none) rfl (n:=fn.ntmps) hA (Nat.le_of_ble_eq_true n1)
 obtain⟨v',m',hrec,hvr,hmr⟩:=rec_sound (Γ:=Γ) (u:=u) (c₀:=c₀) (cs:=cs) (by rw [hu];exact hM)
 -- the first region
 have hreg:wpOpsSIn (Fz none) 0 C.P ⟨o::ops⟩ (fun e a1 cs1 w1=>e=.normal∧cs1={ c₀ with mode:=m' }::cs∧w1=w∧∃ σ',SR none Γ σ' [] fn.ntmps a1∧vc C none H.next fn.ntmps c2 σ' [] H (FinD C fn.results.toList H.next (recA u).2 Q)) (List.range (o::ops).length) { tmps:=(⟨args'⟩:Array Value)++Array.replicate (fn.ntmps - args'.length) undef,defers:=[] } (c₀::cs) w:=by
  rw [List.range_eq_range',List.length_cons,List.range'_succ]
  have hi:(⟨o::ops⟩:Array Oper)[0]?=some o:=rfl
  simp only [wpOpsSIn,hi]
  refine⟨fun _ _=>trivial,?_⟩
  have hg:Region.wanted o (yielded ⟨o::ops⟩ ((⟨args'⟩:Array Value)++Array.replicate (fn.ntmps - args'.length) undef))=true:=by
   unfold Region.wanted
   cases hgd:o.guard with
   | none=>rfl
   | some g=>rw [hgd] at n3;cases n3
  simp only [hg,if_true]
  have hex:∀ ev:Operand→Value,(execOp ev o).run C.P w=.ok .recover w:=by
   intro ev
   obtain⟨dst,op,ty,pos,af,gu⟩:=o
   simp only at n2
   unfold isRec at n2
   split at n2
   ·simp [execOp,resolve,invoke,builtin]
   ·cases n2
  rw [hex]
  simp only
  have hput:∀ σ',(match o.dst with | none=>σ'=sets (fun _=>und) (argS 0 args) | some d=>d<fn.ntmps∧σ'=upd (sets (fun _=>und) (argS 0 args)) d (recA u).1)→SR none Γ σ' [] fn.ntmps (({ tmps:=(⟨args'⟩:Array Value)++Array.replicate (fn.ntmps - args'.length) undef,defers:=[] }:Act).put o.dst v'):=by
   intro σ' h
   cases hd:o.dst with
   | none=>rw [hd] at h;simp only at h;subst h;exact hS
   | some d=>rw [hd] at h;obtain⟨h1,rfl⟩:=h;exact hS.put (Gm.le_refl _) hvr hS.df h1
  have hv':∃ σ',(match o.dst with | none=>σ'=sets (fun _=>und) (argS 0 args) | some d=>d<fn.ntmps∧σ'=upd (sets (fun _=>und) (argS 0 args)) d (recA u).1)∧pOps C fn.ntmps (o::ops) ops σ' H fun σ'=>vc C none H.next fn.ntmps c2 σ' [] H (FinD C fn.results.toList H.next (recA u).2 Q):=by
   cases hd:o.dst with
   | none=>rw [hd] at hv;exact⟨_,rfl,hv⟩
   | some d=>
    rw [hd] at hv
    obtain⟨h1,h2⟩:=vput_some hv
    exact⟨_,⟨h1,rfl⟩,h2⟩
  obtain⟨σ',h1,h2⟩:=hv'
  have:=pOps_sound (C:=C) (ops:=⟨o::ops⟩) (Q:=fun e a1 cs1 w1=>e=.normal∧cs1={ c₀ with mode:=m' }::cs∧w1=w∧∃ σ',SR none Γ σ' [] fn.ntmps a1∧vc C none H.next fn.ntmps c2 σ' [] H (FinD C fn.results.toList H.next (recA u).2 Q)) (cs:={ c₀ with mode:=m' }::cs) hR
   (fun σ' a' hk hs=>⟨rfl,rfl,rfl,σ',hs,hk⟩) ops [o] σ' _ rfl (hput σ' h1) h2
  simp only [List.length_cons,List.length_nil,Nat.zero_add] at this ⊢
  cases hrd:recoverD (c₀::cs) with
  | none=>
   rw [hrd] at hrec
   simp only [Prod.mk.injEq] at hrec
   obtain⟨e1,e2⟩:=hrec
   simp only
   rw [e1,e2]
   exact this
  | some p=>
   obtain⟨pv,pcs⟩:=p
   rw [hrd] at hrec
   simp only [Prod.mk.injEq] at hrec
   obtain⟨e1,e2⟩:=hrec
   subst e1;subst e2
   exact this
 obtain⟨e1,a1,cs1,w1,_,⟨he1,hcs1,hw1,σ1,hS1,hv1⟩,harr1⟩:=wpSIn_region (F:=Fz none) (n:=0) (id:=id) hreg b [.code c2] rfl rfl trivial (room_Fz _ _)
 subst he1;subst hcs1;subst hw1
 have s0:StepsIn (Machine.fenced C.P (Fz none)) C.P (lone (Frame.enter C.P f ⟨args'⟩ .deferred) (c₀::cs) w1) (lone (b.atR a1 [.code c2]) ({ c₀ with mode:=m' }::cs) w1):=by
  rw [henter]
  exact .head (fenced_any _) stepR_seq harr1
 obtain⟨e2,a2,w2,⟨e,σ2,ds2,H2,Γ2,hQ2,hX2,hS2,hL2⟩,harr2⟩:=vc_sound (r:=false) (B:=fun _=>True) (rn:=none) (n0:=H.next) hbf c2 (by simpa using n5) σ1 [] H _ Γ a1 w1 (Nat.le_refl _) rfl hR ⟨none,hS1,⟨rfl,⟨[],rfl,List.nodup_nil,fun b hb=>by cases hb⟩,fun _ _=>trivial,fun _ _=>trivial⟩⟩ hv1 [] ({ c₀ with mode:=m' }::cs)
 have hle:=hL2.le hR
 have hmr2:=MR_mono hle hmr
 unfold FinD at hQ2
 split at hQ2 <;> try exact hQ2.elim
 obtain⟨df2,hS2,hx2'⟩:=hS2
 have hdf:=hS2.df
 have hdn:df2=none:=by cases df2 with | none=>rfl | some l=>exact absurd hx2'.some' (by simp)
 subst hdn
 simp only [DRL,Option.getD_none] at hdf
 have ret:∀ (fr:Frame),fr={ b.atR a2 [] with mode:=.returning }∨(∃ todo,fr={ b.atR a2 todo with mode:=.returning })→resV C σ2 H2 fn.results.toList (fun vs=>EndN H.next (fun e H'=>Q e (recA u).2 H') (.returned (tupA vs)) H2) →
   StepsIn (Machine.fenced C.P (Fz none)) C.P (lone (b.atR a1 [.code c2]) ({ c₀ with mode:=m' }::cs) w1) (lone fr ({ c₀ with mode:=m' }::cs) w2) →
   ∃ e u' w' fr,PostD C Γ H w1 Q e u' w'∧ComesIn (Machine.fenced C.P (Fz none)) C.P (lone (Frame.enter C.P f ⟨args'⟩ .deferred) (c₀::cs) w1) (lone fr ({ c₀ with mode:=u' }::cs) w') e∧fr.kind=.deferred∧fr.fn=f∧fr.going C.P w' e:=by
  intro fr hfr hr hs
  obtain⟨vs,vs',k1,k2,k3⟩:=resV_sound hL2.1 hS2 hr
  refine⟨.returned (tup vs'),m',w2,fr,PostD_gc hdata k1 ⟨_,rfl,VR_tup k2⟩ hmr2 hL2,StepsIn.trans s0 hs,?_,?_,?_⟩
  ·rcases hfr with rfl | ⟨todo,rfl⟩ <;> rfl
  ·rcases hfr with rfl | ⟨todo,rfl⟩ <;> rfl
  ·rcases hfr with rfl | ⟨todo,rfl⟩ <;> exact⟨rfl,hdf,fn,hf,run_results k3⟩
 cases e with
 | normal=>
  simp only [XR] at hX2;subst hX2
  exact ret _ (.inl rfl) hQ2 (StepsIn.trans harr2 (.one (fenced_any _) (stepR_end rfl)))
 | ret=>
  simp only [XR] at hX2;subst hX2
  obtain⟨todo,hs⟩:=harr2.1 rfl
  exact ret _ (.inr ⟨todo,rfl⟩) hQ2 hs
 | panic ch=>
  simp only [XR] at hX2
  obtain⟨ch',rfl,hp⟩:=hX2
  obtain⟨todo,hs⟩:=harr2
  exact⟨.panicked ch',m',w2,_,PostD_gc hdata hQ2 ⟨ch',rfl,hp⟩ hmr2 hL2,StepsIn.trans s0 hs,rfl,rfl,rfl,hdf,fn,hf⟩
 | exit i=>exact hQ2.elim
 | goto i=>exact hQ2.elim
end
end Go.Proofs.YtkegmchjobphdaaGreatDoor.Y
namespace Go.Proofs.YtkegmchjobphdaaGreatDoor.Y
open Go
def isEff (P:Program):Op→Bool
 | .alloc _ | .box _ _ | .store _ _ _ | .buildSlice _ _ _ | .makeSlice _ _ _ | .defer _ | .panic _=>true
 | .call { callee:=.value _, .. }=>true
 | .call { callee:=.invoke _ _, .. }=>true
 | .call { callee:=.builtin .append, .. }=>true
 | .call { callee:=.builtin .copy, .. }=>true
 | .call { callee:=.builtin .unsafeSliceData, .. }=>true
 | .call { callee:=.builtin .unsafeString, .. }=>true
 | .convert _ d _=>match P.underlying d with
  | some (.slice _)=>true
  | _=>false
 | _=>false
def firstIx (p:Nat→Oper→Bool):Nat→List Oper→Option Nat
 | _,[]=>none
 | i,o::r=>match p i o with
  | true=>some i
  | false=>firstIx p (i+1) r
def schedOT (P:Program) (ms:List Nat) (all:List Oper):Nat→List Nat→List Nat→OT
 | 0,_,_=>.fin
 | f+1,dom,pu=>match firstIx (fun i o=>!elemN i dom && (!isEff P o.op && subN (dps o) dom)) 0 all with
  | some i=>.pure i (schedOT P ms all f (i::dom) (match onth all i with
   | some o=>match rdHeap o.op with
    | true=>i::pu
    | false=>pu
   | none=>pu))
  | none=>match firstIx (fun i o=>!elemN i dom && subN (dps o) dom) 0 all with
   | some i=>.eff i (pu.filter fun k=>!(nthN ms i).testBit k) (schedOT P ms all f (i::dom) pu) .nil
   | none=>.fin
def seqOT (P:Program) (ms:List Nat) (all:List Oper) (_:Nat) (_:List Nat):OT:=schedOT P ms all all.length [] []
def filterIx (p:Nat→Oper→Bool):Nat→List Oper→List Nat
 | _,[]=>[]
 | i,o::r=>match p i o with
  | true=>i::filterIx p (i+1) r
  | false=>filterIx p (i+1) r
def altOT (P:Program) (ms:List Nat) (all:List Oper):Nat→List Nat→List Nat→OT
 | 0,_,_=>.fin
 | f+1,dom,pu=>match firstIx (fun i o=>!elemN i dom && (!isEff P o.op && subN (dps o) dom)) 0 all with
  | some i=>.pure i (altOT P ms all f (i::dom) (match onth all i with
   | some o=>match rdHeap o.op with
    | true=>i::pu
    | false=>pu
   | none=>pu))
  | none=>match filterIx (fun i o=>!elemN i dom && subN (dps o) dom) 0 all with
   | []=>.fin
   | es=>es.foldr (fun i t=>.eff i (pu.filter fun k=>!(nthN ms i).testBit k) (altOT P ms all f (i::dom) pu) t) .nil
theorem VDraw.seq {C : Cx} {rd : Bool} {n0 N : Nat} {all : List Oper} {σ : Sg} {ds : List AD} {H : Hp} {K : Sg → List AD → Hp → Prop} {X : List AP → Sg → List AD → Hp → Prop}
    (h : (C.P.follows .mixedOrders && slotsOK N all (masks all []) && otOK all (masks all []) (seqOT C.P (masks all []) all 0 []) [] [] []) = true)
    (hv : vD C rd all σ K X (seqOT C.P (masks all []) all 0 []) [] ds H) :
    ∃ ot, (C.P.follows .mixedOrders && slotsOK N all (masks all []) && otOK all (masks all []) ot [] [] []) = true ∧
    ((vD C rd all σ K X ot [] ds H) ∨
     ∃ (α : Type) (sl : α → List (Nat × AV)) (hp : α → Hp) (pr : α → Prop),
      vD C rd all σ (fun σ' ds' H' => ∃ x, pr x ∧ Ent C n0 N σ' ds' H' (sets (fun _ => .junk) (sl x)) ds (hp x)) X ot [] ds H ∧
      ∀ x, pr x → K (sets (fun _ => .junk) (sl x)) ds (hp x)) := ⟨_, h, .inl hv⟩
theorem VDraw.altTo {C : Cx} {rd : Bool} {n0 N : Nat} {all : List Oper} {σ : Sg} {ds : List AD} {H : Hp} {K : Sg → List AD → Hp → Prop} {X : List AP → Sg → List AD → Hp → Prop} (sl : List (Nat × AV)) (hp : Hp)
    (h : (C.P.follows .mixedOrders && slotsOK N all (masks all []) && otOK all (masks all []) (altOT C.P (masks all []) all all.length [] []) [] [] []) = true)
    (hv : vD C rd all σ (fun σ' ds' H' => Ent C n0 N σ' ds' H' (sets (fun _ => .junk) sl) ds hp) X (altOT C.P (masks all []) all all.length [] []) [] ds H) (hk : K (sets (fun _ => .junk) sl) ds hp) :
    ∃ ot, (C.P.follows .mixedOrders && slotsOK N all (masks all []) && otOK all (masks all []) ot [] [] []) = true ∧
    ((vD C rd all σ K X ot [] ds H) ∨
     ∃ (α : Type) (sl : α → List (Nat × AV)) (hp : α → Hp) (pr : α → Prop),
      vD C rd all σ (fun σ' ds' H' => ∃ x, pr x ∧ Ent C n0 N σ' ds' H' (sets (fun _ => .junk) (sl x)) ds (hp x)) X ot [] ds H ∧
      ∀ x, pr x → K (sets (fun _ => .junk) (sl x)) ds (hp x)) :=
  ⟨_, h, .inr ⟨Unit, fun _ => sl, fun _ => hp, fun _ => True, by
    have e : (fun σ' ds' H' => ∃ _x : Unit, True ∧ Ent C n0 N σ' ds' H' (sets (fun _ => .junk) sl) ds hp) = fun σ' ds' H' => Ent C n0 N σ' ds' H' (sets (fun _ => .junk) sl) ds hp := by
      funext a b c
      exact propext ⟨fun ⟨_, _, h⟩ => h, fun h => ⟨(), trivial, h⟩⟩
    rw [e]; exact hv, fun _ _ => hk⟩⟩
theorem end1 {Q:PEnd→Prop} {v:AV} {H':Hp} (x:PV) (hm:marksOK H'.l (fsOf H'.l)=true) (hr:Res (marks H'.l (fsOf H'.l)) 5 v x) (hq:Q (.ret [x])):EndP Q (.returned v) H':=⟨.ret [x],⟨hm,v,rfl,hr⟩,hq⟩
theorem end2 {Q:PEnd→Prop} {v1 v2:AV} {H':Hp} (x1 x2:PV) (hm:marksOK H'.l (fsOf H'.l)=true) (h1:Res (marks H'.l (fsOf H'.l)) 5 v1 x1) (h2:Res (marks H'.l (fsOf H'.l)) 5 v2 x2) (hq:Q (.ret [x1,x2])):EndP Q (.returned (.tup [v1,v2])) H':=
 ⟨.ret [x1,x2],⟨hm,_,rfl,_,_,rfl,h1,_,_,rfl,h2,rfl⟩,hq⟩
variable {C:Cx}
theorem Pure.eq {g:FuncId} {pargs:List PV} {r:PEnd} {args:List AV} {H:Hp} {Q':AE→Hp→Prop} (h:Pure C g pargs (·=r)) (ha:args=pargs.map .p) (hQ:Q' (absE r) H):Holds C g args H Q':=by
 subst ha
 exact h.at fun r' e=>by subst e;exact hQ
theorem Pure.uses {g:FuncId} {pargs:List PV} {r:PEnd} {args:List AV} {H:Hp} {Q':AE→Hp→Prop} (h:Pure C g pargs (·=r)) (fs:List Nat) (hm:marksOK H.l fs=true) (ha:ResL (Res (marks H.l fs) 5) args pargs) (hQ:Q' (absE r) (H.mrk fs)):Holds C g args H Q':=
 h.use fs hm ha fun r' e=>by subst e;exact hQ
theorem ent0 {n0 N:Nat} {σ:Sg} {ds:List AD} {H H1:Hp} {l:List (Nat × AV)} (hb:(Nat.ble n0 H1.next && injOn (rmap n0 [] H1.next H.next) [] H1.l)=true) (hS:SeeS (rmap n0 [] H1.next H.next) [] H.l σ l) (hH:SeeH (rmap n0 [] H1.next H.next) [] H.l n0 H1.l) (hD:SeeD (rmap n0 [] H1.next H.next) [] H.l ds ds) :
  Ent C n0 N σ ds H (sets (fun _=>.junk) l) ds H1:=by
 simp only [Bool.and_eq_true] at hb
 exact ent_of [] [] [] (by simp [marksOK,hb.1,hb.2,niOK]) hS hH hD
theorem nth_get {α:Type}:∀ (l:List α) (n:Nat),nth l n=l[n]?
 | [],n=>by cases n <;> rfl
 | _::_,0=>rfl
 | _::l,n+1=>nth_get l n
theorem ldIn1 {P:Program} {t:TypeId} {cs:List AV} {f:Nat} {v:AV} (h:aggSz P t=some none) (hv:cs[f]?=some v):ldIn P t cs f=some v:=by
 unfold ldIn;rw [h];exact(nth_get cs f).trans hv
theorem takeAll {α:Type} {l:List α} {n:Nat} (h:l.length=n):l=(l.drop 0).take n:=by rw [List.drop_zero,List.take_of_length_le (by omega)]
end Go.Proofs.YtkegmchjobphdaaGreatDoor.Y

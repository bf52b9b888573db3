/- Part 4 of the proof: Td Xa Xb Xc Sr Bd Vl Kt Ku Kv Kw Kx Ky Ga Ja Jb Jc Jd Je Jf Jg Ua Ub Vm Uc Ud Ue Uf Ug Uh Ui Lo Lp Lq Lr Lv Lw Pa Pb Oa Ob Oc Od Oe Of Og Ra Uj Uk Ul Um Wa Wb Wc Wd We Wf Wg -/
import Derived.Shelf.Strings.Builder1
import Derived.Shelf.Strings.Builder2
import Derived.Shelf.Small.Bits
import Derived.Shelf.Strings.BuilderF
import Derived.Shelf.Strconv.Itoa0
import Derived.Shelf.Sort.Plain
import Derived.Shelf.Strings.Prefix
import Derived.Shelf.Bits.Mul64
import Derived.Shelf.Strings.Repeat
import Derived.Ground.Names2Prog
import Derived.Shelf.Slices.CompactI
import Derived.Shelf.Slices.SearchI
import Derived.Shelf.Slices.Cells
import Derived.Shelf.Slices.In.SortNone
import Derived.Test.YtmepdfingcmkmaaGreatDoorProg
import Derived.Below
import Derived.Test.YtmepdfingcmkmaaGreatDoorQ3
namespace Go.Proofs.YtmepdfingcmkmaaGreatDoor
open Go Y
set_option maxRecDepth 100000
set_option maxHeartbeats 4000000
structure OkD (d:De):Prop where
 kind:d.kind=1∨d.kind=2∨d.kind=3∨d.kind=4∨d.kind=5
 bare:d.kind=1∨d.kind=5→d.name=[]
 name:d.kind=2∨d.kind=3∨d.kind=4→d.name ≠ []
 plate:¬ d.kind=3→d.plate=[]
 refs:∀ r∈d.refs,r.name ≠ []
theorem fstV_find (nm:List UInt8):∀ l:List De,fstV l nm=l.find? fun d=>decide (d.name=nm)
 | []=>rfl
 | d::r=>by
  rw [List.find?_cons,← fstV_find nm r,fstV,fstI]
  by_cases h:d.name=nm
  ·rw [if_pos h,decide_eq_true h];rfl
  ·rw [if_neg h,decide_eq_false h]
   show((fstI r nm).map (·+1)).map _=fstV r nm
   rw [fstV]
   cases fstI r nm <;> rfl
theorem note_nil {k a:Int} {nm:List UInt8}:noteI k a nm=[] ↔ k=0:=by
 unfold noteI
 split
 ·rename_i h;exact⟨fun _=>h,fun _=>rfl⟩
 ·rename_i h;exact⟨fun e=>(by cases e),fun e=>absurd e h⟩
structure Apart (d x:De):Prop where
 plate:x.plate ≠ []→d.name ≠ x.plate
 refs:∀ r∈x.refs,d.name ≠ r.name
mutual
theorem condI_nil {l m:List De} {x:De} (h:∀ op n val r st,testI l x op n val r st=testI m x op n val r st):∀ c:Cd,condI l x c=[]→condI m x c=[]
 | .mk op n _ val r st [],hc=>by
  rw [condI] at hc ⊢
  split
  ·rfl
  ·rename_i h0
   rw [if_neg h0,note_nil,h] at hc
   exact note_nil.2 hc
 | .mk op n _ val r st (a::az),hc=>by
  rw [condI] at hc ⊢
  obtain⟨h1,h2⟩:=List.append_eq_nil_iff.1 hc
  rw [condI_nil h a h1,condIs_nil h az h2];rfl
theorem condIs_nil {l m:List De} {x:De} (h:∀ op n val r st,testI l x op n val r st=testI m x op n val r st):∀ c:List Cd,condIs l x c=[]→condIs m x c=[]
 | [],_=>by rw [condIs]
 | a::az,hc=>by
  rw [condIs] at hc ⊢
  obtain⟨h1,h2⟩:=List.append_eq_nil_iff.1 hc
  rw [condI_nil h a h1,condIs_nil h az h2];rfl
end
theorem eachI_at {g:Int}:∀ (r l:List De),eachI g l r=[]→∀ k,k<r.length→oneI (l++r.take k) (r.getD k de0) g=[]
 | [],_,_,k,hk=>by cases hk
 | x::r,l,h,k,hk=>by
  rw [eachI] at h
  obtain⟨h1,h2⟩:=List.append_eq_nil_iff.1 h
  cases k with
  | zero=>rw [List.take_zero,List.append_nil];exact h1
  | succ k=>
   have:=eachI_at r (l++[x]) h2 k (by simpa using hk)
   rw [List.append_assoc] at this
   exact this
theorem nodesI_app:∀ (a l b:List De),nodesI l (a++b)=nodesI l a+nodesI (l++a) b∧worldsI l (a++b)=worldsI l a * worldsI (l++a) b
 | [],l,b=>by rw [List.append_nil];exact⟨(Nat.zero_add _).symm,(Nat.one_mul _).symm⟩
 | d::a,l,b=>by
  have ih:=nodesI_app a (l++[d]) b
  have e:l++[d]++a=l++d::a:=by rw [List.append_assoc];rfl
  rw [e] at ih
  rw [List.cons_append,nodesI,nodesI,worldsI,worldsI,ih.1,ih.2,Nat.add_assoc,Nat.mul_assoc]
  exact⟨rfl,rfl⟩
theorem cardI_n {l:List De} {d:De} (h:cardI l d=[]):2≤d.n∧d.n≤4:=by
 unfold cardI at h
 split at h
 ·cases h
 ·rename_i hn;omega
theorem oneI_card {l:List De} {d:De} {g:Int} (h:oneI l d g=[]) (hk:d.kind=3∨d.kind=4):2≤d.n∧d.n≤4:=by
 unfold oneI at h
 rcases hk with hk | hk
 ·rw [if_neg (by omega),if_neg (by omega),if_pos hk] at h
  exact cardI_n (List.append_eq_nil_iff.1 (List.append_eq_nil_iff.1 (List.append_eq_nil_iff.1 h).2).2).1
 ·rw [if_neg (by omega),if_neg (by omega),if_neg (by omega),if_pos hk] at h
  exact cardI_n (List.append_eq_nil_iff.1 (List.append_eq_nil_iff.1 h).2).1
theorem oneI_size {l:List De} {d:De} {g:Int} (h:oneI l d g=[]) (hk:d.kind=2):1≤d.n∧d.n≤6:=by
 unfold oneI at h
 rw [if_neg (by omega),if_pos hk] at h
 have h2:=(List.append_eq_nil_iff.1 h).2
 split at h2
 ·cases h2
 ·rename_i hn;omega
theorem oneI_plate {l:List De} {d:De} {g:Int} (h:oneI l d g=[]) (hk:d.kind=3) (hp:¬ d.plate=[]):∃ t,fstV l d.plate=some t∧t.kind=2:=by
 unfold oneI at h
 rw [if_neg (by omega),if_neg (by omega),if_pos hk] at h
 have h2:=(List.append_eq_nil_iff.1 (List.append_eq_nil_iff.1 h).2).1
 unfold plateI at h2
 rw [if_neg hp] at h2
 cases ht:fstV l d.plate with
 | none=>rw [ht] at h2;cases h2
 | some t=>
  rw [ht] at h2
  simp only [] at h2
  split at h2
  ·rename_i hk;exact⟨t,rfl,hk⟩
  ·cases h2
theorem mem_at {α:Type} {l:List α} {x:α} (d:α) (h:x∈l):∃ k,k<l.length∧l.getD k d=x:=by
 obtain⟨k,hk,e⟩:=List.getElem_of_mem h
 exact⟨k,hk,by rw [List.getD_eq_getElem?_getD,List.getElem?_eq_getElem hk];exact e⟩
theorem size_pos {ds:List De} {g:Int} (h:eachI g [] ds=[]) {k:Nat} (hk:k<ds.length) (h3:(ds.getD k de0).kind=3) (hp:¬ (ds.getD k de0).plate=[]):1≤sizeV (ds.take k) (ds.getD k de0).plate∧sizeV (ds.take k) (ds.getD k de0).plate≤6:=by
 have h1:=eachI_at ds [] h k hk
 rw [List.nil_append] at h1
 obtain⟨t,ht,k2⟩:=oneI_plate h1 h3 hp
 obtain⟨j,hj,e⟩:=mem_at de0 (List.mem_of_mem_take (fstV_mem ht).1)
 have h2:=eachI_at ds [] h j hj
 rw [e] at h2
 rw [sizeV,ht]
 simp only [if_pos k2]
 exact oneI_size h2 k2
end Go.Proofs.YtmepdfingcmkmaaGreatDoor
namespace Go.Proofs.YtmepdfingcmkmaaGreatDoor
open Go Y
set_option maxRecDepth 100000
set_option maxHeartbeats 4000000
section
variable (f:List UInt8→List UInt8)
def rnR (r:Rf):Rf:=⟨f r.name,r.mode,f r.plate,r.n⟩
mutual
def rnC:Cd→Cd
 | .mk op n rel val r st ar=>.mk op n rel val (rnR f r) st (rnCs ar)
def rnCs:List Cd→List Cd
 | []=>[]
 | c::r=>rnC c::rnCs r
end
def rnK (c:Cs):Cs:=⟨rnC f c.cond,c.nums⟩
def rnD (d:De):De:=⟨d.kind,d.n,f d.name,f d.plate,d.refs.map (rnR f),d.cases.map (rnK f)⟩
def rnI (i:Iss):Iss:=⟨i.kind,i.decl,f i.name⟩
end
theorem rnCs_map (f:List UInt8→List UInt8):∀ l:List Cd,rnCs f l=l.map (rnC f)
 | []=>rfl
 | c::r=>by rw [rnCs,rnCs_map f r];rfl
structure InjN (f:List UInt8→List UInt8):Prop where
 nil:f []=[]
 inj:∀ a b,f a=f b→a=b
section
variable {f:List UInt8→List UInt8} (hf:InjN f)
include hf
theorem InjN.eq (a b:List UInt8):(f a=f b)=(a=b):=propext ⟨hf.inj a b,fun e=>by rw [e]⟩
theorem InjN.e0 (a:List UInt8):(f a=[])=(a=[]):=propext ⟨fun h=>hf.inj a [] (h.trans hf.nil.symm),fun e=>by rw [e,hf.nil]⟩
theorem rnR_inj (a b:Rf):(rnR f a=rnR f b)=(a=b):=by
 obtain⟨a1,a2,a3,a4⟩:=a
 obtain⟨b1,b2,b3,b4⟩:=b
 simp only [rnR,Rf.mk.injEq,hf.eq]
theorem rn_mem (r:Rf) (l:List Rf):(rnR f r∈l.map (rnR f))=(r∈l):=propext ⟨fun h=>by
 obtain⟨x,hx,e⟩:=List.mem_map.1 h
 rw [rnR_inj hf] at e
 rw [← e];exact hx,fun h=>List.mem_map_of_mem h⟩
theorem fst_rn (nm:List UInt8):∀ l:List De,fstI (l.map (rnD f)) (f nm)=fstI l nm
 | []=>rfl
 | d::r=>by
  rw [List.map_cons,fstI,fstI,fst_rn nm r]
  show(if f d.name=f nm then _ else _)=_
  simp only [hf.eq]
theorem rnD_0:rnD f de0=de0:=by
 show(⟨0,0,f [],f [],[],[]⟩:De)=_
 rw [hf.nil];rfl
omit hf in
theorem getD_mapG {α β:Type} (g:α→β) (l:List α) (i:Nat) (d:α):(l.map g).getD i (g d)=g (l.getD i d):=by
 rw [List.getD_eq_getElem?_getD,List.getD_eq_getElem?_getD,List.getElem?_map]
 cases l[i]? <;> rfl
theorem fstV_rn (nm:List UInt8) (l:List De):fstV (l.map (rnD f)) (f nm)=(fstV l nm).map (rnD f):=by
 rw [fstV,fstV,fst_rn hf]
 cases fstI l nm with
 | none=>rfl
 | some i=>
  show some _=some _
  rw [← getD_mapG (rnD f) l i de0,rnD_0 hf]
theorem sizeV_rn (nm:List UInt8) (l:List De):sizeV (l.map (rnD f)) (f nm)=sizeV l nm:=by
 rw [sizeV,sizeV,fstV_rn hf]
 cases fstV l nm <;> rfl
theorem ownB_rn (d:De) (r:Rf):ownB (rnD f d) (rnR f r)=ownB d r:=by
 unfold ownB
 show(decide (d.kind=3) && (decide (¬ f d.plate=[]) && (decide (f r.name=f d.name) && (decide (r.mode=1) && (decide (f r.plate=f d.plate) && decide (1≤r.n))))))=_
 rw [Bool.eq_iff_iff]
 simp only [Bool.and_eq_true,decide_eq_true_eq,hf.eq,hf.e0]
theorem placeI_rn (l:List De) (d t:De) (r:Rf):placeI (l.map (rnD f)) (rnD f d) (rnD f t) (rnR f r)=placeI l d t r:=by
 simp only [placeI]
 show(if t.kind=2 then _ else if f t.plate=[] then decide (¬ r.mode=0) else if r.mode=0 then true else if r.mode=2 then decide (sizeV (l.map (rnD f)) (f t.plate)≤r.n) else if r.mode=1 then decide (¬ (d.kind=3∧f d.plate=f t.plate∧f r.plate=f t.plate)) else false)=_
 rw [sizeV_rn hf]
 simp only [hf.eq,hf.e0]
theorem refI_rn (l:List De) (d:De) (r:Rf):refI (l.map (rnD f)) (rnD f d) (rnR f r)=refI l d r:=by
 rw [refI,refI,ownB_rn hf,show(rnR f r).name=f r.name from rfl,fstV_rn hf]
 cases fstV l r.name with
 | none=>rfl
 | some t=>
  show(if placeI (l.map (rnD f)) (rnD f d) (rnD f t) (rnR f r) then(4:Int) else 0)=_
  rw [placeI_rn hf]
theorem valI_rn (l:List De) (d:De) (r:Rf):valI (l.map (rnD f)) (rnD f d) (rnR f r)=valI l d r:=by
 rw [valI,valI,ownB_rn hf,show(rnR f r).name=f r.name from rfl,fstV_rn hf]
 cases fstV l r.name <;> rfl
theorem testI_rn (l:List De) (d:De) (op n val:Int) (r:Rf) (st:List Int):testI (l.map (rnD f)) (rnD f d) op n val (rnR f r) st=testI l d op n val r st:=by
 rw [testI,testI,valI_rn hf]
 show(if rnR f r ∉ d.refs.map (rnR f) then(7:Int) else if r.mode=3∧¬ op=6 then 4 else _)=_
 simp only [rn_mem hf]
omit hf in
theorem note_rn (k a:Int) (nm:List UInt8):(noteI k a nm).map (rnI f)=noteI k a (f nm):=by
 unfold noteI
 split <;> rfl
end
mutual
theorem condI_rn {f:List UInt8→List UInt8} (hf:InjN f) (l:List De) (d:De):∀ c:Cd,condI (l.map (rnD f)) (rnD f d) (rnC f c)=(condI l d c).map (rnI f)
 | .mk op n rel val r st []=>by
  rw [rnC,rnCs,condI,condI,testI_rn hf,List.length_map]
  split
  ·rfl
  ·rw [note_rn];rfl
 | .mk op n rel val r st (a::az)=>by
  rw [rnC,rnCs,condI,condI,List.map_append,condI_rn hf l d a,condIs_rn hf l d az]
theorem condIs_rn {f:List UInt8→List UInt8} (hf:InjN f) (l:List De) (d:De):∀ c:List Cd,condIs (l.map (rnD f)) (rnD f d) (rnCs f c)=(condIs l d c).map (rnI f)
 | []=>rfl
 | a::az=>by rw [rnCs,condIs,condIs,List.map_append,condI_rn hf l d a,condIs_rn hf l d az]
end
section
variable {f:List UInt8→List UInt8} (hf:InjN f)
include hf
omit hf in
theorem rowI_rn (d:De) (nums:List Int) (g:Int):rowI (rnD f d) nums g=rowI d nums g:=rfl
theorem casesI_rn (l:List De) (d:De) (g:Int):∀ cs:List Cs,casesI (l.map (rnD f)) (rnD f d) g (cs.map (rnK f))=(casesI l d g cs).map (rnI f)
 | []=>rfl
 | c::cs=>by
  have ih:=casesI_rn l d g cs
  unfold casesI at ih ⊢
  rw [List.map_cons,List.flatMap_cons,List.flatMap_cons,List.map_append,ih,List.map_append,rowI_rn,List.length_map]
  show(condI (l.map (rnD f)) (rnD f d) (rnC f c.cond)++if rowI d c.nums g=true then [] else [⟨9,_,[]⟩])++_=_
  rw [condI_rn hf]
  congr 2
  split
  ·rfl
  ·show _=[(⟨9,_,f []⟩:Iss)]
   rw [hf.nil]
theorem refsI_rn (l:List De) (d:De):∀ rs done:List Rf,refsI (l.map (rnD f)) (rnD f d) (done.map (rnR f)) (rs.map (rnR f))=(refsI l d done rs).map (rnI f)
 | [],done=>rfl
 | r::rs,done=>by
  have ih:=refsI_rn l d rs (done++[r])
  rw [List.map_append] at ih
  rw [List.map_cons,refsI,refsI,List.map_append,List.map_append,note_rn,refI_rn hf,List.length_map]
  rw [show done.map (rnR f)++[rnR f r]=done.map (rnR f)++[r].map (rnR f) from rfl,ih]
  simp only [rn_mem hf]
  congr 1
  split <;> rfl
theorem twiceI_rn (l:List De) (d:De):twiceI (l.map (rnD f)) (rnD f d)=(twiceI l d).map (rnI f):=by
 rw [twiceI,twiceI,show(rnD f d).name=f d.name from rfl,fst_rn hf,List.length_map]
 split <;> rfl
omit hf in
theorem cardI_rn (l:List De) (d:De):cardI (l.map (rnD f)) (rnD f d)=(cardI l d).map (rnI f):=by
 rw [cardI,cardI,List.length_map]
 show(if d.n<2∨4<d.n then _ else _)=_
 split <;> rfl
theorem plateI_rn (l:List De) (d:De):plateI (l.map (rnD f)) (rnD f d)=(plateI l d).map (rnI f):=by
 rw [plateI,plateI,show(rnD f d).plate=f d.plate from rfl,fstV_rn hf,List.length_map]
 simp only [hf.e0]
 by_cases h:d.plate=[]
 ·rw [if_pos h,if_pos h];rfl
 ·rw [if_neg h,if_neg h]
  cases fstV l d.plate with
  | none=>rfl
  | some t=>
   show(if t.kind=2 then _ else _)=_
   simp only []
   split <;> rfl
theorem oneI_rn (l:List De) (d:De) (g:Int):oneI (l.map (rnD f)) (rnD f d) g=(oneI l d g).map (rnI f):=by
 have hR:=refsI_rn hf l d d.refs []
 have hC:=casesI_rn hf l d g d.cases
 rw [oneI,oneI,twiceI_rn hf,cardI_rn,plateI_rn hf,List.length_map]
 show(if d.kind=1 then _ else if d.kind=2 then _ else if d.kind=3 then _++(_++(_++(refsI (l.map (rnD f)) (rnD f d) ([].map (rnR f)) (d.refs.map (rnR f))++casesI (l.map (rnD f)) (rnD f d) g (d.cases.map (rnK f))))) else if d.kind=4 then _++(_++refsI (l.map (rnD f)) (rnD f d) ([].map (rnR f)) (d.refs.map (rnR f))) else refsI (l.map (rnD f)) (rnD f d) ([].map (rnR f)) (d.refs.map (rnR f))++casesI (l.map (rnD f)) (rnD f d) g (d.cases.map (rnK f)))=_
 rw [hR,hC]
 split
 ·show(if l.length > 0∨d.n<1∨60<d.n then _ else _)=_
  split
  ·show _=[(⟨1,_,f []⟩:Iss)]
   rw [hf.nil]
  ·rfl
 split
 ·rw [List.map_append]
  congr 1
  show(if d.n<1∨6<d.n then _ else _)=_
  split <;> rfl
 split
 ·simp only [List.map_append]
 split
 ·simp only [List.map_append]
 ·simp only [List.map_append]
omit hf in
theorem grainI_rn (ds:List De):grainI (ds.map (rnD f))=grainI ds:=by cases ds <;> rfl
theorem headI_rn (ds:List De):headI (ds.map (rnD f))=(headI ds).map (rnI f):=by
 cases ds with
 | nil=>
  show _=[(⟨1,0,f []⟩:Iss)]
  rw [hf.nil];rfl
 | cons d r=>
  show(if d.kind=1 then [] else [⟨1,0,[]⟩])=(if d.kind=1 then [] else [⟨1,0,[]⟩]:List Iss).map (rnI f)
  split
  ·rfl
  ·show _=[(⟨1,0,f []⟩:Iss)]
   rw [hf.nil]
theorem eachI_rn (g:Int):∀ (r l:List De),eachI g (l.map (rnD f)) (r.map (rnD f))=(eachI g l r).map (rnI f)
 | [],l=>rfl
 | d::r,l=>by
  have ih:=eachI_rn g r (l++[d])
  rw [List.map_append] at ih
  rw [List.map_cons,eachI,eachI,List.map_append,oneI_rn hf,show l.map (rnD f)++[rnD f d]=l.map (rnD f)++[d].map (rnD f) from rfl,ih]
theorem memI_rn (l:List De) (d:De):memI (l.map (rnD f)) (rnD f d)=memI l d:=by
 rw [memI,memI,show(rnD f d).plate=f d.plate from rfl,sizeV_rn hf]
 simp only [hf.e0]
 rfl
theorem nodesI_rn:∀ (r l:List De),nodesI (l.map (rnD f)) (r.map (rnD f))=nodesI l r∧worldsI (l.map (rnD f)) (r.map (rnD f))=worldsI l r
 | [],l=>⟨rfl,rfl⟩
 | d::r,l=>by
  have ih:=nodesI_rn r (l++[d])
  rw [List.map_append] at ih
  rw [List.map_cons,nodesI,nodesI,worldsI,worldsI,memI_rn hf,show l.map (rnD f)++[rnD f d]=l.map (rnD f)++[d].map (rnD f) from rfl,ih.1,ih.2]
  exact⟨rfl,rfl⟩
omit hf in
theorem gainsI_rn (ds:List De):gainsI (ds.map (rnD f))=gainsI ds:=by
 rw [gainsI,gainsI,List.filter_map,List.length_map];rfl
theorem bigI_rn (ds:List De):bigI (ds.map (rnD f))=bigI ds:=by
 have h:=nodesI_rn hf ds []
 rw [bigI,bigI,gainsI_rn]
 rw [show nodesI [] (ds.map (rnD f))=nodesI [] ds from h.1,show worldsI [] (ds.map (rnD f))=worldsI [] ds from h.2]
theorem baseI_rn (ds:List De):baseI (ds.map (rnD f))=(baseI ds).map (rnI f):=by
 rw [baseI,baseI,List.map_append,headI_rn hf,grainI_rn]
 congr 1
 exact eachI_rn hf _ ds []
theorem allI_rn (ds:List De):allI (ds.map (rnD f))=(allI ds).map (rnI f):=by
 rw [allI,allI,baseI_rn hf,bigI_rn hf,List.length_map]
 by_cases h:baseI ds=[]
 ·rw [if_pos h,if_pos (by rw [h];rfl)]
  split
  ·show _=[(⟨10,_,f []⟩:Iss)]
   rw [hf.nil]
  ·rfl
 ·rw [if_neg h,if_neg (fun e=>h (List.map_eq_nil_iff.1 e))]
end
end Go.Proofs.YtmepdfingcmkmaaGreatDoor
namespace Go.Proofs.YtmepdfingcmkmaaGreatDoor
open Go Y
set_option maxRecDepth 100000
set_option maxHeartbeats 4000000
def gen (i:Nat):List UInt8:=if i=0 then [] else if i<9 then 110::List.replicate (i % 9) 111 else 109::List.replicate (i % 9) 111
def idxL:List (List UInt8)→List UInt8→Option Nat
 | [],_=>none
 | y::r,x=>if y=x then some 0 else(idxL r x).map (·+1)
def nwF (L:List (List UInt8)) (x:List UInt8):List UInt8:=match idxL L x with
 | some i=>gen i
 | none=>122::x
def addL (L:List (List UInt8)) (x:List UInt8):List (List UInt8):=if (idxL L x).isSome=true then L else L++[x]
def esG:Nat→List (List UInt8)→List (List UInt8 × PV)
 | _,[]=>[]
 | i,y::r=>(y, .str (gen i))::esG (i+1) r
def esL (L:List (List UInt8)):List (List UInt8 × PV):=esG 0 L
theorem idx_some:∀ {L:List (List UInt8)} {x:List UInt8} {i:Nat},idxL L x=some i→i<L.length∧L.getD i []=x
 | [],_,_,h=>by cases h
 | y::r,x,i,h=>by
  rw [idxL] at h
  split at h
  ·rename_i e
   injection h with h
   subst h
   exact⟨by show 0<r.length+1;omega,e⟩
  ·cases hr:idxL r x with
   | none=>rw [hr] at h;cases h
   | some j=>
    rw [hr] at h
    have h:j+1=i:=Option.some.inj h
    subst h
    obtain⟨h1,h2⟩:=idx_some hr
    exact⟨by show j+1<r.length+1;omega,h2⟩
theorem idx_none:∀ {L:List (List UInt8)} {x:List UInt8},idxL L x=none ↔ x ∉ L
 | [],x=>⟨fun _ h=>(by cases h),fun _=>rfl⟩
 | y::r,x=>by
  rw [idxL,List.mem_cons]
  by_cases e:y=x
  ·rw [if_pos e]
   exact⟨fun h=>(by cases h),fun h=>absurd (Or.inl e.symm) h⟩
  ·rw [if_neg e]
   have ih:=idx_none (L:=r) (x:=x)
   constructor
   ·intro h hm
    rcases hm with h1 | h1
    ·exact e h1.symm
    ·have:idxL r x=none:=by
      cases hr:idxL r x with
      | none=>rfl
      | some j=>rw [hr] at h;cases h
     exact ih.1 this h1
   ·intro h
    rw [ih.2 fun hm=>h (.inr hm)];rfl
theorem idx_mem {L:List (List UInt8)} {x:List UInt8} (h:x∈L):∃ i,idxL L x=some i:=by
 cases hr:idxL L x with
 | none=>exact absurd h (idx_none.1 hr)
 | some i=>exact⟨i,rfl⟩
theorem idx_app {M:List (List UInt8)}:∀ {L:List (List UInt8)} {x:List UInt8} {i:Nat},idxL L x=some i→idxL (L++M) x=some i
 | [],_,_,h=>by cases h
 | y::r,x,i,h=>by
  rw [List.cons_append,idxL]
  rw [idxL] at h
  split at h
  ·rename_i e
   rw [if_pos e];exact h
  ·rename_i e
   rw [if_neg e]
   cases hr:idxL r x with
   | none=>rw [hr] at h;cases h
   | some j=>
    rw [hr] at h
    rw [idx_app hr];exact h
theorem idx_snoc {x:List UInt8}:∀ {L:List (List UInt8)},idxL L x=none→idxL (L++[x]) x=some L.length
 | [],_=>by rw [List.nil_append,idxL,if_pos rfl];rfl
 | y::r,h=>by
  rw [idxL] at h
  split at h
  ·cases h
  ·rename_i e
   have:idxL r x=none:=by
    cases hr:idxL r x with
    | none=>rfl
    | some j=>rw [hr] at h;cases h
   rw [List.cons_append,idxL,if_neg e,idx_snoc this];rfl
theorem find_esG (x:List UInt8):∀ (L:List (List UInt8)) (i:Nat),findM (esG i L) x=(idxL L x).map fun j=>.str (gen (i+j))
 | [],_=>rfl
 | y::r,i=>by
  rw [esG,findM,idxL,find_esG x r (i+1)]
  by_cases e:y=x
  ·rw [if_pos e,decide_eq_true e.symm];rfl
  ·rw [if_neg e,decide_eq_false (fun h=>e h.symm),Option.map_map]
   show Option.map _ _=_
   congr 1
   funext j
   show PV.str (gen (i+1+j))=PV.str (gen (i+(j+1)))
   rw [Nat.add_assoc,Nat.add_comm 1 j]
theorem find_es (L:List (List UInt8)) (x:List UInt8):findM (esL L) x=(idxL L x).map fun j=>.str (gen j):=by
 rw [esL,find_esG]
 congr 1
 funext j
 rw [Nat.zero_add]
theorem es_len:∀ (L:List (List UInt8)) (i:Nat),(esG i L).length=L.length
 | [],_=>rfl
 | _::r,i=>by rw [esG,List.length_cons,List.length_cons,es_len r]
theorem esG_snoc (x:List UInt8):∀ (L:List (List UInt8)) (i:Nat),esG i (L++[x])=esG i L++[(x, .str (gen (i+L.length)))]
 | [],i=>by rw [List.nil_append,esG,esG,esG];rfl
 | y::r,i=>by
  rw [List.cons_append,esG,esG,esG_snoc x r,List.cons_append,List.length_cons,Nat.add_assoc,Nat.add_comm 1 r.length]
theorem put_es {L:List (List UInt8)} {x:List UInt8} (h:idxL L x=none):putM (esL L) x (.str (gen L.length))=esL (L++[x]):=by
 rw [putM_new (by rw [find_es,h];rfl),esL,esL,esG_snoc,Nat.zero_add]
theorem addL_app (L:List (List UInt8)) (x:List UInt8):∃ M,addL L x=L++M:=by
 unfold addL
 split
 ·exact⟨[],(List.append_nil L).symm⟩
 ·exact⟨[x],rfl⟩
theorem addL_mem (L:List (List UInt8)) (x:List UInt8):x∈addL L x:=by
 unfold addL
 split
 ·rename_i h
  cases hr:idxL L x with
  | none=>rw [hr] at h;cases h
  | some i=>exact Classical.byContradiction fun hc=>by rw [idx_none.2 hc] at hr;cases hr
 ·exact List.mem_append_right _ (List.mem_singleton.2 rfl)
theorem nwF_app {L M:List (List UInt8)} {x:List UInt8} (h:x∈L):nwF (L++M) x=nwF L x:=by
 obtain⟨i,hi⟩:=idx_mem h
 rw [nwF,nwF,hi,idx_app hi]
theorem gen_inj:∀ i,i<18→∀ j,j<18→gen i=gen j→i=j:=by decide +kernel
theorem gen_head:∀ i,i<18→(gen i).headD 0 ≠ 122:=by decide +kernel
theorem gen_name:∀ i,i<18→i ≠ 0→nameN (gen i)=true:=by decide +kernel
structure OkL (L:List (List UInt8)):Prop where
 nil:idxL L []=some 0
 len:L.length≤18
theorem OkL.inj {L:List (List UInt8)} (h:OkL L):InjN (nwF L):=by
 refine⟨by rw [nwF,h.nil];rfl,fun a b e=>?_⟩
 rw [nwF,nwF] at e
 have hl:=h.len
 cases ha:idxL L a with
 | none=>
  rw [ha] at e
  cases hb:idxL L b with
  | none=>rw [hb] at e;exact(List.cons.inj e).2
  | some j=>
   rw [hb] at e
   have:=idx_some hb
   have h2:=gen_head j (by omega)
   rw [← show(122::a:List UInt8)=gen j from e] at h2
   exact absurd rfl h2
 | some i=>
  rw [ha] at e
  have h1:=idx_some ha
  cases hb:idxL L b with
  | none=>
   rw [hb] at e
   have h2:=gen_head i (by omega)
   rw [show gen i=(122::b:List UInt8) from e] at h2
   exact absurd rfl h2
  | some j=>
   rw [hb] at e
   have h2:=idx_some hb
   have h3:=gen_inj i (by omega) j (by omega) e
   rw [← h1.2,← h2.2,h3]
theorem OkL.name {L:List (List UInt8)} (h:OkL L) {x:List UInt8} (hx:x∈L) (hn:nameN x=true):nameN (nwF L x)=true:=by
 obtain⟨i,hi⟩:=idx_mem hx
 have h1:=idx_some hi
 have hl:=h.len
 rw [nwF,hi]
 refine gen_name i (by omega) fun e=>?_
 subst e
 have h2:=(idx_some h.nil).2
 rw [h1.2] at h2
 rw [h2] at hn
 cases hn
def refIn (L:List (List UInt8)) (r:Rf):Prop:=r.name∈L∧r.plate∈L
mutual
def condIn (L:List (List UInt8)):Cd→Prop
 | .mk _ _ _ _ r _ ar=>refIn L r∧condIns L ar
def condIns (L:List (List UInt8)):List Cd→Prop
 | []=>True
 | c::r=>condIn L c∧condIns L r
end
structure declIn (L:List (List UInt8)) (d:De):Prop where
 name:d.name∈L
 plate:d.plate∈L
 refs:∀ r∈d.refs,refIn L r
 cases:∀ c∈d.cases,condIn L c.cond
theorem condIns_mem {L:List (List UInt8)}:∀ {l:List Cd} {c:Cd},condIns L l→c∈l→condIn L c
 | [],_,_,h=>by cases h
 | x::l,c,h,hc=>by
  rw [condIns] at h
  rcases List.mem_cons.1 hc with rfl | hc
  ·exact h.1
  ·exact condIns_mem h.2 hc
section
variable {L:List (List UInt8)} {f:List UInt8→List UInt8}
structure GoodF (L:List (List UInt8)) (f:List UInt8→List UInt8):Prop where
 name:∀ x∈L,nameN x=true→nameN (f x)=true
 nil:f []=[]
theorem OkL.good {L:List (List UInt8)} (h:OkL L):GoodF L (nwF L):=⟨fun _ hx hn=>h.name hx hn,h.inj.nil⟩
theorem refB_rn (hf:GoodF L f) {r:Rf} (hr:refIn L r) (h:refB r=true):refB (rnR f r)=true:=by
 simp only [refB,Bool.and_eq_true] at h ⊢
 refine⟨hf.name _ hr.1 h.1,?_⟩
 have h:=h.2
 show(if r.mode=0∨r.mode=3 then decide (f r.plate=[]) && decide (r.n=0) else if r.mode=1 then nameN (f r.plate) && natB r.n else if r.mode=2 then decide (f r.plate=[]) && natB r.n else false)=true
 split at h
 ·rename_i e
  rw [if_pos e]
  simp only [Bool.and_eq_true,decide_eq_true_eq] at h ⊢
  exact⟨by rw [h.1,hf.nil],h.2⟩
 ·rename_i e
  rw [if_neg e]
  split at h
  ·rename_i e2
   rw [if_pos e2]
   simp only [Bool.and_eq_true] at h ⊢
   exact⟨hf.name _ hr.2 h.1,h.2⟩
  ·rename_i e2
   rw [if_neg e2]
   split at h
   ·rename_i e3
    rw [if_pos e3]
    simp only [Bool.and_eq_true,decide_eq_true_eq] at h ⊢
    exact⟨by rw [h.1,hf.nil],h.2⟩
   ·cases h
theorem rnR_0 (hf:GoodF L f):rnR f rf0=rf0:=by
 show(⟨f [],0,f [],0⟩:Rf)=_
 rw [hf.nil];rfl
theorem plainB_rn (hf:GoodF L f) {n rel val:Int} {r:Rf} {st:List Int} (h:plainB n rel val r st=true):plainB n rel val (rnR f r) st=true:=by
 simp only [plainB,Bool.and_eq_true,decide_eq_true_eq] at h ⊢
 exact⟨⟨h.1.1,by rw [h.1.2,rnR_0 hf]⟩,h.2⟩
theorem leafB_rn (hf:GoodF L f) {op n rel val:Int} {r:Rf} {st:List Int} (hr:refIn L r) (h:leafB op n rel val r st=true):leafB op n rel val (rnR f r) st=true:=by
 unfold leafB at h ⊢
 split at h
 ·rename_i e
  rw [if_pos e]
  simp only [Bool.and_eq_true] at h ⊢
  exact⟨⟨⟨⟨refB_rn hf hr h.1.1.1.1,h.1.1.1.2⟩,h.1.1.2⟩,h.1.2⟩,h.2⟩
 ·rename_i e
  rw [if_neg e]
  split at h
  ·rename_i e2
   rw [if_pos e2]
   simp only [Bool.and_eq_true] at h ⊢
   exact⟨⟨⟨⟨refB_rn hf hr h.1.1.1.1,h.1.1.1.2⟩,h.1.1.2⟩,h.1.2⟩,h.2⟩
  ·rename_i e2
   rw [if_neg e2]
   split at h
   ·rename_i e3
    rw [if_pos e3]
    simp only [Bool.and_eq_true] at h ⊢
    exact⟨⟨⟨⟨⟨⟨refB_rn hf hr h.1.1.1.1.1.1,h.1.1.1.1.1.2⟩,h.1.1.1.1.2⟩,h.1.1.1.2⟩,h.1.1.2⟩,h.1.2⟩,h.2⟩
   ·cases h
theorem headB_rn (hf:GoodF L f) {op n rel val:Int} {r:Rf} {st:List Int} {k:Nat} (hr:refIn L r) (h:headB op n rel val r st k=true):headB op n rel val (rnR f r) st k=true:=by
 unfold headB at h ⊢
 split at h
 ·rename_i e
  rw [if_pos e]
  simp only [Bool.and_eq_true] at h ⊢
  exact⟨leafB_rn hf hr h.1,h.2⟩
 ·rename_i e
  rw [if_neg e]
  simp only [Bool.and_eq_true] at h ⊢
  exact⟨h.1,plainB_rn hf h.2⟩
theorem fold_rn {d:Nat} (ih:∀ c left k,condIn L c→condV d c left=some k→condV d (rnC f c) left=some k):∀ (ar:List Cd) (left k:Nat),condIns L ar→ar.foldlM (fun l c=>condV d c l) left=some k→(ar.map (rnC f)).foldlM (fun l c=>condV d c l) left=some k
 | [],left,k,_,h=>h
 | c::ar,left,k,hi,h=>by
  rw [condIns] at hi
  rw [List.foldlM_cons] at h
  rw [List.map_cons,List.foldlM_cons]
  cases hc:condV d c left with
  | none=>rw [hc] at h;cases h
  | some m=>
   rw [hc] at h
   rw [ih c left m hi.1 hc]
   exact fold_rn ih ar m k hi.2 h
theorem condV_rn (hf:GoodF L f):∀ (d:Nat) (c:Cd) (left k:Nat),condIn L c→condV d c left=some k→condV d (rnC f c) left=some k
 | 0,_,_,_,_,h=>by cases h
 | d+1, .mk op n rel val r st ar,left,k,hi,h=>by
  rw [condIn] at hi
  rw [condV] at h
  rw [rnC,condV,rnCs_map,List.length_map]
  split at h
  ·cases h
  ·rename_i e
   rw [if_neg e]
   split at h
   ·rename_i e2
    rw [if_pos (headB_rn hf hi.1 e2)]
    exact fold_rn (fun c l k=>condV_rn hf d c l k) ar _ k hi.2 h
   ·cases h
theorem noneB_rn (hf:GoodF L f) {c:Cd} (h:noneB c=true):noneB (rnC f c)=true:=by
 obtain⟨op,n,rel,val,r,st,ar⟩:=c
 rw [rnC]
 simp only [noneB,Bool.and_eq_true,decide_eq_true_eq] at h ⊢
 exact⟨⟨h.1.1,plainB_rn hf h.1.2⟩,by rw [rnCs_map,List.length_map];exact h.2⟩
theorem casesT_rn (hf:GoodF L f):∀ {l:List Cs},(∀ c∈l,condIn L c.cond)→casesT l=true→casesT (l.map (rnK f))=true
 | [],_,_=>rfl
 | [c],_,h=>by
  simp only [casesT,Bool.and_eq_true] at h
  show casesT [rnK f c]=true
  simp only [casesT,Bool.and_eq_true]
  exact⟨h.1,noneB_rn hf h.2⟩
 | c::e::r,hi,h=>by
  simp only [casesT,Bool.and_eq_true] at h
  have ih:=casesT_rn hf (l:=e::r) (fun x hx=>hi x (List.mem_cons_of_mem _ hx)) h.2
  show casesT (rnK f c::rnK f e::r.map (rnK f))=true
  simp only [casesT,Bool.and_eq_true]
  refine⟨⟨h.1.1,?_⟩,ih⟩
  cases hc:condV 8 c.cond 30 with
  | none=>rw [hc] at h;cases h.1.2
  | some k=>
   show(condV 8 (rnC f c.cond) 30).isSome=true
   rw [condV_rn hf 8 c.cond 30 k (hi c (List.mem_cons_self ..)) hc];rfl
theorem casesB_rn (hf:GoodF L f) {l:List Cs} (hi:∀ c∈l,condIn L c.cond) (h:casesB l=true):casesB (l.map (rnK f))=true:=by
 simp only [casesB,Bool.and_eq_true,List.length_map] at h ⊢
 exact⟨h.1,casesT_rn hf hi h.2⟩
theorem declB_rn (hf:GoodF L f) {d:De} (hi:declIn L d) (h:declB d=true):declB (rnD f d)=true:=by
 simp only [declB,Bool.and_eq_true] at h ⊢
 refine⟨⟨⟨h.1.1.1,by show decide ((d.refs.map (rnR f)).length≤8)=true;rw [List.length_map];exact h.1.1.2⟩,?_⟩,?_⟩
 ·refine List.all_eq_true.2 fun x hx=>?_
  obtain⟨r,hr,rfl⟩:=List.mem_map.1 hx
  exact refB_rn hf (hi.refs r hr) (List.all_eq_true.1 h.1.2 r hr)
 ·have h:=h.2
  have hk:(rnD f d).kind=d.kind:=rfl
  have hp:d.plate=[]→(rnD f d).plate=[]:=fun e=>by show f d.plate=[];rw [e,hf.nil]
  have hn:d.name=[]→(rnD f d).name=[]:=fun e=>by show f d.name=[];rw [e,hf.nil]
  have hr:d.refs.length=0→(rnD f d).refs.length=0:=fun e=>by show(d.refs.map (rnR f)).length=0;rw [List.length_map];exact e
  have hc:d.cases.length=0→(rnD f d).cases.length=0:=fun e=>by show(d.cases.map (rnK f)).length=0;rw [List.length_map];exact e
  have hnm:nameN d.name=true→nameN (rnD f d).name=true:=fun e=>hf.name _ hi.name e
  have hpl:nameN d.plate=true→nameN (rnD f d).plate=true:=fun e=>hf.name _ hi.plate e
  have hcs:casesB d.cases=true→casesB (rnD f d).cases=true:=fun e=>casesB_rn hf hi.cases e
  unfold kindB at h ⊢
  rw [hk]
  split at h
  ·rename_i e
   rw [if_pos e]
   simp only [Bool.and_eq_true,decide_eq_true_eq] at h ⊢
   exact⟨⟨⟨hn h.1.1.1,hp h.1.1.2⟩,hr h.1.2⟩,hc h.2⟩
  rename_i e
  rw [if_neg e]
  split at h
  ·rename_i e
   rw [if_pos e]
   simp only [Bool.and_eq_true,decide_eq_true_eq] at h ⊢
   exact⟨⟨⟨hnm h.1.1.1,hp h.1.1.2⟩,hr h.1.2⟩,hc h.2⟩
  rename_i e
  rw [if_neg e]
  split at h
  ·rename_i e
   rw [if_pos e]
   simp only [Bool.and_eq_true,Bool.or_eq_true,decide_eq_true_eq] at h ⊢
   exact⟨⟨hnm h.1.1,h.1.2.imp hp hpl⟩,hcs h.2⟩
  rename_i e
  rw [if_neg e]
  split at h
  ·rename_i e
   rw [if_pos e]
   simp only [Bool.and_eq_true,decide_eq_true_eq] at h ⊢
   exact⟨⟨hnm h.1.1,hp h.1.2⟩,hc h.2⟩
  rename_i e
  rw [if_neg e]
  split at h
  ·rename_i e
   rw [if_pos e]
   simp only [Bool.and_eq_true,decide_eq_true_eq] at h ⊢
   exact⟨⟨⟨h.1.1.1,hn h.1.1.2⟩,hp h.1.2⟩,hcs h.2⟩
  ·cases h
theorem validB_rn (hf:GoodF L f) {ds:List De} (hi:∀ d∈ds,declIn L d) (h:validB ds=true):validB (ds.map (rnD f))=true:=by
 simp only [validB,Bool.and_eq_true,List.length_map] at h ⊢
 refine⟨h.1,List.all_eq_true.2 fun x hx=>?_⟩
 obtain⟨d,hd,rfl⟩:=List.mem_map.1 hx
 exact declB_rn hf (hi d hd) (List.all_eq_true.1 h.2 d hd)
end
end Go.Proofs.YtmepdfingcmkmaaGreatDoor
namespace Go.Proofs.YtmepdfingcmkmaaGreatDoor
open Go Y
set_option maxRecDepth 100000
set_option maxHeartbeats 4000000
def addR (L:List (List UInt8)) (r:Rf):List (List UInt8):=addL (addL L r.name) r.plate
mutual
def addC:List (List UInt8)→Cd→List (List UInt8)
 | L, .mk _ _ _ _ r _ ar=>addCs (if r.name=[] then L else addR L r) ar
def addCs:List (List UInt8)→List Cd→List (List UInt8)
 | L,[]=>L
 | L,c::r=>addCs (addC L c) r
end
def addRs (L:List (List UInt8)) (l:List Rf):List (List UInt8):=l.foldl addR L
def addKs (L:List (List UInt8)) (l:List Cs):List (List UInt8):=l.foldl (fun L c=>addC L c.cond) L
def addD (L:List (List UInt8)) (d:De):List (List UInt8):=addKs (addRs (addL (addL L d.name) d.plate) d.refs) d.cases
def addDs (L:List (List UInt8)) (l:List De):List (List UInt8):=l.foldl addD L
theorem app_trans {L A B:List (List UInt8)} (h:∃ M,A=L++M) (k:∃ M,B=A++M):∃ M,B=L++M:=by
 obtain⟨M,rfl⟩:=h
 obtain⟨N,rfl⟩:=k
 exact⟨M++N,by rw [List.append_assoc]⟩
theorem addR_app (L:List (List UInt8)) (r:Rf):∃ M,addR L r=L++M:=app_trans (addL_app L r.name) (addL_app _ r.plate)
mutual
theorem addC_app:∀ (L:List (List UInt8)) (c:Cd),∃ M,addC L c=L++M
 | L, .mk _ _ _ _ r _ ar=>by
  rw [addC]
  refine app_trans (A:=if r.name=[] then L else addR L r) ?_ (addCs_app _ ar)
  split
  ·exact⟨[],(List.append_nil L).symm⟩
  ·exact addR_app L r
theorem addCs_app:∀ (L:List (List UInt8)) (l:List Cd),∃ M,addCs L l=L++M
 | L,[]=>⟨[],by rw [addCs,List.append_nil]⟩
 | L,c::r=>by
  rw [addCs]
  exact app_trans (addC_app L c) (addCs_app _ r)
end
theorem fold_app {α:Type} {f:List (List UInt8)→α→List (List UInt8)} (hf:∀ L x,∃ M,f L x=L++M):∀ (l:List α) (L:List (List UInt8)),∃ M,l.foldl f L=L++M
 | [],L=>⟨[],by rw [List.foldl_nil,List.append_nil]⟩
 | x::l,L=>by
  rw [List.foldl_cons]
  exact app_trans (hf L x) (fold_app hf l _)
theorem addRs_app (L:List (List UInt8)) (l:List Rf):∃ M,addRs L l=L++M:=fold_app addR_app l L
theorem addKs_app (L:List (List UInt8)) (l:List Cs):∃ M,addKs L l=L++M:=fold_app (f:=fun L (c:Cs)=>addC L c.cond) (fun L c=>addC_app L c.cond) l L
theorem addD_app (L:List (List UInt8)) (d:De):∃ M,addD L d=L++M:=app_trans (app_trans (app_trans (addL_app L d.name) (addL_app _ d.plate)) (addRs_app _ d.refs)) (addKs_app _ d.cases)
theorem addDs_app (L:List (List UInt8)) (l:List De):∃ M,addDs L l=L++M:=fold_app addD_app l L
theorem addCs_snoc:∀ (l:List Cd) (L:List (List UInt8)) (c:Cd),addCs L (l++[c])=addC (addCs L l) c
 | [],L,c=>by rw [List.nil_append,addCs,addCs,addCs]
 | x::l,L,c=>by rw [List.cons_append,addCs,addCs,addCs_snoc l]
section
variable {L M:List (List UInt8)}
theorem refIn_app {r:Rf} (h:refIn L r):refIn (L++M) r:=⟨List.mem_append_left _ h.1,List.mem_append_left _ h.2⟩
mutual
theorem condIn_app {L M:List (List UInt8)}:∀ {c:Cd},condIn L c→condIn (L++M) c
 | .mk _ _ _ _ r _ ar,h=>by
  rw [condIn] at h ⊢
  exact⟨refIn_app h.1,condIns_app h.2⟩
theorem condIns_app {L M:List (List UInt8)}:∀ {c:List Cd},condIns L c→condIns (L++M) c
 | [],_=>by rw [condIns];trivial
 | c::r,h=>by
  rw [condIns] at h ⊢
  exact⟨condIn_app h.1,condIns_app h.2⟩
end
theorem declIn_app {d:De} (h:declIn L d):declIn (L++M) d:=⟨List.mem_append_left _ h.name,List.mem_append_left _ h.plate,fun r hr=>refIn_app (h.refs r hr),fun c hc=>condIn_app (h.cases c hc)⟩
theorem rnR_app {r:Rf} (h:refIn L r):rnR (nwF (L++M)) r=rnR (nwF L) r:=by
 show(⟨nwF (L++M) r.name,r.mode,nwF (L++M) r.plate,r.n⟩:Rf)=_
 rw [nwF_app h.1,nwF_app h.2];rfl
mutual
theorem rnC_app {L M:List (List UInt8)}:∀ {c:Cd},condIn L c→rnC (nwF (L++M)) c=rnC (nwF L) c
 | .mk _ _ _ _ r _ ar,h=>by
  rw [condIn] at h
  rw [rnC,rnC,rnR_app h.1,rnCs_app h.2]
theorem rnCs_app {L M:List (List UInt8)}:∀ {c:List Cd},condIns L c→rnCs (nwF (L++M)) c=rnCs (nwF L) c
 | [],_=>rfl
 | c::r,h=>by
  rw [condIns] at h
  rw [rnCs,rnCs,rnC_app h.1,rnCs_app h.2]
end
theorem map_rn_app {l:List Cd} (h:∀ c∈l,condIn L c):l.map (rnC (nwF (L++M)))=l.map (rnC (nwF L)):=List.map_congr_left fun c hc=>rnC_app (h c hc)
theorem rnK_app {l:List Cs} (h:∀ c∈l,condIn L c.cond):l.map (rnK (nwF (L++M)))=l.map (rnK (nwF L)):=List.map_congr_left fun c hc=>by
 show(⟨rnC (nwF (L++M)) c.cond,c.nums⟩:Cs)=_
 rw [rnC_app (h c hc)];rfl
theorem rnRs_app {l:List Rf} (h:∀ r∈l,refIn L r):l.map (rnR (nwF (L++M)))=l.map (rnR (nwF L)):=List.map_congr_left fun r hr=>rnR_app (h r hr)
theorem rnD_app {d:De} (h:declIn L d):rnD (nwF (L++M)) d=rnD (nwF L) d:=by
 show(⟨d.kind,d.n,nwF (L++M) d.name,nwF (L++M) d.plate,d.refs.map (rnR (nwF (L++M))),d.cases.map (rnK (nwF (L++M)))⟩:De)=_
 rw [nwF_app h.name,nwF_app h.plate,rnRs_app h.refs,rnK_app h.cases];rfl
end
theorem addR_in (L:List (List UInt8)) (r:Rf):refIn (addR L r) r:=by
 obtain⟨M,hM⟩:=addL_app (addL L r.name) r.plate
 exact⟨by rw [addR,hM];exact List.mem_append_left _ (addL_mem L r.name),addL_mem _ r.plate⟩
mutual
def okC:Cd→Prop
 | .mk _ _ _ _ r _ ar=>((r.name=[]→r=rf0)∧ar.length≤2)∧okCs ar
def okCs:List Cd→Prop
 | []=>True
 | c::r=>okC c∧okCs r
end
theorem okCs_mem:∀ {l:List Cd} {c:Cd},okCs l→c∈l→okC c
 | [],_,_,h=>by cases h
 | x::l,c,h,hc=>by
  rw [okCs] at h
  rcases List.mem_cons.1 hc with rfl | hc
  ·exact h.1
  ·exact okCs_mem h.2 hc
theorem mem_app {L A:List (List UInt8)} {x:List UInt8} (h:∃ M,A=L++M) (hx:x∈L):x∈A:=by
 obtain⟨M,rfl⟩:=h
 exact List.mem_append_left _ hx
mutual
theorem addC_in:∀ {L:List (List UInt8)} (c:Cd),okC c→[]∈L→condIn (addC L c) c
 | L, .mk _ _ _ _ r _ ar,h,h0=>by
  rw [okC] at h
  rw [addC,condIn]
  by_cases hn:r.name=[]
  ·rw [if_pos hn]
   refine⟨?_,addCs_in ar h.2 h0⟩
   rw [h.1.1 hn]
   exact⟨mem_app (addCs_app L ar) h0,mem_app (addCs_app L ar) h0⟩
  ·rw [if_neg hn]
   obtain⟨M,hM⟩:=addCs_app (addR L r) ar
   exact⟨by rw [hM];exact refIn_app (addR_in L r),addCs_in ar h.2 (mem_app (addR_app L r) h0)⟩
theorem addCs_in:∀ {L:List (List UInt8)} (l:List Cd),okCs l→[]∈L→condIns (addCs L l) l
 | L,[],_,_=>by rw [condIns];trivial
 | L,c::r,h,h0=>by
  rw [okCs] at h
  rw [addCs,condIns]
  obtain⟨M,hM⟩:=addCs_app (addC L c) r
  exact⟨by rw [hM];exact condIn_app (addC_in c h.1 h0),addCs_in r h.2 (mem_app (addC_app L c) h0)⟩
end
theorem addRs_in:∀ (l:List Rf) (L:List (List UInt8)),∀ r∈l,refIn (addRs L l) r
 | x::l,L,r,hr=>by
  show refIn (addRs (addR L x) l) r
  rcases List.mem_cons.1 hr with rfl | hr
  ·obtain⟨M,hM⟩:=addRs_app (addR L r) l
   rw [hM];exact refIn_app (addR_in L r)
  ·exact addRs_in l _ r hr
theorem addKs_in:∀ (l:List Cs) (L:List (List UInt8)),(∀ c∈l,okC c.cond)→[]∈L→∀ c∈l,condIn (addKs L l) c.cond
 | x::l,L,h,h0,c,hc=>by
  show condIn (addKs (addC L x.cond) l) c.cond
  rcases List.mem_cons.1 hc with rfl | hc
  ·obtain⟨M,hM⟩:=addKs_app (addC L c.cond) l
   rw [hM];exact condIn_app (addC_in c.cond (h c (List.mem_cons_self ..)) h0)
  ·exact addKs_in l _ (fun c hc=>h c (List.mem_cons_of_mem _ hc)) (mem_app (addC_app L x.cond) h0) c hc
theorem addD_in {L:List (List UInt8)} {d:De} (h:∀ c∈d.cases,okC c.cond) (h0:[]∈L):declIn (addD L d) d:=by
 have hA:=addL_app (addL L d.name) d.plate
 have hB:=addRs_app (addL (addL L d.name) d.plate) d.refs
 have hC:=addKs_app (addRs (addL (addL L d.name) d.plate) d.refs) d.cases
 refine⟨mem_app hC (mem_app hB (mem_app hA (addL_mem L d.name))),mem_app hC (mem_app hB (addL_mem _ d.plate)),fun r hr=>?_,addKs_in d.cases _ h (mem_app hB (mem_app hA (mem_app (addL_app L d.name) h0)))⟩
 obtain⟨M,hM⟩:=hC
 have:=addRs_in d.refs (addL (addL L d.name) d.plate) r hr
 show refIn (addKs _ _) r
 rw [hM];exact refIn_app this
theorem addDs_in:∀ (l:List De) (L:List (List UInt8)),(∀ d∈l,∀ c∈d.cases,okC c.cond)→[]∈L→∀ d∈l,declIn (addDs L l) d
 | x::l,L,h,h0,d,hd=>by
  show declIn (addDs (addD L x) l) d
  rcases List.mem_cons.1 hd with rfl | hd
  ·obtain⟨M,hM⟩:=addDs_app (addD L d) l
   rw [hM];exact declIn_app (addD_in (h d (List.mem_cons_self ..)) h0)
  ·exact addDs_in l _ (fun d hd=>h d (List.mem_cons_of_mem _ hd)) (mem_app (addD_app L x) h0) d hd
theorem refB_nm {r:Rf} (h:refB r=true):r.name ≠ []:=fun e=>by
 simp only [refB,Bool.and_eq_true] at h
 rw [e] at h
 cases h.1
theorem plainB_rf {n rel val:Int} {r:Rf} {st:List Int} (h:plainB n rel val r st=true):r=rf0:=by
 simp only [plainB,Bool.and_eq_true,decide_eq_true_eq] at h
 exact h.1.2
theorem headB_rf {op n rel val:Int} {r:Rf} {st:List Int} {k:Nat} (h:headB op n rel val r st k=true):r.name=[]→r=rf0:=by
 intro hn
 unfold headB at h
 split at h
 ·simp only [Bool.and_eq_true] at h
  have h:=h.1
  unfold leafB at h
  split at h
  ·simp only [Bool.and_eq_true] at h;exact absurd hn (refB_nm h.1.1.1.1)
  ·split at h
   ·simp only [Bool.and_eq_true] at h;exact absurd hn (refB_nm h.1.1.1.1)
   ·split at h
    ·simp only [Bool.and_eq_true] at h;exact absurd hn (refB_nm h.1.1.1.1.1.1)
    ·cases h
 ·simp only [Bool.and_eq_true] at h
  exact plainB_rf h.2
theorem headB_len {op n rel val:Int} {r:Rf} {st:List Int} {k:Nat} (h:headB op n rel val r st k=true):k≤2:=by
 unfold headB at h
 split at h
 ·simp only [Bool.and_eq_true,decide_eq_true_eq] at h;omega
 ·simp only [Bool.and_eq_true,decide_eq_true_eq] at h
  have h:=h.1
  rw [h];unfold argsN
  split
  ·decide
  ·split <;> decide
theorem fold_ok {d:Nat} (ih:∀ c left k,condV d c left=some k→okC c):∀ (ar:List Cd) (left k:Nat),ar.foldlM (fun l c=>condV d c l) left=some k→okCs ar
 | [],_,_,_=>by rw [okCs];trivial
 | c::ar,left,k,h=>by
  rw [List.foldlM_cons] at h
  rw [okCs]
  cases hc:condV d c left with
  | none=>rw [hc] at h;cases h
  | some m=>
   rw [hc] at h
   exact⟨ih c left m hc,fold_ok ih ar m k h⟩
theorem condV_ok:∀ (d:Nat) (c:Cd) (left k:Nat),condV d c left=some k→okC c
 | 0,_,_,_,h=>by cases h
 | d+1, .mk op n rel val r st ar,left,k,h=>by
  rw [condV] at h
  rw [okC]
  split at h
  ·cases h
  ·split at h
   ·rename_i e2
    exact⟨⟨headB_rf e2,headB_len e2⟩,fold_ok (fun c l k=>condV_ok d c l k) ar _ k h⟩
   ·cases h
theorem noneB_ok {c:Cd} (h:noneB c=true):okC c:=by
 obtain⟨op,n,rel,val,r,st,ar⟩:=c
 simp only [noneB,Bool.and_eq_true,decide_eq_true_eq] at h
 rw [okC,List.eq_nil_of_length_eq_zero h.2,okCs]
 exact⟨⟨fun _=>plainB_rf h.1.2,Nat.zero_le _⟩,trivial⟩
theorem casesT_ok:∀ {l:List Cs},casesT l=true→∀ c∈l,okC c.cond
 | [],_,_,hc=>by cases hc
 | [x],h,c,hc=>by
  simp only [casesT,Bool.and_eq_true] at h
  rw [List.mem_singleton.1 hc];exact noneB_ok h.2
 | x::y::r,h,c,hc=>by
  simp only [casesT,Bool.and_eq_true] at h
  rcases List.mem_cons.1 hc with rfl | hc
  ·cases hv:condV 8 c.cond 30 with
   | none=>rw [hv] at h;cases h.1.2
   | some k=>exact condV_ok 8 c.cond 30 k hv
  ·exact casesT_ok (l:=y::r) h.2 c hc
theorem casesB_ok {l:List Cs} (h:casesB l=true):∀ c∈l,okC c.cond:=by
 simp only [casesB,Bool.and_eq_true] at h
 exact casesT_ok h.2
theorem kindB_ok {d:De} (h:kindB d=true):∀ c∈d.cases,okC c.cond:=by
 have h0:d.cases.length=0→∀ c∈d.cases,okC c.cond:=fun h c hc=>by
  rw [List.eq_nil_of_length_eq_zero h] at hc;cases hc
 unfold kindB at h
 split at h
 ·simp only [Bool.and_eq_true,decide_eq_true_eq] at h;exact h0 h.2
 ·split at h
  ·simp only [Bool.and_eq_true,decide_eq_true_eq] at h;exact h0 h.2
  ·split at h
   ·simp only [Bool.and_eq_true] at h;exact casesB_ok h.2
   ·split at h
    ·simp only [Bool.and_eq_true,decide_eq_true_eq] at h;exact h0 h.2
    ·split at h
     ·simp only [Bool.and_eq_true] at h;exact casesB_ok h.2
     ·cases h
theorem validB_ok {ds:List De} (h:validB ds=true):∀ d∈ds,∀ c∈d.cases,okC c.cond:=fun d hd=>by
 simp only [validB,Bool.and_eq_true] at h
 have:=List.all_eq_true.1 h.2 d hd
 simp only [declB,Bool.and_eq_true] at this
 exact kindB_ok this.2
def NmI (L:List (List UInt8)) (X:List Iss):Prop:=∀ i∈X,i.name∈L
section
variable {L:List (List UInt8)}
theorem NmI.nil:NmI L []:=fun _ h=>by cases h
theorem NmI.app {X Z:List Iss} (h:NmI L X) (k:NmI L Z):NmI L (X++Z):=fun i hi=>by
 rcases List.mem_append.1 hi with hi | hi
 ·exact h i hi
 ·exact k i hi
theorem NmI.one {k a:Int} {nm:List UInt8} (h:nm∈L):NmI L [⟨k,a,nm⟩]:=fun i hi=>by
 rw [List.mem_singleton.1 hi];exact h
theorem NmI.note {k a:Int} {nm:List UInt8} (h:nm∈L):NmI L (noteI k a nm):=by
 unfold noteI
 split
 ·exact NmI.nil
 ·exact NmI.one h
end
mutual
theorem condI_nm {L:List (List UInt8)} (l:List De) (d:De):∀ {c:Cd},condIn L c→NmI L (condI l d c)
 | .mk op n rel val r st [],h=>by
  rw [condIn] at h
  rw [condI]
  split
  ·exact NmI.nil
  ·exact NmI.note h.1.1
 | .mk op n rel val r st (a::az),h=>by
  rw [condIn,condIns] at h
  rw [condI]
  exact NmI.app (condI_nm l d h.2.1) (condIs_nm l d h.2.2)
theorem condIs_nm {L:List (List UInt8)} (l:List De) (d:De):∀ {c:List Cd},condIns L c→NmI L (condIs l d c)
 | [],_=>by rw [condIs];exact NmI.nil
 | a::az,h=>by
  rw [condIns] at h
  rw [condIs]
  exact NmI.app (condI_nm l d h.1) (condIs_nm l d h.2)
end
section
variable {L:List (List UInt8)} (h0:[]∈L)
include h0
theorem casesI_nm (l:List De) (d:De) (g:Int):∀ {cs:List Cs},(∀ c∈cs,condIn L c.cond)→NmI L (casesI l d g cs)
 | [],_=>NmI.nil
 | c::cs,h=>by
  have ih:=casesI_nm l d g (cs:=cs) fun x hx=>h x (List.mem_cons_of_mem _ hx)
  unfold casesI at ih ⊢
  rw [List.flatMap_cons]
  refine NmI.app (NmI.app (condI_nm l d (h c (List.mem_cons_self ..))) ?_) ih
  split
  ·exact NmI.nil
  ·exact NmI.one h0
omit h0 in
theorem refsI_nm (l:List De) (d:De):∀ (rs done:List Rf),(∀ r∈rs,refIn L r)→NmI L (refsI l d done rs)
 | [],_,_=>by rw [refsI];exact NmI.nil
 | r::rs,done,h=>by
  have hr:=h r (List.mem_cons_self ..)
  rw [refsI]
  refine NmI.app ?_ (NmI.app (NmI.note hr.1) (refsI_nm l d rs _ fun x hx=>h x (List.mem_cons_of_mem _ hx)))
  split
  ·exact NmI.one hr.1
  ·exact NmI.nil
omit h0 in
theorem twiceI_nm (l:List De) {d:De} (h:d.name∈L):NmI L (twiceI l d):=by
 unfold twiceI
 split
 ·exact NmI.one h
 ·exact NmI.nil
omit h0 in
theorem cardI_nm (l:List De) {d:De} (h:d.name∈L):NmI L (cardI l d):=by
 unfold cardI
 split
 ·exact NmI.one h
 ·exact NmI.nil
omit h0 in
theorem plateI_nm (l:List De) {d:De} (h:d.plate∈L):NmI L (plateI l d):=by
 unfold plateI
 split
 ·exact NmI.nil
 ·split
  ·exact NmI.one h
  ·split
   ·exact NmI.nil
   ·exact NmI.one h
theorem oneI_nm (l:List De) {d:De} (g:Int) (h:declIn L d):NmI L (oneI l d g):=by
 have hR:=refsI_nm l d d.refs [] h.refs
 have hC:=casesI_nm h0 l d g h.cases
 unfold oneI
 split
 ·split
  ·exact NmI.one h0
  ·exact NmI.nil
 split
 ·refine NmI.app (twiceI_nm l h.name) ?_
  split
  ·exact NmI.one h.name
  ·exact NmI.nil
 split
 ·exact NmI.app (twiceI_nm l h.name) (NmI.app (plateI_nm l h.plate) (NmI.app (cardI_nm l h.name) (NmI.app hR hC)))
 split
 ·exact NmI.app (twiceI_nm l h.name) (NmI.app (cardI_nm l h.name) hR)
 ·exact NmI.app hR hC
theorem eachI_nm (g:Int):∀ (r l:List De),(∀ d∈r,declIn L d)→NmI L (eachI g l r)
 | [],_,_=>by rw [eachI];exact NmI.nil
 | d::r,l,h=>by
  rw [eachI]
  exact NmI.app (oneI_nm h0 l g (h d (List.mem_cons_self ..))) (eachI_nm g r _ fun x hx=>h x (List.mem_cons_of_mem _ hx))
theorem allI_nm {ds:List De} (h:∀ d∈ds,declIn L d):NmI L (allI ds):=by
 have hb:NmI L (baseI ds):=by
  refine NmI.app ?_ (eachI_nm h0 _ ds [] h)
  unfold headI
  split
  ·exact NmI.one h0
  ·split
   ·exact NmI.nil
   ·exact NmI.one h0
 unfold allI
 split
 ·split
  ·exact NmI.one h0
  ·exact NmI.nil
 ·exact hb
end
end Go.Proofs.YtmepdfingcmkmaaGreatDoor
namespace Go.Proofs
open Go.Shelf
def Tryz.lays105_ren:Go.Shelf.Ren:=⟨fun | 105=>25 | 212=>38 | 99=>39 | 165=>40 | 166=>41 | 170=>42 | 169=>43 | 263=>62 | 264=>63 | 206=>64 | 240=>65 | 241=>66 | 276=>96 | 277=>97 | n=>n,fun | 9=>9 | 3=>3 | 4=>4 | 20=>20 | 0=>0 | 46=>105 | 109=>106 | 5=>5 | 72=>111 | 76=>115 | 51=>143 | 146=>144 | 53=>146 | 148=>147 | 70=>109 | 37=>93 | 75=>114 | 127=>149 | 164=>180 | 80=>78 | n=>n,fun | n=>n⟩
theorem Tryz.lays105:Go.Proofs.Lays.n105 Tryz.prog Tryz.lays105_ren:={
 mixed:=by kernel_rfl
 f99:=Tryz.func39.trans (congrArg some (by kernel_rfl))
 f105:=Tryz.func25.trans (congrArg some (by kernel_rfl))
 f165:=Tryz.func40.trans (congrArg some (by kernel_rfl))
 f166:=Tryz.func41.trans (congrArg some (by kernel_rfl))
 f169:=Tryz.func43.trans (congrArg some (by kernel_rfl))
 f170:=Tryz.func42.trans (congrArg some (by kernel_rfl))
 f206:=Tryz.func64.trans (congrArg some (by kernel_rfl))
 f212:=Tryz.func38.trans (congrArg some (by kernel_rfl))
 f240:=Tryz.func65.trans (congrArg some (by kernel_rfl))
 f241:=Tryz.func66.trans (congrArg some (by kernel_rfl))
 f263:=Tryz.func62.trans (congrArg some (by kernel_rfl))
 f264:=Tryz.func63.trans (congrArg some (by kernel_rfl))
 f276:=Tryz.func96.trans (congrArg some (by kernel_rfl))
 f277:=Tryz.func97.trans (congrArg some (by kernel_rfl))
 t0:=Tryz.underlying0
 a0:=Tryz.isAgg0
 z0:=Tryz.sizeOf0
 v0:=Tryz.zeroValue0
 t3:=Tryz.underlying3
 a3:=Tryz.isAgg3
 z3:=Tryz.sizeOf3
 v3:=Tryz.zeroValue3
 t4:=Tryz.underlying4
 a4:=Tryz.isAgg4
 z4:=Tryz.sizeOf4
 v4:=Tryz.zeroValue4
 t5:=Tryz.underlying5
 a5:=Tryz.isAgg5
 z5:=Tryz.sizeOf5
 v5:=Tryz.zeroValue5
 t9:=Tryz.underlying9
 a9:=Tryz.isAgg9
 z9:=Tryz.sizeOf9
 v9:=Tryz.zeroValue9
 t20:=Tryz.underlying20
 a20:=Tryz.isAgg20
 z20:=Tryz.sizeOf20
 v20:=Tryz.zeroValue20
 t37:=Tryz.underlying93
 a37:=Tryz.isAgg93
 z37:=Tryz.sizeOf93
 v37:=Tryz.zeroValue93
 t46:=Tryz.underlying105
 a46:=Tryz.isAgg105
 z46:=Tryz.sizeOf105
 v46:=Tryz.zeroValue105
 t51:=Tryz.underlying143
 a51:=Tryz.isAgg143
 z51:=Tryz.sizeOf143
 v51:=Tryz.zeroValue143
 t53:=Tryz.underlying146
 a53:=Tryz.isAgg146
 z53:=Tryz.sizeOf146
 v53:=Tryz.zeroValue146
 t70:=Tryz.underlying109
 a70:=Tryz.isAgg109
 z70:=Tryz.sizeOf109
 v70:=Tryz.zeroValue109
 t72:=Tryz.underlying111
 a72:=Tryz.isAgg111
 z72:=Tryz.sizeOf111
 v72:=Tryz.zeroValue111
 t75:=Tryz.underlying114
 a75:=Tryz.isAgg114
 z75:=Tryz.sizeOf114
 v75:=Tryz.zeroValue114
 t76:=Tryz.underlying115
 a76:=Tryz.isAgg115
 z76:=Tryz.sizeOf115
 v76:=Tryz.zeroValue115
 t109:=Tryz.underlying106
 a109:=Tryz.isAgg106
 z109:=Tryz.sizeOf106
 v109:=Tryz.zeroValue106
 t127:=Tryz.underlying149
 a127:=Tryz.isAgg149
 z127:=Tryz.sizeOf149
 v127:=Tryz.zeroValue149
 t146:=Tryz.underlying144
 a146:=Tryz.isAgg144
 z146:=Tryz.sizeOf144
 v146:=Tryz.zeroValue144
 t148:=Tryz.underlying147
 a148:=Tryz.isAgg147
 z148:=Tryz.sizeOf147
 v148:=Tryz.zeroValue147
 t164:=Tryz.underlying180
 a164:=Tryz.isAgg180
 z164:=Tryz.sizeOf180
 v164:=Tryz.zeroValue180 }
theorem Tryz.Builder_Extra_105:Builder.Extra Tryz.prog Tryz.lays105_ren:={
 sizeBuilder:=by kernel_rfl
 liesBuilder:=by kernel_rfl
 t5:=Tryz.underlying5
 a5:=Tryz.isAgg5
 z5:=Tryz.sizeOf5
 v5:=Tryz.zeroValue5
 infoByte:=by kernel_rfl
 cellsByte:=by kernel_rfl
 sizeByte:=by kernel_rfl
 neB5:=by decide }
open Go.RowKit Go.Lib in
theorem Tryz.strings_Repeat (s:ByteArray) (c:Nat) (w:World) (hc:c≤9223372036854775807) (hlen:s.size * c≤140737488355328) :
  Calls Tryz.prog 25 #[.string s, .int .i64 c] w fun e w'=>e=.returned (.string ⟨(Lib.repeatL s.data.toList c).toArray⟩)∧Below w.heap.size w w':=Any.strings_Repeat Tryz.lays105 Tryz.Builder_Extra_105 s c w hc hlen
end Go.Proofs
namespace Go.Proofs.YtmepdfingcmkmaaGreatDoor
open Go Y RowKit
set_option maxRecDepth 100000
set_option maxHeartbeats 4000000
theorem later_below {Γ:Gm} {w w':World} (hR:R cx Γ ⟨0,[]⟩ w) (hb:Below w.heap.size w w'):Later cx 0 Γ ⟨0,[]⟩ w Γ ⟨0,[]⟩ w':=by
 have hfz:∀ b arr,Γ.fz b=some arr→∃ t z,w'.heap[b]?=some (.cells ⟨arr⟩ t z):=by
  intro b arr h
  obtain⟨t,z,e⟩:=hR.fzok b arr h
  have hlt:b<w.heap.size:=by
   rcases Nat.lt_or_ge b w.heap.size with h1 | h1
   ·exact h1
   ·rw [Array.getElem?_eq_none h1] at e;cases e
  exact⟨t,z,by rw [hb.block b hlt];exact e⟩
 refine⟨⟨hR.glob,hR.fresh,hfz,fun n o hn=>by simp [lget] at hn,fun n o q hn=>by simp [lget] at hn,fun n o m p q q' hn=>by simp [lget] at hn⟩,Ext.refl _ _,Nat.le_refl _,⟨hb.os,hb.tape,hb.output,hb.size,fun k hk _=>hb.block k hk,fun k hk=>.inr hk,Fzn.le_refl _,fun k a h=>.inl h⟩⟩
theorem pure_below {g : FuncId} {fn : Func} {c : Code} {args : List PV} {x : PV} (hf : cx.P.funcs[g]? = some fn) (hname : (fn.name == "runtime.NumGoroutine") = false) (hbd : fn.body = some c) (hx : Res [] 5 (.p x) x)
  (h:∀ (Γ:Gm) (w:World) (args':List Value),R cx Γ ⟨0,[]⟩ w→VRL Γ (args.map .p) args'→∃ v',VP Γ.fz x v'∧Calls cx.P g ⟨args'⟩ w fun e w'=>e=.returned v'∧Below w.heap.size w w'):Pure cx g args (·=.ret [x]):=by
 intro Γ w args' hR hA
 obtain⟨v',h1,h2⟩:=h Γ w args' hR hA
 refine .inl ⟨run_enter hf hname hbd _ _,h2.mono fun e w' ⟨he,hw⟩=>?_⟩
 subst he
 exact⟨.returned (.p x),⟨0,[]⟩,Γ,⟨.ret [x],⟨rfl,_,rfl,hx⟩,rfl⟩,⟨v',rfl,h1⟩,later_below hR hw⟩
theorem repeat_c (s:List UInt8) (n:Nat) (hn:n≤100000) (hs:s.length≤100000):Pure cx 25 [.str s,i64 n] (·=.ret [.str (Lib.repeatL s n)]):=by
 refine pure_below Tryz.func25 rfl rfl rfl fun Γ w args' hR hA=>?_
 simp only [List.map,VRL,VR,VP] at hA
 obtain⟨a,as',rfl,rfl,b,bs',rfl,rfl,rfl⟩:=hA
 have hm:s.length * n≤100000 * 100000:=Nat.mul_le_mul hs hn
 exact⟨_,rfl,Tryz.strings_Repeat ⟨⟨s⟩⟩ n w (by omega) (by show s.length * n≤_;omega)⟩
end Go.Proofs.YtmepdfingcmkmaaGreatDoor
namespace Go.Proofs.YtmepdfingcmkmaaGreatDoor
open Go Y
set_option maxRecDepth 100000
set_option maxHeartbeats 40000000
theorem rep_o:∀ k:Nat,Lib.repeatL [111] k=List.replicate k 111
 | 0=>rfl
 | k+1=>by rw [Lib.repeatL,rep_o k];rfl
def fsO (L:List (List UInt8)):AObj:=⟨74,false, .ms (esL L)⟩
def mvO (k:Nat):AObj:=⟨74,false, .bx [.mp k]⟩
abbrev sw1 (L:List (List UInt8)):Hp:=⟨2,[(1,fsO L),(0,mvO 1)]⟩
def sw1Q (L:List (List UInt8)) (x:List UInt8) (e:AE) (H':Hp):Prop:=e=.returned (.p (.str (nwF (addL L x) x)))∧H'=sw1 (addL L x)
theorem swname_h (L:List (List UInt8)) (x:List UInt8) (hL:1≤L.length):HoldsG cx 35 [.p (.str x), .ptr 0 0 0] (sw1 L) (sw1Q L x):=by
 cases hi:idxL L x with
 | some i=>
  have hf:findM (esL L) x=some (.str (gen i)):=by rw [find_es,hi];rfl
  have e1:addL L x=L:=by rw [addL,hi];rfl
  have e2:nwF L x=gen i:=by rw [nwF,hi]
  refine holdsN_of_vc Tryz.func35 rfl rfl rfl ?_
  refine⟨_, .inl ⟨_,hf,rfl⟩,?_⟩
  exact⟨[],[],[], .returned (.p (.str (gen i))),sw1 L,rfl,sk,sk,by rw [e1,e2],by rw [e1]⟩
 | none=>
  have hf:findM (esL L) x=none:=by rw [find_es,hi];rfl
  have hE:(esL L).length=L.length:=es_len L 0
  have e1:addL L x=L++[x]:=by rw [addL,hi];rfl
  have e2:nwF (L++[x]) x=gen L.length:=by rw [nwF,idx_snoc hi]
  have hp:=put_es hi
  have hk:(esL L).length % 9<9:=Nat.mod_lt _ (by decide)
  have hR:=repeat_c [111] ((esL L).length % 9) (by omega) (by decide)
  rw [rep_o] at hR
  have hrl:(List.replicate ((esL L).length % 9) (111:UInt8)).length≤9:=by rw [List.length_replicate];omega
  have h9:∀ (g:List UInt8),g=gen L.length→.p (.str g)=(AV.p (.str (nwF (addL L x) x))):=fun g hg=>by rw [e1,e2,hg]
  refine holdsN_of_vc Tryz.func35 rfl rfl rfl ?_
  refine⟨_, .inr ⟨hf,rfl⟩,?_⟩
  refine⟨by decide,?_⟩
  refine hR.eq rfl ?_
  refine⟨by show 1+(List.replicate ((esL L).length % 9) (111:UInt8)).length≤9223372036854775807;omega,?_⟩
  refine And.intro (fun h1=>?_) (fun h1=>?_)
  ·have h1:(9:Int)≤((esL L).length:Nat):=h1
   have hg:([109]++List.replicate ((esL L).length % 9) 111:List UInt8)=gen L.length:=by
    rw [hE] at h1 ⊢
    rw [gen,if_neg (by omega),if_neg (by omega)];rfl
   refine⟨by decide,?_⟩
   refine hR.eq rfl ?_
   refine⟨by show 1+(List.replicate ((esL L).length % 9) (111:UInt8)).length≤9223372036854775807;omega,?_⟩
   refine⟨esL (L++[x]),by rw [← hp,← hg] <;> rfl,?_⟩
   exact⟨[],[],[], .returned (.p (.str ([109]++List.replicate ((esL L).length % 9) 111))),sw1 (L++[x]),rfl,sk,sk,by rw [h9 _ hg],by rw [e1]⟩
  ·have h1:¬ (9:Int)≤((esL L).length:Nat):=h1
   have hg:([110]++List.replicate ((esL L).length % 9) 111:List UInt8)=gen L.length:=by
    rw [hE] at h1 ⊢
    rw [gen,if_neg (by omega),if_pos (by omega)];rfl
   refine⟨esL (L++[x]),by rw [← hp,← hg] <;> rfl,?_⟩
   exact⟨[],[],[], .returned (.p (.str ([110]++List.replicate ((esL L).length % 9) 111))),sw1 (L++[x]),rfl,sk,sk,by rw [h9 _ hg],by rw [e1]⟩
set_option maxHeartbeats 4000000
theorem readN_good (s:List UInt8):∀ (f k:Nat) (acc ws:List Wd),GoodW acc→readN f s k acc=.ok ws→GoodW ws
 | 0,k,acc,ws,h,e=>by
  rw [readN] at e
  injection e with e
  subst e;exact h
 | f+1,k,acc,ws,h,e=>by
  rw [readN] at e
  split at e
  ·cases e
  ·rename_i n _
   rw [readB] at e
   split at e
   ·injection e with e
    subst e;exact h
   ·split at e
    ·cases e
    ·rename_i hr
     split at e
     ·cases e
     ·rename_i hn
      refine readN_good s f _ _ ws ⟨fun w hw=>?_,?_⟩ e
      ·rcases List.mem_append.1 hw with hw | hw
       ·exact h.right w hw
       ·rw [List.mem_singleton.1 hw];exact hr
      ·have:=h.len
       rw [snoc_len];omega
theorem read_good {s:List UInt8} {ws:List Wd} (h:readR s=.ok ws):GoodW ws:=
 readN_good s _ _ [] ws ⟨fun w hw=>by simp at hw,by simp⟩ h
theorem name_big {ws:List Wd} (hg:GoodW ws) {q q':Nat} {t:List UInt8} (h:nameR ws q=.inr (t,q')):BigS t:=by
 rw [nameR] at h
 split at h
 ·rename_i hk
  injection h with h;injection h with h1 h2
  have:=hg.at (knd_lt (ws:=ws) (q:=q) (by rw [hk];decide))
  rw [hk] at this
  have:nameN (txt ws q)=true:=this
  simp only [nameN,Bool.and_eq_true,decide_eq_true_eq] at this
  rw [BigS,← h1]
  have:=this.1.1.1.2
  omega
 ·cases h
theorem nil_big:BigS []:=by rw [BigS];simp
theorem tail_big {ws:List Wd} {nm pl:List UInt8} {m n:Int} {q q':Nat} {r:Rf} (h1:BigS nm) (h2:BigS pl) (h:refTail ws nm m pl n q=.inr (r,q')):BigR r:=by
 obtain⟨u,p,_,h⟩:=then_ok h
 injection h with h;injection h with h3 h4
 rw [← h3];exact⟨h1,h2⟩
theorem ref_big {ws:List Wd} (hg:GoodW ws) {q q':Nat} {r:Rf} (h:refR ws q=.inr (r,q')):BigR r:=by
 rw [refR] at h
 obtain⟨nm,q1,h1,h⟩:=then_ok h
 have b1:=name_big hg h1
 try simp only [] at h
 split at h
 ·split at h
  ·exact tail_big b1 nil_big h
  ·split at h
   ·obtain⟨n,q2,h2,h⟩:=then_ok h
    exact tail_big b1 nil_big h
   ·obtain⟨pl,q2,h2,h⟩:=then_ok h
    have b2:=name_big hg h2
    try simp only [] at h
    split at h
    ·obtain⟨n,q3,h3,h⟩:=then_ok h
     exact tail_big b1 b2 h
    ·exact tail_big b1 b2 h
 ·injection h with h;injection h with h3 h4
  rw [← h3];exact⟨b1,nil_big⟩
theorem more_all {α:Type} {ws:List Wd} {rd:Nat→Rd α} {P:α→Prop} (hrd:∀ q a q',rd q=.inr (a,q')→P a):∀ (f:Nat) {acc l:List α} {q q':Nat},(∀ a∈acc,P a)→moreR ws rd f acc q=.inr (l,q')→(∀ a∈l,P a)∧l.length≤acc.length+f
 | 0,_,_,_,_,_,h=>by cases h
 | f+1,acc,l,q,q',ha,h=>by
  rw [moreR] at h
  split at h
  ·obtain⟨a,q1,h1,h⟩:=then_ok h
   have h2:=more_all hrd f (acc:=acc++[a]) (fun b hb=>by
    rcases List.mem_append.1 hb with hb | hb
    ·exact ha b hb
    ·rw [List.mem_singleton.1 hb];exact hrd _ _ _ h1) h
   rw [snoc_len] at h2
   exact⟨h2.1,by omega⟩
  ·injection h with h;injection h with h1 h2
   rw [← h1];exact⟨ha,by omega⟩
theorem list_all {α:Type} {ws:List Wd} {rd:Nat→Rd α} {P:α→Prop} (hrd:∀ q a q',rd q=.inr (a,q')→P a) {F q q':Nat} {l:List α} (h:listR ws rd F q=.inr (l,q')):(∀ a∈l,P a)∧l.length≤F+1:=by
 rw [listR] at h
 obtain⟨a,q1,h1,h⟩:=then_ok h
 have:=more_all hrd F (acc:=[a]) (fun b hb=>by rw [List.mem_singleton.1 hb];exact hrd _ _ _ h1) h
 simp only [List.length_singleton] at this
 exact⟨this.1,by omega⟩
theorem refs_big {ws:List Wd} (hg:GoodW ws) {F:Nat} {key:List UInt8} {q q':Nat} {l:List Rf} (h:refsR ws F key q=.inr (l,q')):(∀ r∈l,BigR r)∧l.length≤F+1:=by
 rw [refsR] at h
 split at h
 ·exact list_all (fun q a q' h=>ref_big hg h) h
 ·injection h with h;injection h with h1 h2
  rw [← h1];exact⟨fun r hr=>by simp at hr,by simp⟩
theorem ints_len {ws:List Wd}:∀ (f:Nat) {acc l:List Int} {q q':Nat},intsR ws f acc q=.inr (l,q')→l.length≤acc.length+f
 | 0,_,_,_,_,h=>by cases h
 | f+1,acc,l,q,q',h=>by
  rw [intsR] at h
  split at h
  ·obtain⟨a,q1,h1,h⟩:=then_ok h
   have:=ints_len f h
   rw [snoc_len] at this;omega
  ·injection h with h;injection h with h1 h2
   rw [← h1];omega
theorem nums_len {ws:List Wd} {F q q':Nat} {l:List Int} (h:numsR ws F q=.inr (l,q')):l.length≤F+1:=by
 rw [numsR] at h
 obtain⟨a,q1,h1,h⟩:=then_ok h
 have:=ints_len F h
 simp only [List.length_singleton] at this;omega
theorem ins_len (l:List Int) (n:Int):(insN l n).length≤l.length+1:=by
 induction l with
 | nil=>simp [insN]
 | cons x l ih=>
  rw [insN]
  split
  ·simp
  ·split
   ·simp
   ·simp only [List.length_cons];omega
theorem set_len:∀ (l acc:List Int),(l.foldl insN acc).length≤acc.length+l.length
 | [],acc=>by simp
 | x::l,acc=>by
  have:=set_len l (insN acc x)
  have:=ins_len acc x
  simp only [List.foldl_cons,List.length_cons];omega
structure CBig (ws:List Wd) (F:Nat):Prop where
 cond:∀ {q c q'},condR ws F q=.inr (c,q')→BigC c
 orr:∀ {d q c q'},BigC d→orR ws F d q=.inr (c,q')→BigC c
 conj:∀ {q c q'},conjR ws F q=.inr (c,q')→BigC c
 andr:∀ {d q c q'},BigC d→andR ws F d q=.inr (c,q')→BigC c
 neg:∀ {q c q'},negR ws F q=.inr (c,q')→BigC c
 test:∀ {q c q'},testR ws F q=.inr (c,q')→BigC c
theorem big_two {op:Int} {a b:Cd} (ha:BigC a) (hb:BigC b):BigC (.mk op 0 0 0 rf0 [] [a,b]):=by
 simp only [BigC,BigCs]
 exact⟨⟨nil_big,nil_big⟩,by simp,by simp,ha,hb,trivial⟩
theorem big_one {op:Int} {a:Cd} (ha:BigC a):BigC (.mk op 0 0 0 rf0 [] [a]):=by
 simp only [BigC,BigCs]
 exact⟨⟨nil_big,nil_big⟩,by simp,by simp,ha,trivial⟩
theorem big_leaf {o n r v:Int} {rf:Rf} {st:List Int} (hr:BigR rf) (hs:st.length≤9223372036854775807):BigC (.mk o n r v rf st []):=by
 simp only [BigC,BigCs]
 exact⟨hr,hs,by simp,trivial⟩
theorem c_big (ws:List Wd) (hg:GoodW ws):∀ F,F≤100000→CBig ws F
 | 0,_=>by
  constructor
  ·intro q c q' h;rw [condR] at h;cases h
  ·intro d q c q' _ h;rw [orR] at h;cases h
  ·intro q c q' h;rw [conjR] at h;cases h
  ·intro d q c q' _ h;rw [andR] at h;cases h
  ·intro q c q' h;rw [negR] at h;cases h
  ·intro q c q' h;rw [testR] at h;cases h
 | F+1,hF=>by
  have ih:=c_big ws hg F (by omega)
  constructor
  ·intro q c q' h
   rw [condR] at h
   obtain⟨a,p,h1,h⟩:=then_ok h
   exact ih.orr (ih.conj h1) h
  ·intro d q c q' hd h
   rw [orR] at h
   split at h
   ·obtain⟨a,p,h1,h⟩:=then_ok h
    exact ih.orr (big_two hd (ih.conj h1)) h
   ·injection h with h;injection h with h1 h2
    rw [← h1];exact hd
  ·intro q c q' h
   rw [conjR] at h
   obtain⟨a,p,h1,h⟩:=then_ok h
   exact ih.andr (ih.neg h1) h
  ·intro d q c q' hd h
   rw [andR] at h
   split at h
   ·obtain⟨a,p,h1,h⟩:=then_ok h
    exact ih.andr (big_two hd (ih.neg h1)) h
   ·injection h with h;injection h with h1 h2
    rw [← h1];exact hd
  ·intro q c q' h
   rw [negR] at h
   split at h
   ·obtain⟨a,p,h1,h⟩:=then_ok h
    injection h with h;injection h with h2 h3
    rw [← h2];exact big_one (ih.neg h1)
   ·exact ih.test h
  ·intro q c q' h
   rw [testR] at h
   split at h
   ·obtain⟨a,p,h1,h⟩:=then_ok h
    obtain⟨u,p2,h2,h⟩:=then_ok h
    injection h with h;injection h with h3 h4
    rw [← h3];exact ih.cond h1
   ·split at h
    ·obtain⟨u,p1,h1,h⟩:=then_ok h
     obtain⟨nm,p2,h2,h⟩:=then_ok h
     obtain⟨u3,p3,h3,h⟩:=then_ok h
     obtain⟨v,p4,h4,h⟩:=then_ok h
     obtain⟨u5,p5,h5,h⟩:=then_ok h
     obtain⟨r,p6,h6,h⟩:=then_ok h
     obtain⟨n,p7,h7,h⟩:=then_ok h
     injection h with h;injection h with h8 h9
     rw [← h8];exact big_leaf ⟨name_big hg h2,nil_big⟩ (by simp)
    ·obtain⟨r,p1,h1,h⟩:=then_ok h
     have hr:=ref_big hg h1
     try simp only [] at h
     split at h
     ·obtain⟨u,p2,h2,h⟩:=then_ok h
      obtain⟨l,p3,h3,h⟩:=then_ok h
      obtain⟨u4,p4,h4,h⟩:=then_ok h
      have hl:=(list_all (P:=fun _=>True) (fun _ _ _ _=>trivial) h3).2
      have hs:=set_len l []
      injection h with h;injection h with h8 h9
      rw [← h8];exact big_leaf hr (by rw [setN];simp only [List.length_nil] at hs;omega)
     ·obtain⟨o,p2,h2,h⟩:=then_ok h
      obtain⟨n,p3,h3,h⟩:=then_ok h
      injection h with h;injection h with h8 h9
      rw [← h8];exact big_leaf hr (by simp)
structure BigK (F:Nat) (c:Cs):Prop where
 cond:BigC c.cond
 nums:c.nums.length≤F+1
theorem cases_big {ws:List Wd} (hg:GoodW ws) {F:Nat} (hF:F≤100000):∀ (f:Nat) {acc l:List Cs} {q q':Nat},(∀ c∈acc,BigK F c)→casesR ws F f acc q=.inr (l,q')→(∀ c∈l,BigK F c)∧l.length≤acc.length+f
 | 0,_,_,_,_,_,h=>by cases h
 | f+1,acc,l,q,q',ha,h=>by
  rw [casesR] at h
  split at h
  ·rw [ruleEnd] at h
   obtain⟨u,q1,h1,h⟩:=then_ok h
   obtain⟨l1,q2,h2,h⟩:=then_ok h
   obtain⟨u3,q3,h3,h⟩:=then_ok h
   injection h with h;injection h with h8 h9
   rw [← h8]
   refine⟨fun c hc=>?_,by rw [snoc_len];omega⟩
   rcases List.mem_append.1 hc with hc | hc
   ·exact ha c hc
   ·rw [List.mem_singleton.1 hc]
    exact⟨big_leaf ⟨nil_big,nil_big⟩ (by simp),nums_len h2⟩
  ·obtain⟨c,q1,h1,h⟩:=then_ok h
   obtain⟨u2,q2,h2,h⟩:=then_ok h
   obtain⟨l3,q3,h3,h⟩:=then_ok h
   obtain⟨u4,q4,h4,h⟩:=then_ok h
   have:=cases_big hg hF f (acc:=acc++[⟨c,l3⟩]) (fun x hx=>by
    rcases List.mem_append.1 hx with hx | hx
    ·exact ha x hx
    ·rw [List.mem_singleton.1 hx]
     exact⟨(c_big ws hg F hF).cond h1,nums_len h3⟩) h
   rw [snoc_len] at this
   exact⟨this.1,by omega⟩
theorem rule_big {ws:List Wd} (hg:GoodW ws) {F:Nat} (hF:F≤100000) {q q':Nat} {l:List Cs} (h:ruleR ws F q=.inr (l,q')):BigL l:=by
 rw [ruleR] at h
 obtain⟨u,q1,h1,h⟩:=then_ok h
 obtain⟨h2,h3⟩:=cases_big hg hF F (acc:=[]) (fun c hc=>by simp at hc) h
 simp only [List.length_nil] at h3
 exact⟨by omega,fun c hc=>(h2 c hc).cond,fun c hc=>by have:=(h2 c hc).nums;omega⟩
theorem noL_big:BigL []:=⟨by simp,fun c hc=>by simp at hc,fun c hc=>by simp at hc⟩
theorem ntail_big {ws:List Wd} (hg:GoodW ws) {F:Nat} (hF:F≤100000) {q q':Nat} {nm pl:List UInt8} {d:De} (b1:BigS nm) (b2:BigS pl) (h:nodeTail ws F nm pl q=.inr (d,q')):BigD d:=by
 rw [nodeTail] at h
 obtain⟨u1,q1,h1,h⟩:=then_ok h
 obtain⟨n,q2,h2,h⟩:=then_ok h
 obtain⟨l,q3,h3,h⟩:=then_ok h
 obtain⟨u4,q4,h4,h⟩:=then_ok h
 obtain⟨cs,q5,h5,h⟩:=then_ok h
 have hr:=refs_big hg h3
 injection h with h;injection h with h8 h9
 rw [← h8]
 exact⟨b1,b2,by have:=hr.2;simp only [];omega,hr.1,rule_big hg hF h5⟩
theorem decl_big {ws:List Wd} (hg:GoodW ws) {F:Nat} (hF:F≤100000) {q q':Nat} {d:De} (h:declR ws F q=.inr (d,q')):BigD d:=by
 rw [declR] at h
 split at h
 ·rw [grainR] at h
  obtain⟨n,q1,h1,h⟩:=then_ok h
  injection h with h;injection h with h8 h9
  rw [← h8]
  exact⟨nil_big,nil_big,by simp,fun r hr=>by simp at hr,noL_big⟩
 split at h
 ·rw [plateR] at h
  obtain⟨nm,q1,h1,h⟩:=then_ok h
  obtain⟨u,q2,h2,h⟩:=then_ok h
  obtain⟨n,q3,h3,h⟩:=then_ok h
  injection h with h;injection h with h8 h9
  rw [← h8]
  exact⟨name_big hg h1,nil_big,by simp,fun r hr=>by simp at hr,noL_big⟩
 split at h
 ·rw [nodeR] at h
  obtain⟨nm,q1,h1,h⟩:=then_ok h
  have b1:=name_big hg h1
  try simp only [] at h
  split at h
  ·obtain⟨pl,q2,h2,h⟩:=then_ok h
   obtain⟨u,q3,h3,h⟩:=then_ok h
   exact ntail_big hg hF b1 (name_big hg h2) h
  ·exact ntail_big hg hF b1 nil_big h
 split at h
 ·rw [chooseR] at h
  obtain⟨nm,q1,h1,h⟩:=then_ok h
  obtain⟨u,q2,h2,h⟩:=then_ok h
  obtain⟨n,q3,h3,h⟩:=then_ok h
  obtain⟨l,q4,h4,h⟩:=then_ok h
  have hr:=refs_big hg h4
  injection h with h;injection h with h8 h9
  rw [← h8]
  exact⟨name_big hg h1,nil_big,by have:=hr.2;simp only [];omega,hr.1,noL_big⟩
 split at h
 ·rw [gainR] at h
  obtain⟨l,q1,h1,h⟩:=then_ok h
  obtain⟨u,q2,h2,h⟩:=then_ok h
  obtain⟨cs,q3,h3,h⟩:=then_ok h
  have hr:=refs_big hg h1
  injection h with h;injection h with h8 h9
  rw [← h8]
  exact⟨nil_big,nil_big,by have:=hr.2;simp only [];omega,hr.1,rule_big hg hF h3⟩
 ·cases h
theorem prog_big {ws:List Wd} (hg:GoodW ws) {F:Nat} (hF:F≤100000):∀ (f:Nat) {acc l:List De} {q q':Nat},(∀ d∈acc,BigD d)→progR ws F f acc q=.inr (l,q')→(∀ d∈l,BigD d)∧l.length≤acc.length+f
 | 0,_,_,_,_,_,h=>by cases h
 | f+1,acc,l,q,q',ha,h=>by
  rw [progR] at h
  split at h
  ·obtain⟨d,q1,h1,h⟩:=then_ok h
   obtain⟨u,q2,h2,h⟩:=then_ok h
   have:=prog_big hg hF f (acc:=acc++[d]) (fun x hx=>by
    rcases List.mem_append.1 hx with hx | hx
    ·exact ha x hx
    ·rw [List.mem_singleton.1 hx];exact decl_big hg hF h1) h
   rw [snoc_len] at this
   exact⟨this.1,by omega⟩
  ·injection h with h;injection h with h8 h9
   rw [← h8];exact⟨ha,by omega⟩
theorem prog_bigP {ws:List Wd} (hg:GoodW ws) {F:Nat} (hF:F≤100000) {l:List De} {q':Nat} (h:progR ws F F [] 0=.inr (l,q')):BigP l:=by
 have:=prog_big hg hF F (acc:=[]) (fun d hd=>by simp at hd) h
 simp only [List.length_nil] at this
 exact⟨by omega,this.1⟩
def fuelW (ws:List Wd):Nat:=4 * ws.length+8
def parR (s:List UInt8):Sum ((Int × Int) × Int) (List De):=
 if 8000<s.length then .inl ((0,0),3) else match readR s with
 | .err p c=>.inl ((p.1,p.2),c)
 | .ok ws=>match progR ws (fuelW ws) (fuelW ws) [] 0 with
  | .inl q=>.inl (((wat ws q).line,(wat ws q).col),381)
  | .inr (ds,_)=>if validB ds=true then .inr ds else .inl ((0,0),3)
def parV:Sum ((Int × Int) × Int) (List De)→List PV
 | .inl (p,e)=>[srcV [],i64 p.1,i64 p.2,i64 e]
 | .inr ds=>[srcV ds,i64 0,i64 0,i64 0]
def iO1 (n:Int):AObj:=⟨TInt,false, .bx [.p (i64 n)]⟩
def eO1 (n:Int):AObj:=⟨43,false, .bx [.p (i64 n)]⟩
theorem readN_errP (s:List UInt8):∀ (f k:Nat) (acc:List Wd) (p:Nat × Nat) (c:Int),readN f s k acc=.err p c→c=370∨c=3
 | 0,k,acc,p,c,e=>by
  rw [readN] at e
  cases e
 | f+1,k,acc,p,c,e=>by
  rw [readN] at e
  split at e
  ·injection e with _ e;exact .inl e.symm
  ·rw [readB] at e
   split at e
   ·cases e
   ·split at e
    ·injection e with _ e;exact .inl e.symm
    ·split at e
     ·injection e with _ e;exact .inr e.symm
     ·exact readN_errP s f _ _ p c e
abbrev resH (N:Nat):Hp:=⟨N,[(3,eO1 0),(2,iO1 0),(1,iO1 0),(0,srO (.p .nils))]⟩
theorem parse_c (s:List UInt8):Pure cx 26 [.str s] (·=.ret (parV (parR s))):=by
 have hRd:=read_c s
 refine pure_of_vc Tryz.func26 rfl rfl rfl ?_
 by_cases h0:8000<s.length
 ·rw [readV,if_pos h0] at hRd
  refine hRd.eq rfl ?_
  have e:parR s=.inl ((0,0),3):=by rw [parR,if_pos h0]
  refine And.intro (fun h=>absurd (show(3:Int)=0 from h) (by decide)) (fun _=>?_)
  refine VDraw.seq rfl ?_
  refine⟨sk,?_⟩
  refine⟨sk,?_⟩
  refine⟨sk,?_⟩
  exact end4 (srcV []) (i64 0) (i64 0) (i64 3) rfl ⟨_,rfl,_,_,rfl, .inr (.inr ⟨6,rfl⟩),rfl⟩ rfl rfl rfl (by rw [e];rfl)
 cases hr:readR s with
 | err p c=>
  rw [readV,if_neg h0,hr] at hRd
  refine hRd.eq rfl ?_
  have e:parR s=.inl ((p.1,p.2),c):=by rw [parR,if_neg h0,hr]
  have hc:¬ c=0:=by
   have:=readN_errP s _ _ _ _ _ hr
   omega
  refine And.intro (fun h=>absurd (show c=0 from h) hc) (fun _=>?_)
  refine VDraw.seq rfl ?_
  refine⟨sk,?_⟩
  refine⟨sk,?_⟩
  refine⟨sk,?_⟩
  exact end4 (srcV []) (i64 p.1) (i64 p.2) (i64 c) rfl ⟨_,rfl,_,_,rfl, .inr (.inr ⟨6,rfl⟩),rfl⟩ rfl rfl rfl (by rw [e];rfl)
 | ok ws=>
  have hg:=read_good hr
  have hl:=hg.len
  rw [readV,if_neg h0,hr] at hRd
  refine hRd.eq rfl ?_
  refine And.intro (fun _=>?_) (fun h=>absurd rfl h)
  obtain⟨F,hF⟩:∃ F,F=fuelW ws:=⟨_,rfl⟩
  have hF8:4 * ws.length+8≤F:=by rw [hF];exact Nat.le_refl _
  have hFb:F≤100000:=by rw [hF,fuelW];omega
  have e:parR s=match progR ws F F [] 0 with
    | .inl q=>.inl (((wat ws q).line,(wat ws q).col),381)
    | .inr (ds,_)=>if validB ds=true then .inr ds else .inl ((0,0),3):=by rw [parR,if_neg h0,hr,hF]
  clear hF
  refine(program_h ws F 0 hF8 hg (Nat.zero_le _)).holds.useT [] [(0,4)] rfl (sk) (sk) fun e0 H0 hq=>?_
  rcases hp:progR ws F F [] 0 with q | ⟨ds,q⟩
  ·rw [hp] at hq e
   obtain⟨rfl,rfl⟩:=hq
   refine⟨rfl,_,resH 5,rfl,rfl,?_⟩
   refine holdsD_rec Tryz.func45 rfl rfl rfl ?_
   refine VDraw.seq rfl ?_
   refine⟨sk,?_⟩
   refine⟨sk,?_⟩
   refine⟨[],[],[], .returned und,⟨5,[(3,eO1 381),(2,iO1 (wat ws q).col),(1,iO1 (wat ws q).line),(0,srO (.p .nils))]⟩,rfl,sk,sk,?_⟩
   exact end4 (srcV []) (i64 (wat ws q).line) (i64 (wat ws q).col) (i64 381) rfl ⟨_,rfl,_,_,rfl, .inr (.inr ⟨6,rfl⟩),rfl⟩ rfl rfl rfl (by rw [e];rfl)
  ·rw [hp] at hq e
   obtain⟨hql,rfl,rfl⟩:=hq
   refine⟨rfl,_,⟨5,(4,psO ws q)::(resH 5).l⟩,rfl,rfl,?_⟩
   have hC:=pcheck_c ds (prog_bigP hg hFb hp)
   by_cases hv:validB ds=true
   ·rw [chkV,if_pos hv] at hC
    refine hC.eq rfl ?_
    refine And.intro (fun _=>?_) (fun h=>absurd rfl h)
    have e:parR s=.inr ds:=e.trans (if_pos hv)
    refine holdsD_rec Tryz.func45 rfl rfl rfl ?_
    refine⟨[],[],[], .returned und,⟨5,[(3,eO1 0),(2,iO1 0),(1,iO1 0),(0,srO (.p (des ds)))]⟩,rfl,sk,sk,?_⟩
    exact end4 (srcV ds) (i64 0) (i64 0) (i64 0) rfl rfl rfl rfl rfl (by rw [e];rfl)
   ·rw [chkV,if_neg hv] at hC
    refine hC.eq rfl ?_
    refine And.intro (fun h=>absurd (show(380:Int)=0 from h) (by decide)) (fun _=>?_)
    have e:parR s=.inl ((0,0),3):=e.trans (if_neg hv)
    refine holdsD_rec Tryz.func45 rfl rfl rfl ?_
    refine⟨[],[],[], .returned und,⟨5,[(3,eO1 3),(2,iO1 0),(1,iO1 0),(0,srO (.p .nils))]⟩,rfl,sk,sk,?_⟩
    exact end4 (srcV []) (i64 0) (i64 0) (i64 3) rfl ⟨_,rfl,_,_,rfl, .inr (.inr ⟨6,rfl⟩),rfl⟩ rfl rfl rfl (by rw [e];rfl)
set_option maxHeartbeats 40000000
set_option maxHeartbeats 4000000
mutual
def csz:Cd→Nat
 | .mk _ _ _ _ _ _ ar=>cszL ar+1
def cszL:List Cd→Nat
 | []=>0
 | c::r=>csz c+cszL r
end
theorem csz_mem:∀ {l:List Cd} {c:Cd},c∈l→csz c≤cszL l
 | [],_,h=>by simp at h
 | x::l,c,h=>by
  rw [cszL]
  rcases List.mem_cons.1 h with rfl | h
  ·omega
  ·have:=csz_mem h;omega
theorem rf_ext {a b:Rf} (h:a.cells=b.cells):a=b:=by
 obtain⟨n,m,p,k⟩:=a
 obtain⟨n',m',p',k'⟩:=b
 injection h with h1 h
 injection h with h2 h
 injection h with h3 h
 injection h with h4 h
 injection h1 with h1
 injection h2 with _ h2
 injection h3 with h3
 injection h4 with _ h4
 subst h1 h2 h3 h4
 rfl
def Out {α:Type} (b:Bool) (p:Nat) (r:Rd α) (a:α) (q:Nat) (b':Bool):Prop:=if b=true then b'=true∧q=p else r=if b'=true then .inl q else .inr (a,q)
theorem Out.then {α β:Type} {b b1 b2:Bool} {p q q2:Nat} {r:Rd α} {k:α→Nat→Rd β} {a:α} {c:β} (h:Out b p r a q b1) (h2:Out b1 q (k a q) c q2 b2):Out b p (r.then k) c q2 b2:=by
 cases b
 ·have h:r=if b1=true then .inl q else .inr (a,q):=h
  show r.then k=_
  cases b1
  ·rw [if_neg (by decide)] at h
   subst h
   exact h2
  ·rw [if_pos rfl] at h
   subst h
   obtain⟨rfl,rfl⟩:b2=true∧q2=q:=h2
   rfl
 ·obtain⟨rfl,rfl⟩:b1=true∧q=p:=h
  exact h2
theorem Out.bad {α:Type} {p:Nat} {r:Rd α} {a:α}:Out true p r a p true:=⟨rfl,rfl⟩
theorem Out.same {α:Type} {b:Bool} {p:Nat} {a:α}:Out b p (.inr (a,p)) a p b:=by
 cases b
 ·rfl
 ·exact⟨rfl,rfl⟩
theorem Out.ret {α:Type} {b:Bool} {p:Nat} {a a':α} (h:a=a'):Out b p (.inr (a,p)) a' p b:=by
 subst h;exact Out.same
def LK {α:Type} (b0:Bool) (q0:Nat) (R:Rd α) (go:Nat→Rd α) (n:Nat) (q:Nat) (b:Bool):Prop:=∃ f,(b=false→n - q<f)∧∀ l q' b',Out b q (go f) l q' b'→Out b0 q0 R l q' b'
theorem LK.step {α:Type} {b0:Bool} {q0:Nat} {R:Rd α} {go go':Nat→Rd α} {n q q2:Nat} {b2:Bool} (h:LK b0 q0 R go n q false) (hs:∀ f l q' b',Out b2 q2 (go' f) l q' b'→Out false q (go (f+1)) l q' b') (hlt:b2=false→q<q2∧q2≤n):LK b0 q0 R go' n q2 b2:=by
 obtain⟨f,hf,hk⟩:=h
 obtain⟨f,rfl⟩:∃ g,f=g+1:=⟨f - 1,by have:=hf rfl;omega⟩
 refine⟨f,fun e=>?_,fun l q' b' ho=>hk l q' b' (hs f l q' b' ho)⟩
 have:=hf rfl
 have:=hlt e
 omega
def sgL:List (List UInt8):=[tEq,tNe,tLt,tLe]
def sg (i:Nat):List UInt8:=sgL.getD i []
set_option maxHeartbeats 40000000
theorem vdraw_ot {C : Cx} {rd : Bool} {n0 N : Nat} {all : List Oper} {σ : Sg} {ds : List AD} {H : Hp} {K : Sg → List AD → Hp → Prop} {X : List AP → Sg → List AD → Hp → Prop} (ot : OT)
    (h : (C.P.follows .mixedOrders && slotsOK N all (masks all []) && otOK all (masks all []) ot [] [] []) = true) (hv : vD C rd all σ K X ot [] ds H) :
    ∃ ot, (C.P.follows .mixedOrders && slotsOK N all (masks all []) && otOK all (masks all []) ot [] [] []) = true ∧
    ((vD C rd all σ K X ot [] ds H) ∨
     ∃ (α : Type) (sl : α → List (Nat × AV)) (hp : α → Hp) (pr : α → Prop),
      vD C rd all σ (fun σ' ds' H' => ∃ x, pr x ∧ Ent C n0 N σ' ds' H' (sets (fun _ => .junk) (sl x)) ds (hp x)) X ot [] ds H ∧
      ∀ x, pr x → K (sets (fun _ => .junk) (sl x)) ds (hp x)) := ⟨_, h, .inl hv⟩
theorem Out.val {α:Type} {b:Bool} {p:Nat} {r:Rd α} {a a':α} {q:Nat} {b':Bool} (h:Out b p r a q b') (e:b'=false→a=a'):Out b p r a' q b':=by
 cases b'
 ·rw [← e rfl];exact h
 ·cases b
  ·exact h
  ·exact h
set_option maxHeartbeats 4000000
abbrev TCk:TypeId:=87
abbrev TIss:TypeId:=60
def isO (l:List Iss):AObj:=⟨TIss,false, .pus (l.map Iss.cells)⟩
def fmO (es:List (List UInt8 × PV)):AObj:=⟨85,false, .ms es⟩
def ckO (ds:List De) (a:Int) (k n:Nat):AObj:=⟨TCk,false, .bx [.p (des ds), .p (i64 a), .mp 1, .sl k 3 0 n]⟩
abbrev ckS (ds:List De) (a:Nat) (es:List (List UInt8 × PV)) (l:List Iss):Hp:=⟨3,[(2,isO l),(1,fmO es),(0,ckO ds (a:Nat) 2 l.length)]⟩
abbrev ckT (ds:List De) (a:Nat) (es:List (List UInt8 × PV)) (l:List Iss):Hp:=⟨4,[(3,isO l),(1,fmO es),(0,ckO ds (a:Nat) 3 l.length)]⟩
structure CkS (ds:List De) (a:Nat) (es:List (List UInt8 × PV)):Prop where
 look:∀ nm,nm ≠ []→findM es nm=(fstI (ds.take a) nm).map fun i=>i64 (i:Nat)
 len:ds.length≤30
 le:a≤ds.length
def ckQ (H:Hp) (v:PV) (e:AE) (H':Hp):Prop:=e=.returned (.p v)∧H'=H
theorem CkS.none {ds:List De} {a:Nat} {es:List (List UInt8 × PV)} (h:CkS ds a es) {nm:List UInt8} (hn:nm ≠ []) (hf:fstV (ds.take a) nm=none):findM es nm=none:=by
 have:=h.look nm hn
 rw [fstV] at hf
 cases hi:fstI (ds.take a) nm with
 | none=>rw [hi] at this;exact this
 | some i=>rw [hi] at hf;cases hf
theorem CkS.some {ds:List De} {a:Nat} {es:List (List UInt8 × PV)} (h:CkS ds a es) {nm:List UInt8} (hn:nm ≠ []) {t:De} (hf:fstV (ds.take a) nm=some t):∃ i:Nat,findM es nm=some (i64 (i:Nat))∧i<ds.length∧(ds.map De.cells)[i]?=Option.some t.cells:=by
 have:=h.look nm hn
 rw [fstV] at hf
 cases hi:fstI (ds.take a) nm with
 | none=>rw [hi] at hf;cases hf
 | some i=>
  rw [hi] at this hf
  obtain⟨hl,hv⟩:=fst_at hi
  rw [fstV_some hi] at hv
  injection hv with hv
  injection hf with hf
  have hf:(ds.take a).getD i de0=t:=hf
  refine⟨i,this,hl,?_⟩
  have:=decell hl
  rw [← hv,hf] at this
  exact this
theorem size_h {ds:List De} {a:Nat} {es:List (List UInt8 × PV)} (b:Nat) (l:List Iss) (h:CkS ds a es) {nm:List UInt8} (hn:nm ≠ []):HoldsG cx 88 [.ptr 0 0 0, .p (.str nm)] (ckS ds b es l) (ckQ (ckS ds b es l) (i64 (sizeV (ds.take a) nm))):=by
 cases hv:fstV (ds.take a) nm with
 | none=>
  have hs:sizeV (ds.take a) nm=0:=by rw [sizeV,hv]
  have hf:=h.none hn hv
  rw [hs]
  refine holdsN_of_vc Tryz.func88 rfl rfl rfl ?_
  refine⟨_, .inr ⟨hf,rfl⟩,?_⟩
  exact⟨[],[],[], .returned (.p (i64 0)),ckS ds b es l,rfl,sk,sk,rfl,rfl⟩
 | some t=>
  obtain⟨i,hf,hl,hc⟩:=h.some hn hv
  have hs:sizeV (ds.take a) nm=if t.kind=2 then t.n else 0:=by rw [sizeV,hv]
  rw [hs]
  refine holdsN_of_vc Tryz.func88 rfl rfl rfl ?_
  refine⟨_, .inl ⟨_,hf,rfl⟩,?_⟩
  refine⟨_,⟨by omega,t.cells,hc,rfl⟩,?_⟩
  (first | refine brLt (fun h2=>?_) (fun h2=>?_) | refine brLe (fun h2=>?_) (fun h2=>?_) | refine brEq (fun h2=>?_) (fun h2=>?_))
  ·have h2:t.kind=2:=h2
   refine⟨_,⟨by omega,t.cells,hc,rfl⟩,?_⟩
   exact⟨[],[],[], .returned (.p (i64 t.n)),ckS ds b es l,rfl,sk,sk,by rw [if_pos h2],rfl⟩
  ·have h2:¬ t.kind=2:=h2
   exact⟨[],[],[], .returned (.p (i64 0)),ckS ds b es l,rfl,sk,sk,by rw [if_neg h2],rfl⟩
theorem ref_eta {r:Rf} {nm pl:List UInt8} {m n:Int}:(r=⟨nm,m,pl,n⟩) ↔ (r.name=nm∧r.mode=m∧r.plate=pl∧r.n=n):=by
 obtain⟨a,b,c,d⟩:=r
 constructor
 ·intro h;injection h with h1 h2 h3 h4;exact⟨h1,h2,h3,h4⟩
 ·rintro⟨rfl,rfl,rfl,rfl⟩;rfl
theorem own_iff {d:De} {r:Rf}:ownB d r=true ↔ d.kind=3∧¬ d.plate=[]∧r=⟨d.name,1,d.plate,if r.n<1 then 1 else r.n⟩:=by
 simp only [ownB,Bool.and_eq_true,decide_eq_true_eq,ref_eta]
 constructor
 ·rintro⟨h1,h2,h3,h4,h5,h6⟩
  exact⟨h1,h2,h3,h4,h5,by rw [if_neg (by omega)]⟩
 ·rintro⟨h1,h2,h3,h4,h5,h6⟩
  exact⟨h1,h2,h3,h4,h5,by split at h6 <;> omega⟩
theorem own_c (d:De) (r:Rf):Pure cx 141 [d.pv,r.pv] (·=.ret [.bool (ownB d r)]):=by
 have hb:∀ {b:Bool},(ownB d r=true ↔ b=true)→PEnd.ret [.bool b]=.ret [.bool (ownB d r)]:=fun h=>by rw [Bool.eq_iff_iff.2 h]
 refine pure_of_vc Tryz.func141 rfl rfl rfl ?_
 (first | refine brLt (fun h1=>?_) (fun h1=>?_) | refine brLe (fun h1=>?_) (fun h1=>?_) | refine brEq (fun h1=>?_) (fun h1=>?_))
 rotate_left
 ·have h1:¬ d.kind=3:=h1
  exact end1 _ rfl rfl (hb ⟨fun h=>absurd (own_iff.1 h).1 h1,fun h=>by cases h⟩)
 have h1:d.kind=3:=h1
 (first | refine brLt (fun h2=>?_) (fun h2=>?_) | refine brLe (fun h2=>?_) (fun h2=>?_) | refine brEq (fun h2=>?_) (fun h2=>?_))
 ·have h2:d.plate=[]:=h2
  exact end1 _ rfl rfl (hb ⟨fun h=>absurd h2 (own_iff.1 h).2.1,fun h=>by cases h⟩)
 have h2:¬ d.plate=[]:=h2
 refine⟨⟨by kernel_rfl,by kernel_rfl⟩,fun h3=>?_,fun h3=>?_⟩
 ·have h3:r=⟨d.name,1,d.plate,if r.n<1 then 1 else r.n⟩:=rf_ext (by first | exact h3 | (injection h3))
  exact end1 _ rfl rfl (hb ⟨fun _=>rfl,fun _=>own_iff.2 ⟨h1,h2,h3⟩⟩)
 ·exact end1 _ rfl rfl (hb ⟨fun h=>absurd (congrArg Rf.cells (own_iff.1 h).2.2) h3,fun h=>by cases h⟩)
def dcO (d:De):AObj:=⟨TDecl,false, .bx (d.cells.map .p)⟩
def rfO (r:Rf):AObj:=⟨TRef,false, .bx (r.cells.map .p)⟩
def cnO (c:Cd):AObj:=⟨TCond,false, .bx (c.cells.map .p)⟩
theorem retA {a b:Int} (h:a=b):AE.returned (.p (i64 a))=.returned (.p (i64 b)):=by rw [h]
theorem reference_h {ds:List De} {a:Nat} {es:List (List UInt8 × PV)} (l:List Iss) (h:CkS ds a es) (d:De) {r:Rf} (hn:r.name ≠ []):HoldsG cx 110 [.ptr 0 0 0, .p d.pv, .p r.pv] (ckS ds a es l) (ckQ (ckS ds a es l) (i64 (refI (ds.take a) d r))):=by
 obtain⟨R,hR⟩:∃ R,R=refI (ds.take a) d r:=⟨_,rfl⟩
 rw [← hR]
 cases hv:fstV (ds.take a) r.name with
 | none=>
  have hf:=h.none hn hv
  have hO:=own_c d r
  rw [refI,hv] at hR
  simp only [] at hR
  clear hv
  obtain⟨dk,dn,dnm,dpl,drs,dcs⟩:=d
  obtain⟨rn,rm,rp,ri⟩:=r
  refine holdsN_of_vc Tryz.func110 rfl rfl rfl ?_
  refine VDraw.seq rfl ?_
  refine⟨_, .inr ⟨hf,rfl⟩,?_⟩
  by_cases ho:ownB ⟨dk,dn,dnm,dpl,drs,dcs⟩ ⟨rn,rm,rp,ri⟩=true
  ·rw [ho] at hO
   rw [if_pos ho] at hR
   refine hO.eq rfl ?_
   exact⟨[],[],[], .returned (.p (i64 0)),ckS ds a es l,rfl,sk,sk,retA hR.symm,rfl⟩
  ·rw [if_neg ho] at hR
   rw [Bool.not_eq_true] at ho
   rw [ho] at hO
   refine hO.eq rfl ?_
   exact⟨[],[],[], .returned (.p (i64 3)),ckS ds a es l,rfl,sk,sk,retA hR.symm,rfl⟩
 | some t=>
  obtain⟨i,hf,hl,hc⟩:=h.some hn hv
  rw [refI,hv] at hR
  simp only [] at hR
  clear hv
  obtain⟨dk,dn,dnm,dpl,drs,dcs⟩:=d
  obtain⟨rn,rm,rp,ri⟩:=r
  obtain⟨tk,tn,tnm,tpl,trs,tcs⟩:=t
  rw [placeI] at hR
  simp only [] at hR
  refine holdsN_of_vc Tryz.func110 rfl rfl rfl ?_
  refine VDraw.seq rfl ?_
  refine⟨_, .inl ⟨_,hf,rfl⟩,?_⟩
  refine⟨_,⟨by omega,(De.mk tk tn tnm tpl trs tcs).cells,hc,rfl⟩,?_⟩
  (first | refine brLt (fun k2=>?_) (fun k2=>?_) | refine brLe (fun k2=>?_) (fun k2=>?_) | refine brEq (fun k2=>?_) (fun k2=>?_))
  ·have k2:tk=2:=k2
   rw [if_pos k2] at hR
   exact⟨[],[],[], .returned (.p (i64 4)),ckS ds a es l,rfl,sk,sk,retA hR.symm,rfl⟩
  have k2:¬ tk=2:=k2
  rw [if_neg k2] at hR
  (first | refine brLt (fun p0=>?_) (fun p0=>?_) | refine brLe (fun p0=>?_) (fun p0=>?_) | refine brEq (fun p0=>?_) (fun p0=>?_))
  ·have p0:tpl=[]:=p0
   rw [if_pos p0] at hR
   (first | refine brLt (fun m0=>?_) (fun m0=>?_) | refine brLe (fun m0=>?_) (fun m0=>?_) | refine brEq (fun m0=>?_) (fun m0=>?_))
   ·have m0:rm=0:=m0
    rw [decide_eq_false (by omega)] at hR
    exact⟨[],[],[], .returned (.p (i64 0)),ckS ds a es l,rfl,sk,sk,retA hR.symm,rfl⟩
   ·have m0:¬ rm=0:=m0
    rw [decide_eq_true m0] at hR
    exact⟨[],[],[], .returned (.p (i64 4)),ckS ds a es l,rfl,sk,sk,retA hR.symm,rfl⟩
  have p0:¬ tpl=[]:=p0
  rw [if_neg p0] at hR
  (first | refine brLt (fun m0=>?_) (fun m0=>?_) | refine brLe (fun m0=>?_) (fun m0=>?_) | refine brEq (fun m0=>?_) (fun m0=>?_))
  ·have m0:rm=0:=m0
   rw [if_pos m0] at hR
   exact⟨[],[],[], .returned (.p (i64 4)),ckS ds a es l,rfl,sk,sk,retA hR.symm,rfl⟩
  have m0:¬ rm=0:=m0
  rw [if_neg m0] at hR
  (first | refine brLt (fun m2=>?_) (fun m2=>?_) | refine brLe (fun m2=>?_) (fun m2=>?_) | refine brEq (fun m2=>?_) (fun m2=>?_))
  ·have m2:rm=2:=m2
   rw [if_pos m2] at hR
   refine VDraw.seq rfl ?_
   refine(size_h a l h p0).holds.useT [] [] rfl (sk) (sk) fun e0 H0 hq=>?_
   obtain⟨rfl,rfl⟩:=hq
   refine⟨rfl,_,⟨6,(2,isO l)::(1,fmO es)::(0,ckO ds (a:Nat) 2 l.length)::[(5,dcO ⟨tk,tn,tnm,tpl,trs,tcs⟩),(4,rfO ⟨rn,rm,rp,ri⟩),(3,dcO ⟨dk,dn,dnm,dpl,drs,dcs⟩)]⟩,rfl,rfl,?_⟩
   refine⟨sk,?_⟩
   (first | refine brLt (fun g1=>?_) (fun g1=>?_) | refine brLe (fun g1=>?_) (fun g1=>?_) | refine brEq (fun g1=>?_) (fun g1=>?_))
   ·have g1:sizeV (ds.take a) tpl≤ri:=g1
    rw [decide_eq_true g1] at hR
    exact⟨[],[],[], .returned (.p (i64 4)),ckS ds a es l,rfl,sk,sk,retA hR.symm,rfl⟩
   ·have g1:¬ sizeV (ds.take a) tpl≤ri:=g1
    rw [decide_eq_false g1] at hR
    exact⟨[],[],[], .returned (.p (i64 0)),ckS ds a es l,rfl,sk,sk,retA hR.symm,rfl⟩
  have m2:¬ rm=2:=m2
  rw [if_neg m2] at hR
  (first | refine brLt (fun m1=>?_) (fun m1=>?_) | refine brLe (fun m1=>?_) (fun m1=>?_) | refine brEq (fun m1=>?_) (fun m1=>?_))
  ·have m1:rm=1:=m1
   rw [if_pos m1] at hR
   (first | refine brLt (fun q1=>?_) (fun q1=>?_) | refine brLe (fun q1=>?_) (fun q1=>?_) | refine brEq (fun q1=>?_) (fun q1=>?_))
   rotate_left
   ·have q1:¬ dk=3:=q1
    rw [decide_eq_true (show ¬ (dk=3∧dpl=tpl∧rp=tpl) from fun h=>q1 h.1)] at hR
    exact⟨[],[],[], .returned (.p (i64 4)),ckS ds a es l,rfl,sk,sk,retA hR.symm,rfl⟩
   have q1:dk=3:=q1
   (first | refine brLt (fun q2=>?_) (fun q2=>?_) | refine brLe (fun q2=>?_) (fun q2=>?_) | refine brEq (fun q2=>?_) (fun q2=>?_))
   rotate_left
   ·have q2:¬ dpl=tpl:=q2
    rw [decide_eq_true (show ¬ (dk=3∧dpl=tpl∧rp=tpl) from fun h=>q2 h.2.1)] at hR
    exact⟨[],[],[], .returned (.p (i64 4)),ckS ds a es l,rfl,sk,sk,retA hR.symm,rfl⟩
   have q2:dpl=tpl:=q2
   (first | refine brLt (fun q3=>?_) (fun q3=>?_) | refine brLe (fun q3=>?_) (fun q3=>?_) | refine brEq (fun q3=>?_) (fun q3=>?_))
   ·have q3:rp=tpl:=q3
    rw [decide_eq_false (show ¬ ¬ (dk=3∧dpl=tpl∧rp=tpl) from fun h=>h ⟨q1,q2,q3⟩)] at hR
    exact⟨[],[],[], .returned (.p (i64 0)),ckS ds a es l,rfl,sk,sk,retA hR.symm,rfl⟩
   ·have q3:¬ rp=tpl:=q3
    rw [decide_eq_true (show ¬ (dk=3∧dpl=tpl∧rp=tpl) from fun h=>q3 h.2.2)] at hR
    exact⟨[],[],[], .returned (.p (i64 4)),ckS ds a es l,rfl,sk,sk,retA hR.symm,rfl⟩
  ·have m1:¬ rm=1:=m1
   rw [if_neg m1] at hR
   exact⟨[],[],[], .returned (.p (i64 0)),ckS ds a es l,rfl,sk,sk,retA hR.symm,rfl⟩
def valQ (ds:List De) (a:Nat) (es:List (List UInt8 × PV)) (l:List Iss) (v:Option Int) (e:AE) (H':Hp):Prop:=e=.returned (.tup [.p (i64 (v.getD 0)),vB v.isSome])∧H'=ckS ds a es l
theorem values_h {ds:List De} {a:Nat} {es:List (List UInt8 × PV)} (l:List Iss) (h:CkS ds a es) (d:De) {r:Rf} (hn:r.name ≠ []):HoldsG cx 142 [.ptr 0 0 0, .p d.pv, .p r.pv] (ckS ds a es l) (valQ ds a es l (valI (ds.take a) d r)):=by
 obtain⟨R,hR⟩:∃ R,R=valI (ds.take a) d r:=⟨_,rfl⟩
 rw [← hR]
 cases hv:fstV (ds.take a) r.name with
 | none=>
  have hf:=h.none hn hv
  have hO:=own_c d r
  rw [valI,hv] at hR
  simp only [] at hR
  clear hv
  obtain⟨dk,dn,dnm,dpl,drs,dcs⟩:=d
  obtain⟨rn,rm,rp,ri⟩:=r
  refine holdsN_of_vc Tryz.func142 rfl rfl rfl ?_
  refine VDraw.seq rfl ?_
  refine⟨_, .inr ⟨hf,rfl⟩,?_⟩
  by_cases ho:ownB ⟨dk,dn,dnm,dpl,drs,dcs⟩ ⟨rn,rm,rp,ri⟩=true
  ·rw [ho] at hO
   rw [if_pos ho] at hR
   subst hR
   refine hO.eq rfl ?_
   exact⟨[],[],[], .returned (.tup [.p (i64 dn),vB true]),ckS ds a es l,rfl,sk,sk,rfl,rfl⟩
  ·rw [if_neg ho] at hR
   rw [Bool.not_eq_true] at ho
   rw [ho] at hO
   subst hR
   refine hO.eq rfl ?_
   exact⟨[],[],[], .returned (.tup [.p (i64 0),vB false]),ckS ds a es l,rfl,sk,sk,rfl,rfl⟩
 | some t=>
  obtain⟨i,hf,hl,hc⟩:=h.some hn hv
  rw [valI,hv] at hR
  simp only [] at hR
  clear hv
  obtain⟨dk,dn,dnm,dpl,drs,dcs⟩:=d
  obtain⟨rn,rm,rp,ri⟩:=r
  obtain⟨tk,tn,tnm,tpl,trs,tcs⟩:=t
  simp only [] at hR
  refine holdsN_of_vc Tryz.func142 rfl rfl rfl ?_
  refine VDraw.seq rfl ?_
  refine⟨_, .inl ⟨_,hf,rfl⟩,?_⟩
  refine⟨_,⟨by omega,(De.mk tk tn tnm tpl trs tcs).cells,hc,rfl⟩,?_⟩
  (first | refine brLt (fun k2=>?_) (fun k2=>?_) | refine brLe (fun k2=>?_) (fun k2=>?_) | refine brEq (fun k2=>?_) (fun k2=>?_))
  ·have k2:tk=2:=k2
   rw [if_pos k2] at hR
   subst hR
   exact⟨[],[],[], .returned (.tup [.p (i64 0),vB false]),ckS ds a es l,rfl,sk,sk,rfl,rfl⟩
  ·have k2:¬ tk=2:=k2
   rw [if_neg k2] at hR
   subst hR
   refine⟨_,⟨by omega,(De.mk tk tn tnm tpl trs tcs).cells,hc,rfl⟩,?_⟩
   exact⟨[],[],[], .returned (.tup [.p (i64 tn),vB true]),ckS ds a es l,rfl,sk,sk,rfl,rfl⟩
set_option maxHeartbeats 40000000
abbrev swF1:AV:=.fn (.func 35) [] [.ptr 0 0 0]
abbrev swF2:AV:=.fn (.func 36) [] [.ptr 2 0 0]
abbrev swF3:AV:=.fn (.func 37) [] [.ptr 3 0 0, .ptr 4 0 0]
def swO1:AObj:=⟨79,false, .bx [swF1]⟩
def swO2:AObj:=⟨104,false, .bx [swF2]⟩
def swO3:AObj:=⟨103,false, .bx [swF3]⟩
abbrev sw2 (L:List (List UInt8)):Hp:=⟨3,[(2,swO1),(1,fsO L),(0,mvO 1)]⟩
def sw2Q (L:List (List UInt8)) (r:Rf) (e:AE) (H':Hp):Prop:=e=.returned (.p (rnR (nwF (addR L r)) r).pv)∧H'=sw2 (addR L r)
theorem addL_len (L:List (List UInt8)) (x:List UInt8) (h:1≤L.length):1≤(addL L x).length:=by
 obtain⟨M,hM⟩:=addL_app L x
 rw [hM,List.length_append];omega
theorem swref_h (L:List (List UInt8)) (r:Rf) (hL:1≤L.length):HoldsG cx 36 [.p r.pv, .ptr 2 0 0] (sw2 L) (sw2Q L r):=by
 have h1:=swname_h L r.name hL
 have h2:=swname_h (addL L r.name) r.plate (addL_len _ _ hL)
 have e1:nwF (addR L r) r.name=nwF (addL L r.name) r.name:=by
  obtain⟨M,hM⟩:=addL_app (addL L r.name) r.plate
  rw [addR,hM];exact nwF_app (addL_mem L r.name)
 obtain⟨r1,r2,r3,r4⟩:=r
 refine holdsN_of_vc Tryz.func36 rfl rfl rfl ?_
 refine VDraw.seq rfl ?_
 refine h1.holds.useT [] [] rfl (sk) (sk) fun e0 H0 hq=>?_
 obtain⟨rfl,rfl⟩:=hq
 refine⟨rfl,_,⟨5,(1,fsO (addL L r1))::(0,mvO 1)::[(4,⟨TRef,false, .bx [.p (.str []), .p (i64 0), .p (.str []), .p (i64 0)]⟩),(3,rfO ⟨r1,r2,r3,r4⟩),(2,swO1)]⟩,rfl,rfl,?_⟩
 refine⟨sk,?_⟩
 refine h2.holds.useT [] [] rfl (sk) (sk) fun e0 H0 hq=>?_
 obtain⟨rfl,rfl⟩:=hq
 refine⟨rfl,_,⟨5,(1,fsO (addL (addL L r1) r3))::(0,mvO 1)::[(4,⟨TRef,false, .bx [.p (.str []), .p (i64 0), .p (.str []), .p (i64 0)]⟩),(3,rfO ⟨r1,r2,r3,r4⟩),(2,swO1)]⟩,rfl,rfl,?_⟩
 exact⟨[],[],[], .returned (.p (Rf.pv ⟨nwF (addL L r1) r1,r2,nwF (addL (addL L r1) r3) r3,r4⟩)),sw2 (addL (addL L r1) r3),rfl,sk,sk,by rw [← e1];rfl,rfl⟩
abbrev sw4 (L:List (List UInt8)):Hp:=⟨5,[(4,swO3),(3,swO2),(2,swO1),(1,fsO L),(0,mvO 1)]⟩
def sw4Q (L:List (List UInt8)) (c:Cd) (e:AE) (H':Hp):Prop:=e=.returned (.p (rnC (nwF (addC L c)) c).pv)∧H'=sw4 (addC L c)
def cdO (l:List Cd):AObj:=⟨TCond,false, .pus (l.map Cd.cells)⟩
abbrev czO:AObj:=⟨TCond,false, .bx [.p (i64 0), .p (i64 0), .p (i64 0), .p (i64 0), .p (.str []), .p (i64 0), .p (.str []), .p (i64 0), .p .nils, .p .nils]⟩
theorem addCs_next {L:List (List UInt8)} {ar:List Cd} {k:Nat} (h:k<ar.length):addCs L (ar.take (k+1))=addC (addCs L (ar.take k)) (ar.getD k cd0):=by
 rw [take_succ_getD cd0 h,addCs_snoc]
theorem okCs_take {l:List Cd} (h:okCs l) (k:Nat):okCs (l.take k):=by
 induction l generalizing k with
 | nil=>rw [List.take_nil];exact h
 | cons x l ih=>
  cases k with
  | zero=>rw [List.take_zero,okCs];trivial
  | succ k=>
   rw [okCs] at h
   rw [List.take_succ_cons,okCs]
   exact⟨h.1,ih h.2 k⟩
theorem swcond_h:∀ (m:Nat) (c:Cd) (L:List (List UInt8)),csz c≤m→okC c→BigC c→idxL L []=some 0 →
  HoldsG cx 37 [.p c.pv, .ptr 3 0 0, .ptr 4 0 0] (sw4 L) (sw4Q L c)
 | 0,c,_,hz,_,_,_=>by cases c;rw [csz] at hz;omega
 | m+1, .mk op n rel val r st ar,L,hz,hok,hbig,h0=>by
  have IH:=swcond_h m
  rw [csz] at hz
  rw [okC] at hok
  simp only [BigC] at hbig
  have hL:1≤L.length:=(idx_some h0).1
  have hn0:nwF L []=[]:=by rw [nwF,h0];rfl
  obtain⟨L1,hL1⟩:∃ L1,L1=if r.name=[] then L else addR L r:=⟨_,rfl⟩
  have hLA:∃ M,L1=L++M:=by
   rw [hL1]
   split
   ·exact⟨[],(List.append_nil L).symm⟩
   ·exact addR_app L r
  have h01:idxL L1 []=some 0:=by
   obtain⟨M,hM⟩:=hLA
   rw [hM];exact idx_app h0
  have hin:refIn L1 r:=by
   rw [hL1]
   split
   ·rename_i e
    rw [hok.1.1 e]
    have hm:([]:List UInt8)∈L:=Classical.byContradiction fun hc=>by rw [idx_none.2 hc] at h0;cases h0
    exact⟨hm,hm⟩
   ·exact addR_in L r
  obtain⟨q,hq⟩:∃ q,q=rnR (nwF L1) r:=⟨_,rfl⟩
  have hfin:addC L (.mk op n rel val r st ar)=addCs L1 ar:=by rw [addC,← hL1]
  have hqf:rnR (nwF (addCs L1 ar)) r=q:=by
   obtain⟨M,hM⟩:=addCs_app L1 ar
   rw [hM,rnR_app hin,hq]
  have hres:rnC (nwF (addCs L1 ar)) (.mk op n rel val r st ar)=.mk op n rel val q st (ar.map (rnC (nwF (addCs L1 ar)))):=by rw [rnC,rnCs_map,hqf]
  have hR:=swref_h L r hL
  rw [show sw2Q L r=fun e H'=>e=.returned (.p (rnR (nwF (addR L r)) r).pv)∧H'=sw2 (addR L r) from rfl] at hR
  have hcl:(cellsL ar).length=ar.length:=by rw [cellsL_map,List.length_map]
  have hlen:ar.length≤2:=hok.1.2
  obtain⟨r1,r2,r3,r4⟩:=r
  obtain⟨q1,q2,q3,q4⟩:=q
  refine holdsN_of_vc Tryz.func37 rfl rfl rfl ?_
  apply cut
  case h=>
   intro key
   refine And.intro (fun e1=>?_) (fun e1=>?_)
   ·have e1:r1=[]:=e1
    have hL2:L1=L:=by rw [hL1,if_pos e1]
    have e2:=hok.1.1 e1
    have e3:(⟨q1,q2,q3,q4⟩:Rf)=⟨r1,r2,r3,r4⟩:=by
     rw [hq,hL2,e2]
     show(⟨nwF L [],0,nwF L [],0⟩:Rf)=rf0
     rw [hn0];rfl
    injection e3 with g1 g2 g3 g4
    refine⟨Nat × List (List UInt8) × List Cd,fun x=>[(1, .ptr 3 0 0),(2, .ptr 4 0 0),(3, .ptr 5 0 0),(4, .ptr 6 0 0),(5, .sl 7 10 0 x.2.2.length),(18, .p (.lsts 10 (cellsL ar))),(19, .p (i64 (ar.length:Nat))),(20, .p (i64 (x.1:Nat)))],fun x=>⟨8,[(7,cdO x.2.2),(6,czO),(5,cnO (.mk op n rel val ⟨q1,q2,q3,q4⟩ st ar)),(4,swO3),(3,swO2),(2,swO1),(1,fsO x.2.1),(0,mvO 1)]⟩,fun x=>x.1≤ar.length∧x.2.1=addCs L1 (ar.take x.1)∧x.2.2=(ar.take x.1).map (rnC (nwF x.2.1)),fun x=>ar.length - x.1,?_,key.get⟩
    refine⟨(0,L1,[]),⟨Nat.zero_le _,rfl,rfl⟩,?_⟩
    subst g1 g2 g3 g4
    rw [hL2]
    exact ent_of [] [] [(7,10)] rfl ⟨⟨rfl,rfl⟩,⟨rfl,rfl⟩,⟨rfl,rfl⟩,⟨rfl,rfl⟩,sk,rfl,congrArg (fun n:Nat=>i64 n) hcl.symm,rfl,trivial⟩ (sk) rfl
   ·have e1:¬ r1=[]:=e1
    have hL2:L1=addR L ⟨r1,r2,r3,r4⟩:=by rw [hL1,if_neg e1]
    rw [← hL2,← hq] at hR
    refine hR.holds.useT [] [] rfl (sk) (sk) fun e0 H0 hq=>?_
    obtain⟨rfl,rfl⟩:=hq
    refine⟨rfl,_,⟨7,(2,swO1)::(1,fsO L1)::(0,mvO 1)::[(6,czO),(5,cnO (.mk op n rel val ⟨r1,r2,r3,r4⟩ st ar)),(4,swO3),(3,swO2)]⟩,rfl,rfl,?_⟩
    refine⟨Nat × List (List UInt8) × List Cd,fun x=>[(1, .ptr 3 0 0),(2, .ptr 4 0 0),(3, .ptr 5 0 0),(4, .ptr 6 0 0),(5, .sl 7 10 0 x.2.2.length),(18, .p (.lsts 10 (cellsL ar))),(19, .p (i64 (ar.length:Nat))),(20, .p (i64 (x.1:Nat)))],fun x=>⟨8,[(7,cdO x.2.2),(6,czO),(5,cnO (.mk op n rel val ⟨q1,q2,q3,q4⟩ st ar)),(4,swO3),(3,swO2),(2,swO1),(1,fsO x.2.1),(0,mvO 1)]⟩,fun x=>x.1≤ar.length∧x.2.1=addCs L1 (ar.take x.1)∧x.2.2=(ar.take x.1).map (rnC (nwF x.2.1)),fun x=>ar.length - x.1,?_,key.get⟩
    refine⟨(0,L1,[]),⟨Nat.zero_le _,rfl,rfl⟩,?_⟩
    exact ent_of [] [] [(7,10)] rfl ⟨⟨rfl,rfl⟩,⟨rfl,rfl⟩,⟨rfl,rfl⟩,⟨rfl,rfl⟩,sk,rfl,congrArg (fun n:Nat=>i64 n) hcl.symm,rfl,trivial⟩ (sk) rfl
  case k=>
   rintro⟨k,Lk,out⟩ ⟨k1,k2,k3⟩
   simp only [] at k1 k2 k3
   have hol:out.length≤ar.length:=by rw [k3,List.length_map,List.length_take];omega
   have h0k:idxL Lk []=some 0:=by
    obtain⟨M,hM⟩:=addCs_app L1 (ar.take k)
    rw [k2,hM];exact idx_app h01
   have hm0:([]:List UInt8)∈L1:=Classical.byContradiction fun hc=>by rw [idx_none.2 hc] at h01;cases h01
   (first | refine brLt (fun m1=>?_) (fun m1=>?_) | refine brLe (fun m1=>?_) (fun m1=>?_) | refine brEq (fun m1=>?_) (fun m1=>?_))
   rotate_left
   ·have m1:¬ (k:Int)<(ar.length:Nat):=m1
    rw [take_all (by omega)] at k2 k3
    have hQ:(rnC (nwF (addC L (.mk op n rel val ⟨r1,r2,r3,r4⟩ st ar))) (.mk op n rel val ⟨r1,r2,r3,r4⟩ st ar)).pv=.agg [i64 op,i64 n,i64 rel,i64 val, .str q1,i64 q2, .str q3,i64 q4,ints st, .lsts 10 (out.map Cd.cells)]:=by
     rw [hfin,hres,k3,k2]
     show PV.agg (Cd.cells _)=_
     rw [Cd.cells,cellsL_map]
    exact⟨[7],[],[], .returned (.p (.agg [i64 op,i64 n,i64 rel,i64 val, .str q1,i64 q2, .str q3,i64 q4,ints st, .lsts 10 (out.map Cd.cells)])),sw4 Lk,rfl,⟨_,rfl,_,rfl,_,_,rfl,rfl,_,_,rfl,rfl,_,_,rfl,rfl,_,_,rfl,rfl,_,_,rfl,rfl,_,_,rfl,rfl,_,_,rfl,rfl,_,_,rfl,rfl,_,_,rfl,rfl,_,_,rfl,⟨_,rfl,by show 0+out.length≤(out.map Cd.cells).length;simp,takeAll (by simp)⟩,rfl⟩,sk,by rw [hQ],by rw [hfin,← k2]⟩
   have m1:(k:Int)<(ar.length:Nat):=m1
   have hk:k<ar.length:=by omega
   have hcell:(cellsL ar)[k]?=some (ar.getD k cd0).cells:=by rw [cellsL_map];exact ccell hk
   have hmem:=getD_memL cd0 hk
   have hsz:=csz_mem hmem
   have hxo:=okCs_mem hok.2 hmem
   have hxb:=bigCs_mem hbig.2.2.2 hmem
   have hnx:=addCs_next (L:=L1) hk
   rw [← k2] at hnx
   have hstep:(ar.take (k+1)).map (rnC (nwF (addC Lk (ar.getD k cd0))))=out++[rnC (nwF (addC Lk (ar.getD k cd0))) (ar.getD k cd0)]:=by
    rw [take_succ_getD cd0 hk,List.map_append,k3]
    congr 1
    obtain⟨M,hM⟩:=addC_app Lk (ar.getD k cd0)
    rw [hM]
    refine map_rn_app fun c hc=>?_
    rw [k2]
    exact condIns_mem (addCs_in (ar.take k) (okCs_take hok.2 k) hm0) hc
   have hI:=IH (ar.getD k cd0) Lk (by omega) hxo hxb h0k
   rw [show sw4Q Lk (ar.getD k cd0)=fun e H'=>e=.returned (.p (rnC (nwF (addC Lk (ar.getD k cd0))) (ar.getD k cd0)).pv)∧H'=sw4 (addC Lk (ar.getD k cd0)) from rfl] at hI
   generalize addC Lk (ar.getD k cd0)=Ln at hnx hstep hI
   generalize rnC (nwF Ln) (ar.getD k cd0)=w at hstep hI
   generalize ar.getD k cd0=x at hcell hI
   obtain⟨xo,xn,xr,xv,xf,xs,xa⟩:=x
   obtain⟨wo,wn,wr,wv,wf,ws,wa⟩:=w
   refine⟨_,⟨by omega,(Cd.mk xo xn xr xv xf xs xa).cells,hcell,rfl⟩,?_⟩
   refine hI.holds.useT [] [] rfl (sk) (sk) fun e0 H0 hq=>?_
   obtain⟨rfl,rfl⟩:=hq
   refine⟨rfl,_,⟨9,(4,swO3)::(3,swO2)::(2,swO1)::(1,fsO Ln)::(0,mvO 1)::[(8,cnO (.mk xo xn xr xv xf xs xa)),(7,cdO out),(6,czO),(5,cnO (.mk op n rel val ⟨q1,q2,q3,q4⟩ st ar))]⟩,rfl,rfl,?_⟩
   refine⟨by show 0+1≤1;omega,[Cd.cells (.mk wo wn wr wv wf ws wa)],rfl,?_⟩
   refine⟨by show 0+out.length≤(out.map Cd.cells).length;simp,out.map Cd.cells,takeAll (by simp),by show(out.length+1) * 128≤140737488355328;omega,(out++[Cd.mk wo wn wr wv wf ws wa]).map Cd.cells,by rw [List.map_append];rfl,?_⟩
   refine⟨_,wrap_i64 (by omega) (by omega),?_⟩
   exact⟨(k+1,Ln,out++[Cd.mk wo wn wr wv wf ws wa]),⟨by show k+1≤ar.length;omega,hnx.symm,hstep.symm⟩,ent_of [] [(7,10)] [] rfl ⟨⟨rfl,rfl⟩,⟨rfl,rfl⟩,⟨rfl,rfl⟩,⟨rfl,rfl⟩,congrArg (fun j:Nat=>AV.sl 10 10 0 j) (snoc_len out _).symm,rfl,rfl,rfl,trivial⟩ (sk) rfl,by show ar.length - (k+1)<ar.length - k;omega⟩
set_option maxHeartbeats 4000000
theorem cktest_h {ds:List De} {a:Nat} {es:List (List UInt8 × PV)} (l:List Iss) (h:CkS ds a es) (d:De) {op n rel val:Int} {r:Rf} {st:List Int} {ar:List Cd} (hn:r.name ≠ []) (hst:op=5→1≤st.length) (hsl:st.length≤100) (hdr:d.refs.length≤100):HoldsG cx 112 [.ptr 0 0 0, .p d.pv, .p (Cd.mk op n rel val r st ar).pv] (ckS ds a es l) (ckQ (ckS ds a es l) (i64 (testI (ds.take a) d op n val r st))):=by
 obtain⟨R,hR⟩:∃ R,R=testI (ds.take a) d op n val r st:=⟨_,rfl⟩
 rw [← hR]
 have hVal:=values_h l h d hn
 obtain⟨dk,dn,dnm,dpl,drs,dcs⟩:=d
 have hdr:drs.length≤100:=hdr
 rw [testI] at hR
 cases hV:valI (ds.take a) ⟨dk,dn,dnm,dpl,drs,dcs⟩ r with
 | none=>
  rw [hV] at hVal hR
  simp only [] at hR
  clear hV
  refine holdsN_of_vc Tryz.func112 rfl rfl rfl ?_
  refine⟨Nat,fun k=>[(0, .ptr 0 0 0),(4, .ptr 3 0 0),(5, .ptr 4 0 0),(7, .p (.bool false)),(14, .p (rfl_ drs)),(15, .p (i64 drs.length)),(16, .p (i64 k))],fun _=>⟨5,[(4,cnO (.mk op n rel val r st ar)),(3,dcO ⟨dk,dn,dnm,dpl,drs,dcs⟩),(2,isO l),(1,fmO es),(0,ckO ds (a:Nat) 2 l.length)]⟩,fun k=>k≤drs.length∧∀ x∈drs.take k,x ≠ r,fun k=>drs.length - k,?_,?_⟩
  ·exact⟨0,⟨Nat.zero_le _,by simp⟩,ent_of [] [] [] rfl ⟨⟨rfl,rfl⟩,⟨rfl,rfl⟩,⟨rfl,rfl⟩,rfl,rfl,congrArg (fun n:Nat=>i64 n) (List.length_map ..).symm,rfl,trivial⟩ (sk) rfl⟩
  rintro k ⟨k1,k2⟩
  (first | refine brLt (fun m1=>?_) (fun m1=>?_) | refine brLe (fun m1=>?_) (fun m1=>?_) | refine brEq (fun m1=>?_) (fun m1=>?_))
  rotate_left
  ·have m1:¬ (k:Int)<(drs.length:Nat):=m1
   rw [take_all (by omega)] at k2
   have hno:r ∉ drs:=fun hr=>k2 r hr rfl
   rw [if_pos hno] at hR
   exact⟨[],[],[], .returned (.p (i64 7)),ckS ds a es l,rfl,sk,sk,retA hR.symm,rfl⟩
  have m1:(k:Int)<(drs.length:Nat):=m1
  have hk:k<drs.length:=by omega
  have hcell:=rcell hk
  have hmem:=getD_memL rf0 hk
  have hnx:∀ x∈drs.take (k+1),x=drs.getD k rf0∨x∈drs.take k:=fun x hx=>by
   rw [take_succ_getD rf0 hk] at hx
   rcases List.mem_append.1 hx with hx | hx
   ·exact .inr hx
   ·exact .inl (List.mem_singleton.1 hx)
  generalize drs.getD k rf0=x at hcell hmem hnx
  refine⟨_,⟨by omega,x.cells,hcell,rfl⟩,?_⟩
  refine⟨⟨by kernel_rfl,by kernel_rfl⟩,fun e1=>?_,fun e1=>?_⟩
  rotate_left
  ·have e1:¬ x=r:=fun e=>e1 (by rw [e])
   refine⟨_,wrap_i64 (by omega) (by omega),?_⟩
   refine⟨k+1,⟨by omega,fun y hy=>?_⟩,ent_of [] [] [] rfl ⟨⟨rfl,rfl⟩,⟨rfl,rfl⟩,⟨rfl,rfl⟩,rfl,rfl,rfl,rfl,trivial⟩ (sk) rfl,by show drs.length - (k+1)<drs.length - k;omega⟩
   rcases hnx y hy with rfl | hy
   ·exact e1
   ·exact k2 y hy
  have e1:x=r:=rf_ext (by first | exact e1 | (injection e1))
  rw [e1] at hmem
  rw [if_neg (fun h=>h hmem)] at hR
  clear hnx hcell k2 m1 hk
  (first | refine brLt (fun md=>?_) (fun md=>?_) | refine brLe (fun md=>?_) (fun md=>?_) | refine brEq (fun md=>?_) (fun md=>?_))
  ·have md:r.mode=3:=md
   (first | refine brLt (fun o6=>?_) (fun o6=>?_) | refine brLe (fun o6=>?_) (fun o6=>?_) | refine brEq (fun o6=>?_) (fun o6=>?_))
   rotate_left
   ·have o6:¬ op=6:=o6
    rw [if_pos ⟨md,o6⟩] at hR
    exact⟨[],[],[], .returned (.p (i64 4)),ckS ds a es l,rfl,sk,sk,retA hR.symm,rfl⟩
   have o6:op=6:=o6
   rw [if_neg (fun h=>h.2 o6)] at hR
   (first | refine brLt (fun o5=>?_) (fun o5=>?_) | refine brLe (fun o5=>?_) (fun o5=>?_) | refine brEq (fun o5=>?_) (fun o5=>?_))
   ·have o5:op=5:=o5
    obtain⟨m,hm⟩:∃ m:Nat,st.length=m+1:=⟨st.length - 1,by have:=hst o5;omega⟩
    have hm1:((st.map i64).length:Int) - 1=(m:Nat):=by rw [List.length_map];omega
    have hmd:st.length - 1=m:=by omega
    refine⟨((m:Nat):Int),by show _=IntKind.i64.wrap (((st.map i64).length:Nat) - 1:Int);rw [hm1];exact wrap_i64 (by omega) (by omega),?_⟩
    refine⟨_,⟨by omega,i64 (st.getD m 0),icell (by omega),rfl⟩,?_⟩
    refine hVal.holds.useT [] [] rfl (sk) (sk) fun e0 H0 hq=>?_
    obtain⟨rfl,rfl⟩:=hq
    refine⟨rfl,_,⟨6,(2,isO l)::(1,fmO es)::(0,ckO ds (a:Nat) 2 l.length)::[(5,rfO x),(4,cnO (.mk op n rel val r st ar)),(3,dcO ⟨dk,dn,dnm,dpl,drs,dcs⟩)]⟩,rfl,rfl,?_⟩
    exact⟨[],[],[], .returned (.p (i64 0)),ckS ds a es l,rfl,sk,sk,retA (by rw [hR]),rfl⟩
   have o5:¬ op=5:=o5
   (first | refine brLt (fun p6=>?_) (fun p6=>?_) | refine brLe (fun p6=>?_) (fun p6=>?_) | refine brEq (fun p6=>?_) (fun p6=>?_))
   ·have p6:op=6:=p6
    refine hVal.holds.useT [] [] rfl (sk) (sk) fun e0 H0 hq=>?_
    obtain⟨rfl,rfl⟩:=hq
    refine⟨rfl,_,⟨6,(2,isO l)::(1,fmO es)::(0,ckO ds (a:Nat) 2 l.length)::[(5,rfO x),(4,cnO (.mk op n rel val r st ar)),(3,dcO ⟨dk,dn,dnm,dpl,drs,dcs⟩)]⟩,rfl,rfl,?_⟩
    exact⟨[],[],[], .returned (.p (i64 0)),ckS ds a es l,rfl,sk,sk,retA (by rw [hR]),rfl⟩
   have p6:¬ op=6:=p6
   refine hVal.holds.useT [] [] rfl (sk) (sk) fun e0 H0 hq=>?_
   obtain⟨rfl,rfl⟩:=hq
   refine⟨rfl,_,⟨6,(2,isO l)::(1,fmO es)::(0,ckO ds (a:Nat) 2 l.length)::[(5,rfO x),(4,cnO (.mk op n rel val r st ar)),(3,dcO ⟨dk,dn,dnm,dpl,drs,dcs⟩)]⟩,rfl,rfl,?_⟩
   exact⟨[],[],[], .returned (.p (i64 0)),ckS ds a es l,rfl,sk,sk,retA (by rw [hR]),rfl⟩
  have md:¬ r.mode=3:=md
  rw [if_neg (fun h=>md h.1)] at hR
  (first | refine brLt (fun o5=>?_) (fun o5=>?_) | refine brLe (fun o5=>?_) (fun o5=>?_) | refine brEq (fun o5=>?_) (fun o5=>?_))
  ·have o5:op=5:=o5
   obtain⟨m,hm⟩:∃ m:Nat,st.length=m+1:=⟨st.length - 1,by have:=hst o5;omega⟩
   have hm1:((st.map i64).length:Int) - 1=(m:Nat):=by rw [List.length_map];omega
   have hmd:st.length - 1=m:=by omega
   refine⟨((m:Nat):Int),by show _=IntKind.i64.wrap (((st.map i64).length:Nat) - 1:Int);rw [hm1];exact wrap_i64 (by omega) (by omega),?_⟩
   refine⟨_,⟨by omega,i64 (st.getD m 0),icell (by omega),rfl⟩,?_⟩
   refine hVal.holds.useT [] [] rfl (sk) (sk) fun e0 H0 hq=>?_
   obtain⟨rfl,rfl⟩:=hq
   refine⟨rfl,_,⟨6,(2,isO l)::(1,fmO es)::(0,ckO ds (a:Nat) 2 l.length)::[(5,rfO x),(4,cnO (.mk op n rel val r st ar)),(3,dcO ⟨dk,dn,dnm,dpl,drs,dcs⟩)]⟩,rfl,rfl,?_⟩
   exact⟨[],[],[], .returned (.p (i64 0)),ckS ds a es l,rfl,sk,sk,retA (by rw [hR]),rfl⟩
  have o5:¬ op=5:=o5
  (first | refine brLt (fun p6=>?_) (fun p6=>?_) | refine brLe (fun p6=>?_) (fun p6=>?_) | refine brEq (fun p6=>?_) (fun p6=>?_))
  ·have p6:op=6:=p6
   refine hVal.holds.useT [] [] rfl (sk) (sk) fun e0 H0 hq=>?_
   obtain⟨rfl,rfl⟩:=hq
   refine⟨rfl,_,⟨6,(2,isO l)::(1,fmO es)::(0,ckO ds (a:Nat) 2 l.length)::[(5,rfO x),(4,cnO (.mk op n rel val r st ar)),(3,dcO ⟨dk,dn,dnm,dpl,drs,dcs⟩)]⟩,rfl,rfl,?_⟩
   exact⟨[],[],[], .returned (.p (i64 0)),ckS ds a es l,rfl,sk,sk,retA (by rw [hR]),rfl⟩
  have p6:¬ op=6:=p6
  refine hVal.holds.useT [] [] rfl (sk) (sk) fun e0 H0 hq=>?_
  obtain⟨rfl,rfl⟩:=hq
  refine⟨rfl,_,⟨6,(2,isO l)::(1,fmO es)::(0,ckO ds (a:Nat) 2 l.length)::[(5,rfO x),(4,cnO (.mk op n rel val r st ar)),(3,dcO ⟨dk,dn,dnm,dpl,drs,dcs⟩)]⟩,rfl,rfl,?_⟩
  exact⟨[],[],[], .returned (.p (i64 0)),ckS ds a es l,rfl,sk,sk,retA (by rw [hR]),rfl⟩
 | some kk=>
  rw [hV] at hVal hR
  simp only [] at hR
  clear hV
  refine holdsN_of_vc Tryz.func112 rfl rfl rfl ?_
  refine⟨Nat,fun k=>[(0, .ptr 0 0 0),(4, .ptr 3 0 0),(5, .ptr 4 0 0),(7, .p (.bool false)),(14, .p (rfl_ drs)),(15, .p (i64 drs.length)),(16, .p (i64 k))],fun _=>⟨5,[(4,cnO (.mk op n rel val r st ar)),(3,dcO ⟨dk,dn,dnm,dpl,drs,dcs⟩),(2,isO l),(1,fmO es),(0,ckO ds (a:Nat) 2 l.length)]⟩,fun k=>k≤drs.length∧∀ x∈drs.take k,x ≠ r,fun k=>drs.length - k,?_,?_⟩
  ·exact⟨0,⟨Nat.zero_le _,by simp⟩,ent_of [] [] [] rfl ⟨⟨rfl,rfl⟩,⟨rfl,rfl⟩,⟨rfl,rfl⟩,rfl,rfl,congrArg (fun n:Nat=>i64 n) (List.length_map ..).symm,rfl,trivial⟩ (sk) rfl⟩
  rintro k ⟨k1,k2⟩
  (first | refine brLt (fun m1=>?_) (fun m1=>?_) | refine brLe (fun m1=>?_) (fun m1=>?_) | refine brEq (fun m1=>?_) (fun m1=>?_))
  rotate_left
  ·have m1:¬ (k:Int)<(drs.length:Nat):=m1
   rw [take_all (by omega)] at k2
   have hno:r ∉ drs:=fun hr=>k2 r hr rfl
   rw [if_pos hno] at hR
   exact⟨[],[],[], .returned (.p (i64 7)),ckS ds a es l,rfl,sk,sk,retA hR.symm,rfl⟩
  have m1:(k:Int)<(drs.length:Nat):=m1
  have hk:k<drs.length:=by omega
  have hcell:=rcell hk
  have hmem:=getD_memL rf0 hk
  have hnx:∀ x∈drs.take (k+1),x=drs.getD k rf0∨x∈drs.take k:=fun x hx=>by
   rw [take_succ_getD rf0 hk] at hx
   rcases List.mem_append.1 hx with hx | hx
   ·exact .inr hx
   ·exact .inl (List.mem_singleton.1 hx)
  generalize drs.getD k rf0=x at hcell hmem hnx
  refine⟨_,⟨by omega,x.cells,hcell,rfl⟩,?_⟩
  refine⟨⟨by kernel_rfl,by kernel_rfl⟩,fun e1=>?_,fun e1=>?_⟩
  rotate_left
  ·have e1:¬ x=r:=fun e=>e1 (by rw [e])
   refine⟨_,wrap_i64 (by omega) (by omega),?_⟩
   refine⟨k+1,⟨by omega,fun y hy=>?_⟩,ent_of [] [] [] rfl ⟨⟨rfl,rfl⟩,⟨rfl,rfl⟩,⟨rfl,rfl⟩,rfl,rfl,rfl,rfl,trivial⟩ (sk) rfl,by show drs.length - (k+1)<drs.length - k;omega⟩
   rcases hnx y hy with rfl | hy
   ·exact e1
   ·exact k2 y hy
  have e1:x=r:=rf_ext (by first | exact e1 | (injection e1))
  rw [e1] at hmem
  rw [if_neg (fun h=>h hmem)] at hR
  clear hnx hcell k2 m1 hk
  (first | refine brLt (fun md=>?_) (fun md=>?_) | refine brLe (fun md=>?_) (fun md=>?_) | refine brEq (fun md=>?_) (fun md=>?_))
  ·have md:r.mode=3:=md
   (first | refine brLt (fun o6=>?_) (fun o6=>?_) | refine brLe (fun o6=>?_) (fun o6=>?_) | refine brEq (fun o6=>?_) (fun o6=>?_))
   rotate_left
   ·have o6:¬ op=6:=o6
    rw [if_pos ⟨md,o6⟩] at hR
    exact⟨[],[],[], .returned (.p (i64 4)),ckS ds a es l,rfl,sk,sk,retA hR.symm,rfl⟩
   have o6:op=6:=o6
   rw [if_neg (fun h=>h.2 o6)] at hR
   (first | refine brLt (fun o5=>?_) (fun o5=>?_) | refine brLe (fun o5=>?_) (fun o5=>?_) | refine brEq (fun o5=>?_) (fun o5=>?_))
   ·have o5:op=5:=o5
    obtain⟨m,hm⟩:∃ m:Nat,st.length=m+1:=⟨st.length - 1,by have:=hst o5;omega⟩
    have hm1:((st.map i64).length:Int) - 1=(m:Nat):=by rw [List.length_map];omega
    have hmd:st.length - 1=m:=by omega
    refine⟨((m:Nat):Int),by show _=IntKind.i64.wrap (((st.map i64).length:Nat) - 1:Int);rw [hm1];exact wrap_i64 (by omega) (by omega),?_⟩
    refine⟨_,⟨by omega,i64 (st.getD m 0),icell (by omega),rfl⟩,?_⟩
    have hg:gstI op n val st=st.getD m 0:=by rw [gstI,if_pos o5,hmd]
    refine hVal.holds.useT [] [] rfl (sk) (sk) fun e0 H0 hq=>?_
    obtain⟨rfl,rfl⟩:=hq
    refine⟨rfl,_,⟨6,(2,isO l)::(1,fmO es)::(0,ckO ds (a:Nat) 2 l.length)::[(5,rfO x),(4,cnO (.mk op n rel val r st ar)),(3,dcO ⟨dk,dn,dnm,dpl,drs,dcs⟩)]⟩,rfl,rfl,?_⟩
    (first | refine brLt (fun w1=>?_) (fun w1=>?_) | refine brLe (fun w1=>?_) (fun w1=>?_) | refine brEq (fun w1=>?_) (fun w1=>?_))
    ·have w1:kk≤st.getD m 0:=w1
     exact⟨[],[],[], .returned (.p (i64 8)),ckS ds a es l,rfl,sk,sk,retA (by rw [hR,hg,if_pos w1]),rfl⟩
    ·have w1:¬ kk≤st.getD m 0:=w1
     exact⟨[],[],[], .returned (.p (i64 0)),ckS ds a es l,rfl,sk,sk,retA (by rw [hR,hg,if_neg w1]),rfl⟩
   have o5:¬ op=5:=o5
   (first | refine brLt (fun p6=>?_) (fun p6=>?_) | refine brLe (fun p6=>?_) (fun p6=>?_) | refine brEq (fun p6=>?_) (fun p6=>?_))
   ·have p6:op=6:=p6
    have hg:gstI op n val st=val:=by rw [gstI,if_neg o5,if_pos p6]
    refine hVal.holds.useT [] [] rfl (sk) (sk) fun e0 H0 hq=>?_
    obtain⟨rfl,rfl⟩:=hq
    refine⟨rfl,_,⟨6,(2,isO l)::(1,fmO es)::(0,ckO ds (a:Nat) 2 l.length)::[(5,rfO x),(4,cnO (.mk op n rel val r st ar)),(3,dcO ⟨dk,dn,dnm,dpl,drs,dcs⟩)]⟩,rfl,rfl,?_⟩
    (first | refine brLt (fun w1=>?_) (fun w1=>?_) | refine brLe (fun w1=>?_) (fun w1=>?_) | refine brEq (fun w1=>?_) (fun w1=>?_))
    ·have w1:kk≤val:=w1
     exact⟨[],[],[], .returned (.p (i64 8)),ckS ds a es l,rfl,sk,sk,retA (by rw [hR,hg,if_pos w1]),rfl⟩
    ·have w1:¬ kk≤val:=w1
     exact⟨[],[],[], .returned (.p (i64 0)),ckS ds a es l,rfl,sk,sk,retA (by rw [hR,hg,if_neg w1]),rfl⟩
   have p6:¬ op=6:=p6
   have hg:gstI op n val st=n:=by rw [gstI,if_neg o5,if_neg p6]
   refine hVal.holds.useT [] [] rfl (sk) (sk) fun e0 H0 hq=>?_
   obtain⟨rfl,rfl⟩:=hq
   refine⟨rfl,_,⟨6,(2,isO l)::(1,fmO es)::(0,ckO ds (a:Nat) 2 l.length)::[(5,rfO x),(4,cnO (.mk op n rel val r st ar)),(3,dcO ⟨dk,dn,dnm,dpl,drs,dcs⟩)]⟩,rfl,rfl,?_⟩
   (first | refine brLt (fun w1=>?_) (fun w1=>?_) | refine brLe (fun w1=>?_) (fun w1=>?_) | refine brEq (fun w1=>?_) (fun w1=>?_))
   ·have w1:kk≤n:=w1
    exact⟨[],[],[], .returned (.p (i64 8)),ckS ds a es l,rfl,sk,sk,retA (by rw [hR,hg,if_pos w1]),rfl⟩
   ·have w1:¬ kk≤n:=w1
    exact⟨[],[],[], .returned (.p (i64 0)),ckS ds a es l,rfl,sk,sk,retA (by rw [hR,hg,if_neg w1]),rfl⟩
  have md:¬ r.mode=3:=md
  rw [if_neg (fun h=>md h.1)] at hR
  (first | refine brLt (fun o5=>?_) (fun o5=>?_) | refine brLe (fun o5=>?_) (fun o5=>?_) | refine brEq (fun o5=>?_) (fun o5=>?_))
  ·have o5:op=5:=o5
   obtain⟨m,hm⟩:∃ m:Nat,st.length=m+1:=⟨st.length - 1,by have:=hst o5;omega⟩
   have hm1:((st.map i64).length:Int) - 1=(m:Nat):=by rw [List.length_map];omega
   have hmd:st.length - 1=m:=by omega
   refine⟨((m:Nat):Int),by show _=IntKind.i64.wrap (((st.map i64).length:Nat) - 1:Int);rw [hm1];exact wrap_i64 (by omega) (by omega),?_⟩
   refine⟨_,⟨by omega,i64 (st.getD m 0),icell (by omega),rfl⟩,?_⟩
   have hg:gstI op n val st=st.getD m 0:=by rw [gstI,if_pos o5,hmd]
   refine hVal.holds.useT [] [] rfl (sk) (sk) fun e0 H0 hq=>?_
   obtain⟨rfl,rfl⟩:=hq
   refine⟨rfl,_,⟨6,(2,isO l)::(1,fmO es)::(0,ckO ds (a:Nat) 2 l.length)::[(5,rfO x),(4,cnO (.mk op n rel val r st ar)),(3,dcO ⟨dk,dn,dnm,dpl,drs,dcs⟩)]⟩,rfl,rfl,?_⟩
   (first | refine brLt (fun w1=>?_) (fun w1=>?_) | refine brLe (fun w1=>?_) (fun w1=>?_) | refine brEq (fun w1=>?_) (fun w1=>?_))
   ·have w1:kk≤st.getD m 0:=w1
    exact⟨[],[],[], .returned (.p (i64 8)),ckS ds a es l,rfl,sk,sk,retA (by rw [hR,hg,if_pos w1]),rfl⟩
   ·have w1:¬ kk≤st.getD m 0:=w1
    exact⟨[],[],[], .returned (.p (i64 0)),ckS ds a es l,rfl,sk,sk,retA (by rw [hR,hg,if_neg w1]),rfl⟩
  have o5:¬ op=5:=o5
  (first | refine brLt (fun p6=>?_) (fun p6=>?_) | refine brLe (fun p6=>?_) (fun p6=>?_) | refine brEq (fun p6=>?_) (fun p6=>?_))
  ·have p6:op=6:=p6
   have hg:gstI op n val st=val:=by rw [gstI,if_neg o5,if_pos p6]
   refine hVal.holds.useT [] [] rfl (sk) (sk) fun e0 H0 hq=>?_
   obtain⟨rfl,rfl⟩:=hq
   refine⟨rfl,_,⟨6,(2,isO l)::(1,fmO es)::(0,ckO ds (a:Nat) 2 l.length)::[(5,rfO x),(4,cnO (.mk op n rel val r st ar)),(3,dcO ⟨dk,dn,dnm,dpl,drs,dcs⟩)]⟩,rfl,rfl,?_⟩
   (first | refine brLt (fun w1=>?_) (fun w1=>?_) | refine brLe (fun w1=>?_) (fun w1=>?_) | refine brEq (fun w1=>?_) (fun w1=>?_))
   ·have w1:kk≤val:=w1
    exact⟨[],[],[], .returned (.p (i64 8)),ckS ds a es l,rfl,sk,sk,retA (by rw [hR,hg,if_pos w1]),rfl⟩
   ·have w1:¬ kk≤val:=w1
    exact⟨[],[],[], .returned (.p (i64 0)),ckS ds a es l,rfl,sk,sk,retA (by rw [hR,hg,if_neg w1]),rfl⟩
  have p6:¬ op=6:=p6
  have hg:gstI op n val st=n:=by rw [gstI,if_neg o5,if_neg p6]
  refine hVal.holds.useT [] [] rfl (sk) (sk) fun e0 H0 hq=>?_
  obtain⟨rfl,rfl⟩:=hq
  refine⟨rfl,_,⟨6,(2,isO l)::(1,fmO es)::(0,ckO ds (a:Nat) 2 l.length)::[(5,rfO x),(4,cnO (.mk op n rel val r st ar)),(3,dcO ⟨dk,dn,dnm,dpl,drs,dcs⟩)]⟩,rfl,rfl,?_⟩
  (first | refine brLt (fun w1=>?_) (fun w1=>?_) | refine brLe (fun w1=>?_) (fun w1=>?_) | refine brEq (fun w1=>?_) (fun w1=>?_))
  ·have w1:kk≤n:=w1
   exact⟨[],[],[], .returned (.p (i64 8)),ckS ds a es l,rfl,sk,sk,retA (by rw [hR,hg,if_pos w1]),rfl⟩
  ·have w1:¬ kk≤n:=w1
   exact⟨[],[],[], .returned (.p (i64 0)),ckS ds a es l,rfl,sk,sk,retA (by rw [hR,hg,if_neg w1]),rfl⟩
def nQ (ds:List De) (a:Nat) (es:List (List UInt8 × PV)) (l:List Iss) (e:AE) (H':Hp):Prop:=e=.returned und∧H'=ckT ds a es l
abbrev otN6:OT:=(.pure 0 (.pure 1 (.pure 2 (.pure 3 (.pure 4 (.pure 5 (.pure 6 (.eff 7 [] (.pure 8 (.pure 9 (.eff 10 [] .fin .nil))) .nil))))))))
theorem note1_h (ds:List De) (a:Nat) (es:List (List UInt8 × PV)) (l:List Iss) (k:Int) (nm:List UInt8) (hl:l.length≤100000):HoldsG cx 48 [.ptr 0 0 0, .p (i64 k), .p (.lst [.str nm])] (ckS ds a es l) (nQ ds a es (l++[⟨k,a,nm⟩])):=by
 refine holdsN_of_vc Tryz.func48 rfl rfl rfl ?_
 refine⟨Nat,fun i=>[(0, .ptr 0 0 0),(6, .ptr 3 0 0),(15, .p (.lst [.str nm])),(16, .p (i64 1)),(17, .p (i64 i))],fun i=>⟨4,[(3,⟨TIss,false, .bx [.p (i64 k), .p (i64 (a:Nat)), .p (.str (if i=0 then [] else nm))]⟩),(2,isO l),(1,fmO es),(0,ckO ds (a:Nat) 2 l.length)]⟩,fun i=>i≤1,fun i=>1 - i,?_,?_⟩
 ·exact⟨0,by omega,ent_of [] [] [] rfl (sk) (sk) rfl⟩
 intro i hi
 (first | refine brLt (fun h1=>?_) (fun h1=>?_) | refine brLe (fun h1=>?_) (fun h1=>?_) | refine brEq (fun h1=>?_) (fun h1=>?_))
 ·have h1:(i:Int)<1:=h1
  obtain rfl:i=0:=by omega
  refine⟨_,⟨by omega, .str nm,rfl,rfl⟩,?_⟩
  refine⟨_,wrap_i64 (by omega) (by omega),?_⟩
  exact⟨1,by omega,ent_of [] [] [] rfl (sk) (sk) rfl,by decide⟩
 ·have h1:¬ (i:Int)<1:=h1
  obtain rfl:i=1:=by omega
  refine vdraw_ot otN6 (by kernel_rfl) ?_
  refine⟨by show 0+l.length≤(l.map Iss.cells).length;simp,l.map Iss.cells,takeAll (by simp),by show(l.length+1) * 32≤140737488355328;omega,(l++[(Iss.mk k (a:Nat) nm)]).map Iss.cells,by rw [List.map_append];rfl,?_⟩
  exact⟨[],[(3,4)],[], .returned und,ckT ds a es (l++[(Iss.mk k (a:Nat) nm)]),rfl,sk,⟨⟨_,rfl,rfl,rfl,rfl⟩,⟨_,rfl,rfl,rfl,rfl⟩,⟨_,rfl,rfl,rfl,_,rfl,_,_,rfl,rfl,_,_,rfl,rfl,_,_,rfl,sk,_,_,rfl,congrArg (fun k:Nat=>AV.sl 4 3 0 k) (snoc_len l (Iss.mk k (a:Nat) nm)).symm,rfl⟩,trivial⟩,rfl,rfl⟩
theorem note0_h (ds:List De) (a:Nat) (es:List (List UInt8 × PV)) (l:List Iss) (k:Int) (hl:l.length≤100000):HoldsG cx 48 [.ptr 0 0 0, .p (i64 k), .p .nils] (ckS ds a es l) (nQ ds a es (l++[⟨k,a,[]⟩])):=by
 refine holdsN_of_vc Tryz.func48 rfl rfl rfl ?_
 refine⟨Unit,fun _=>[(0, .ptr 0 0 0),(6, .ptr 3 0 0),(15, .p .nils),(16, .p (i64 0)),(17, .p (i64 0))],fun _=>⟨4,[(3,⟨TIss,false, .bx [.p (i64 k), .p (i64 (a:Nat)), .p (.str [])]⟩),(2,isO l),(1,fmO es),(0,ckO ds (a:Nat) 2 l.length)]⟩,fun _=>True,fun _=>0,?_,?_⟩
 ·exact⟨(),trivial,ent_of [] [] [] rfl (sk) (sk) rfl⟩
 intro _ _
 refine And.intro (fun h=>absurd (show(0:Int)<0 from h) (by decide)) (fun _=>?_)
 refine vdraw_ot otN6 (by kernel_rfl) ?_
 refine⟨by show 0+l.length≤(l.map Iss.cells).length;simp,l.map Iss.cells,takeAll (by simp),by show(l.length+1) * 32≤140737488355328;omega,(l++[(Iss.mk k (a:Nat) [])]).map Iss.cells,by rw [List.map_append];rfl,?_⟩
 exact⟨[],[(3,4)],[], .returned und,ckT ds a es (l++[(Iss.mk k (a:Nat) [])]),rfl,sk,⟨⟨_,rfl,rfl,rfl,rfl⟩,⟨_,rfl,rfl,rfl,rfl⟩,⟨_,rfl,rfl,rfl,_,rfl,_,_,rfl,rfl,_,_,rfl,rfl,_,_,rfl,sk,_,_,rfl,congrArg (fun k:Nat=>AV.sl 4 3 0 k) (snoc_len l (Iss.mk k (a:Nat) [])).symm,rfl⟩,trivial⟩,rfl,rfl⟩
def sfO (nm:List UInt8):AObj:=⟨TStr,true, .pu [.str nm]⟩
theorem twice_h {ds:List De} {a:Nat} {es:List (List UInt8 × PV)} (l:List Iss) (h:CkS ds a es) (d:De) (hn:d.name ≠ []) (hl:l.length≤100000):HoldsG cx 81 [.ptr 0 0 0, .p (.str d.name)] (ckS ds a es l) (nQ ds a es (l++twiceI (ds.take a) d)):=by
 have hf:=h.look d.name hn
 have hal:(ds.take a).length=a:=by rw [List.length_take];have:=h.le;omega
 cases hi:fstI (ds.take a) d.name with
 | none=>
  rw [hi] at hf
  have ht:twiceI (ds.take a) d=[]:=by rw [twiceI,hi];rfl
  rw [ht,List.append_nil]
  refine holdsN_of_vc Tryz.func81 rfl rfl rfl ?_
  refine⟨_, .inr ⟨hf,rfl⟩,?_⟩
  exact⟨[],[(3,2)],[], .returned und,ckT ds a es l,rfl,sk,sk,rfl,rfl⟩
 | some i=>
  rw [hi] at hf
  have ht:twiceI (ds.take a) d=[⟨2,a,d.name⟩]:=by rw [twiceI,hi,hal];rfl
  rw [ht]
  generalize d.name=nm at hf
  refine holdsN_of_vc Tryz.func81 rfl rfl rfl ?_
  refine⟨_, .inl ⟨_,hf,rfl⟩,?_⟩
  refine(note1_h ds a es (l) 2 nm (by first | omega | (simp only [List.length_append,List.length_cons,List.length_nil];omega))).holds.useT [3] [] rfl (sk) ⟨_,_,rfl,⟨rfl,rfl⟩,_,_,rfl,rfl,_,_,rfl,⟨_,rfl,by show 0+1≤1;decide,rfl⟩,rfl⟩ fun e0 H0 hq=>?_
  obtain⟨rfl,rfl⟩:=hq
  refine⟨rfl,_,⟨5,(4,isO ((l)++[Iss.mk 2 (a:Nat) nm]))::(1,fmO es)::(0,ckO ds (a:Nat) 4 ((l)++[Iss.mk 2 (a:Nat) nm]).length)::[(3,sfO nm)]⟩,rfl,rfl,?_⟩
  exact⟨[],[(3,4)],[], .returned und,ckT ds a es (l++[⟨2,a,nm⟩]),rfl,sk,sk,rfl,rfl⟩
theorem CkS.tk {ds:List De} {a:Nat} {es:List (List UInt8 × PV)} (h:CkS ds a es):(ds.take a).length=a:=by rw [List.length_take];have:=h.le;omega
theorem card_h {ds:List De} {a:Nat} {es:List (List UInt8 × PV)} (l:List Iss) (h:CkS ds a es) (d:De) (hl:l.length≤100000):HoldsG cx 82 [.ptr 0 0 0, .p d.pv] (ckS ds a es l) (nQ ds a es (l++cardI (ds.take a) d)):=by
 obtain⟨R,hR⟩:∃ R,R=l++cardI (ds.take a) d:=⟨_,rfl⟩
 rw [← hR]
 rw [cardI,h.tk] at hR
 obtain⟨dk,dn,dnm,dpl,drs,dcs⟩:=d
 simp only [] at hR
 refine holdsN_of_vc Tryz.func82 rfl rfl rfl ?_
 (first | refine brLt (fun h1=>?_) (fun h1=>?_) | refine brLe (fun h1=>?_) (fun h1=>?_) | refine brEq (fun h1=>?_) (fun h1=>?_))
 ·have h1:dn<2:=h1
  rw [if_pos (.inl h1)] at hR
  refine(note1_h ds a es (l) 6 dnm (by first | omega | (simp only [List.length_append,List.length_cons,List.length_nil];omega))).holds.useT [4] [] rfl (sk) ⟨_,_,rfl,⟨rfl,rfl⟩,_,_,rfl,rfl,_,_,rfl,⟨_,rfl,by show 0+1≤1;decide,rfl⟩,rfl⟩ fun e0 H0 hq=>?_
  obtain⟨rfl,rfl⟩:=hq
  refine⟨rfl,_,⟨6,(5,isO ((l)++[Iss.mk 6 (a:Nat) dnm]))::(1,fmO es)::(0,ckO ds (a:Nat) 5 ((l)++[Iss.mk 6 (a:Nat) dnm]).length)::[(4,sfO dnm),(3,dcO ⟨dk,dn,dnm,dpl,drs,dcs⟩)]⟩,rfl,rfl,?_⟩
  exact⟨[],[(3,5)],[], .returned und,ckT ds a es (l++[Iss.mk 6 (a:Nat) dnm]),rfl,sk,sk,rfl,by rw [hR]⟩
 have h1:¬ dn<2:=h1
 (first | refine brLt (fun h2=>?_) (fun h2=>?_) | refine brLe (fun h2=>?_) (fun h2=>?_) | refine brEq (fun h2=>?_) (fun h2=>?_))
 ·have h2:4<dn:=h2
  rw [if_pos (.inr h2)] at hR
  refine(note1_h ds a es (l) 6 dnm (by first | omega | (simp only [List.length_append,List.length_cons,List.length_nil];omega))).holds.useT [4] [] rfl (sk) ⟨_,_,rfl,⟨rfl,rfl⟩,_,_,rfl,rfl,_,_,rfl,⟨_,rfl,by show 0+1≤1;decide,rfl⟩,rfl⟩ fun e0 H0 hq=>?_
  obtain⟨rfl,rfl⟩:=hq
  refine⟨rfl,_,⟨6,(5,isO ((l)++[Iss.mk 6 (a:Nat) dnm]))::(1,fmO es)::(0,ckO ds (a:Nat) 5 ((l)++[Iss.mk 6 (a:Nat) dnm]).length)::[(4,sfO dnm),(3,dcO ⟨dk,dn,dnm,dpl,drs,dcs⟩)]⟩,rfl,rfl,?_⟩
  exact⟨[],[(3,5)],[], .returned und,ckT ds a es (l++[Iss.mk 6 (a:Nat) dnm]),rfl,sk,sk,rfl,by rw [hR]⟩
 ·have h2:¬ 4<dn:=h2
  rw [if_neg (by omega),List.append_nil] at hR
  exact⟨[],[(3,2)],[], .returned und,ckT ds a es (l),rfl,sk,sk,rfl,by rw [hR]⟩
abbrev otIx:OT:=(.pure 0 (.pure 1 (.pure 2 (.pure 3 (.pure 4 (.pure 5 .fin))))))
theorem rindex_c (l:List Rf) (r:Rf) (hl:l.length≤9223372036854775807):Pure cx 109 [rfl_ l,r.pv] (·=.ret [.bool (decide (r∈l))]):=by
 have hI:Pure cx 140 [rfl_ l,r.pv] fun e=>∃ n:Int,e=.ret [i64 n]∧(0≤n ↔ r∈l):=by
  obtain⟨rn,rm,rp,ri⟩:=r
  refine pure_of_vc Tryz.func140 rfl rfl rfl ?_
  refine⟨Nat,fun k=>[(0, .p (rfl_ l)),(3, .ptr 0 0 0),(7, .p (i64 l.length)),(8, .p (i64 k))],fun _=>⟨1,[(0,rfO ⟨rn,rm,rp,ri⟩)]⟩,fun k=>k≤l.length∧∀ x∈l.take k,x ≠ ⟨rn,rm,rp,ri⟩,fun k=>l.length - k,?_,?_⟩
  ·exact⟨0,⟨Nat.zero_le _,by simp⟩,ent_of [] [] [] rfl ⟨rfl,⟨rfl,rfl⟩,congrArg (fun n:Nat=>i64 n) (List.length_map ..).symm,rfl,trivial⟩ (sk) rfl⟩
  rintro k ⟨k1,k2⟩
  (first | refine brLt (fun m1=>?_) (fun m1=>?_) | refine brLe (fun m1=>?_) (fun m1=>?_) | refine brEq (fun m1=>?_) (fun m1=>?_))
  rotate_left
  ·have m1:¬ (k:Int)<(l.length:Nat):=m1
   rw [take_all (by omega)] at k2
   exact end1 _ rfl rfl ⟨-1,rfl,⟨fun h=>absurd h (by decide),fun h=>absurd rfl (k2 _ h)⟩⟩
  have m1:(k:Int)<(l.length:Nat):=m1
  have hk:k<l.length:=by omega
  have hcell:=rcell hk
  have hmem:=getD_memL rf0 hk
  have hnx:∀ x∈l.take (k+1),x=l.getD k rf0∨x∈l.take k:=fun x hx=>by
   rw [take_succ_getD rf0 hk] at hx
   rcases List.mem_append.1 hx with hx | hx
   ·exact .inr hx
   ·exact .inl (List.mem_singleton.1 hx)
  generalize l.getD k rf0=x at hcell hmem hnx
  refine vdraw_ot otIx (by kernel_rfl) ?_
  refine⟨_,⟨by omega,x.cells,hcell,rfl⟩,?_⟩
  refine⟨⟨by kernel_rfl,by kernel_rfl⟩,fun e1=>?_,fun e1=>?_⟩
  ·have e1:⟨rn,rm,rp,ri⟩=x:=rf_ext (by first | exact e1 | (injection e1))
   exact end1 _ rfl rfl ⟨(k:Nat),rfl,⟨fun _=>by rw [e1];exact hmem,fun _=>by omega⟩⟩
  ·have e1:¬ x=⟨rn,rm,rp,ri⟩:=fun e=>e1 (by rw [e])
   refine⟨_,wrap_i64 (by omega) (by omega),?_⟩
   refine⟨k+1,⟨by omega,fun y hy=>?_⟩,ent_of [] [] [] rfl (sk) (sk) rfl,by show l.length - (k+1)<l.length - k;omega⟩
   rcases hnx y hy with rfl | hy
   ·exact e1
   ·exact k2 y hy
 obtain⟨rn,rm,rp,ri⟩:=r
 refine pure_of_vc Tryz.func109 rfl rfl rfl ?_
 refine hI.at fun e he=>?_
 obtain⟨n,rfl,hn⟩:=he
 (first | refine brLt (fun g=>?_) (fun g=>?_) | refine brLe (fun g=>?_) (fun g=>?_) | refine brEq (fun g=>?_) (fun g=>?_))
 ·have g:(0:Int)≤n:=g
  exact end1 _ rfl rfl (retB (decide_eq_true (hn.1 g)).symm)
 ·have g:¬ (0:Int)≤n:=g
  exact end1 _ rfl rfl (retB (decide_eq_false fun h=>g (hn.2 h)).symm)
set_option maxHeartbeats 40000000
abbrev otR4:OT:=(.pure 0 (.pure 1 (.pure 2 (.pure 3 (.pure 4 (.eff 5 [] .fin .nil))))))
theorem ckrefs_h {ds:List De} {a:Nat} {es:List (List UInt8 × PV)} (l:List Iss) (h:CkS ds a es) (d:De) (hr:∀ r∈d.refs,r.name ≠ []) (hdr:d.refs.length≤100) (hl:l.length≤90000):HoldsG cx 83 [.ptr 0 0 0, .p d.pv] (ckS ds a es l) (nQ ds a es (l++refsI (ds.take a) d [] d.refs)):=by
 obtain⟨dk,dn,dnm,dpl,drs,dcs⟩:=d
 have hdr:drs.length≤100:=hdr
 have hr:∀ r∈drs,r.name ≠ []:=hr
 obtain⟨R,hR⟩:∃ R,R=l++refsI (ds.take a) ⟨dk,dn,dnm,dpl,drs,dcs⟩ [] drs:=⟨_,rfl⟩
 show HoldsG cx _ _ _ (nQ ds a es (l++refsI (ds.take a) ⟨dk,dn,dnm,dpl,drs,dcs⟩ [] drs))
 rw [← hR]
 refine holdsN_of_vc Tryz.func83 rfl rfl rfl ?_
 refine⟨Nat × List Iss,fun x=>[(0, .ptr 0 0 0),(3, .ptr 4 0 0),(8, .p (rfl_ drs)),(9, .p (i64 drs.length)),(10, .p (i64 x.1))],fun x=>⟨5,[(4,dcO ⟨dk,dn,dnm,dpl,drs,dcs⟩),(3,isO x.2),(1,fmO es),(0,ckO ds (a:Nat) 3 x.2.length)]⟩,fun x=>x.1≤drs.length∧x.2.length≤l.length+2 * x.1∧R=x.2++refsI (ds.take a) ⟨dk,dn,dnm,dpl,drs,dcs⟩ (drs.take x.1) (drs.drop x.1),fun x=>drs.length - x.1,?_,?_⟩
 ·exact⟨(0,l),⟨Nat.zero_le _,by simp,hR⟩,ent_of [] [(3,2),(4,3)] [] rfl ⟨⟨rfl,rfl⟩,⟨rfl,rfl⟩,rfl,congrArg (fun n:Nat=>i64 n) (List.length_map ..).symm,rfl,trivial⟩ (sk) rfl⟩
 rintro⟨k,cur⟩ ⟨k1,k2,k3⟩
 simp only [] at k1 k2 k3
 (first | refine brLt (fun m1=>?_) (fun m1=>?_) | refine brLe (fun m1=>?_) (fun m1=>?_) | refine brEq (fun m1=>?_) (fun m1=>?_))
 rotate_left
 ·have m1:¬ (k:Int)<(drs.length:Nat):=m1
  rw [List.drop_eq_nil_of_le (by omega),refsI,List.append_nil] at k3
  exact⟨[],[(3,3)],[], .returned und,ckT ds a es cur,rfl,sk,sk,rfl,by rw [k3]⟩
 have m1:(k:Int)<(drs.length:Nat):=m1
 have hk:k<drs.length:=by omega
 have hcell:=rcell hk
 have hxn:=hr _ (getD_memL rf0 hk)
 have hstep:refsI (ds.take a) ⟨dk,dn,dnm,dpl,drs,dcs⟩ (drs.take k) (drs.drop k)=(if drs.getD k rf0∈drs.take k then [⟨2,a,(drs.getD k rf0).name⟩] else [])++(noteI (refI (ds.take a) ⟨dk,dn,dnm,dpl,drs,dcs⟩ (drs.getD k rf0)) a (drs.getD k rf0).name++refsI (ds.take a) ⟨dk,dn,dnm,dpl,drs,dcs⟩ (drs.take (k+1)) (drs.drop (k+1))):=by
  rw [dropD rf0 hk,refsI,h.tk,take_succ_getD rf0 hk]
 generalize drs.getD k rf0=x at hcell hxn hstep
 have hC:=rindex_c (drs.take k) x (by rw [List.length_take];omega)
 have ea:[rfl_ (drs.take k),x.pv]=[PV.lsts 4 ((drs.map Rf.cells).take ((k:Nat):Int).toNat),x.pv]:=by show [PV.lsts 4 ((drs.take k).map Rf.cells),x.pv]=_;rw [List.map_take];rfl
 rw [ea] at hC
 refine⟨_,⟨by omega,x.cells,hcell,rfl⟩,?_⟩
 refine vdraw_ot otR4 (by kernel_rfl) ?_
 refine⟨by show(0:Int)≤(k:Nat)∧((k:Nat):Int)≤((drs.map Rf.cells).length:Nat);rw [List.length_map];omega,?_⟩
 by_cases hm:x∈drs.take k
 ·rw [decide_eq_true hm] at hC
  rw [if_pos hm] at hstep
  refine hC.eq rfl ?_
  refine(note1_h ds a es (cur) 2 x.name (by first | omega | (simp only [List.length_append,List.length_cons,List.length_nil];omega))).holds.useT [6] [(2,3)] rfl (sk) ⟨_,_,rfl,⟨rfl,rfl⟩,_,_,rfl,rfl,_,_,rfl,⟨_,rfl,by show 0+1≤1;decide,rfl⟩,rfl⟩ fun e0 H0 hq=>?_
  obtain⟨rfl,rfl⟩:=hq
  refine⟨rfl,_,⟨8,(7,isO ((cur)++[Iss.mk 2 (a:Nat) x.name]))::(1,fmO es)::(0,ckO ds (a:Nat) 7 ((cur)++[Iss.mk 2 (a:Nat) x.name]).length)::[(6,sfO x.name),(5,rfO x),(4,dcO ⟨dk,dn,dnm,dpl,drs,dcs⟩)]⟩,rfl,rfl,?_⟩
  refine(reference_h (cur++[Iss.mk 2 (a:Nat) x.name]) h ⟨dk,dn,dnm,dpl,drs,dcs⟩ hxn).holds.useT [] [(2,7)] rfl (sk) (sk) fun e0 H0 hq=>?_
  obtain⟨rfl,rfl⟩:=hq
  refine⟨rfl,_,⟨8,(7,isO (cur++[Iss.mk 2 (a:Nat) x.name]))::(1,fmO es)::(0,ckO ds (a:Nat) 7 (cur++[Iss.mk 2 (a:Nat) x.name]).length)::[(6,sfO x.name),(5,rfO x),(4,dcO ⟨dk,dn,dnm,dpl,drs,dcs⟩)]⟩,rfl,rfl,?_⟩
  refine And.intro (fun z=>?_) (fun z=>?_)
  ·have z:refI (ds.take a) ⟨dk,dn,dnm,dpl,drs,dcs⟩ x=0:=z
   rw [z] at hstep
   refine⟨((k+1:Nat):Int),by rw [Int.natCast_add];exact wrap_i64 (by omega) (by omega),?_⟩
   exact⟨(k+1,cur++[Iss.mk 2 (a:Nat) x.name]),⟨by show k+1≤drs.length;omega,by show(cur++[Iss.mk 2 (a:Nat) x.name]).length≤l.length+2 * (k+1);(first | omega | (simp only [List.length_append,List.length_cons,List.length_nil];omega)),by rw [k3];rw [hstep,List.append_assoc];rfl⟩,ent_of [] [(3,7),(4,4)] [] rfl (sk) (sk) rfl,by show drs.length - (k+1)<drs.length - k;omega⟩
  ·have z:¬ refI (ds.take a) ⟨dk,dn,dnm,dpl,drs,dcs⟩ x=0:=z
   rw [noteI,if_neg z] at hstep
   generalize refI (ds.take a) ⟨dk,dn,dnm,dpl,drs,dcs⟩ x=kk at hstep
   refine(note1_h ds a es (cur++[Iss.mk 2 (a:Nat) x.name]) kk x.name (by first | omega | (simp only [List.length_append,List.length_cons,List.length_nil];omega))).holds.useT [8] [(2,7)] rfl (sk) ⟨_,_,rfl,⟨rfl,rfl⟩,_,_,rfl,rfl,_,_,rfl,⟨_,rfl,by show 0+1≤1;decide,rfl⟩,rfl⟩ fun e0 H0 hq=>?_
   obtain⟨rfl,rfl⟩:=hq
   refine⟨rfl,_,⟨10,(9,isO ((cur++[Iss.mk 2 (a:Nat) x.name])++[Iss.mk kk (a:Nat) x.name]))::(1,fmO es)::(0,ckO ds (a:Nat) 9 ((cur++[Iss.mk 2 (a:Nat) x.name])++[Iss.mk kk (a:Nat) x.name]).length)::((8,sfO x.name)::[(6,sfO x.name),(5,rfO x),(4,dcO ⟨dk,dn,dnm,dpl,drs,dcs⟩)])⟩,rfl,rfl,?_⟩
   refine⟨((k+1:Nat):Int),by rw [Int.natCast_add];exact wrap_i64 (by omega) (by omega),?_⟩
   exact⟨(k+1,(cur++[Iss.mk 2 (a:Nat) x.name])++[Iss.mk kk (a:Nat) x.name]),⟨by show k+1≤drs.length;omega,by show((cur++[Iss.mk 2 (a:Nat) x.name])++[Iss.mk kk (a:Nat) x.name]).length≤l.length+2 * (k+1);(first | omega | (simp only [List.length_append,List.length_cons,List.length_nil];omega)),by rw [k3];rw [hstep];simp [List.append_assoc]⟩,ent_of [] [(3,9),(4,4)] [] rfl (sk) (sk) rfl,by show drs.length - (k+1)<drs.length - k;omega⟩
 ·rw [decide_eq_false hm] at hC
  rw [if_neg hm] at hstep
  refine hC.eq rfl ?_
  refine(reference_h (cur) h ⟨dk,dn,dnm,dpl,drs,dcs⟩ hxn).holds.useT [] [(2,3)] rfl (sk) (sk) fun e0 H0 hq=>?_
  obtain⟨rfl,rfl⟩:=hq
  refine⟨rfl,_,⟨6,(3,isO (cur))::(1,fmO es)::(0,ckO ds (a:Nat) 3 (cur).length)::[(5,rfO x),(4,dcO ⟨dk,dn,dnm,dpl,drs,dcs⟩)]⟩,rfl,rfl,?_⟩
  refine And.intro (fun z=>?_) (fun z=>?_)
  ·have z:refI (ds.take a) ⟨dk,dn,dnm,dpl,drs,dcs⟩ x=0:=z
   rw [z] at hstep
   refine⟨((k+1:Nat):Int),by rw [Int.natCast_add];exact wrap_i64 (by omega) (by omega),?_⟩
   exact⟨(k+1,cur),⟨by show k+1≤drs.length;omega,by show(cur).length≤l.length+2 * (k+1);(first | omega | (simp only [List.length_append,List.length_cons,List.length_nil];omega)),by rw [k3];rw [hstep];rfl⟩,ent_of [] [(3,3),(4,4)] [] rfl (sk) (sk) rfl,by show drs.length - (k+1)<drs.length - k;omega⟩
  ·have z:¬ refI (ds.take a) ⟨dk,dn,dnm,dpl,drs,dcs⟩ x=0:=z
   rw [noteI,if_neg z] at hstep
   generalize refI (ds.take a) ⟨dk,dn,dnm,dpl,drs,dcs⟩ x=kk at hstep
   refine(note1_h ds a es (cur) kk x.name (by first | omega | (simp only [List.length_append,List.length_cons,List.length_nil];omega))).holds.useT [6] [(2,3)] rfl (sk) ⟨_,_,rfl,⟨rfl,rfl⟩,_,_,rfl,rfl,_,_,rfl,⟨_,rfl,by show 0+1≤1;decide,rfl⟩,rfl⟩ fun e0 H0 hq=>?_
   obtain⟨rfl,rfl⟩:=hq
   refine⟨rfl,_,⟨8,(7,isO ((cur)++[Iss.mk kk (a:Nat) x.name]))::(1,fmO es)::(0,ckO ds (a:Nat) 7 ((cur)++[Iss.mk kk (a:Nat) x.name]).length)::((6,sfO x.name)::[(5,rfO x),(4,dcO ⟨dk,dn,dnm,dpl,drs,dcs⟩)])⟩,rfl,rfl,?_⟩
   refine⟨((k+1:Nat):Int),by rw [Int.natCast_add];exact wrap_i64 (by omega) (by omega),?_⟩
   exact⟨(k+1,(cur)++[Iss.mk kk (a:Nat) x.name]),⟨by show k+1≤drs.length;omega,by show((cur)++[Iss.mk kk (a:Nat) x.name]).length≤l.length+2 * (k+1);(first | omega | (simp only [List.length_append,List.length_cons,List.length_nil];omega)),by rw [k3];rw [hstep];simp [List.append_assoc]⟩,ent_of [] [(3,7),(4,4)] [] rfl (sk) (sk) rfl,by show drs.length - (k+1)<drs.length - k;omega⟩
theorem sum_snoc (l:List Int) (k:Nat) (h:k<l.length):(l.take (k+1)).sum=(l.take k).sum+l.getD k 0:=by
 rw [take_succ_getD 0 h,List.sum_append];simp
theorem row_c (nums:List Int) (n g:Int) (hw:∀ x∈nums,-9999≤x∧x≤9999) (hl:nums.length≤100):Pure cx 86 [ints nums,i64 n,i64 g] (·=.ret [.bool (nums.all (fun w=>decide (0≤w)) && (decide ((nums.length:Int)=n) && decide (nums.sum=g)))]):=by
 obtain⟨R,hR⟩:∃ R,R=(nums.all (fun w=>decide (0≤w)) && (decide ((nums.length:Int)=n) && decide (nums.sum=g))):=⟨_,rfl⟩
 rw [← hR]
 have hm:(nums.map i64).length=nums.length:=List.length_map ..
 refine pure_of_vc Tryz.func86 rfl rfl rfl ?_
 refine⟨Nat,fun k=>[(0, .p (ints nums)),(1, .p (i64 n)),(2, .p (i64 g)),(7, .p (i64 (nums.take k).sum)),(10, .p (ints nums)),(11, .p (i64 nums.length)),(12, .p (i64 k))],fun _=>⟨0,[]⟩,fun k=>k≤nums.length∧(∀ x∈nums.take k,0≤x)∧(nums.take k).sum≤9999 * k∧0≤(nums.take k).sum,fun k=>nums.length - k,?_,?_⟩
 ·exact⟨0,⟨Nat.zero_le _,by simp,by simp,by simp⟩,ent_of [] [] [] rfl ⟨rfl,rfl,rfl,rfl,rfl,congrArg (fun n:Nat=>i64 n) hm.symm,rfl,trivial⟩ trivial rfl⟩
 rintro k ⟨k1,k2,k3,k4⟩
 (first | refine brLt (fun m1=>?_) (fun m1=>?_) | refine brLe (fun m1=>?_) (fun m1=>?_) | refine brEq (fun m1=>?_) (fun m1=>?_))
 ·have m1:(k:Int)<(nums.length:Nat):=m1
  have hk:k<nums.length:=by omega
  have hc:=icell hk
  have hx:=hw _ (getD_memL 0 hk)
  have hs:=sum_snoc nums k hk
  have hmem:=getD_memL 0 hk
  have hnx:∀ y∈nums.take (k+1),y=nums.getD k 0∨y∈nums.take k:=fun y hy=>by
   rw [take_succ_getD 0 hk] at hy
   rcases List.mem_append.1 hy with hy | hy
   ·exact .inr hy
   ·exact .inl (List.mem_singleton.1 hy)
  generalize nums.getD k 0=x at hc hx hs hmem hnx
  refine⟨_,⟨by omega,i64 x,hc,rfl⟩,?_⟩
  (first | refine brLt (fun w1=>?_) (fun w1=>?_) | refine brLe (fun w1=>?_) (fun w1=>?_) | refine brEq (fun w1=>?_) (fun w1=>?_))
  ·have w1:x<0:=w1
   exact end1 _ rfl rfl (retB (by rw [hR,List.all_eq_false.2 ⟨x,hmem,by simp;omega⟩];rfl))
  have w1:¬ x<0:=w1
  refine⟨(nums.take (k+1)).sum,by rw [hs];exact wrap_i64 (by omega) (by omega),?_⟩
  refine⟨_,wrap_i64 (by omega) (by omega),?_⟩
  refine⟨k+1,⟨by omega,fun y hy=>?_,by rw [hs];omega,by rw [hs];omega⟩,ent_of [] [] [] rfl (sk) trivial rfl,by show nums.length - (k+1)<nums.length - k;omega⟩
  rcases hnx y hy with rfl | hy
  ·omega
  ·exact k2 y hy
 have m1:¬ (k:Int)<(nums.length:Nat):=m1
 rw [take_all (by omega)] at k2
 have ha:nums.all (fun w=>decide (0≤w))=true:=List.all_eq_true.2 fun x hx=>decide_eq_true (k2 x hx)
 rw [ha] at hR
 (first | refine brLt (fun e1=>?_) (fun e1=>?_) | refine brLe (fun e1=>?_) (fun e1=>?_) | refine brEq (fun e1=>?_) (fun e1=>?_))
 rotate_left
 ·have e1:¬ ((nums.map i64).length:Int)=n:=e1
  rw [hm] at e1
  exact end1 _ rfl rfl (retB (by rw [hR,decide_eq_false e1];rfl))
 have e1:((nums.map i64).length:Int)=n:=e1
 rw [hm] at e1
 rw [decide_eq_true e1] at hR
 (first | refine brLt (fun e2=>?_) (fun e2=>?_) | refine brLe (fun e2=>?_) (fun e2=>?_) | refine brEq (fun e2=>?_) (fun e2=>?_))
 ·have e2:(nums.take k).sum=g:=e2
  rw [take_all (by omega)] at e2
  exact end1 _ rfl rfl (retB (by rw [hR,decide_eq_true e2];rfl))
 ·have e2:¬ (nums.take k).sum=g:=e2
  rw [take_all (by omega)] at e2
  exact end1 _ rfl rfl (retB (by rw [hR,decide_eq_false e2];rfl))
def fnW:AV:=.fn (.func 111) [] [.ptr 5 0 0, .ptr 3 0 0, .ptr 4 0 0]
def cbO:AObj:=⟨84,false, .bx [.ptr 0 0 0]⟩
def fwO:AObj:=⟨194,false, .bx [fnW]⟩
abbrev wkS (ds:List De) (a:Nat) (es:List (List UInt8 × PV)) (d:De) (l:List Iss):Hp:=⟨6,[(5,fwO),(4,dcO d),(3,cbO),(2,isO l),(1,fmO es),(0,ckO ds (a:Nat) 2 l.length)]⟩
abbrev wkT (ds:List De) (a:Nat) (es:List (List UInt8 × PV)) (d:De) (l:List Iss):Hp:=⟨7,[(6,isO l),(5,fwO),(4,dcO d),(3,cbO),(1,fmO es),(0,ckO ds (a:Nat) 6 l.length)]⟩
def wQ (ds:List De) (a:Nat) (es:List (List UInt8 × PV)) (d:De) (l:List Iss) (e:AE) (H':Hp):Prop:=e=.returned und∧H'=wkT ds a es d l
mutual
def WkOK:Cd→Prop
 | .mk op _ _ _ r st ar=>((ar=[]→op=0∨(r.name ≠ []∧(op=5→1≤st.length)∧st.length≤100))∧(op=0→ar=[]))∧ar.length≤100∧WkOKs ar
def WkOKs:List Cd→Prop
 | []=>True
 | c::r=>WkOK c∧WkOKs r
end
theorem wkOKs_mem:∀ {l:List Cd} {c:Cd},WkOKs l→c∈l→WkOK c
 | [],_,_,h=>by cases h
 | x::l,c,hl,h=>by
  rw [WkOKs] at hl
  rcases List.mem_cons.1 h with rfl | h
  ·exact hl.1
  ·exact wkOKs_mem hl.2 h
theorem walk_h {ds:List De} {a:Nat} {es:List (List UInt8 × PV)} (h:CkS ds a es) (d:De) (hdr:d.refs.length≤100):∀ (m:Nat) (c:Cd) (l:List Iss),csz c≤m→WkOK c→(l++condI (ds.take a) d c).length≤100000 →
  HoldsG cx 111 [.p c.pv, .ptr 5 0 0, .ptr 3 0 0, .ptr 4 0 0] (wkS ds a es d l) (wQ ds a es d (l++condI (ds.take a) d c))
 | 0,c,_,hz,_,_=>by cases c;rw [csz] at hz;omega
 | m+1, .mk op n rel val r st ar,l,hz,hw,hl=>by
  have IH:=walk_h h d hdr m
  obtain⟨dk,dn,dnm,dpl,drs,dcs⟩:=d
  have hdr:drs.length≤100:=hdr
  rw [csz] at hz
  rw [WkOK] at hw
  obtain⟨⟨w1,_⟩,w2,w3⟩:=hw
  have hC1:ar ≠ []→condI (ds.take a) ⟨dk,dn,dnm,dpl,drs,dcs⟩ (.mk op n rel val r st ar)=condIs (ds.take a) ⟨dk,dn,dnm,dpl,drs,dcs⟩ ar:=fun hn=>by
   cases ar with
   | nil=>exact absurd rfl hn
   | cons x ar=>rw [condI,condIs]
  have hC0:ar=[]→condI (ds.take a) ⟨dk,dn,dnm,dpl,drs,dcs⟩ (.mk op n rel val r st ar)=if op=0 then [] else noteI (testI (ds.take a) ⟨dk,dn,dnm,dpl,drs,dcs⟩ op n val r st) a r.name:=fun hn=>by
   subst hn
   rw [condI,h.tk]
  obtain⟨R,hR⟩:∃ R,R=l++condI (ds.take a) ⟨dk,dn,dnm,dpl,drs,dcs⟩ (.mk op n rel val r st ar):=⟨_,rfl⟩
  rw [← hR] at hl ⊢
  have hcl:(cellsL ar).length=ar.length:=by rw [cellsL_map,List.length_map]
  refine holdsN_of_vc Tryz.func111 rfl rfl rfl ?_
  refine⟨Nat × List Iss,fun x=>[(1, .ptr 5 0 0),(2, .ptr 3 0 0),(3, .ptr 4 0 0),(4, .ptr 7 0 0),(9, .p (.lsts 10 (cellsL ar))),(10, .p (i64 ar.length)),(11, .p (i64 x.1))],fun x=>⟨8,[(7,cnO (.mk op n rel val r st ar)),(6,isO x.2),(5,fwO),(4,dcO ⟨dk,dn,dnm,dpl,drs,dcs⟩),(3,cbO),(1,fmO es),(0,ckO ds (a:Nat) 6 x.2.length)]⟩,fun x=>x.1≤ar.length∧x.2++condIs (ds.take a) ⟨dk,dn,dnm,dpl,drs,dcs⟩ (ar.drop x.1)=l++condIs (ds.take a) ⟨dk,dn,dnm,dpl,drs,dcs⟩ ar,fun x=>ar.length - x.1,?_,?_⟩
  ·exact⟨(0,l),⟨Nat.zero_le _,rfl⟩,ent_of [] [(6,2),(7,6)] [] rfl ⟨⟨rfl,rfl⟩,⟨rfl,rfl⟩,⟨rfl,rfl⟩,⟨rfl,rfl⟩,rfl,congrArg (fun n:Nat=>i64 n) hcl.symm,rfl,trivial⟩ (sk) rfl⟩
  rintro⟨k,cur⟩ ⟨k1,k2⟩
  simp only [] at k1 k2
  (first | refine brLt (fun m1=>?_) (fun m1=>?_) | refine brLe (fun m1=>?_) (fun m1=>?_) | refine brEq (fun m1=>?_) (fun m1=>?_))
  ·have m1:(k:Int)<(ar.length:Nat):=m1
   have hk:k<ar.length:=by omega
   have hne:ar ≠ []:=fun e=>by rw [e] at hk;cases hk
   have hcell:(cellsL ar)[k]?=some (ar.getD k cd0).cells:=by rw [cellsL_map];exact ccell hk
   have hmem:=getD_memL cd0 hk
   have hsz:=csz_mem hmem
   have hxw:=wkOKs_mem w3 hmem
   rw [dropD cd0 hk,condIs,← List.append_assoc] at k2
   have hlen:((cur++condI (ds.take a) ⟨dk,dn,dnm,dpl,drs,dcs⟩ (ar.getD k cd0))++condIs (ds.take a) ⟨dk,dn,dnm,dpl,drs,dcs⟩ (ar.drop (k+1))).length≤100000:=by rw [k2,← hC1 hne,← hR];exact hl
   rw [List.length_append] at hlen
   generalize ar.getD k cd0=x at hcell hsz hxw k2 hlen
   obtain⟨xo,xn,xr,xv,xf,xs,xa⟩:=x
   refine⟨_,⟨by omega,(Cd.mk xo xn xr xv xf xs xa).cells,hcell,rfl⟩,?_⟩
   refine(IH (.mk xo xn xr xv xf xs xa) cur (by omega) hxw (by omega)).holds.useT [] [(2,6)] rfl (sk) (sk) fun e0 H0 hq=>?_
   obtain⟨rfl,rfl⟩:=hq
   generalize cur++condI (ds.take a) ⟨dk,dn,dnm,dpl,drs,dcs⟩ (.mk xo xn xr xv xf xs xa)=nxt at k2 hlen ⊢
   refine⟨rfl,_,⟨10,(9,isO nxt)::(5,fwO)::(4,dcO ⟨dk,dn,dnm,dpl,drs,dcs⟩)::(3,cbO)::(1,fmO es)::(0,ckO ds (a:Nat) 9 nxt.length)::[(8,cnO (.mk xo xn xr xv xf xs xa)),(7,cnO (.mk op n rel val r st ar))]⟩,rfl,rfl,?_⟩
   refine⟨((k+1:Nat):Int),by rw [Int.natCast_add];exact wrap_i64 (by omega) (by omega),?_⟩
   exact⟨(k+1,nxt),⟨by show k+1≤ar.length;omega,k2⟩,ent_of [] [(6,9),(7,7)] [] rfl (sk) (sk) rfl,by show ar.length - (k+1)<ar.length - k;omega⟩
  have m1:¬ (k:Int)<(ar.length:Nat):=m1
  rw [List.drop_eq_nil_of_le (by omega),condIs,List.append_nil] at k2
  (first | refine brLt (fun o0=>?_) (fun o0=>?_) | refine brLe (fun o0=>?_) (fun o0=>?_) | refine brEq (fun o0=>?_) (fun o0=>?_))
  ·have o0:op=0:=o0
   have hRc:R=cur:=by
    by_cases hn:ar=[]
    ·rw [hR,hC0 hn,if_pos o0,k2,hn,condIs]
    ·rw [hR,hC1 hn,k2]
   exact⟨[],[(6,6)],[], .returned und,wkT ds a es ⟨dk,dn,dnm,dpl,drs,dcs⟩ (cur),rfl,sk,sk,rfl,by rw [hRc]⟩
  have o0:¬ op=0:=o0
  (first | refine brLt (fun g1=>?_) (fun g1=>?_) | refine brLe (fun g1=>?_) (fun g1=>?_) | refine brEq (fun g1=>?_) (fun g1=>?_))
  ·have g1:(0:Int)<((cellsL ar).length:Nat):=g1
   rw [hcl] at g1
   have hRc:R=cur:=by rw [hR,hC1 (fun e=>by rw [e] at g1;exact absurd g1 (by decide)),k2]
   exact⟨[],[(6,6)],[], .returned und,wkT ds a es ⟨dk,dn,dnm,dpl,drs,dcs⟩ (cur),rfl,sk,sk,rfl,by rw [hRc]⟩
  have g1:¬ (0:Int)<((cellsL ar).length:Nat):=g1
  rw [hcl] at g1
  have hn:ar=[]:=List.eq_nil_of_length_eq_zero (by omega)
  have hw:=(w1 hn).resolve_left o0
  rw [hn,condIs,List.append_nil] at k2
  rw [hC0 hn,if_neg o0,← k2] at hR
  have hcl2:cur.length≤100000:=by rw [hR,List.length_append] at hl;omega
  refine(cktest_h (op:=op) (n:=n) (rel:=rel) (val:=val) (r:=r) (st:=st) (ar:=ar) cur h ⟨dk,dn,dnm,dpl,drs,dcs⟩ hw.1 hw.2.1 hw.2.2 hdr).holds.useT [] [(2,6)] rfl (sk) (sk) fun e0 H0 hq=>?_
  obtain⟨rfl,rfl⟩:=hq
  generalize testI (ds.take a) ⟨dk,dn,dnm,dpl,drs,dcs⟩ op n val r st=kk at hR
  refine⟨rfl,_,⟨8,(6,isO cur)::(1,fmO es)::(0,ckO ds (a:Nat) 6 cur.length)::[(7,cnO (.mk op n rel val r st ar)),(5,fwO),(4,dcO ⟨dk,dn,dnm,dpl,drs,dcs⟩),(3,cbO)]⟩,rfl,rfl,?_⟩
  refine And.intro (fun z=>?_) (fun z=>?_)
  ·have z:kk=0:=z
   rw [noteI,if_pos z,List.append_nil] at hR
   exact⟨[],[(6,6)],[], .returned und,wkT ds a es ⟨dk,dn,dnm,dpl,drs,dcs⟩ (cur),rfl,sk,sk,rfl,by rw [hR]⟩
  ·have z:¬ kk=0:=z
   rw [noteI,if_neg z] at hR
   refine(note1_h ds a es (cur) kk r.name (by first | omega | (simp only [List.length_append,List.length_cons,List.length_nil];omega))).holds.useT [8] [(2,6)] rfl (sk) ⟨_,_,rfl,⟨rfl,rfl⟩,_,_,rfl,rfl,_,_,rfl,⟨_,rfl,by show 0+1≤1;decide,rfl⟩,rfl⟩ fun e0 H0 hq=>?_
   obtain⟨rfl,rfl⟩:=hq
   refine⟨rfl,_,⟨10,(9,isO ((cur)++[Iss.mk kk (a:Nat) r.name]))::(1,fmO es)::(0,ckO ds (a:Nat) 9 ((cur)++[Iss.mk kk (a:Nat) r.name]).length)::[(8,sfO r.name),(7,cnO (.mk op n rel val r st ar)),(5,fwO),(4,dcO ⟨dk,dn,dnm,dpl,drs,dcs⟩),(3,cbO)]⟩,rfl,rfl,?_⟩
   exact⟨[],[(6,9)],[], .returned und,wkT ds a es ⟨dk,dn,dnm,dpl,drs,dcs⟩ (cur++[Iss.mk kk (a:Nat) r.name]),rfl,sk,sk,rfl,by rw [hR]⟩
def smO (g:Int):AObj:=⟨TInt,false, .bx [.p (i64 g)]⟩
def kcO (c:Cs):AObj:=⟨TCase,false, .bx (c.cells.map .p)⟩
theorem rowI_node {d:De} {nums:List Int} {g:Int} (h:¬ d.kind=5):rowI d nums g=(nums.all (fun w=>decide (0≤w)) && (decide ((nums.length:Int)=d.n) && decide (nums.sum=g))):=by rw [rowI,if_neg h]
theorem rowI_gain {d:De} {nums:List Int} {g:Int} (h:d.kind=5):rowI d nums g=(decide (nums.length=1) && (decide (-100≤nums.getD 0 0) && decide (nums.getD 0 0≤100))):=by rw [rowI,if_pos h]
structure CaOK (c:Cs):Prop where
 cond:WkOK c.cond
 nums:∀ x∈c.nums,-9999≤x∧x≤9999
 len:c.nums.length≤100
def rwQ (d:De) (g:Int) (b:Bool) (e:AE) (H':Hp):Prop:=e=.returned (.p (.bool b))∧H'=⟨2,[(1,smO g),(0,dcO d)]⟩
theorem node1_h (d:De) (g:Int) (nums:List Int) (hw:∀ x∈nums,-9999≤x∧x≤9999) (hl:nums.length≤100) (hk:¬ d.kind=5):HoldsG cx 85 [.p (ints nums), .ptr 0 0 0, .ptr 1 0 0] ⟨2,[(1,smO g),(0,dcO d)]⟩ (rwQ d g (rowI d nums g)):=by
 have hr:=row_c nums d.n g hw hl
 rw [← rowI_node hk] at hr
 obtain⟨dk,dn,dnm,dpl,drs,dcs⟩:=d
 generalize rowI ⟨dk,dn,dnm,dpl,drs,dcs⟩ nums g=b at hr
 refine holdsN_of_vc Tryz.func85 rfl rfl rfl ?_
 refine hr.eq rfl ?_
 exact⟨[],[],[], .returned (.p (.bool b)),⟨2,[(1,smO g),(0,dcO ⟨dk,dn,dnm,dpl,drs,dcs⟩)]⟩,rfl,sk,sk,rfl,rfl⟩
theorem gain1_c (d:De) (g:Int) (nums:List Int) (hk:d.kind=5):Pure cx 87 [ints nums] (·=.ret [.bool (rowI d nums g)]):=by
 obtain⟨R,hR⟩:∃ R,R=rowI d nums g:=⟨_,rfl⟩
 rw [← hR]
 rw [rowI_gain hk] at hR
 have hm:(nums.map i64).length=nums.length:=List.length_map ..
 refine pure_of_vc Tryz.func87 rfl rfl rfl ?_
 (first | refine brLt (fun h1=>?_) (fun h1=>?_) | refine brLe (fun h1=>?_) (fun h1=>?_) | refine brEq (fun h1=>?_) (fun h1=>?_))
 rotate_left
 ·have h1:¬ ((nums.map i64).length:Int)=1:=h1
  rw [hm] at h1
  exact end1 _ rfl rfl (retB (by rw [hR,decide_eq_false (show ¬ nums.length=1 by omega)];rfl))
 have h1:((nums.map i64).length:Int)=1:=h1
 rw [hm] at h1
 rw [decide_eq_true (show nums.length=1 by omega)] at hR
 have hc:=icell (l:=nums) (k:=0) (by omega)
 generalize nums.getD 0 0=x at hc hR
 refine⟨_,⟨by decide,i64 x,hc,rfl⟩,?_⟩
 (first | refine brLt (fun h2=>?_) (fun h2=>?_) | refine brLe (fun h2=>?_) (fun h2=>?_) | refine brEq (fun h2=>?_) (fun h2=>?_))
 rotate_left
 ·have h2:¬ -100≤x:=h2
  exact end1 _ rfl rfl (retB (by rw [hR,decide_eq_false h2];rfl))
 have h2:-100≤x:=h2
 refine⟨_,⟨by decide,i64 x,hc,rfl⟩,?_⟩
 (first | refine brLt (fun h3=>?_) (fun h3=>?_) | refine brLe (fun h3=>?_) (fun h3=>?_) | refine brEq (fun h3=>?_) (fun h3=>?_))
 ·have h3:x≤100:=h3
  exact end1 _ rfl rfl (retB (by rw [hR,decide_eq_true h2,decide_eq_true h3];rfl))
 ·have h3:¬ x≤100:=h3
  exact end1 _ rfl rfl (retB (by rw [hR,decide_eq_true h2,decide_eq_false h3];rfl))
theorem casesI_step (L:List De) (d:De) (g:Int) (c:Cs) (cs:List Cs):casesI L d g (c::cs)=(condI L d c.cond++(if rowI d c.nums g then [] else [⟨9,L.length,[]⟩]))++casesI L d g cs:=by rw [casesI,List.flatMap_cons];rfl
abbrev cgS (ds:List De) (a:Nat) (es:List (List UInt8 × PV)) (d:De) (g:Int) (l:List Iss):Hp:=⟨5,[(4,smO g),(3,dcO d),(2,isO l),(1,fmO es),(0,ckO ds (a:Nat) 2 l.length)]⟩
abbrev cgT (ds:List De) (a:Nat) (es:List (List UInt8 × PV)) (d:De) (g:Int) (l:List Iss):Hp:=⟨6,[(5,isO l),(4,smO g),(3,dcO d),(1,fmO es),(0,ckO ds (a:Nat) 5 l.length)]⟩
def cgQ (ds:List De) (a:Nat) (es:List (List UInt8 × PV)) (d:De) (g:Int) (l:List Iss) (e:AE) (H':Hp):Prop:=e=.returned und∧H'=cgT ds a es d g l
theorem casesN_h {ds:List De} {a:Nat} {es:List (List UInt8 × PV)} (l:List Iss) (h:CkS ds a es) (d:De) (g:Int) (hk:¬ d.kind=5) (hdr:d.refs.length≤100) (hcl:d.cases.length≤100) (hc:∀ c∈d.cases,CaOK c) (hl:(l++casesI (ds.take a) d g d.cases).length≤100000) :
  HoldsG cx 84 [.ptr 0 0 0, .p d.pv, .fn (.func 85) [] [.ptr 3 0 0, .ptr 4 0 0]] (cgS ds a es d g l) (cgQ ds a es d g (l++casesI (ds.take a) d g d.cases)):=by
 obtain⟨dk,dn,dnm,dpl,drs,dcs⟩:=d
 have hdr:drs.length≤100:=hdr
 have hcl:dcs.length≤100:=hcl
 have hc:∀ c∈dcs,CaOK c:=hc
 have hl:(l++casesI (ds.take a) ⟨dk,dn,dnm,dpl,drs,dcs⟩ g dcs).length≤100000:=hl
 obtain⟨R,hR⟩:∃ R,R=l++casesI (ds.take a) ⟨dk,dn,dnm,dpl,drs,dcs⟩ g dcs:=⟨_,rfl⟩
 show HoldsG cx _ _ _ (cgQ ds a es ⟨dk,dn,dnm,dpl,drs,dcs⟩ g (l++casesI (ds.take a) ⟨dk,dn,dnm,dpl,drs,dcs⟩ g dcs))
 rw [← hR] at hl ⊢
 have hm:(dcs.map Cs.cells).length=dcs.length:=List.length_map ..
 refine holdsN_of_vc Tryz.func84 rfl rfl rfl ?_
 refine⟨Nat × List Iss,fun x=>[(2, .fn (.func 85) [] [.ptr 3 0 0, .ptr 4 0 0]),(3, .ptr 6 0 0),(4, .ptr 7 0 0),(6, .ptr 8 0 0),(11, .p (css dcs)),(12, .p (i64 dcs.length)),(13, .p (i64 x.1))],fun x=>⟨9,[(8,⟨194,false, .bx [.fn (.func 111) [] [.ptr 8 0 0, .ptr 6 0 0, .ptr 7 0 0]]⟩),(7,dcO ⟨dk,dn,dnm,dpl,drs,dcs⟩),(6,cbO),(5,isO x.2),(4,smO g),(3,dcO ⟨dk,dn,dnm,dpl,drs,dcs⟩),(1,fmO es),(0,ckO ds (a:Nat) 5 x.2.length)]⟩,fun x=>x.1≤dcs.length∧x.2++casesI (ds.take a) ⟨dk,dn,dnm,dpl,drs,dcs⟩ g (dcs.drop x.1)=R,fun x=>dcs.length - x.1,?_,?_⟩
 ·exact⟨(0,l),⟨Nat.zero_le _,hR.symm⟩,ent_of [] [(5,2),(6,5),(7,6),(8,7)] [] rfl ⟨sk,⟨rfl,rfl⟩,⟨rfl,rfl⟩,⟨rfl,rfl⟩,rfl,congrArg (fun n:Nat=>i64 n) hm.symm,rfl,trivial⟩ (sk) rfl⟩
 rintro⟨k,cur⟩ ⟨k1,k2⟩
 simp only [] at k1 k2
 (first | refine brLt (fun m1=>?_) (fun m1=>?_) | refine brLe (fun m1=>?_) (fun m1=>?_) | refine brEq (fun m1=>?_) (fun m1=>?_))
 rotate_left
 ·have m1:¬ (k:Int)<(dcs.length:Nat):=m1
  rw [List.drop_eq_nil_of_le (by omega),show casesI (ds.take a) ⟨dk,dn,dnm,dpl,drs,dcs⟩ g []=[] from rfl,List.append_nil] at k2
  exact⟨[],[(5,5)],[], .returned und,cgT ds a es ⟨dk,dn,dnm,dpl,drs,dcs⟩ g cur,rfl,sk,sk,rfl,by rw [← k2]⟩
 have m1:(k:Int)<(dcs.length:Nat):=m1
 have hkk:k<dcs.length:=by omega
 have hcell:=scell hkk
 have hx:=hc _ (getD_memL cs0 hkk)
 rw [dropD cs0 hkk,casesI_step,h.tk] at k2
 generalize dcs.getD k cs0=x at hcell hx k2
 obtain⟨⟨xo,xn,xr,xv,xf,xs,xa⟩,xw⟩:=x
 obtain⟨x1,x2,x3⟩:=hx
 simp only [] at x1 x2 x3 k2
 have hlen:=hl
 rw [← k2,List.length_append,List.length_append,List.length_append] at hlen
 refine⟨_,⟨by omega,(⟨.mk xo xn xr xv xf xs xa,xw⟩:Cs).cells,hcell,rfl⟩,?_⟩
 refine(walk_h h ⟨dk,dn,dnm,dpl,drs,dcs⟩ hdr _ (.mk xo xn xr xv xf xs xa) cur (Nat.le_refl _) x1 (by rw [List.length_append];omega)).holds.useT [] [(2,5),(3,6),(4,7),(5,8)] rfl (sk) (sk) fun e0 H0 hq=>?_
 obtain⟨rfl,rfl⟩:=hq
 rw [← List.append_assoc,← List.append_assoc] at k2
 have hnl:(cur++condI (ds.take a) ⟨dk,dn,dnm,dpl,drs,dcs⟩ (.mk xo xn xr xv xf xs xa)).length≤100000:=by rw [List.length_append];omega
 clear hlen
 generalize cur++condI (ds.take a) ⟨dk,dn,dnm,dpl,drs,dcs⟩ (.mk xo xn xr xv xf xs xa)=nxt at k2 hnl ⊢
 refine⟨rfl,_,⟨11,(10,isO nxt)::(8,⟨194,false, .bx [.fn (.func 111) [] [.ptr 8 0 0, .ptr 6 0 0, .ptr 7 0 0]]⟩)::(7,dcO ⟨dk,dn,dnm,dpl,drs,dcs⟩)::(6,cbO)::(1,fmO es)::(0,ckO ds (a:Nat) 10 nxt.length)::[(9,kcO ⟨.mk xo xn xr xv xf xs xa,xw⟩),(4,smO g),(3,dcO ⟨dk,dn,dnm,dpl,drs,dcs⟩)]⟩,rfl,rfl,?_⟩
 have hr:=node1_h ⟨dk,dn,dnm,dpl,drs,dcs⟩ g xw x2 x3 hk
 by_cases hrow:rowI ⟨dk,dn,dnm,dpl,drs,dcs⟩ xw g=true
 ·rw [hrow] at hr k2
  rw [if_pos rfl,List.append_nil] at k2
  refine hr.holds.useT [] [(0,3),(1,4)] rfl (sk) (sk) fun e0 H0 hq=>?_
  obtain⟨rfl,rfl⟩:=hq
  refine⟨rfl,_,⟨11,(4,smO g)::(3,dcO ⟨dk,dn,dnm,dpl,drs,dcs⟩)::[(10,isO nxt),(8,⟨194,false, .bx [.fn (.func 111) [] [.ptr 8 0 0, .ptr 6 0 0, .ptr 7 0 0]]⟩),(7,dcO ⟨dk,dn,dnm,dpl,drs,dcs⟩),(6,cbO),(1,fmO es),(0,ckO ds (a:Nat) 10 nxt.length),(9,kcO ⟨.mk xo xn xr xv xf xs xa,xw⟩)]⟩,rfl,rfl,?_⟩
  refine⟨((k+1:Nat):Int),by rw [Int.natCast_add];exact wrap_i64 (by omega) (by omega),?_⟩
  exact⟨(k+1,nxt),⟨by show k+1≤dcs.length;omega,k2⟩,ent_of [] [(5,10),(6,6),(7,7),(8,8)] [] rfl ⟨sk,⟨rfl,rfl⟩,⟨rfl,rfl⟩,⟨rfl,rfl⟩,rfl,rfl,rfl,trivial⟩ (sk) rfl,by show dcs.length - (k+1)<dcs.length - k;omega⟩
 ·rw [Bool.not_eq_true] at hrow
  rw [hrow] at hr k2
  rw [if_neg (by decide)] at k2
  refine hr.holds.useT [] [(0,3),(1,4)] rfl (sk) (sk) fun e0 H0 hq=>?_
  obtain⟨rfl,rfl⟩:=hq
  refine⟨rfl,_,⟨11,(4,smO g)::(3,dcO ⟨dk,dn,dnm,dpl,drs,dcs⟩)::[(10,isO nxt),(8,⟨194,false, .bx [.fn (.func 111) [] [.ptr 8 0 0, .ptr 6 0 0, .ptr 7 0 0]]⟩),(7,dcO ⟨dk,dn,dnm,dpl,drs,dcs⟩),(6,cbO),(1,fmO es),(0,ckO ds (a:Nat) 10 nxt.length),(9,kcO ⟨.mk xo xn xr xv xf xs xa,xw⟩)]⟩,rfl,rfl,?_⟩
  refine(note0_h ds a es (nxt) 9 (by first | omega | (simp only [List.length_append,List.length_cons,List.length_nil];omega))).holds.useT [] [(2,10)] rfl (sk) (sk) fun e0 H0 hq=>?_
  obtain⟨rfl,rfl⟩:=hq
  refine⟨rfl,_,⟨12,(11,isO ((nxt)++[Iss.mk 9 (a:Nat) []]))::(1,fmO es)::(0,ckO ds (a:Nat) 11 ((nxt)++[Iss.mk 9 (a:Nat) []]).length)::[(4,smO g),(3,dcO ⟨dk,dn,dnm,dpl,drs,dcs⟩),(8,⟨194,false, .bx [.fn (.func 111) [] [.ptr 8 0 0, .ptr 6 0 0, .ptr 7 0 0]]⟩),(7,dcO ⟨dk,dn,dnm,dpl,drs,dcs⟩),(6,cbO),(9,kcO ⟨.mk xo xn xr xv xf xs xa,xw⟩)]⟩,rfl,rfl,?_⟩
  refine⟨((k+1:Nat):Int),by rw [Int.natCast_add];exact wrap_i64 (by omega) (by omega),?_⟩
  exact⟨(k+1,nxt++[Iss.mk 9 (a:Nat) []]),⟨by show k+1≤dcs.length;omega,k2⟩,ent_of [] [(5,11),(6,6),(7,7),(8,8)] [] rfl ⟨sk,⟨rfl,rfl⟩,⟨rfl,rfl⟩,⟨rfl,rfl⟩,rfl,rfl,rfl,trivial⟩ (sk) rfl,by show dcs.length - (k+1)<dcs.length - k;omega⟩
theorem casesG_h {ds:List De} {a:Nat} {es:List (List UInt8 × PV)} (l:List Iss) (h:CkS ds a es) (d:De) (g:Int) (hk:d.kind=5) (hdr:d.refs.length≤100) (hcl:d.cases.length≤100) (hc:∀ c∈d.cases,CaOK c) (hl:(l++casesI (ds.take a) d g d.cases).length≤100000) :
  HoldsG cx 84 [.ptr 0 0 0, .p d.pv, .p (.fn (.func 87) [] [])] (ckS ds a es l) (nQ ds a es (l++casesI (ds.take a) d g d.cases)):=by
 obtain⟨dk,dn,dnm,dpl,drs,dcs⟩:=d
 have hdr:drs.length≤100:=hdr
 have hcl:dcs.length≤100:=hcl
 have hc:∀ c∈dcs,CaOK c:=hc
 have hl:(l++casesI (ds.take a) ⟨dk,dn,dnm,dpl,drs,dcs⟩ g dcs).length≤100000:=hl
 obtain⟨R,hR⟩:∃ R,R=l++casesI (ds.take a) ⟨dk,dn,dnm,dpl,drs,dcs⟩ g dcs:=⟨_,rfl⟩
 show HoldsG cx _ _ _ (nQ ds a es (l++casesI (ds.take a) ⟨dk,dn,dnm,dpl,drs,dcs⟩ g dcs))
 rw [← hR] at hl ⊢
 have hm:(dcs.map Cs.cells).length=dcs.length:=List.length_map ..
 refine holdsN_of_vc Tryz.func84 rfl rfl rfl ?_
 refine⟨Nat × List Iss,fun x=>[(2, .p (.fn (.func 87) [] [])),(3, .ptr 4 0 0),(4, .ptr 5 0 0),(6, .ptr 6 0 0),(11, .p (css dcs)),(12, .p (i64 dcs.length)),(13, .p (i64 x.1))],fun x=>⟨7,[(6,⟨194,false, .bx [.fn (.func 111) [] [.ptr 6 0 0, .ptr 4 0 0, .ptr 5 0 0]]⟩),(5,dcO ⟨dk,dn,dnm,dpl,drs,dcs⟩),(4,cbO),(3,isO x.2),(1,fmO es),(0,ckO ds (a:Nat) 3 x.2.length)]⟩,fun x=>x.1≤dcs.length∧x.2++casesI (ds.take a) ⟨dk,dn,dnm,dpl,drs,dcs⟩ g (dcs.drop x.1)=R,fun x=>dcs.length - x.1,?_,?_⟩
 ·exact⟨(0,l),⟨Nat.zero_le _,hR.symm⟩,ent_of [] [(3,2),(4,3),(5,4),(6,5)] [] rfl ⟨rfl,⟨rfl,rfl⟩,⟨rfl,rfl⟩,⟨rfl,rfl⟩,rfl,congrArg (fun n:Nat=>i64 n) hm.symm,rfl,trivial⟩ (sk) rfl⟩
 rintro⟨k,cur⟩ ⟨k1,k2⟩
 simp only [] at k1 k2
 (first | refine brLt (fun m1=>?_) (fun m1=>?_) | refine brLe (fun m1=>?_) (fun m1=>?_) | refine brEq (fun m1=>?_) (fun m1=>?_))
 rotate_left
 ·have m1:¬ (k:Int)<(dcs.length:Nat):=m1
  rw [List.drop_eq_nil_of_le (by omega),show casesI (ds.take a) ⟨dk,dn,dnm,dpl,drs,dcs⟩ g []=[] from rfl,List.append_nil] at k2
  exact⟨[],[(3,3)],[], .returned und,ckT ds a es cur,rfl,sk,sk,rfl,by rw [← k2]⟩
 have m1:(k:Int)<(dcs.length:Nat):=m1
 have hkk:k<dcs.length:=by omega
 have hcell:=scell hkk
 have hx:=hc _ (getD_memL cs0 hkk)
 rw [dropD cs0 hkk,casesI_step,h.tk] at k2
 generalize dcs.getD k cs0=x at hcell hx k2
 obtain⟨⟨xo,xn,xr,xv,xf,xs,xa⟩,xw⟩:=x
 obtain⟨x1,x2,x3⟩:=hx
 simp only [] at x1 x2 x3 k2
 have hlen:=hl
 rw [← k2,List.length_append,List.length_append,List.length_append] at hlen
 refine⟨_,⟨by omega,(⟨.mk xo xn xr xv xf xs xa,xw⟩:Cs).cells,hcell,rfl⟩,?_⟩
 refine(walk_h h ⟨dk,dn,dnm,dpl,drs,dcs⟩ hdr _ (.mk xo xn xr xv xf xs xa) cur (Nat.le_refl _) x1 (by rw [List.length_append];omega)).holds.useT [] [(2,3),(3,4),(4,5),(5,6)] rfl (sk) (sk) fun e0 H0 hq=>?_
 obtain⟨rfl,rfl⟩:=hq
 rw [← List.append_assoc,← List.append_assoc] at k2
 have hnl:(cur++condI (ds.take a) ⟨dk,dn,dnm,dpl,drs,dcs⟩ (.mk xo xn xr xv xf xs xa)).length≤100000:=by rw [List.length_append];omega
 clear hlen
 generalize cur++condI (ds.take a) ⟨dk,dn,dnm,dpl,drs,dcs⟩ (.mk xo xn xr xv xf xs xa)=nxt at k2 hnl ⊢
 refine⟨rfl,_,⟨9,(8,isO nxt)::(6,⟨194,false, .bx [.fn (.func 111) [] [.ptr 6 0 0, .ptr 4 0 0, .ptr 5 0 0]]⟩)::(5,dcO ⟨dk,dn,dnm,dpl,drs,dcs⟩)::(4,cbO)::(1,fmO es)::(0,ckO ds (a:Nat) 8 nxt.length)::[(7,kcO ⟨.mk xo xn xr xv xf xs xa,xw⟩)]⟩,rfl,rfl,?_⟩
 have hr:=gain1_c ⟨dk,dn,dnm,dpl,drs,dcs⟩ g xw hk
 by_cases hrow:rowI ⟨dk,dn,dnm,dpl,drs,dcs⟩ xw g=true
 ·rw [hrow] at hr k2
  rw [if_pos rfl,List.append_nil] at k2
  refine hr.eq rfl ?_
  refine⟨((k+1:Nat):Int),by rw [Int.natCast_add];exact wrap_i64 (by omega) (by omega),?_⟩
  exact⟨(k+1,nxt),⟨by show k+1≤dcs.length;omega,k2⟩,ent_of [] [(3,8),(4,4),(5,5),(6,6)] [] rfl ⟨rfl,⟨rfl,rfl⟩,⟨rfl,rfl⟩,⟨rfl,rfl⟩,rfl,rfl,rfl,trivial⟩ (sk) rfl,by show dcs.length - (k+1)<dcs.length - k;omega⟩
 ·rw [Bool.not_eq_true] at hrow
  rw [hrow] at hr k2
  rw [if_neg (by decide)] at k2
  refine hr.eq rfl ?_
  refine(note0_h ds a es (nxt) 9 (by first | omega | (simp only [List.length_append,List.length_cons,List.length_nil];omega))).holds.useT [] [(2,8)] rfl (sk) (sk) fun e0 H0 hq=>?_
  obtain⟨rfl,rfl⟩:=hq
  refine⟨rfl,_,⟨10,(9,isO ((nxt)++[Iss.mk 9 (a:Nat) []]))::(1,fmO es)::(0,ckO ds (a:Nat) 9 ((nxt)++[Iss.mk 9 (a:Nat) []]).length)::[(6,⟨194,false, .bx [.fn (.func 111) [] [.ptr 6 0 0, .ptr 4 0 0, .ptr 5 0 0]]⟩),(5,dcO ⟨dk,dn,dnm,dpl,drs,dcs⟩),(4,cbO),(7,kcO ⟨.mk xo xn xr xv xf xs xa,xw⟩)]⟩,rfl,rfl,?_⟩
  refine⟨((k+1:Nat):Int),by rw [Int.natCast_add];exact wrap_i64 (by omega) (by omega),?_⟩
  exact⟨(k+1,nxt++[Iss.mk 9 (a:Nat) []]),⟨by show k+1≤dcs.length;omega,k2⟩,ent_of [] [(3,9),(4,4),(5,5),(6,6)] [] rfl ⟨rfl,⟨rfl,rfl⟩,⟨rfl,rfl⟩,⟨rfl,rfl⟩,rfl,rfl,rfl,trivial⟩ (sk) rfl,by show dcs.length - (k+1)<dcs.length - k;omega⟩
structure DcOK (d:De):Prop where
 ok:OkD d
 refs:d.refs.length≤100
 len:d.cases.length≤100
 cases:∀ c∈d.cases,CaOK c
theorem grain_hS {ds:List De} {a:Nat} {es:List (List UInt8 × PV)} (l:List Iss) (h:CkS ds a es) (d:De) (hk:d.kind=1) (hl:(l++oneI (ds.take a) d (grainI ds)).length≤90000):HoldsG cx 49 [.ptr 0 0 0, .p d.pv] (ckS ds a es l) (nQ ds a es (l++oneI (ds.take a) d (grainI ds))):=by
 obtain⟨R,hR⟩:∃ R,R=l++oneI (ds.take a) d (grainI ds):=⟨_,rfl⟩
 rw [← hR] at hl ⊢
 rw [oneI,if_pos hk,h.tk] at hR
 have hl1:l.length≤90000:=by rw [hR,List.length_append] at hl;omega
 obtain⟨dk,dn,dnm,dpl,drs,dcs⟩:=d
 simp only [] at hR
 refine holdsN_of_vc Tryz.func49 rfl rfl rfl ?_
 (first | refine brLt (fun h0=>?_) (fun h0=>?_) | refine brLe (fun h0=>?_) (fun h0=>?_) | refine brEq (fun h0=>?_) (fun h0=>?_))
 ·have h0:(0:Int)<(a:Nat):=h0
  rw [if_pos (.inl (by omega))] at hR
  refine(note0_h ds a es (l) 1 (by first | omega | (simp only [List.length_append,List.length_cons,List.length_nil];omega))).holds.useT [] [] rfl (sk) (sk) fun e0 H0 hq=>?_
  obtain⟨rfl,rfl⟩:=hq
  refine⟨rfl,_,⟨5,(4,isO ((l)++[Iss.mk 1 (a:Nat) []]))::(1,fmO es)::(0,ckO ds (a:Nat) 4 ((l)++[Iss.mk 1 (a:Nat) []]).length)::[(3,dcO ⟨dk,dn,dnm,dpl,drs,dcs⟩)]⟩,rfl,rfl,?_⟩
  exact⟨[],[(3,4)],[], .returned und,ckT ds a es (l++[Iss.mk 1 (a:Nat) []]),rfl,sk,sk,rfl,by rw [hR]⟩
 have h0:¬ (0:Int)<(a:Nat):=h0
 (first | refine brLt (fun h1=>?_) (fun h1=>?_) | refine brLe (fun h1=>?_) (fun h1=>?_) | refine brEq (fun h1=>?_) (fun h1=>?_))
 ·have h1:dn<1:=h1
  rw [if_pos (.inr (.inl h1))] at hR
  refine(note0_h ds a es (l) 1 (by first | omega | (simp only [List.length_append,List.length_cons,List.length_nil];omega))).holds.useT [] [] rfl (sk) (sk) fun e0 H0 hq=>?_
  obtain⟨rfl,rfl⟩:=hq
  refine⟨rfl,_,⟨5,(4,isO ((l)++[Iss.mk 1 (a:Nat) []]))::(1,fmO es)::(0,ckO ds (a:Nat) 4 ((l)++[Iss.mk 1 (a:Nat) []]).length)::[(3,dcO ⟨dk,dn,dnm,dpl,drs,dcs⟩)]⟩,rfl,rfl,?_⟩
  exact⟨[],[(3,4)],[], .returned und,ckT ds a es (l++[Iss.mk 1 (a:Nat) []]),rfl,sk,sk,rfl,by rw [hR]⟩
 have h1:¬ dn<1:=h1
 (first | refine brLt (fun h2=>?_) (fun h2=>?_) | refine brLe (fun h2=>?_) (fun h2=>?_) | refine brEq (fun h2=>?_) (fun h2=>?_))
 ·have h2:60<dn:=h2
  rw [if_pos (.inr (.inr h2))] at hR
  refine(note0_h ds a es (l) 1 (by first | omega | (simp only [List.length_append,List.length_cons,List.length_nil];omega))).holds.useT [] [] rfl (sk) (sk) fun e0 H0 hq=>?_
  obtain⟨rfl,rfl⟩:=hq
  refine⟨rfl,_,⟨5,(4,isO ((l)++[Iss.mk 1 (a:Nat) []]))::(1,fmO es)::(0,ckO ds (a:Nat) 4 ((l)++[Iss.mk 1 (a:Nat) []]).length)::[(3,dcO ⟨dk,dn,dnm,dpl,drs,dcs⟩)]⟩,rfl,rfl,?_⟩
  exact⟨[],[(3,4)],[], .returned und,ckT ds a es (l++[Iss.mk 1 (a:Nat) []]),rfl,sk,sk,rfl,by rw [hR]⟩
 ·have h2:¬ 60<dn:=h2
  rw [if_neg (by omega),List.append_nil] at hR
  exact⟨[],[(3,2)],[], .returned und,ckT ds a es (l),rfl,sk,sk,rfl,by rw [hR]⟩
theorem plate_hS {ds:List De} {a:Nat} {es:List (List UInt8 × PV)} (l:List Iss) (h:CkS ds a es) (d:De) (hd:OkD d) (hk:d.kind=2) (hl:(l++oneI (ds.take a) d (grainI ds)).length≤90000):HoldsG cx 50 [.ptr 0 0 0, .p d.pv] (ckS ds a es l) (nQ ds a es (l++oneI (ds.take a) d (grainI ds))):=by
 obtain⟨R,hR⟩:∃ R,R=l++oneI (ds.take a) d (grainI ds):=⟨_,rfl⟩
 rw [← hR] at hl ⊢
 rw [oneI,if_neg (by omega),if_pos hk,← List.append_assoc,h.tk] at hR
 have hl1:(l++twiceI (ds.take a) d).length≤90000:=by rw [hR,List.length_append] at hl;omega
 have hl2:l.length≤90000:=by rw [List.length_append] at hl1;omega
 have hT:=twice_h l h d (hd.name (.inl hk)) (by omega)
 obtain⟨dk,dn,dnm,dpl,drs,dcs⟩:=d
 generalize l++twiceI (ds.take a) ⟨dk,dn,dnm,dpl,drs,dcs⟩=L1 at hT hR hl1
 simp only [] at hR hT
 refine holdsN_of_vc Tryz.func50 rfl rfl rfl ?_
 refine(hT).holds.useT [] [] rfl (sk) (sk) fun e0 H0 hq=>?_
 obtain⟨rfl,rfl⟩:=hq
 refine⟨rfl,_,⟨5,(4,isO (L1))::(1,fmO es)::(0,ckO ds (a:Nat) 4 (L1).length)::[(3,dcO ⟨dk,dn,dnm,dpl,drs,dcs⟩)]⟩,rfl,rfl,?_⟩
 (first | refine brLt (fun h1=>?_) (fun h1=>?_) | refine brLe (fun h1=>?_) (fun h1=>?_) | refine brEq (fun h1=>?_) (fun h1=>?_))
 ·have h1:dn<1:=h1
  rw [if_pos (.inl h1)] at hR
  refine(note1_h ds a es (L1) 5 dnm (by first | omega | (simp only [List.length_append,List.length_cons,List.length_nil];omega))).holds.useT [5] [(2,4)] rfl (sk) ⟨_,_,rfl,⟨rfl,rfl⟩,_,_,rfl,rfl,_,_,rfl,⟨_,rfl,by show 0+1≤1;decide,rfl⟩,rfl⟩ fun e0 H0 hq=>?_
  obtain⟨rfl,rfl⟩:=hq
  refine⟨rfl,_,⟨7,(6,isO ((L1)++[Iss.mk 5 (a:Nat) dnm]))::(1,fmO es)::(0,ckO ds (a:Nat) 6 ((L1)++[Iss.mk 5 (a:Nat) dnm]).length)::[(5,sfO dnm),(3,dcO ⟨dk,dn,dnm,dpl,drs,dcs⟩)]⟩,rfl,rfl,?_⟩
  exact⟨[],[(3,6)],[], .returned und,ckT ds a es (L1++[Iss.mk 5 (a:Nat) dnm]),rfl,sk,sk,rfl,by rw [hR]⟩
 have h1:¬ dn<1:=h1
 (first | refine brLt (fun h2=>?_) (fun h2=>?_) | refine brLe (fun h2=>?_) (fun h2=>?_) | refine brEq (fun h2=>?_) (fun h2=>?_))
 ·have h2:6<dn:=h2
  rw [if_pos (.inr h2)] at hR
  refine(note1_h ds a es (L1) 5 dnm (by first | omega | (simp only [List.length_append,List.length_cons,List.length_nil];omega))).holds.useT [5] [(2,4)] rfl (sk) ⟨_,_,rfl,⟨rfl,rfl⟩,_,_,rfl,rfl,_,_,rfl,⟨_,rfl,by show 0+1≤1;decide,rfl⟩,rfl⟩ fun e0 H0 hq=>?_
  obtain⟨rfl,rfl⟩:=hq
  refine⟨rfl,_,⟨7,(6,isO ((L1)++[Iss.mk 5 (a:Nat) dnm]))::(1,fmO es)::(0,ckO ds (a:Nat) 6 ((L1)++[Iss.mk 5 (a:Nat) dnm]).length)::[(5,sfO dnm),(3,dcO ⟨dk,dn,dnm,dpl,drs,dcs⟩)]⟩,rfl,rfl,?_⟩
  exact⟨[],[(3,6)],[], .returned und,ckT ds a es (L1++[Iss.mk 5 (a:Nat) dnm]),rfl,sk,sk,rfl,by rw [hR]⟩
 ·have h2:¬ 6<dn:=h2
  rw [if_neg (by omega),List.append_nil] at hR
  exact⟨[],[(3,4)],[], .returned und,ckT ds a es (L1),rfl,sk,sk,rfl,by rw [hR]⟩
theorem choose_hS {ds:List De} {a:Nat} {es:List (List UInt8 × PV)} (l:List Iss) (h:CkS ds a es) (d:De) (hd:DcOK d) (hk:d.kind=4) (hl:(l++oneI (ds.take a) d (grainI ds)).length≤90000):HoldsG cx 52 [.ptr 0 0 0, .p d.pv] (ckS ds a es l) (nQ ds a es (l++oneI (ds.take a) d (grainI ds))):=by
 obtain⟨R,hR⟩:∃ R,R=l++oneI (ds.take a) d (grainI ds):=⟨_,rfl⟩
 rw [← hR] at hl ⊢
 rw [oneI,if_neg (by omega),if_neg (by omega),if_neg (by omega),if_pos hk,← List.append_assoc,← List.append_assoc] at hR
 have hl1:((l++twiceI (ds.take a) d)++cardI (ds.take a) d).length≤90000:=by rw [hR,List.length_append] at hl;omega
 have hl2:(l++twiceI (ds.take a) d).length≤90000:=by rw [List.length_append] at hl1;omega
 have hl3:l.length≤90000:=by rw [List.length_append] at hl2;omega
 have hT:=twice_h l h d (hd.ok.name (.inr (.inr hk))) (by omega)
 have hC:=card_h (l++twiceI (ds.take a) d) h d (by omega)
 have hF:=ckrefs_h ((l++twiceI (ds.take a) d)++cardI (ds.take a) d) h d hd.ok.refs hd.refs (by omega)
 rw [← hR] at hF
 generalize (l++twiceI (ds.take a) d)++cardI (ds.take a) d=L2 at hC hF hl1
 generalize l++twiceI (ds.take a) d=L1 at hT hC hl2
 clear hR hd hk
 obtain⟨dk,dn,dnm,dpl,drs,dcs⟩:=d
 refine holdsN_of_vc Tryz.func52 rfl rfl rfl ?_
 refine(hT).holds.useT [] [] rfl (sk) (sk) fun e0 H0 hq=>?_
 obtain⟨rfl,rfl⟩:=hq
 refine⟨rfl,_,⟨5,(4,isO (L1))::(1,fmO es)::(0,ckO ds (a:Nat) 4 (L1).length)::[(3,dcO ⟨dk,dn,dnm,dpl,drs,dcs⟩)]⟩,rfl,rfl,?_⟩
 refine(hC).holds.useT [] [(2,4)] rfl (sk) (sk) fun e0 H0 hq=>?_
 obtain⟨rfl,rfl⟩:=hq
 refine⟨rfl,_,⟨6,(5,isO (L2))::(1,fmO es)::(0,ckO ds (a:Nat) 5 (L2).length)::[(3,dcO ⟨dk,dn,dnm,dpl,drs,dcs⟩)]⟩,rfl,rfl,?_⟩
 refine(hF).holds.useT [] [(2,5)] rfl (sk) (sk) fun e0 H0 hq=>?_
 obtain⟨rfl,rfl⟩:=hq
 refine⟨rfl,_,⟨7,(6,isO (R))::(1,fmO es)::(0,ckO ds (a:Nat) 6 (R).length)::[(3,dcO ⟨dk,dn,dnm,dpl,drs,dcs⟩)]⟩,rfl,rfl,?_⟩
 exact⟨[],[(3,6)],[], .returned und,ckT ds a es R,rfl,sk,sk,rfl,rfl⟩
theorem gain_hS {ds:List De} {a:Nat} {es:List (List UInt8 × PV)} (l:List Iss) (h:CkS ds a es) (d:De) (hd:DcOK d) (hk:d.kind=5) (hl:(l++oneI (ds.take a) d (grainI ds)).length≤90000):HoldsG cx 53 [.ptr 0 0 0, .p d.pv] (ckS ds a es l) (nQ ds a es (l++oneI (ds.take a) d (grainI ds))):=by
 obtain⟨R,hR⟩:∃ R,R=l++oneI (ds.take a) d (grainI ds):=⟨_,rfl⟩
 rw [← hR] at hl ⊢
 rw [oneI,if_neg (by omega),if_neg (by omega),if_neg (by omega),if_neg (by omega),← List.append_assoc] at hR
 have hl1:(l++refsI (ds.take a) d [] d.refs).length≤90000:=by rw [hR,List.length_append] at hl;omega
 have hl3:l.length≤90000:=by rw [List.length_append] at hl1;omega
 have hF:=ckrefs_h l h d hd.ok.refs hd.refs (by omega)
 have hC:=casesG_h (l++refsI (ds.take a) d [] d.refs) h d (grainI ds) hk hd.refs hd.len hd.cases (by rw [← hR];omega)
 rw [← hR] at hC
 generalize l++refsI (ds.take a) d [] d.refs=L1 at hC hF hl1
 clear hR hd hk
 obtain⟨dk,dn,dnm,dpl,drs,dcs⟩:=d
 refine holdsN_of_vc Tryz.func53 rfl rfl rfl ?_
 refine(hF).holds.useT [] [] rfl (sk) (sk) fun e0 H0 hq=>?_
 obtain⟨rfl,rfl⟩:=hq
 refine⟨rfl,_,⟨5,(4,isO (L1))::(1,fmO es)::(0,ckO ds (a:Nat) 4 (L1).length)::[(3,dcO ⟨dk,dn,dnm,dpl,drs,dcs⟩)]⟩,rfl,rfl,?_⟩
 refine(hC).holds.useT [] [(2,4)] rfl (sk) (sk) fun e0 H0 hq=>?_
 obtain⟨rfl,rfl⟩:=hq
 refine⟨rfl,_,⟨6,(5,isO (R))::(1,fmO es)::(0,ckO ds (a:Nat) 5 (R).length)::[(3,dcO ⟨dk,dn,dnm,dpl,drs,dcs⟩)]⟩,rfl,rfl,?_⟩
 exact⟨[],[(3,5)],[], .returned und,ckT ds a es R,rfl,sk,sk,rfl,rfl⟩
theorem node_hS {ds:List De} {a:Nat} {es:List (List UInt8 × PV)} (l:List Iss) (h:CkS ds a es) (d:De) (hd:DcOK d) (hk:d.kind=3) (hpos:1≤ds.length) (hl:(l++oneI (ds.take a) d (grainI ds)).length≤90000):HoldsG cx 51 [.ptr 0 0 0, .p d.pv] (ckS ds a es l) (nQ ds a es (l++oneI (ds.take a) d (grainI ds))):=by
 obtain⟨R,hR⟩:∃ R,R=l++oneI (ds.take a) d (grainI ds):=⟨_,rfl⟩
 rw [← hR] at hl ⊢
 rw [oneI,if_neg (by omega),if_neg (by omega),if_pos hk,← List.append_assoc,← List.append_assoc,← List.append_assoc,← List.append_assoc] at hR
 obtain⟨L1,e1⟩:∃ L,L=l++twiceI (ds.take a) d:=⟨_,rfl⟩
 obtain⟨L2,e2⟩:∃ L,L=L1++plateI (ds.take a) d:=⟨_,rfl⟩
 obtain⟨L3,e3⟩:∃ L,L=L2++cardI (ds.take a) d:=⟨_,rfl⟩
 obtain⟨L4,e4⟩:∃ L,L=L3++refsI (ds.take a) d [] d.refs:=⟨_,rfl⟩
 rw [← e1,← e2,← e3,← e4] at hR
 have hl4:L4.length≤90000:=by rw [hR,List.length_append] at hl;omega
 have hl3:L3.length≤90000:=by rw [e4,List.length_append] at hl4;omega
 have hl2:L2.length≤90000:=by rw [e3,List.length_append] at hl3;omega
 have hl1:L1.length≤90000:=by rw [e2,List.length_append] at hl2;omega
 have hl0:l.length≤90000:=by rw [e1,List.length_append] at hl1;omega
 obtain⟨g,hg⟩:∃ g,g=grainI ds:=⟨_,rfl⟩
 have hT:=twice_h l h d (hd.ok.name (.inr (.inl hk))) (by omega)
 have hC:=card_h L2 h d (by omega)
 have hF:=ckrefs_h L3 h d hd.ok.refs hd.refs (by omega)
 have hX:=casesN_h L4 h d g (by omega) hd.refs hd.len hd.cases (by rw [hg,← hR];omega)
 rw [hg,← hR,← hg] at hX
 rw [← e1] at hT
 rw [← e3] at hC
 rw [← e4] at hF
 have h0:∃ t:De,(ds.map De.cells)[0]?=some t.cells∧g=if t.kind=1 then t.n else 0:=by
  cases ds with
  | nil=>cases hpos
  | cons t r=>exact⟨t,rfl,hg⟩
 clear hg
 obtain⟨⟨ek,en,enm,epl,ers,ecs⟩,h0,hg⟩:=h0
 simp only [] at hg
 clear hR e1 e3 e4 hk
 obtain⟨dk,dn,dnm,dpl,drs,dcs⟩:=d
 rw [plateI,h.tk] at e2
 simp only [] at e2
 by_cases hp:dpl=[]
 ·rw [if_pos hp,List.append_nil] at e2
  refine holdsN_of_vc Tryz.func51 rfl rfl rfl ?_
  refine(hT).holds.useT [] [] rfl (sk) (sk) fun e0 H0 hq=>?_
  obtain⟨rfl,rfl⟩:=hq
  refine⟨rfl,_,⟨5,(4,isO (L1))::(1,fmO es)::(0,ckO ds (a:Nat) 4 (L1).length)::[(3,dcO ⟨dk,dn,dnm,dpl,drs,dcs⟩)]⟩,rfl,rfl,?_⟩
  refine And.intro (fun _=>?_) (fun h=>absurd hp h)
  subst e2
  refine(hC).holds.useT [] [(2,4)] rfl (sk) (sk) fun e0 H0 hq=>?_
  obtain⟨rfl,rfl⟩:=hq
  refine⟨rfl,_,⟨6,(5,isO (L3))::(1,fmO es)::(0,ckO ds (a:Nat) 5 (L3).length)::[(3,dcO ⟨dk,dn,dnm,dpl,drs,dcs⟩)]⟩,rfl,rfl,?_⟩
  refine(hF).holds.useT [] [(2,5)] rfl (sk) (sk) fun e0 H0 hq=>?_
  obtain⟨rfl,rfl⟩:=hq
  refine⟨rfl,_,⟨7,(6,isO (L4))::(1,fmO es)::(0,ckO ds (a:Nat) 6 (L4).length)::[(3,dcO ⟨dk,dn,dnm,dpl,drs,dcs⟩)]⟩,rfl,rfl,?_⟩
  refine⟨_,⟨by decide,(De.mk ek en enm epl ers ecs).cells,h0,rfl⟩,?_⟩
  (first | refine brLt (fun e1=>?_) (fun e1=>?_) | refine brLe (fun e1=>?_) (fun e1=>?_) | refine brEq (fun e1=>?_) (fun e1=>?_))
  ·have e1:ek=1:=e1
   rw [if_pos e1] at hg
   refine⟨_,⟨by decide,(De.mk ek en enm epl ers ecs).cells,h0,rfl⟩,?_⟩
   subst hg
   refine hX.holds.useT [] [(2,6),(4,7)] rfl (sk) (sk) fun e0 H0 hq=>?_
   obtain⟨rfl,rfl⟩:=hq
   refine⟨rfl,_,⟨9,(8,isO R)::(7,smO g)::(3,dcO ⟨dk,dn,dnm,dpl,drs,dcs⟩)::(1,fmO es)::(0,ckO ds (a:Nat) 8 R.length)::[]⟩,rfl,rfl,?_⟩
   exact⟨[],[(3,8)],[], .returned und,ckT ds a es R,rfl,sk,sk,rfl,rfl⟩
  ·have e1:¬ ek=1:=e1
   rw [if_neg e1] at hg
   subst hg
   refine hX.holds.useT [] [(2,6),(4,7)] rfl (sk) (sk) fun e0 H0 hq=>?_
   obtain⟨rfl,rfl⟩:=hq
   refine⟨rfl,_,⟨9,(8,isO R)::(7,smO 0)::(3,dcO ⟨dk,dn,dnm,dpl,drs,dcs⟩)::(1,fmO es)::(0,ckO ds (a:Nat) 8 R.length)::[]⟩,rfl,rfl,?_⟩
   exact⟨[],[(3,8)],[], .returned und,ckT ds a es R,rfl,sk,sk,rfl,rfl⟩
 rw [if_neg hp] at e2
 cases hv:fstV (ds.take a) dpl with
 | none=>
  have hf:=h.none hp hv
  rw [hv] at e2
  simp only [] at e2
  refine holdsN_of_vc Tryz.func51 rfl rfl rfl ?_
  refine(hT).holds.useT [] [] rfl (sk) (sk) fun e0 H0 hq=>?_
  obtain⟨rfl,rfl⟩:=hq
  refine⟨rfl,_,⟨5,(4,isO (L1))::(1,fmO es)::(0,ckO ds (a:Nat) 4 (L1).length)::[(3,dcO ⟨dk,dn,dnm,dpl,drs,dcs⟩)]⟩,rfl,rfl,?_⟩
  refine And.intro (fun h=>absurd h hp) (fun _=>?_)
  refine VDraw.seq rfl ?_
  refine⟨_, .inr ⟨hf,rfl⟩,?_⟩
  refine(note1_h ds a es (L1) 3 dpl (by first | omega | (simp only [List.length_append,List.length_cons,List.length_nil];omega))).holds.useT [5] [(2,4)] rfl (sk) ⟨_,_,rfl,⟨rfl,rfl⟩,_,_,rfl,rfl,_,_,rfl,⟨_,rfl,by show 0+1≤1;decide,rfl⟩,rfl⟩ fun e0 H0 hq=>?_
  obtain⟨rfl,rfl⟩:=hq
  refine⟨rfl,_,⟨7,(6,isO ((L1)++[Iss.mk 3 (a:Nat) dpl]))::(1,fmO es)::(0,ckO ds (a:Nat) 6 ((L1)++[Iss.mk 3 (a:Nat) dpl]).length)::[(5,sfO dpl),(3,dcO ⟨dk,dn,dnm,dpl,drs,dcs⟩)]⟩,rfl,rfl,?_⟩
  rw [← e2]
  refine(hC).holds.useT [] [(2,6)] rfl (sk) (sk) fun e0 H0 hq=>?_
  obtain⟨rfl,rfl⟩:=hq
  refine⟨rfl,_,⟨8,(7,isO (L3))::(1,fmO es)::(0,ckO ds (a:Nat) 7 (L3).length)::[(5,sfO dpl),(3,dcO ⟨dk,dn,dnm,dpl,drs,dcs⟩)]⟩,rfl,rfl,?_⟩
  refine(hF).holds.useT [] [(2,7)] rfl (sk) (sk) fun e0 H0 hq=>?_
  obtain⟨rfl,rfl⟩:=hq
  refine⟨rfl,_,⟨9,(8,isO (L4))::(1,fmO es)::(0,ckO ds (a:Nat) 8 (L4).length)::[(5,sfO dpl),(3,dcO ⟨dk,dn,dnm,dpl,drs,dcs⟩)]⟩,rfl,rfl,?_⟩
  refine⟨_,⟨by decide,(De.mk ek en enm epl ers ecs).cells,h0,rfl⟩,?_⟩
  (first | refine brLt (fun e1=>?_) (fun e1=>?_) | refine brLe (fun e1=>?_) (fun e1=>?_) | refine brEq (fun e1=>?_) (fun e1=>?_))
  ·have e1:ek=1:=e1
   rw [if_pos e1] at hg
   refine⟨_,⟨by decide,(De.mk ek en enm epl ers ecs).cells,h0,rfl⟩,?_⟩
   subst hg
   refine hX.holds.useT [] [(2,8),(4,9)] rfl (sk) (sk) fun e0 H0 hq=>?_
   obtain⟨rfl,rfl⟩:=hq
   refine⟨rfl,_,⟨11,(10,isO R)::(9,smO g)::(3,dcO ⟨dk,dn,dnm,dpl,drs,dcs⟩)::(1,fmO es)::(0,ckO ds (a:Nat) 10 R.length)::[(5,sfO dpl)]⟩,rfl,rfl,?_⟩
   exact⟨[],[(3,10)],[], .returned und,ckT ds a es R,rfl,sk,sk,rfl,rfl⟩
  ·have e1:¬ ek=1:=e1
   rw [if_neg e1] at hg
   subst hg
   refine hX.holds.useT [] [(2,8),(4,9)] rfl (sk) (sk) fun e0 H0 hq=>?_
   obtain⟨rfl,rfl⟩:=hq
   refine⟨rfl,_,⟨11,(10,isO R)::(9,smO 0)::(3,dcO ⟨dk,dn,dnm,dpl,drs,dcs⟩)::(1,fmO es)::(0,ckO ds (a:Nat) 10 R.length)::[(5,sfO dpl)]⟩,rfl,rfl,?_⟩
   exact⟨[],[(3,10)],[], .returned und,ckT ds a es R,rfl,sk,sk,rfl,rfl⟩
 | some t=>
  obtain⟨i,hf,hl,hc⟩:=h.some hp hv
  rw [hv] at e2
  obtain⟨tk,tn,tnm,tpl,trs,tcs⟩:=t
  simp only [] at e2
  refine holdsN_of_vc Tryz.func51 rfl rfl rfl ?_
  refine(hT).holds.useT [] [] rfl (sk) (sk) fun e0 H0 hq=>?_
  obtain⟨rfl,rfl⟩:=hq
  refine⟨rfl,_,⟨5,(4,isO (L1))::(1,fmO es)::(0,ckO ds (a:Nat) 4 (L1).length)::[(3,dcO ⟨dk,dn,dnm,dpl,drs,dcs⟩)]⟩,rfl,rfl,?_⟩
  refine And.intro (fun h=>absurd h hp) (fun _=>?_)
  refine VDraw.seq rfl ?_
  refine⟨_, .inl ⟨_,hf,rfl⟩,?_⟩
  refine⟨_,⟨by omega,(De.mk tk tn tnm tpl trs tcs).cells,hc,rfl⟩,?_⟩
  refine And.intro (fun k2=>?_) (fun k2=>?_)
  ·have k2:tk=2:=k2
   rw [if_pos k2,List.append_nil] at e2
   subst e2
   refine(hC).holds.useT [] [(2,4)] rfl (sk) (sk) fun e0 H0 hq=>?_
   obtain⟨rfl,rfl⟩:=hq
   refine⟨rfl,_,⟨6,(5,isO (L3))::(1,fmO es)::(0,ckO ds (a:Nat) 5 (L3).length)::[(3,dcO ⟨dk,dn,dnm,dpl,drs,dcs⟩)]⟩,rfl,rfl,?_⟩
   refine(hF).holds.useT [] [(2,5)] rfl (sk) (sk) fun e0 H0 hq=>?_
   obtain⟨rfl,rfl⟩:=hq
   refine⟨rfl,_,⟨7,(6,isO (L4))::(1,fmO es)::(0,ckO ds (a:Nat) 6 (L4).length)::[(3,dcO ⟨dk,dn,dnm,dpl,drs,dcs⟩)]⟩,rfl,rfl,?_⟩
   refine⟨_,⟨by decide,(De.mk ek en enm epl ers ecs).cells,h0,rfl⟩,?_⟩
   (first | refine brLt (fun e1=>?_) (fun e1=>?_) | refine brLe (fun e1=>?_) (fun e1=>?_) | refine brEq (fun e1=>?_) (fun e1=>?_))
   ·have e1:ek=1:=e1
    rw [if_pos e1] at hg
    refine⟨_,⟨by decide,(De.mk ek en enm epl ers ecs).cells,h0,rfl⟩,?_⟩
    subst hg
    refine hX.holds.useT [] [(2,6),(4,7)] rfl (sk) (sk) fun e0 H0 hq=>?_
    obtain⟨rfl,rfl⟩:=hq
    refine⟨rfl,_,⟨9,(8,isO R)::(7,smO g)::(3,dcO ⟨dk,dn,dnm,dpl,drs,dcs⟩)::(1,fmO es)::(0,ckO ds (a:Nat) 8 R.length)::[]⟩,rfl,rfl,?_⟩
    exact⟨[],[(3,8)],[], .returned und,ckT ds a es R,rfl,sk,sk,rfl,rfl⟩
   ·have e1:¬ ek=1:=e1
    rw [if_neg e1] at hg
    subst hg
    refine hX.holds.useT [] [(2,6),(4,7)] rfl (sk) (sk) fun e0 H0 hq=>?_
    obtain⟨rfl,rfl⟩:=hq
    refine⟨rfl,_,⟨9,(8,isO R)::(7,smO 0)::(3,dcO ⟨dk,dn,dnm,dpl,drs,dcs⟩)::(1,fmO es)::(0,ckO ds (a:Nat) 8 R.length)::[]⟩,rfl,rfl,?_⟩
    exact⟨[],[(3,8)],[], .returned und,ckT ds a es R,rfl,sk,sk,rfl,rfl⟩
  ·have k2:¬ tk=2:=k2
   rw [if_neg k2] at e2
   refine(note1_h ds a es (L1) 4 dpl (by first | omega | (simp only [List.length_append,List.length_cons,List.length_nil];omega))).holds.useT [5] [(2,4)] rfl (sk) ⟨_,_,rfl,⟨rfl,rfl⟩,_,_,rfl,rfl,_,_,rfl,⟨_,rfl,by show 0+1≤1;decide,rfl⟩,rfl⟩ fun e0 H0 hq=>?_
   obtain⟨rfl,rfl⟩:=hq
   refine⟨rfl,_,⟨7,(6,isO ((L1)++[Iss.mk 4 (a:Nat) dpl]))::(1,fmO es)::(0,ckO ds (a:Nat) 6 ((L1)++[Iss.mk 4 (a:Nat) dpl]).length)::[(5,sfO dpl),(3,dcO ⟨dk,dn,dnm,dpl,drs,dcs⟩)]⟩,rfl,rfl,?_⟩
   rw [← e2]
   refine(hC).holds.useT [] [(2,6)] rfl (sk) (sk) fun e0 H0 hq=>?_
   obtain⟨rfl,rfl⟩:=hq
   refine⟨rfl,_,⟨8,(7,isO (L3))::(1,fmO es)::(0,ckO ds (a:Nat) 7 (L3).length)::[(5,sfO dpl),(3,dcO ⟨dk,dn,dnm,dpl,drs,dcs⟩)]⟩,rfl,rfl,?_⟩
   refine(hF).holds.useT [] [(2,7)] rfl (sk) (sk) fun e0 H0 hq=>?_
   obtain⟨rfl,rfl⟩:=hq
   refine⟨rfl,_,⟨9,(8,isO (L4))::(1,fmO es)::(0,ckO ds (a:Nat) 8 (L4).length)::[(5,sfO dpl),(3,dcO ⟨dk,dn,dnm,dpl,drs,dcs⟩)]⟩,rfl,rfl,?_⟩
   refine⟨_,⟨by decide,(De.mk ek en enm epl ers ecs).cells,h0,rfl⟩,?_⟩
   (first | refine brLt (fun e1=>?_) (fun e1=>?_) | refine brLe (fun e1=>?_) (fun e1=>?_) | refine brEq (fun e1=>?_) (fun e1=>?_))
   ·have e1:ek=1:=e1
    rw [if_pos e1] at hg
    refine⟨_,⟨by decide,(De.mk ek en enm epl ers ecs).cells,h0,rfl⟩,?_⟩
    subst hg
    refine hX.holds.useT [] [(2,8),(4,9)] rfl (sk) (sk) fun e0 H0 hq=>?_
    obtain⟨rfl,rfl⟩:=hq
    refine⟨rfl,_,⟨11,(10,isO R)::(9,smO g)::(3,dcO ⟨dk,dn,dnm,dpl,drs,dcs⟩)::(1,fmO es)::(0,ckO ds (a:Nat) 10 R.length)::[(5,sfO dpl)]⟩,rfl,rfl,?_⟩
    exact⟨[],[(3,10)],[], .returned und,ckT ds a es R,rfl,sk,sk,rfl,rfl⟩
   ·have e1:¬ ek=1:=e1
    rw [if_neg e1] at hg
    subst hg
    refine hX.holds.useT [] [(2,8),(4,9)] rfl (sk) (sk) fun e0 H0 hq=>?_
    obtain⟨rfl,rfl⟩:=hq
    refine⟨rfl,_,⟨11,(10,isO R)::(9,smO 0)::(3,dcO ⟨dk,dn,dnm,dpl,drs,dcs⟩)::(1,fmO es)::(0,ckO ds (a:Nat) 10 R.length)::[(5,sfO dpl)]⟩,rfl,rfl,?_⟩
    exact⟨[],[(3,10)],[], .returned und,ckT ds a es R,rfl,sk,sk,rfl,rfl⟩
set_option maxHeartbeats 4000000
theorem inL_mem {l:List (List UInt8)} {s:List UInt8} (h:inL l s=true):s∈l:=by
 induction l with
 | nil=>simp [inL] at h
 | cons x r ih=>
  simp only [inL,Bool.or_eq_true,decide_eq_true_eq] at h
  rcases h with rfl | h
  ·simp
  ·exact List.mem_cons_of_mem _ (ih h)
theorem right_len {k:Int} {t:List UInt8} (h:rightN k t=true):1≤t.length∧t.length≤10:=by
 have ne:∀ {t:List UInt8},t ≠ []→1≤t.length:=by intro t ht;cases t <;> simp at ht ⊢
 unfold rightN at h
 split at h
 ·simp [nameN] at h;exact⟨ne h.1.1.1.1,h.1.1.1.2⟩
 ·split at h
  ·exact(by decide:∀ t∈keysL,1≤t.length∧t.length≤10) t (inL_mem h)
  ·split at h
   ·simp [numN] at h
    exact⟨ne h.1.1.1,by omega⟩
   ·split at h
    ·exact(by decide:∀ t∈marksL,1≤t.length∧t.length≤10) t (inL_mem h)
    ·cases h
structure JS where
 k:Nat
 a:Nat
 b:Nat
 lg:Nat
 n:Nat
 xs:List UInt8
 pre:List UInt8
structure JI where
 a:Nat
 b:Nat
 n:Nat
 xs:List UInt8
def tenL:List UInt8:=[48,49,50,51,52,53,54,55,56,57]
def digN:Nat→Nat→List UInt8
 | 0,_=>[]
 | f+1,n=>if n<10 then [tenL.getD n 0] else digN f (n / 10)++[tenL.getD (n % 10) 0]
theorem dig_len:∀ f n,(digN f n).length≤f
 | 0,_=>by simp [digN]
 | f+1,n=>by
  simp only [digN]
  split
  ·simp
  ·have:=dig_len f (n / 10)
   simp
   omega
structure Dr where
 kind:UInt8
 which:UInt8
 letters:List UInt8
 n:UInt16
 down:UInt8
 over:UInt8
abbrev Dr.cells (d:Dr):List PV:=[u8 d.kind,u8 d.which, .lst (d.letters.map u8), .int .u16 (d.n.toNat:Int),u8 d.down,u8 d.over]
def newL (d:Dr):Prop:=0<d.down.toNat % 3∧d.down.toNat<100
instance (d:Dr):Decidable (newL d):=inferInstanceAs (Decidable (_∧_))
structure WS where
 k:Nat
 a:Nat
 b:Nat
 out:List Wd
def isBl (c:UInt8):Prop:=c.toNat=32∨c.toNat=10
def stopB (r:List UInt8):Bool:=match r with
 | []=>true
 | c::_=>!(decide (c.toNat=32) || decide (c.toNat=10)) && !List.isPrefixOf [45,45] r && !List.isPrefixOf [40,42] r
def Skips (g r:List UInt8):Prop:=∀ f,(g++r).length≤f→skipN f (g++r)=.inl g.length
theorem spanN_all {f:UInt8→Bool} {t:List UInt8}:spanN f t=t.length ↔ ∀ c∈t,f c=true:=by
 induction t with
 | nil=>simp [spanN]
 | cons c t ih=>
  have hl:=spanN_le f t
  simp only [spanN,List.length_cons]
  by_cases h:f c=true
  ·rw [if_pos h]
   constructor
   ·intro e x hx
    rcases List.mem_cons.1 hx with rfl | hx
    ·exact h
    ·exact ih.1 (by omega) x hx
   ·intro e;rw [ih.2 fun x hx=>e x (by simp [hx])]
  ·rw [if_neg h]
   constructor
   ·intro e;omega
   ·intro e;exact absurd (e c (by simp)) h
def isSep (c:UInt8):Prop:=isBl c∨c.toNat=40
inductive Fol:List UInt8→List UInt8→Prop
 | nil (a:List UInt8):Fol a []
 | bl (a:List UInt8) (c:UInt8) (b:List UInt8) (h:isSep c):Fol a (c::b)
 | same (c:UInt8) (a b:List UInt8):Fol (c::a) (c::b)
inductive Lay:Nat × Nat→List UInt8→List Wd→List UInt8→Prop
 | nil (p:Nat × Nat) (suf:List UInt8):Lay p [] [] suf
 | cons {p:Nat × Nat} {g T:List UInt8} {w:Wd} {ws:List Wd} {suf:List UInt8} {l c:Nat} (hsk:Skips g (w.text++(T++suf))) (h1:oneN (w.text++(T++suf))=(w.kind,w.text)) (hr:rightN w.kind w.text=true)
   (hp:advs p g=(l,c)) (hl:w.line=l) (hc:w.col=c) (h:Lay (l,c+w.text.length) T ws suf):Lay p (g++(w.text++T)) (w::ws) suf
theorem Lay.len {p:Nat × Nat} {T:List UInt8} {ws:List Wd} {suf:List UInt8} (h:Lay p T ws suf):ws.length≤T.length:=by
 induction h with
 | nil=>simp
 | cons hsk h1 hr hp hl hc h ih=>
  have:=right_len hr
  simp only [List.length_cons,List.length_append]
  omega
abbrev Toks:=List (List UInt8)
def digT (n:Int):List UInt8:=digN 4 n.toNat
def intT (n:Int):Toks:=if n<0 then [tMinus,digT (-n)] else [digT n]
def tailT (r:Rf):Toks:=if r.mode=3 then [tLB,tAll,tRB] else if r.mode=2 then [tLB,digT r.n,tRB] else if r.mode=1 then(if 0<r.n then [tLB,r.plate,tPlus,digT r.n,tRB] else [tLB,r.plate,tRB]) else []
def refT (r:Rf):Toks:=r.name::tailT r
def sepT {α:Type} (f:α→Toks):List α→Toks
 | []=>[]
 | a::r=>f a++r.flatMap fun b=>tComma::f b
def relT (k:Int):List UInt8:=if k=1 then tEq else if k=2 then tNe else if k=3 then tLt else tLe
def lvl (op:Int):Nat:=if op=9 then 1 else if op=8 then 2 else if op=7 then 3 else 4
def inT (k:Nat) (p:Int × Toks):Toks:=if lvl p.1<k then tLP::(p.2++[tRP]) else p.2
def leafT (op n rel val:Int) (r:Rf) (st:List Int):Toks:=
 if op=6 then [tCount,tLP]++(refT r++[tEq,digT val,tRP,relT rel,digT n])
 else if op=5 then refT r++([tIn,tLC]++(sepT (fun n=>[digT n]) st++[tRC]))
 else refT r++[relT op,digT n]
def joinT (op n rel val:Int) (r:Rf) (st:List Int) (ps:List (Int × Toks)):Toks:=
 if op=9 then inT 1 (ps.getD 0 (0,[]))++tOr::inT 2 (ps.getD 1 (0,[]))
 else if op=8 then inT 2 (ps.getD 0 (0,[]))++tAnd::inT 3 (ps.getD 1 (0,[]))
 else if op=7 then tNot::inT 3 (ps.getD 0 (0,[]))
 else leafT op n rel val r st
def Cd.op:Cd→Int
 | .mk op _ _ _ _ _ _=>op
mutual
def condT:Cd→Toks
 | .mk op n rel val r st ar=>joinT op n rel val r st (condTs ar)
def condTs:List Cd→List (Int × Toks)
 | []=>[]
 | c::r=>(c.op,condT c)::condTs r
end
def withinT (k:Nat) (c:Cd):Toks:=inT k (c.op,condT c)
def numsT (l:List Int):Toks:=l.flatMap intT
def casesTx:List Cs→Toks
 | []=>[]
 | [c]=>tElse::tCol::numsT c.nums
 | c::d::r=>condT c.cond++(tCol::(numsT c.nums++(tSemi::casesTx (d::r))))
def ruleT (l:List Cs):Toks:=tLC::(casesTx l++[tRC])
def refsT (key:List UInt8) (l:List Rf):Toks:=if l=[] then [] else key::sepT refT l
def headT (d:De):Toks:=
 if d.kind=1 then [tGrain,digT d.n] else if d.kind=2 then [tPlate,d.name,tEq,digT d.n]
 else if d.kind=3 then [tNode,d.name]++((if d.plate=[] then [] else [tLB,d.plate,tRB])++([tCol,digT d.n]++(refsT tFrom d.refs++(tEq::ruleT d.cases))))
 else if d.kind=4 then [tChoose,d.name,tCol,digT d.n]++refsT tSeeing d.refs
 else if d.kind=5 then tGain::(refsT tFrom d.refs++(tEq::ruleT d.cases)) else []
def declT (d:De):Toks:=headT d++[tSemi]
def spW:Bool→Toks→List UInt8
 | _,[]=>[]
 | b,w::r=>(if b then [32] else [])++(w++spW true r)
theorem spW_app:∀ (b:Bool) (x y:Toks),spW b (x++y)=spW b x++spW (b || decide (x ≠ [])) y
 | b,[],y=>by simp [spW]
 | b,w::r,y=>by
  show(if b then [32] else [])++(w++spW true (r++y))=((if b then [32] else [])++(w++spW true r))++_
  rw [spW_app true r y]
  simp [List.append_assoc]
theorem spW_t (x y:Toks):spW true (x++y)=spW true x++spW true y:=by rw [spW_app];simp
theorem spW_tf:∀ {x:Toks},x ≠ []→spW true x=32::spW false x
 | [],h=>absurd rfl h
 | _::_,_=>rfl
def lineT (d:De):List UInt8:=spW false (declT d)++[10]
def textT (ds:List De):List UInt8:=ds.flatMap lineT
def cntT (ds:List De):Nat:=(ds.map fun d=>(declT d).length).sum
end Go.Proofs.YtmepdfingcmkmaaGreatDoor
namespace Go.Proofs.YtmepdfingcmkmaaGreatDoor
open Go Y
set_option maxRecDepth 100000
set_option maxHeartbeats 4000000
theorem ten_val:∀ n,n<10→(tenL.getD n 0).toNat=48+n:=by decide
structure DigOK (t:List UInt8) (n:Nat) (f:Nat):Prop where
 ne:t ≠ []
 len:t.length≤f
 dig:∀ c∈t,48≤c.toNat∧c.toNat≤57
 zero:n=0→t=[48]
 head:0<n→(t.headD 0).toNat ≠ 48
 val:valD t=n
theorem dig_ok:∀ (f n:Nat),n<10 ^ (f+1)→DigOK (digN (f+1) n) n (f+1)
 | f,n,h=>by
  rw [digN]
  by_cases c:n<10
  ·rw [if_pos c]
   have hv:=ten_val n c
   refine⟨by simp,by simp,fun x hx=>?_,fun e=>by subst e;rfl,fun e=>?_,?_⟩
   ·rw [List.mem_singleton.1 hx];omega
   ·show(tenL.getD n 0).toNat ≠ 48;omega
   ·show 10 * (0:Int)+(((tenL.getD n 0).toNat:Int) - 48)=n;omega
  ·rw [if_neg c]
   obtain⟨g,rfl⟩:∃ g,f=g+1:=by
    cases f with
    | zero=>exfalso;omega
    | succ g=>exact⟨g,rfl⟩
   have ih:=dig_ok g (n / 10) (by rw [Nat.pow_succ] at h;omega)
   have hv:=ten_val (n % 10) (by omega)
   refine⟨by simp,by have:=ih.len;simp only [List.length_append,List.length_singleton];omega,fun x hx=>?_,fun e=>by omega,fun _=>?_,?_⟩
   ·rcases List.mem_append.1 hx with hx | hx
    ·exact ih.dig x hx
    ·rw [List.mem_singleton.1 hx];omega
   ·have hh:=ih.head (by omega)
    have hne:=ih.ne
    cases hd:digN (g+1) (n / 10) with
    | nil=>exact absurd hd hne
    | cons x r=>rw [hd] at hh;exact hh
   ·rw [valD_snoc,ih.val];omega
theorem digT_num {n:Int} (h:natB n=true):numN (digT n)=true∧valD (digT n)=n:=by
 simp only [natB,Bool.and_eq_true,decide_eq_true_eq] at h
 have hd:=dig_ok 3 n.toNat (by show n.toNat<10000;omega)
 refine⟨?_,by rw [digT,hd.val];omega⟩
 unfold numN digT
 simp only [Bool.and_eq_true,decide_eq_true_eq,Bool.or_eq_true]
 refine⟨⟨⟨hd.ne,hd.len⟩,spanN_all.2 fun c hc=>?_⟩,?_⟩
 ·have:=hd.dig c hc
  simp only [isDig,Bool.and_eq_true,decide_eq_true_eq];exact this
 ·by_cases c:n.toNat=0
  ·exact .inl (hd.zero c)
  ·exact .inr (hd.head (by omega))
def AtW (ws:List Wd):Nat→Toks→Prop
 | _,[]=>True
 | q,t::r=>txt ws q=t∧AtW ws (q+1) r
theorem name_facts {t:List UInt8} (h:nameN t=true):t ≠ []∧inL keysL t=false∧numN t=false∧inL marksL t=false:=by
 simp only [nameN,Bool.and_eq_true,decide_eq_true_eq,Bool.not_eq_true'] at h
 obtain⟨⟨⟨⟨h1,h2⟩,h3⟩,h4⟩,h5⟩:=h
 refine⟨h1,h5,?_,?_⟩
 ·cases e:numN t with
  | false=>rfl
  | true=>
   exfalso
   have hd:=(num_dig e).2
   cases t with
   | nil=>exact h1 rfl
   | cons c r=>
    have:=hd c (List.mem_cons_self ..)
    have h3:isLet c=true:=h3
    simp only [isLet,Bool.or_eq_true,Bool.and_eq_true,decide_eq_true_eq] at h3
    omega
 ·cases e:inL marksL t with
  | false=>rfl
  | true=>
   exfalso
   have key:∀ s∈marksL,isLet (s.headD 0)=false:=by decide
   rw [key t (inL_mem e)] at h3
   cases h3
section
variable {ws:List Wd} (hg:GoodW ws)
include hg
end
end Go.Proofs.YtmepdfingcmkmaaGreatDoor
namespace Go.Proofs.YtmepdfingcmkmaaGreatDoor
open Go Y
set_option maxRecDepth 100000
set_option maxHeartbeats 4000000
theorem incB_at {l:List Int}:∀ (f k:Nat),incB l f k=true→∀ i,k≤i→i<k+f→natB (l.getD i 0)=true∧(i=0∨l.getD (i - 1) 0<l.getD i 0)
 | 0,k,_,i,h1,h2=>absurd h2 (by omega)
 | f+1,k,h,i,h1,h2=>by
  rw [incB] at h
  simp only [Bool.and_eq_true,Bool.or_eq_true,decide_eq_true_eq] at h
  by_cases c:i=k
  ·subst c
   exact h.1
  ·exact incB_at f (k+1) h.2 i (by omega) (by omega)
theorem setB_facts {l:List Int} (h:setB l=true):l ≠ []∧(∀ n∈l,natB n=true)∧setN l=l:=by
 simp only [setB,Bool.and_eq_true,decide_eq_true_eq] at h
 obtain⟨⟨h1,h2⟩,h3⟩:=h
 have hi:=incB_at l.length 0 h3
 refine⟨fun e=>by rw [e] at h1;simp at h1,fun n hn=>?_,?_⟩
 ·obtain⟨i,hi1,rfl⟩:=List.getElem_of_mem hn
  have:=(hi i (by omega) (by omega)).1
  rw [List.getD_eq_getElem?_getD,List.getElem?_eq_getElem hi1] at this
  exact this
 ·have hinc:Inc l:=by
   rw [Inc,List.pairwise_iff_getElem]
   have key:∀ (d i:Nat),i+d+1<l.length→l.getD i 0<l.getD (i+d+1) 0:=by
    intro d
    induction d with
    | zero=>
     intro i hd
     have:=(hi (i+0+1) (by omega) (by omega)).2
     rcases this with h | h
     ·omega
     ·exact h
    | succ d ih=>
     intro i hd
     have a:=ih i (by omega)
     have:=(hi (i+(d+1)+1) (by omega) (by omega)).2
     rcases this with h | h
     ·omega
     ·rw [show i+(d+1)+1 - 1=i+d+1 by omega] at h
      omega
   intro i j hi1 hj hij
   have:=key (j - i - 1) i (by omega)
   rw [show i+(j - i - 1)+1=j by omega,List.getD_eq_getElem?_getD,List.getElem?_eq_getElem hi1,List.getD_eq_getElem?_getD,List.getElem?_eq_getElem hj] at this
   exact this
  have hs:=set_fold l [] List.Pairwise.nil
  refine inc_ext hs.1 hinc fun y=>?_
  rw [setN] at *
  rw [hs.2]
  simp
def HeadOK (t:List UInt8):Prop:=nameN t=true∨t=tNot∨t=tLP∨t=tCount
structure CB (ws:List Wd) (c:Cd):Prop where
 neg:∀ F q,4 * (ws.length - q)+2≤F→AtW ws q (withinT 3 c)→negR ws F q=.inr (c,q+(withinT 3 c).length)
 conj:∀ F q,4 * (ws.length - q)+3≤F→AtW ws q (withinT 2 c)→∃ f,4 * (ws.length - (q+(withinT 2 c).length))+1≤f∧conjR ws F q=andR ws f c (q+(withinT 2 c).length)
 cond:∀ F q,4 * (ws.length - q)+4≤F→AtW ws q (withinT 1 c)→¬ txt ws (q+(withinT 1 c).length)=tAnd→∃ f,4 * (ws.length - (q+(withinT 1 c).length))+1≤f∧condR ws F q=orR ws f c (q+(withinT 1 c).length)
 head:∃ t r,condT c=t::r∧HeadOK t
section
variable {ws:List Wd} (hg:GoodW ws)
end
end Go.Proofs.YtmepdfingcmkmaaGreatDoor
namespace Go.Proofs.YtmepdfingcmkmaaGreatDoor
open Go Y
set_option maxRecDepth 100000
set_option maxHeartbeats 4000000
theorem foldM_mem {f:Nat→Cd→Option Nat}:∀ {ar:List Cd} {l k:Nat},ar.foldlM f l=some k→∀ c∈ar,∃ a b,f a c=some b
 | [],_,_,_,c,hc=>by simp at hc
 | x::ar,l,k,h,c,hc=>by
  rw [List.foldlM_cons] at h
  cases hx:f l x with
  | none=>rw [hx] at h;cases h
  | some m=>
   rw [hx] at h
   rcases List.mem_cons.1 hc with rfl | hc
   ·exact⟨l,m,hx⟩
   ·exact foldM_mem (ar:=ar) h c hc
theorem plain_zero {n rel val:Int} {r:Rf} {st:List Int} (h:plainB n rel val r st=true):n=0∧rel=0∧val=0∧r=rf0∧st=[]:=by
 simp only [plainB,Bool.and_eq_true,decide_eq_true_eq] at h
 exact⟨h.1.1.1.1,h.1.1.1.2,h.1.1.2,h.1.2,h.2⟩
theorem len2 {α:Type} {l:List α} (h:l.length=2):∃ a b,l=[a,b]:=by
 rcases l with _ | ⟨a,_ | ⟨b,_ | ⟨c,l⟩⟩⟩
 ·cases h
 ·cases h
 ·exact⟨a,b,rfl⟩
 ·simp only [List.length_cons] at h;omega
theorem len1 {α:Type} {l:List α} (h:l.length=1):∃ a,l=[a]:=by
 rcases l with _ | ⟨a,_ | ⟨b,l⟩⟩
 ·cases h
 ·exact⟨a,rfl⟩
 ·simp only [List.length_cons] at h;omega
inductive Sh (P:Cd→Prop):Cd→Prop
 | leaf (op n rel val:Int) (r:Rf) (st:List Int) (h7:¬ op=7) (h8:¬ op=8) (h9:¬ op=9) (h:leafB op n rel val r st=true):Sh P (.mk op n rel val r st [])
 | neg (a:Cd) (h:P a):Sh P (.mk 7 0 0 0 rf0 [] [a])
 | conj (a b:Cd) (ha:P a) (hb:P b):Sh P (.mk 8 0 0 0 rf0 [] [a,b])
 | disj (a b:Cd) (ha:P a) (hb:P b):Sh P (.mk 9 0 0 0 rf0 [] [a,b])
theorem cond_shape {d:Nat} {c:Cd} {left k:Nat} (h:condV (d+1) c left=some k):Sh (fun a=>∃ l k,condV d a l=some k) c:=by
 obtain⟨op,n,rel,val,r,st,ar⟩:=c
 rw [condV] at h
 split at h
 ·cases h
 ·split at h
  ·rename_i hh
   have hm:=foldM_mem h
   unfold headB at hh
   split at hh
   ·rename_i h0
    simp only [Bool.and_eq_true,decide_eq_true_eq] at hh
    have:ar=[]:=List.length_eq_zero_iff.1 hh.2
    subst this
    unfold argsN at h0
    refine .leaf op n rel val r st ?_ ?_ ?_ hh.1
    ·rintro rfl;cases h0
    ·rintro rfl;cases h0
    ·rintro rfl;cases h0
   ·rename_i h0
    simp only [Bool.and_eq_true,decide_eq_true_eq] at hh
    obtain⟨hk,hp⟩:=hh
    obtain⟨rfl,rfl,rfl,rfl,rfl⟩:=plain_zero hp
    unfold argsN at h0 hk
    by_cases c7:op=7
    ·subst c7
     obtain⟨a,rfl⟩:=len1 hk
     exact .neg a (hm a (by simp))
    ·rw [if_neg c7] at h0 hk
     by_cases c8:op=8
     ·subst c8
      obtain⟨a,b,rfl⟩:=len2 hk
      exact .conj a b (hm a (by simp)) (hm b (by simp))
     ·by_cases c9:op=9
      ·subst c9
       obtain⟨a,b,rfl⟩:=len2 hk
       exact .disj a b (hm a (by simp)) (hm b (by simp))
      ·rw [if_neg (by omega)] at h0
       exact absurd rfl h0
  ·cases h
theorem Sh.mono {P Q:Cd→Prop} {c:Cd} (h:Sh P c) (hpq:∀ a,P a→Q a):Sh Q c:=by
 cases h with
 | leaf op n rel val r st h7 h8 h9 h=>exact .leaf op n rel val r st h7 h8 h9 h
 | neg a h=>exact .neg a (hpq a h)
 | conj a b ha hb=>exact .conj a b (hpq a ha) (hpq b hb)
 | disj a b ha hb=>exact .disj a b (hpq a ha) (hpq b hb)
theorem condT_leaf {op n rel val:Int} {r:Rf} {st:List Int} (h7:¬ op=7) (h8:¬ op=8) (h9:¬ op=9):condT (.mk op n rel val r st [])=leafT op n rel val r st:=by
 rw [condT,joinT,if_neg h9,if_neg h8,if_neg h7]
theorem condT_neg (a:Cd):condT (.mk 7 0 0 0 rf0 [] [a])=tNot::withinT 3 a:=by
 rw [condT,condTs,condTs];rfl
theorem condT_conj (a b:Cd):condT (.mk 8 0 0 0 rf0 [] [a,b])=withinT 2 a++tAnd::withinT 3 b:=by
 rw [condT,condTs,condTs,condTs];rfl
theorem condT_disj (a b:Cd):condT (.mk 9 0 0 0 rf0 [] [a,b])=withinT 1 a++tOr::withinT 2 b:=by
 rw [condT,condTs,condTs,condTs];rfl
theorem within_at {k:Nat} {c:Cd} (h:¬ lvl c.op<k):withinT k c=condT c:=if_neg h
section
variable {ws:List Wd} (hg:GoodW ws)
include hg
end
end Go.Proofs.YtmepdfingcmkmaaGreatDoor
namespace Go.Proofs.YtmepdfingcmkmaaGreatDoor
open Go Y
set_option maxRecDepth 100000
set_option maxHeartbeats 4000000
theorem none_cd0 {c:Cd} (h:noneB c=true):c=cd0:=by
 obtain⟨op,n,rel,val,r,st,ar⟩:=c
 simp only [noneB,Bool.and_eq_true,decide_eq_true_eq] at h
 obtain⟨⟨rfl,h2⟩,h3⟩:=h
 obtain⟨rfl,rfl,rfl,rfl,rfl⟩:=plain_zero h2
 have:ar=[]:=List.length_eq_zero_iff.1 h3
 subst this
 rfl
theorem nums_facts {l:List Int} (h:numsB l=true):l ≠ []∧l.length≤8∧∀ n∈l,wgtB n=true:=by
 simp only [numsB,Bool.and_eq_true,decide_eq_true_eq,List.all_eq_true] at h
 exact⟨fun e=>by rw [e] at h;exact absurd h.1.1 (by decide),h.1.2,h.2⟩
section
variable {ws:List Wd} (hg:GoodW ws)
include hg
end
end Go.Proofs.YtmepdfingcmkmaaGreatDoor
namespace Go.Proofs.YtmepdfingcmkmaaGreatDoor
open Go Y
set_option maxRecDepth 100000
set_option maxHeartbeats 4000000
structure GapOK (g:List UInt8):Prop where
 sep:∃ c r,g=c::r∧isSep c
 skip:∀ r,stopB r=true→Skips g r
def TokOK (t:List UInt8):Prop:=∃ k,rightN k t=true
theorem decl_ne (d:De):declT d ≠ []:=by rw [declT];simp
theorem flat_len:∀ ds:List De,(ds.flatMap declT).length=cntT ds
 | []=>rfl
 | d::ds=>by rw [List.flatMap_cons,List.length_append,flat_len ds];rfl
def AllT (x:Toks):Prop:=∀ t∈x,TokOK t
theorem allT_nil:AllT []:=fun t h=>by simp at h
theorem allT_cons {t:List UInt8} {x:Toks} (h:TokOK t) (hx:AllT x):AllT (t::x):=fun u hu=>by
 rcases List.mem_cons.1 hu with rfl | hu
 ·exact h
 ·exact hx u hu
theorem allT_app {x y:Toks} (hx:AllT x) (hy:AllT y):AllT (x++y):=fun u hu=>by
 rcases List.mem_append.1 hu with hu | hu
 ·exact hx u hu
 ·exact hy u hu
theorem tok_name {t:List UInt8} (h:nameN t=true):TokOK t:=⟨1,h⟩
theorem tok_dig {n:Int} (h:natB n=true):TokOK (digT n):=⟨3,(digT_num h).1⟩
theorem tok_fix:∀ t∈keysL++marksL,TokOK t:=by
 intro t ht
 rcases List.mem_append.1 ht with h | h
 ·exact⟨2,(by decide:∀ t∈keysL,rightN 2 t=true) t h⟩
 ·exact⟨4,(by decide:∀ t∈marksL,rightN 4 t=true) t h⟩
theorem fixT {x:Toks} (h:∀ t∈x,t∈keysL++marksL):AllT x:=fun t ht=>tok_fix t (h t ht)
theorem ref_toks {r:Rf} (h:refB r=true):AllT (refT r)∧(refT r).length≤6:=by
 obtain⟨nm,m,pl,n⟩:=r
 rw [refB,Bool.and_eq_true] at h
 obtain⟨hn,h⟩:=h
 simp only [] at h hn
 have k1:TokOK tLB:=tok_fix _ (by decide)
 have k2:TokOK tRB:=tok_fix _ (by decide)
 have k3:TokOK tAll:=tok_fix _ (by decide)
 have k4:TokOK tPlus:=tok_fix _ (by decide)
 suffices hs:AllT (tailT ⟨nm,m,pl,n⟩)∧(tailT ⟨nm,m,pl,n⟩).length≤5 by
  exact⟨allT_cons (tok_name hn) hs.1,by show _+1≤6;omega⟩
 unfold tailT
 simp only []
 split
 ·exact⟨allT_cons k1 (allT_cons k3 (allT_cons k2 allT_nil)),by simp⟩
 ·rename_i h3
  split
  ·rename_i h2
   rw [if_neg (by omega),if_neg (by omega),if_pos h2,Bool.and_eq_true] at h
   exact⟨allT_cons k1 (allT_cons (tok_dig h.2) (allT_cons k2 allT_nil)),by simp⟩
  ·split
   ·rename_i h1
    rw [if_neg (by omega),if_pos h1,Bool.and_eq_true] at h
    split
    ·exact⟨allT_cons k1 (allT_cons (tok_name h.1) (allT_cons k4 (allT_cons (tok_dig h.2) (allT_cons k2 allT_nil)))),by simp⟩
    ·exact⟨allT_cons k1 (allT_cons (tok_name h.1) (allT_cons k2 allT_nil)),by simp⟩
   ·exact⟨allT_nil,by simp⟩
theorem flat_toks {α:Type} {f:α→Toks} {b:Nat}:∀ {l:List α},(∀ a∈l,AllT (f a)∧(f a).length≤b)→AllT (l.flatMap f)∧(l.flatMap f).length≤b * l.length
 | [],_=>⟨allT_nil,by simp⟩
 | a::l,h=>by
  have h1:=h a (List.mem_cons_self ..)
  have h2:=flat_toks (f:=f) (b:=b) (l:=l) fun x hx=>h x (List.mem_cons_of_mem _ hx)
  rw [List.flatMap_cons]
  refine⟨allT_app h1.1 h2.1,?_⟩
  rw [List.length_append,List.length_cons,Nat.mul_succ]
  omega
theorem sep_toks {α:Type} {f:α→Toks} {b:Nat} {l:List α} (h:∀ a∈l,AllT (f a)∧(f a).length≤b):AllT (sepT f l)∧(sepT f l).length≤(b+1) * l.length:=by
 cases l with
 | nil=>exact⟨allT_nil,by simp [sepT]⟩
 | cons a l=>
  have h1:=h a (List.mem_cons_self ..)
  have h2:=flat_toks (f:=fun x=>tComma::f x) (b:=b+1) (l:=l) fun x hx=>⟨allT_cons (tok_fix _ (by decide)) (h x (List.mem_cons_of_mem _ hx)).1,by have:=(h x (List.mem_cons_of_mem _ hx)).2;simp only [List.length_cons];omega⟩
  rw [sepT]
  refine⟨allT_app h1.1 h2.1,?_⟩
  rw [List.length_append,List.length_cons,Nat.mul_succ]
  omega
theorem rel_tok (k:Int):TokOK (relT k):=by
 refine tok_fix _ ?_
 unfold relT
 split
 ·decide
 ·split
  ·decide
  ·split <;> decide
theorem leaf_toks {op n rel val:Int} {r:Rf} {st:List Int} (hb:leafB op n rel val r st=true):AllT (leafT op n rel val r st)∧(leafT op n rel val r st).length≤25:=by
 unfold leafB at hb
 unfold leafT
 by_cases c6:op=6
 ·rw [if_neg (by omega),if_neg (by omega),if_pos c6] at hb
  simp only [Bool.and_eq_true,decide_eq_true_eq] at hb
  obtain⟨⟨⟨⟨⟨⟨b1,b2⟩,b3⟩,b4⟩,b5⟩,b6⟩,b7⟩:=hb
  rw [if_pos c6]
  have hr:=ref_toks b1
  refine⟨allT_app (fixT (by decide)) (allT_app hr.1 (allT_cons (tok_fix _ (by decide)) (allT_cons (tok_dig b4) (allT_cons (tok_fix _ (by decide)) (allT_cons (rel_tok rel) (allT_cons (tok_dig b3) allT_nil)))))),?_⟩
  simp only [List.length_append,List.length_cons,List.length_nil];omega
 ·rw [if_neg c6]
  by_cases c5:op=5
  ·rw [if_neg (by omega),if_pos c5] at hb
   simp only [Bool.and_eq_true,decide_eq_true_eq] at hb
   obtain⟨⟨⟨⟨b1,b2⟩,b3⟩,b4⟩,b5⟩:=hb
   rw [if_pos c5]
   have hr:=ref_toks b1
   have hset:=setB_facts b5
   have hl8:st.length≤8:=by
    simp only [setB,Bool.and_eq_true,decide_eq_true_eq] at b5
    exact b5.1.2
   have hs:=sep_toks (f:=fun n=>[digT n]) (b:=1) (l:=st) fun a ha=>⟨allT_cons (tok_dig (hset.2.1 a ha)) allT_nil,by simp⟩
   refine⟨allT_app hr.1 (allT_app (fixT (by decide)) (allT_app hs.1 (fixT (by decide)))),?_⟩
   simp only [List.length_append,List.length_cons,List.length_nil];omega
  ·rw [if_neg c5]
   by_cases c1:op=1∨op=2∨op=3∨op=4
   ·rw [if_pos c1] at hb
    simp only [Bool.and_eq_true,decide_eq_true_eq] at hb
    have hr:=ref_toks hb.1.1.1.1
    refine⟨allT_app hr.1 (allT_cons (rel_tok op) (allT_cons (tok_dig hb.1.1.1.2) allT_nil)),?_⟩
    simp only [List.length_append,List.length_cons,List.length_nil];omega
   ·rw [if_neg c1,if_neg c5,if_neg c6] at hb
    cases hb
inductive ShN (P:Nat→Cd→Nat→Prop):Nat→Cd→Nat→Prop
 | leaf (op n rel val:Int) (r:Rf) (st:List Int) (l:Nat) (h7:¬ op=7) (h8:¬ op=8) (h9:¬ op=9) (h:leafB op n rel val r st=true):ShN P (l+1) (.mk op n rel val r st []) l
 | neg (a:Cd) (l k:Nat) (h:P l a k):ShN P (l+1) (.mk 7 0 0 0 rf0 [] [a]) k
 | conj (a b:Cd) (l m k:Nat) (ha:P l a m) (hb:P m b k):ShN P (l+1) (.mk 8 0 0 0 rf0 [] [a,b]) k
 | disj (a b:Cd) (l m k:Nat) (ha:P l a m) (hb:P m b k):ShN P (l+1) (.mk 9 0 0 0 rf0 [] [a,b]) k
theorem cond_shapeN {d:Nat} {c:Cd} {left k:Nat} (h:condV (d+1) c left=some k):ShN (fun l a k=>condV d a l=some k) left c k:=by
 obtain⟨op,n,rel,val,r,st,ar⟩:=c
 rw [condV] at h
 split at h
 ·cases h
 ·rename_i hl0
  obtain⟨l,rfl⟩:∃ l,left=l+1:=⟨left - 1,by omega⟩
  rw [Nat.add_sub_cancel] at h
  split at h
  ·rename_i hh
   unfold headB at hh
   split at hh
   ·rename_i h0
    simp only [Bool.and_eq_true,decide_eq_true_eq] at hh
    have:ar=[]:=List.length_eq_zero_iff.1 hh.2
    subst this
    unfold argsN at h0
    injection h with h
    have h:l=k:=h
    subst h
    refine .leaf op n rel val r st l ?_ ?_ ?_ hh.1
    ·rintro rfl;cases h0
    ·rintro rfl;cases h0
    ·rintro rfl;cases h0
   ·rename_i h0
    simp only [Bool.and_eq_true,decide_eq_true_eq] at hh
    obtain⟨hk,hp⟩:=hh
    obtain⟨rfl,rfl,rfl,rfl,rfl⟩:=plain_zero hp
    have two:∀ {a b:Cd},[a,b].foldlM (fun l c=>condV d c l) l=some k→∃ m,condV d a l=some m∧condV d b m=some k:=fun {a b} h=>by
     rw [List.foldlM_cons] at h
     cases h1:condV d a l with
     | none=>rw [h1] at h;cases h
     | some m=>
      rw [h1] at h
      have h:[b].foldlM (fun l c=>condV d c l) m=some k:=h
      rw [List.foldlM_cons] at h
      cases h2:condV d b m with
      | none=>rw [h2] at h;cases h
      | some m2=>
       rw [h2] at h
       exact⟨m,rfl,by rw [h2];exact h⟩
    unfold argsN at h0 hk
    by_cases c7:op=7
    ·subst c7
     obtain⟨a,rfl⟩:=len1 hk
     rw [List.foldlM_cons] at h
     cases h1:condV d a l with
     | none=>rw [h1] at h;cases h
     | some m=>
      rw [h1] at h
      exact .neg a l k (by rw [h1];exact h)
    ·rw [if_neg c7] at h0 hk
     by_cases c8:op=8
     ·subst c8
      obtain⟨a,b,rfl⟩:=len2 hk
      obtain⟨m,h1,h2⟩:=two h
      exact .conj a b l m k h1 h2
     ·by_cases c9:op=9
      ·subst c9
       obtain⟨a,b,rfl⟩:=len2 hk
       obtain⟨m,h1,h2⟩:=two h
       exact .disj a b l m k h1 h2
      ·rw [if_neg (by omega)] at h0
       exact absurd rfl h0
  ·cases h
theorem within_toks {k:Nat} {c:Cd} (h:AllT (condT c)):AllT (withinT k c)∧(withinT k c).length≤(condT c).length+2:=by
 by_cases hl:lvl c.op<k
 ·rw [withinT,inT,if_pos hl]
  exact⟨allT_cons (tok_fix _ (by decide)) (allT_app h (fixT (by decide))),by simp⟩
 ·rw [within_at hl]
  exact⟨h,by omega⟩
theorem cond_toks:∀ (d:Nat) (c:Cd) (left k:Nat),condV d c left=some k→AllT (condT c)∧(condT c).length+2+28 * k≤28 * left
 | 0,_,_,_,h=>by cases h
 | d+1,c,left,k,h=>by
  cases cond_shapeN h with
  | leaf op n rel val r st l h7 h8 h9 hb=>
   rw [condT_leaf h7 h8 h9]
   have:=leaf_toks hb
   exact⟨this.1,by omega⟩
  | neg a l k ha=>
   have ia:=cond_toks d a l k ha
   have wa:=within_toks (k:=3) ia.1
   rw [condT_neg]
   exact⟨allT_cons (tok_fix _ (by decide)) wa.1,by simp only [List.length_cons];omega⟩
  | conj a b l m k ha hb=>
   have ia:=cond_toks d a l m ha
   have ib:=cond_toks d b m k hb
   have wa:=within_toks (k:=2) ia.1
   have wb:=within_toks (k:=3) ib.1
   rw [condT_conj]
   exact⟨allT_app wa.1 (allT_cons (tok_fix _ (by decide)) wb.1),by simp only [List.length_append,List.length_cons];omega⟩
  | disj a b l m k ha hb=>
   have ia:=cond_toks d a l m ha
   have ib:=cond_toks d b m k hb
   have wa:=within_toks (k:=1) ia.1
   have wb:=within_toks (k:=2) ib.1
   rw [condT_disj]
   exact⟨allT_app wa.1 (allT_cons (tok_fix _ (by decide)) wb.1),by simp only [List.length_append,List.length_cons];omega⟩
theorem int_toks {n:Int} (h:wgtB n=true):AllT (intT n)∧(intT n).length≤2:=by
 simp only [wgtB,Bool.and_eq_true,decide_eq_true_eq] at h
 unfold intT
 split
 ·exact⟨allT_cons (tok_fix _ (by decide)) (allT_cons (tok_dig (by simp only [natB,Bool.and_eq_true,decide_eq_true_eq];omega)) allT_nil),by simp⟩
 ·exact⟨allT_cons (tok_dig (by simp only [natB,Bool.and_eq_true,decide_eq_true_eq];omega)) allT_nil,by simp⟩
theorem nums_toks {l:List Int} (h:numsB l=true):AllT (numsT l)∧(numsT l).length≤16:=by
 obtain⟨h1,h2,h3⟩:=nums_facts h
 have:=flat_toks (f:=intT) (b:=2) (l:=l) fun a ha=>int_toks (h3 a ha)
 exact⟨this.1,by have h4:=this.2;unfold numsT;omega⟩
theorem cases_toks:∀ {l:List Cs},casesT l=true→AllT (casesTx l)∧(casesTx l).length≤858 * l.length
 | [],_=>⟨allT_nil,by simp [casesTx]⟩
 | [c],h=>by
  simp only [casesT,Bool.and_eq_true] at h
  have hn:=nums_toks h.1
  rw [casesTx]
  exact⟨allT_cons (tok_fix _ (by decide)) (allT_cons (tok_fix _ (by decide)) hn.1),by simp only [List.length_cons,List.length_nil];omega⟩
 | c::d::r,h=>by
  simp only [casesT,Bool.and_eq_true] at h
  obtain⟨⟨hn,hc⟩,hr⟩:=h
  have hn:=nums_toks hn
  obtain⟨k,hk⟩:=Option.isSome_iff_exists.1 hc
  have hc:=cond_toks 8 c.cond 30 k hk
  have ih:=cases_toks (l:=d::r) hr
  rw [casesTx]
  refine⟨allT_app hc.1 (allT_cons (tok_fix _ (by decide)) (allT_app hn.1 (allT_cons (tok_fix _ (by decide)) ih.1))),?_⟩
  have:=ih.2
  simp only [List.length_append,List.length_cons] at this ⊢
  omega
theorem rule_toks {l:List Cs} (h:casesB l=true):AllT (ruleT l)∧(ruleT l).length≤10300:=by
 simp only [casesB,Bool.and_eq_true,decide_eq_true_eq] at h
 obtain⟨⟨h1,h2⟩,h3⟩:=h
 have:=cases_toks h3
 refine⟨allT_cons (tok_fix _ (by decide)) (allT_app this.1 (fixT (by decide))),?_⟩
 rw [ruleT]
 simp only [List.length_append,List.length_cons,List.length_nil]
 have h4:=this.2
 omega
theorem refs_toks {key:List UInt8} {l:List Rf} (hk:key∈keysL++marksL) (h:∀ r∈l,refB r=true) (hl:l.length≤8):AllT (refsT key l)∧(refsT key l).length≤60:=by
 unfold refsT
 split
 ·exact⟨allT_nil,by simp⟩
 ·have:=sep_toks (f:=refT) (b:=6) (l:=l) fun a ha=>ref_toks (h a ha)
  exact⟨allT_cons (tok_fix _ hk) this.1,by have h2:=this.2;simp only [List.length_cons];omega⟩
theorem decl_toks {d:De} (hv:declB d=true):AllT (declT d)∧(declT d).length≤10400:=by
 obtain⟨k,n,nm,pl,rs,cs⟩:=d
 simp only [declB,Bool.and_eq_true,decide_eq_true_eq,List.all_eq_true] at hv
 obtain⟨⟨⟨v1,v2⟩,v3⟩,v4⟩:=hv
 suffices hs:AllT (headT ⟨k,n,nm,pl,rs,cs⟩)∧(headT ⟨k,n,nm,pl,rs,cs⟩).length≤10399 by
  exact⟨allT_app hs.1 (fixT (by decide)),by rw [declT,List.length_append];simp only [List.length_cons,List.length_nil];omega⟩
 unfold kindB at v4
 unfold headT
 simp only [] at v4 ⊢
 have hd:=tok_dig v1
 by_cases c1:k=1
 ·rw [if_pos c1]
  exact⟨allT_cons (tok_fix _ (by decide)) (allT_cons hd allT_nil),by simp⟩
 rw [if_neg c1] at v4 ⊢
 by_cases c2:k=2
 ·rw [if_pos c2] at v4 ⊢
  simp only [Bool.and_eq_true,decide_eq_true_eq] at v4
  exact⟨allT_cons (tok_fix _ (by decide)) (allT_cons (tok_name v4.1.1.1) (allT_cons (tok_fix _ (by decide)) (allT_cons hd allT_nil))),by simp⟩
 rw [if_neg c2] at v4 ⊢
 by_cases c3:k=3
 ·rw [if_pos c3] at v4 ⊢
  simp only [Bool.and_eq_true,Bool.or_eq_true,decide_eq_true_eq] at v4
  obtain⟨⟨v0,v5⟩,v6⟩:=v4
  have hr:=refs_toks (key:=tFrom) (by decide) v3 v2
  have hc:=rule_toks v6
  have hp:AllT (if pl=[] then [] else [tLB,pl,tRB])∧(if pl=[] then [] else [tLB,pl,tRB]:Toks).length≤3:=by
   split
   ·exact⟨allT_nil,by simp⟩
   ·rename_i h
    exact⟨allT_cons (tok_fix _ (by decide)) (allT_cons (tok_name (v5.resolve_left h)) (fixT (by decide))),by simp⟩
  refine⟨allT_app (allT_cons (tok_fix _ (by decide)) (allT_cons (tok_name v0) allT_nil)) (allT_app hp.1 (allT_app (allT_cons (tok_fix _ (by decide)) (allT_cons hd allT_nil)) (allT_app hr.1 (allT_cons (tok_fix _ (by decide)) hc.1)))),?_⟩
  have h1:=hp.2
  have h2:=hr.2
  have h3:=hc.2
  simp only [List.length_append,List.length_cons,List.length_nil] at h1 ⊢
  omega
 rw [if_neg c3] at v4 ⊢
 by_cases c4:k=4
 ·rw [if_pos c4] at v4 ⊢
  simp only [Bool.and_eq_true,decide_eq_true_eq] at v4
  have hr:=refs_toks (key:=tSeeing) (by decide) v3 v2
  refine⟨allT_app (allT_cons (tok_fix _ (by decide)) (allT_cons (tok_name v4.1.1) (allT_cons (tok_fix _ (by decide)) (allT_cons hd allT_nil)))) hr.1,?_⟩
  have h2:=hr.2
  simp only [List.length_append,List.length_cons,List.length_nil];omega
 rw [if_neg c4] at v4 ⊢
 by_cases c5:k=5
 ·rw [if_pos c5] at v4 ⊢
  simp only [Bool.and_eq_true,decide_eq_true_eq] at v4
  have hr:=refs_toks (key:=tFrom) (by decide) v3 v2
  have hc:=rule_toks v4.2
  refine⟨allT_cons (tok_fix _ (by decide)) (allT_app hr.1 (allT_cons (tok_fix _ (by decide)) hc.1)),?_⟩
  have h2:=hr.2
  have h3:=hc.2
  simp only [List.length_append,List.length_cons];omega
 ·rw [if_neg c5]
  exact⟨allT_nil,by simp⟩
theorem tok_len {t:List UInt8} (h:TokOK t):1≤t.length∧t.length≤10:=by
 obtain⟨k,h⟩:=h
 exact right_len h
theorem spW_len:∀ {x:Toks} (b:Bool),AllT x→(spW b x).length≤11 * x.length
 | [],_,_=>by simp [spW]
 | t::x,b,h=>by
  have h1:=tok_len (h t (List.mem_cons_self ..))
  have h2:=spW_len (x:=x) true fun u hu=>h u (List.mem_cons_of_mem _ hu)
  have h3:(if b=true then [32] else []:List UInt8).length≤1:=by cases b <;> simp
  rw [spW,List.length_append,List.length_append,List.length_cons]
  omega
theorem valid_decl {ds:List De} (h:validB ds=true):ds.length≤30∧∀ d∈ds,declB d=true:=by
 simp only [validB,Bool.and_eq_true,decide_eq_true_eq,List.all_eq_true] at h
 exact h
theorem nat_of {n:Int} (h0:0≤n) (h:n≤9999):natB n=true:=by
 simp only [natB,Bool.and_eq_true,decide_eq_true_eq];omega
theorem name_len {t:List UInt8} (h:nameN t=true):t.length≤10:=(tok_len (tok_name h)).2
theorem leafB_facts {op n rel val:Int} {r:Rf} {st:List Int} (hb:leafB op n rel val r st=true):refB r=true∧(op=6→natB n=true∧natB val=true∧1≤rel∧rel≤4)∧(op=5→setB st=true)∧(¬ op=5→¬ op=6→natB n=true∧1≤op∧op≤4):=by
 unfold leafB at hb
 by_cases c6:op=6
 ·rw [if_neg (by omega),if_neg (by omega),if_pos c6] at hb
  simp only [Bool.and_eq_true,decide_eq_true_eq] at hb
  obtain⟨⟨⟨⟨⟨⟨b1,b2⟩,b3⟩,b4⟩,b5⟩,b6⟩,b7⟩:=hb
  exact⟨b1,fun _=>⟨b3,b4,b5,b6⟩,fun h=>by omega,fun _ h=>absurd c6 h⟩
 ·by_cases c5:op=5
  ·rw [if_neg (by omega),if_pos c5] at hb
   simp only [Bool.and_eq_true,decide_eq_true_eq] at hb
   obtain⟨⟨⟨⟨b1,b2⟩,b3⟩,b4⟩,b5⟩:=hb
   exact⟨b1,fun h=>absurd h c6,fun _=>b5,fun h=>absurd c5 h⟩
  ·by_cases c1:op=1∨op=2∨op=3∨op=4
   ·rw [if_pos c1] at hb
    simp only [Bool.and_eq_true,decide_eq_true_eq] at hb
    exact⟨hb.1.1.1.1,fun h=>absurd h c6,fun h=>absurd h c5,fun _ _=>⟨hb.1.1.1.2,by omega,by omega⟩⟩
   ·rw [if_neg c1,if_neg c5,if_neg c6] at hb
    cases hb
theorem refB_name {r:Rf} (h:refB r=true):r.name ≠ []:=by
 rw [refB,Bool.and_eq_true] at h
 exact(name_facts h.1).1
theorem leafB_wk {op n rel val:Int} {r:Rf} {st:List Int} (h:leafB op n rel val r st=true):r.name ≠ []∧(op=5→1≤st.length)∧st.length≤100:=by
 have hf:=leafB_facts h
 refine⟨refB_name hf.1,fun h5=>?_,?_⟩
 ·have:=hf.2.2.1 h5
  simp only [setB,Bool.and_eq_true,decide_eq_true_eq] at this
  omega
 ·by_cases h5:op=5
  ·have:=hf.2.2.1 h5
   simp only [setB,Bool.and_eq_true,decide_eq_true_eq] at this
   omega
  ·unfold leafB at h
   split at h
   ·simp only [Bool.and_eq_true,decide_eq_true_eq] at h
    rw [h.2];decide
   ·split at h
    ·simp only [Bool.and_eq_true,decide_eq_true_eq] at h
     rw [h.2];decide
    ·cases h
theorem wk_of:∀ (d:Nat) (c:Cd) (left k:Nat),condV d c left=some k→WkOK c
 | 0,_,_,_,h=>by rw [condV] at h;cases h
 | d+1,c,left,k,h=>by
  have hs:=cond_shape h
  cases hs with
  | leaf op n rel val r st h7 h8 h9 hb=>
   rw [WkOK]
   exact⟨⟨fun _=>.inr (leafB_wk hb),fun _=>rfl⟩,by decide,by rw [WkOKs];trivial⟩
  | neg a ha=>
   obtain⟨l,k,ha⟩:=ha
   rw [WkOK,WkOKs,WkOKs]
   exact⟨⟨(fun h=>by cases h),fun h=>absurd h (by decide)⟩,by show 1≤100;decide,wk_of d a l k ha,trivial⟩
  | conj a b ha hb=>
   obtain⟨l,k,ha⟩:=ha
   obtain⟨l',k',hb⟩:=hb
   rw [WkOK,WkOKs,WkOKs,WkOKs]
   exact⟨⟨(fun h=>by cases h),fun h=>absurd h (by decide)⟩,by show 2≤100;decide,wk_of d a l k ha,wk_of d b l' k' hb,trivial⟩
  | disj a b ha hb=>
   obtain⟨l,k,ha⟩:=ha
   obtain⟨l',k',hb⟩:=hb
   rw [WkOK,WkOKs,WkOKs,WkOKs]
   exact⟨⟨(fun h=>by cases h),fun h=>absurd h (by decide)⟩,by show 2≤100;decide,wk_of d a l k ha,wk_of d b l' k' hb,trivial⟩
theorem wk_cd0:WkOK cd0:=by
 rw [cd0,WkOK,WkOKs]
 exact⟨⟨fun _=>.inl rfl,fun _=>rfl⟩,by decide,trivial⟩
theorem numsB_wk {l:List Int} (h:numsB l=true):(∀ x∈l,-9999≤x∧x≤9999)∧l.length≤100:=by
 obtain⟨_,h2,h3⟩:=nums_facts h
 refine⟨fun x hx=>?_,by omega⟩
 have:=h3 x hx
 simp only [wgtB,Bool.and_eq_true,decide_eq_true_eq] at this
 exact this
structure CaV (c:Cs):Prop where
 ok:CaOK c
 one:∀ l d,(condI l d c.cond).length≤30
theorem note_len (k a:Int) (nm:List UInt8):(noteI k a nm).length≤1:=by
 unfold noteI
 split <;> simp
mutual
theorem condI_len (l:List De) (x:De):∀ (d:Nat) (c:Cd) (left k:Nat),condV d c left=some k→(condI l x c).length+k≤left
 | 0,_,_,_,h=>by rw [condV] at h;cases h
 | d+1, .mk op n rel val r st [],left,k,h=>by
  rw [condV] at h
  split at h
  ·cases h
  ·split at h
   ·rw [List.foldlM_nil] at h
    injection h with h
    rw [condI]
    split
    ·simp;omega
    ·have:=note_len (testI l x op n val r st) l.length r.name
     omega
   ·cases h
 | d+1, .mk op n rel val r st (a::az),left,k,h=>by
  rw [condV] at h
  split at h
  ·cases h
  ·split at h
   ·have:=condIs_len l x d (a::az) (left - 1) k h
    rw [condIs] at this
    rw [condI];omega
   ·cases h
theorem condIs_len (l:List De) (x:De):∀ (d:Nat) (az:List Cd) (left k:Nat),az.foldlM (fun l c=>condV d c l) left=some k→(condIs l x az).length+k≤left
 | d,[],left,k,h=>by
  rw [List.foldlM_nil] at h
  injection h with h
  rw [condIs];simp;omega
 | d,a::az,left,k,h=>by
  rw [List.foldlM_cons] at h
  cases hc:condV d a left with
  | none=>rw [hc] at h;cases h
  | some m=>
   rw [hc] at h
   have h1:=condI_len l x d a left m hc
   have h2:=condIs_len l x d az m k h
   rw [condIs,List.length_append];omega
end
theorem casesT_wk:∀ {l:List Cs},casesT l=true→∀ c∈l,CaV c
 | [],_,c,hc=>by cases hc
 | [x],h,c,hc=>by
  simp only [casesT,Bool.and_eq_true] at h
  rw [List.mem_singleton.1 hc]
  have hn:=numsB_wk h.1
  have hz:=none_cd0 h.2
  exact⟨⟨by rw [hz];exact wk_cd0,hn.1,hn.2⟩,fun l d=>by rw [hz,cd0,condI];simp⟩
 | x::y::r,h,c,hc=>by
  simp only [casesT,Bool.and_eq_true] at h
  obtain⟨⟨h1,h0⟩,h2⟩:=h
  rcases List.mem_cons.1 hc with rfl | hc
  ·have hn:=numsB_wk h1
   obtain⟨k,hk⟩:=Option.isSome_iff_exists.1 h0
   exact⟨⟨wk_of 8 c.cond 30 k hk,hn.1,hn.2⟩,fun l d=>by have:=condI_len l d 8 c.cond 30 k hk;omega⟩
  ·exact casesT_wk (l:=y::r) h2 c hc
theorem casesB_wk {l:List Cs} (h:casesB l=true):l.length≤12∧∀ c∈l,CaV c:=by
 simp only [casesB,Bool.and_eq_true,decide_eq_true_eq] at h
 exact⟨h.1.2,casesT_wk h.2⟩
structure DcV (d:De):Prop where
 ok:DcOK d
 n:0≤d.n∧d.n≤9999
 refs:d.refs.length≤8
 few:d.cases.length≤12
 cases:∀ c∈d.cases,CaV c
theorem declB_wk {d:De} (h:declB d=true):DcV d:=by
 simp only [declB,Bool.and_eq_true,decide_eq_true_eq,List.all_eq_true] at h
 obtain⟨⟨⟨h1,h2⟩,h3⟩,h4⟩:=h
 have hn:0≤d.n∧d.n≤9999:=by
  simp only [natB,Bool.and_eq_true,decide_eq_true_eq] at h1;exact h1
 have hr:∀ r∈d.refs,r.name ≠ []:=fun r hr=>refB_name (h3 r hr)
 have key:∀ (hk:d.kind=1∨d.kind=2∨d.kind=3∨d.kind=4∨d.kind=5) (hb:d.kind=1∨d.kind=5→d.name=[]) (hm:d.kind=2∨d.kind=3∨d.kind=4→d.name ≠ []) (hp:¬ d.kind=3→d.plate=[]) (hc:d.cases.length≤12∧∀ c∈d.cases,CaV c),DcV d:=fun hk hb hm hp hc=>
  ⟨⟨⟨hk,hb,hm,hp,hr⟩,by omega,by have:=hc.1;omega,fun c hx=>(hc.2 c hx).ok⟩,hn,h2,hc.1,hc.2⟩
 have h0:d.cases.length=0→d.cases.length≤12∧∀ c∈d.cases,CaV c:=fun e=>⟨by omega,fun c hc=>by rw [List.eq_nil_of_length_eq_zero e] at hc;cases hc⟩
 unfold kindB at h4
 split at h4
 ·rename_i k
  simp only [Bool.and_eq_true,decide_eq_true_eq] at h4
  exact key (.inl k) (fun _=>h4.1.1.1) (fun h=>by omega) (fun _=>h4.1.1.2) (h0 h4.2)
 ·split at h4
  ·rename_i k
   simp only [Bool.and_eq_true,decide_eq_true_eq] at h4
   exact key (.inr (.inl k)) (fun h=>by omega) (fun _=>(name_facts h4.1.1.1).1) (fun _=>h4.1.1.2) (h0 h4.2)
  ·split at h4
   ·rename_i k
    simp only [Bool.and_eq_true,Bool.or_eq_true,decide_eq_true_eq] at h4
    exact key (.inr (.inr (.inl k))) (fun h=>by omega) (fun _=>(name_facts h4.1.1).1) (fun h=>absurd k h) (casesB_wk h4.2)
   ·split at h4
    ·rename_i k
     simp only [Bool.and_eq_true,decide_eq_true_eq] at h4
     exact key (.inr (.inr (.inr (.inl k)))) (fun h=>by omega) (fun _=>(name_facts h4.1.1).1) (fun _=>h4.1.2) (h0 h4.2)
    ·split at h4
     ·rename_i k
      simp only [Bool.and_eq_true,decide_eq_true_eq] at h4
      exact key (.inr (.inr (.inr (.inr k)))) (fun _=>h4.1.1.2) (fun h=>by omega) (fun _=>h4.1.2) (casesB_wk h4.2)
     ·cases h4
theorem valid_dcs {ds:List De} (h:validB ds=true):ds.length≤30∧∀ d∈ds,DcV d:=by
 obtain⟨h1,h2⟩:=valid_decl h
 exact⟨h1,fun d hd=>declB_wk (h2 d hd)⟩
theorem refsI_len (l:List De) (d:De):∀ (rs done:List Rf),(refsI l d done rs).length≤2 * rs.length
 | [],_=>by rw [refsI];simp
 | r::rs,done=>by
  have h1:=refsI_len l d rs (done++[r])
  have h2:=note_len (refI l d r) l.length r.name
  rw [refsI,List.length_append,List.length_append,List.length_cons]
  have h3:(if r∈done then [(⟨2,l.length,r.name⟩:Iss)] else []).length≤1:=by split <;> simp
  omega
theorem casesI_len (l:List De) (d:De) (g:Int):∀ cs:List Cs,(∀ c∈cs,CaV c)→(casesI l d g cs).length≤31 * cs.length
 | [],_=>by show 0≤_;omega
 | c::cs,h=>by
  have h1:=casesI_len l d g cs fun x hx=>h x (List.mem_cons_of_mem _ hx)
  have h2:=(h c (List.mem_cons_self ..)).one l d
  have h3:(if rowI d c.nums g=true then [] else [(⟨9,l.length,[]⟩:Iss)]).length≤1:=by split <;> simp
  rw [casesI_step,List.length_append,List.length_append,List.length_cons]
  omega
theorem oneI_len (l:List De) {d:De} (g:Int) (h:DcV d):(oneI l d g).length≤400:=by
 have h1:=refsI_len l d d.refs []
 have h2:=casesI_len l d g d.cases h.cases
 have h3:(twiceI l d).length≤1:=by unfold twiceI;split <;> simp
 have h4:(cardI l d).length≤1:=by unfold cardI;split <;> simp
 have h5:(plateI l d).length≤1:=by unfold plateI;repeat' (first | (split;rotate_left) | simp)
 have r1:=h.refs
 have r2:=h.few
 unfold oneI
 repeat' split
 all_goals simp only [List.length_append,List.length_cons,List.length_nil]
 all_goals omega
theorem eachI_len (g:Int):∀ (r l:List De),(∀ d∈r,DcV d)→(eachI g l r).length≤400 * r.length
 | [],_,_=>by rw [eachI];simp
 | d::r,l,h=>by
  have h1:=eachI_len g r (l++[d]) fun x hx=>h x (List.mem_cons_of_mem _ hx)
  have h2:=oneI_len l g (h d (List.mem_cons_self ..))
  rw [eachI,List.length_append,List.length_cons];omega
theorem headI_len (ds:List De):(headI ds).length≤1:=by
 unfold headI
 split
 ·simp
 ·split <;> simp
theorem baseI_len {ds:List De} (h:validB ds=true):(baseI ds).length≤12001:=by
 obtain⟨h1,h2⟩:=valid_dcs h
 have:=eachI_len (grainI ds) ds [] h2
 have:=headI_len ds
 rw [baseI,List.length_append];omega
set_option maxHeartbeats 40000000
theorem pow_bd {W N m:Nat} {q:Int} (hW:W≤4 ^ N) (hN:N+m≤8) (hq:1≤m→2≤q∧q≤4) (j:Nat) (hj:j≤m):0≤(W:Int) * q ^ j∧(W:Int) * q ^ j≤65536:=by
 have h8:4 ^ N * 4 ^ j≤65536:=by
  rw [← Nat.pow_add]
  exact Nat.le_trans (Nat.pow_le_pow_right (by decide) (show N+j≤8 by omega)) (by decide)
 by_cases h0:j=0
 ·subst h0
  rw [Int.pow_zero,Int.mul_one]
  rw [Nat.pow_zero,Nat.mul_one] at h8
  omega
 ·obtain⟨c,rfl⟩:∃ c:Nat,q=c:=⟨q.toNat,by have:=hq (by omega);omega⟩
  have hc:c≤4:=by have:=hq (by omega);omega
  have h1:W * c ^ j≤65536:=Nat.le_trans (Nat.mul_le_mul hW (Nat.pow_le_pow_left hc j)) h8
  have e:(W:Int) * (c:Int) ^ j=((W * c ^ j:Nat):Int):=by rw [Int.natCast_mul,Int.natCast_pow]
  rw [e];omega
theorem worlds_le:∀ (r l:List De),(∀ d∈r,d.kind=3∨d.kind=4→d.n≤4)→worldsI l r≤4 ^ nodesI l r
 | [],l,_=>Nat.le_refl _
 | d::r,l,h=>by
  rw [worldsI,nodesI,Nat.pow_add]
  refine Nat.mul_le_mul ?_ (worlds_le r _ fun x hx=>h x (List.mem_cons_of_mem _ hx))
  by_cases hk:d.kind=3∨d.kind=4
  ·have:=h d (List.mem_cons_self ..) hk
   exact Nat.pow_le_pow_left (by omega) _
  ·have:memI l d=0:=by
    unfold memI
    rw [if_neg (by omega),if_neg (by omega)]
   rw [this];exact Nat.le_refl _
theorem count_step {ds:List De} {k:Nat} (hk:k<ds.length):nodesI [] (ds.take (k+1))=nodesI [] (ds.take k)+memI (ds.take k) (ds.getD k de0)∧worldsI [] (ds.take (k+1))=worldsI [] (ds.take k) * (ds.getD k de0).n.toNat ^ memI (ds.take k) (ds.getD k de0)∧gainsI (ds.take (k+1))=gainsI (ds.take k)+(if (ds.getD k de0).kind=5 then 1 else 0):=by
 rw [take_succ_getD de0 hk]
 have h:=nodesI_app (ds.take k) [] [ds.getD k de0]
 refine⟨by rw [h.1];rfl,by rw [h.2];show _ * (_ * 1)=_;rw [Nat.mul_one];rfl,?_⟩
 rw [gainsI,gainsI,List.filter_append,List.length_append,List.filter_cons]
 by_cases h5:(ds.getD k de0).kind=5
 ·rw [if_pos h5,if_pos (by rw [decide_eq_true h5])];rfl
 ·rw [if_neg h5,if_neg (by rw [decide_eq_false h5];simp)];rfl
theorem nodes_mono {ds:List De} (k:Nat):nodesI [] (ds.take k)≤nodesI [] ds:=by
 have h:=(nodesI_app (ds.take k) [] (ds.drop k)).1
 rw [List.take_append_drop] at h
 omega
theorem size_full {ds:List De} {g:Int} (h:eachI g [] ds=[]) {k:Nat} (hk:k<ds.length) (h3:(ds.getD k de0).kind=3) (hp:¬ (ds.getD k de0).plate=[]):sizeV ds (ds.getD k de0).plate=sizeV (ds.take k) (ds.getD k de0).plate:=by
 have h1:=eachI_at ds [] h k hk
 rw [List.nil_append] at h1
 obtain⟨t,ht,_⟩:=oneI_plate h1 h3 hp
 have:=fstV_app (m:=ds.drop k) ht
 rw [List.take_append_drop] at this
 rw [sizeV,sizeV,this,ht]
theorem big_h {ds:List De} (b:Nat) (l:List Iss) (hv:ds.length≤30) {g:Int} (hno:eachI g [] ds=[]):HoldsG cx 54 [.ptr 0 0 0] (ckS ds b (mapI ds) l) (ckQ (ckS ds b (mapI ds) l) (.bool (bigI ds))):=by
 have hcs:CkS ds ds.length (mapI ds):=⟨fun nm hn=>by rw [List.take_length];exact find_at ds hn,hv,Nat.le_refl _⟩
 have hm:(ds.map De.cells).length=ds.length:=List.length_map ..
 refine holdsN_of_vc Tryz.func54 rfl rfl rfl ?_
 refine⟨Nat,fun k=>[(0, .ptr 0 0 0),(3, .p (i64 (nodesI [] (ds.take k):Nat))),(4, .p (i64 (gainsI (ds.take k):Nat))),(5, .p (i64 (worldsI [] (ds.take k):Nat))),(13, .p (des ds)),(14, .p (i64 ds.length)),(15, .p (i64 k))],fun _=>ckS ds b (mapI ds) l,fun k=>k≤ds.length∧nodesI [] (ds.take k)≤8,fun k=>ds.length - k,?_,?_⟩
 ·exact⟨0,⟨Nat.zero_le _,by show 0≤8;decide⟩,ent_of [] [] [] rfl ⟨⟨rfl,rfl⟩,rfl,rfl,rfl,rfl,congrArg (fun n:Nat=>i64 n) hm.symm,rfl,trivial⟩ (sk) rfl⟩
 rintro k ⟨k1,k2⟩
 (first | refine brLt (fun m1=>?_) (fun m1=>?_) | refine brLe (fun m1=>?_) (fun m1=>?_) | refine brEq (fun m1=>?_) (fun m1=>?_))
 rotate_left
 ·have m1:¬ (k:Int)<(ds.length:Nat):=m1
  obtain⟨B,hB⟩:∃ B,B=bigI ds:=⟨_,rfl⟩
  rw [← hB]
  rw [take_all (by omega)] at k2
  have et:ds.take k=ds:=take_all (by omega)
  rw [bigI,decide_eq_false (show ¬ 8<nodesI [] ds by omega),Bool.false_or] at hB
  (first | refine brLt (fun e0=>?_) (fun e0=>?_) | refine brLe (fun e0=>?_) (fun e0=>?_) | refine brEq (fun e0=>?_) (fun e0=>?_))
  ·have e0:((nodesI [] (ds.take k):Nat):Int)=0:=e0
   rw [et] at e0
   rw [decide_eq_true (show nodesI [] ds<1 by omega),Bool.true_or] at hB
   exact⟨[],[],[], .returned (.p (.bool true)),ckS ds b (mapI ds) l,rfl,sk,sk,by rw [hB],rfl⟩
  have e0:¬ ((nodesI [] (ds.take k):Nat):Int)=0:=e0
  rw [et] at e0
  rw [decide_eq_false (show ¬ nodesI [] ds<1 by omega),Bool.false_or] at hB
  (first | refine brLt (fun e1=>?_) (fun e1=>?_) | refine brLe (fun e1=>?_) (fun e1=>?_) | refine brEq (fun e1=>?_) (fun e1=>?_))
  ·have e1:(4:Int)<((gainsI (ds.take k):Nat):Int):=e1
   rw [et] at e1
   rw [decide_eq_true (show 4<gainsI ds by omega),Bool.true_or] at hB
   exact⟨[],[],[], .returned (.p (.bool true)),ckS ds b (mapI ds) l,rfl,sk,sk,by rw [hB],rfl⟩
  have e1:¬ (4:Int)<((gainsI (ds.take k):Nat):Int):=e1
  rw [et] at e1
  rw [decide_eq_false (show ¬ 4<gainsI ds by omega),Bool.false_or] at hB
  (first | refine brLt (fun e2=>?_) (fun e2=>?_) | refine brLe (fun e2=>?_) (fun e2=>?_) | refine brEq (fun e2=>?_) (fun e2=>?_))
  ·have e2:(1024:Int)<((worldsI [] (ds.take k):Nat):Int):=e2
   rw [et] at e2
   rw [decide_eq_true (show 1024<worldsI [] ds by omega)] at hB
   exact⟨[],[],[], .returned (.p (.bool true)),ckS ds b (mapI ds) l,rfl,sk,sk,by rw [hB],rfl⟩
  ·have e2:¬ (1024:Int)<((worldsI [] (ds.take k):Nat):Int):=e2
   rw [et] at e2
   rw [decide_eq_false (show ¬ 1024<worldsI [] ds by omega)] at hB
   exact⟨[],[],[], .returned (.p (.bool false)),ckS ds b (mapI ds) l,rfl,sk,sk,by rw [hB],rfl⟩
 have m1:(k:Int)<(ds.length:Nat):=m1
 have hk:k<ds.length:=by omega
 have hcell:=decell hk
 have h1:=eachI_at ds [] hno k hk
 rw [List.nil_append] at h1
 have hcard:=fun h=>oneI_card (d:=ds.getD k de0) h1 h
 obtain⟨sN,sW,sG⟩:=count_step hk
 have hWl:worldsI [] (ds.take k)≤4 ^ nodesI [] (ds.take k):=worlds_le _ _ fun x hx hk3=>by
  obtain⟨j,hj,e⟩:=mem_at de0 (List.mem_of_mem_take hx)
  have h2:=eachI_at ds [] hno j hj
  rw [e] at h2
  exact(oneI_card h2 hk3).2
 have hfull:=fun h3 hp=>size_full hno hk h3 hp
 have hspos:=fun h3 hp=>size_pos hno hk h3 hp
 generalize ds.getD k de0=d at hcell hcard sN sW sG hfull hspos
 obtain⟨dk,dn,dnm,dpl,drs,dcs⟩:=d
 simp only [memI] at sN sW sG hcard hfull hspos
 refine⟨_,⟨by omega,(De.mk dk dn dnm dpl drs dcs).cells,hcell,rfl⟩,?_⟩
 have w2:∀ m:Nat,(1≤m→2≤dn∧dn≤4)→((worldsI [] (ds.take k):Nat):Int) * dn ^ m=((worldsI [] (ds.take k) * dn.toNat ^ m:Nat):Int):=fun m hq=>by
  rw [Int.natCast_mul,Int.natCast_pow]
  by_cases h0:m=0
  ·subst h0;rw [Int.pow_zero,Int.pow_zero]
  ·have:=hq (by omega)
   rw [show((dn.toNat:Nat):Int)=dn by omega]
 (first | refine brLt (fun q5=>?_) (fun q5=>?_) | refine brLe (fun q5=>?_) (fun q5=>?_) | refine brEq (fun q5=>?_) (fun q5=>?_))
 ·have q5:dk=5:=q5
  rw [if_neg (by omega),if_neg (by omega)] at sN sW
  rw [if_pos q5] at sG
  obtain⟨G,hGe⟩:∃ G,G=gainsI (ds.take k)+1:=⟨_,rfl⟩
  have hgl:gainsI (ds.take k)≤30:=by rw [gainsI];have:=List.length_filter_le (fun d:De=>decide (d.kind=5)) (ds.take k);rw [List.length_take] at this;omega
  have hN:=sN
  have hG:gainsI (ds.take (k+1))=G:=by rw [sG,hGe]
  have hq:1≤0→2≤dn∧dn≤4:=fun h=>absurd h (by decide)
  have hW2:=(w2 0 hq).trans (congrArg (fun z:Nat=>(z:Int)) sW.symm)
  refine⟨((G:Nat):Int),by rw [hGe,Int.natCast_add];exact wrap_i64 (by omega) (by omega),?_⟩
  refine⟨((nodesI [] (ds.take k)+0:Nat):Int),by rw [Int.natCast_add];exact wrap_i64 (by omega) (by omega),?_⟩
  (first | refine brLt (fun g8=>?_) (fun g8=>?_) | refine brLe (fun g8=>?_) (fun g8=>?_) | refine brEq (fun g8=>?_) (fun g8=>?_))
  ·have g8:(8:Int)<((nodesI [] (ds.take k)+0:Nat):Int):=g8
   have hm:=nodes_mono (ds:=ds) (k+1)
   exact⟨[],[],[], .returned (.p (.bool true)),ckS ds b (mapI ds) l,rfl,sk,sk,by rw [show bigI ds=true by unfold bigI;rw [decide_eq_true (show 8<nodesI [] ds by omega)];simp],rfl⟩
  have g8:¬ (8:Int)<((nodesI [] (ds.take k)+0:Nat):Int):=g8
  have hbd:=pow_bd (q:=dn) hWl (show nodesI [] (ds.take k)+0≤8 by omega) hq
  refine⟨Nat,fun j=>[(0, .ptr 0 0 0),(3, .p (i64 (nodesI [] (ds.take k)+0:Nat))),(4, .p (i64 (G:Nat))),(5, .p (i64 ((worldsI [] (ds.take k):Nat) * dn ^ j))),(7, .ptr 3 0 0),(13, .p (des ds)),(14, .p (i64 ds.length)),(15, .p (i64 k)),(41, .p (i64 (0:Nat))),(42, .p (i64 j))],fun _=>⟨4,[(3,dcO ⟨dk,dn,dnm,dpl,drs,dcs⟩),(2,isO l),(1,fmO (mapI ds)),(0,ckO ds (b:Nat) 2 l.length)]⟩,fun j=>j≤0,fun j=>0 - j,?_,?_⟩
  ·exact⟨0,Nat.zero_le _,ent_of [] [] [] rfl ⟨⟨rfl,rfl⟩,rfl,rfl,congrArg (fun z:Int=>i64 z) (by rw [Int.pow_zero,Int.mul_one]),⟨rfl,rfl⟩,rfl,rfl,rfl,rfl,rfl,trivial⟩ (sk) rfl⟩
  intro j hj
  (first | refine brLt (fun j1=>?_) (fun j1=>?_) | refine brLe (fun j1=>?_) (fun j1=>?_) | refine brEq (fun j1=>?_) (fun j1=>?_))
  ·have j1:(j:Int)<(0:Nat):=j1
   have hb1:=hbd (j+1) (by omega)
   refine⟨(worldsI [] (ds.take k):Nat) * dn ^ (j+1),by rw [Int.pow_succ,← Int.mul_assoc] at hb1 ⊢;exact wrap_i64 (by omega) (by omega),?_⟩
   refine⟨_,wrap_i64 (by omega) (by omega),?_⟩
   exact⟨j+1,by omega,ent_of [] [] [] rfl (sk) (sk) rfl,by show 0 - (j+1)<0 - j;omega⟩
  have j1:¬ (j:Int)<(0:Nat):=j1
  have hjm:j=0:=by omega
  subst hjm
  refine⟨_,wrap_i64 (by omega) (by omega),?_⟩
  exact⟨k+1,⟨by omega,by rw [hN];omega⟩,ent_of [] [] [] rfl ⟨⟨rfl,rfl⟩,congrArg (fun z:Nat=>i64 z) hN,congrArg (fun z:Nat=>i64 z) hG,congrArg (fun z:Int=>i64 z) hW2.symm,rfl,rfl,rfl,trivial⟩ (sk) rfl,by show ds.length - (k+1)<ds.length - k;omega⟩
 have q5:¬ dk=5:=q5
 have hG:gainsI (ds.take (k+1))=gainsI (ds.take k):=by rw [sG,if_neg q5];rfl
 (first | refine brLt (fun q4=>?_) (fun q4=>?_) | refine brLe (fun q4=>?_) (fun q4=>?_) | refine brEq (fun q4=>?_) (fun q4=>?_))
 ·have q4:dk=4:=q4
  rw [if_neg (by omega),if_pos q4] at sN sW
  have hN:=sN
  have hq:1≤1→2≤dn∧dn≤4:=fun _=>hcard (.inr q4)
  have hW2:=(w2 1 hq).trans (congrArg (fun z:Nat=>(z:Int)) sW.symm)
  refine⟨((nodesI [] (ds.take k)+1:Nat):Int),by rw [Int.natCast_add];exact wrap_i64 (by omega) (by omega),?_⟩
  (first | refine brLt (fun g8=>?_) (fun g8=>?_) | refine brLe (fun g8=>?_) (fun g8=>?_) | refine brEq (fun g8=>?_) (fun g8=>?_))
  ·have g8:(8:Int)<((nodesI [] (ds.take k)+1:Nat):Int):=g8
   have hm:=nodes_mono (ds:=ds) (k+1)
   exact⟨[],[],[], .returned (.p (.bool true)),ckS ds b (mapI ds) l,rfl,sk,sk,by rw [show bigI ds=true by unfold bigI;rw [decide_eq_true (show 8<nodesI [] ds by omega)];simp],rfl⟩
  have g8:¬ (8:Int)<((nodesI [] (ds.take k)+1:Nat):Int):=g8
  have hbd:=pow_bd (q:=dn) hWl (show nodesI [] (ds.take k)+1≤8 by omega) hq
  refine⟨Nat,fun j=>[(0, .ptr 0 0 0),(3, .p (i64 (nodesI [] (ds.take k)+1:Nat))),(4, .p (i64 (gainsI (ds.take k):Nat))),(5, .p (i64 ((worldsI [] (ds.take k):Nat) * dn ^ j))),(7, .ptr 3 0 0),(13, .p (des ds)),(14, .p (i64 ds.length)),(15, .p (i64 k)),(41, .p (i64 (1:Nat))),(42, .p (i64 j))],fun _=>⟨4,[(3,dcO ⟨dk,dn,dnm,dpl,drs,dcs⟩),(2,isO l),(1,fmO (mapI ds)),(0,ckO ds (b:Nat) 2 l.length)]⟩,fun j=>j≤1,fun j=>1 - j,?_,?_⟩
  ·exact⟨0,Nat.zero_le _,ent_of [] [] [] rfl ⟨⟨rfl,rfl⟩,rfl,rfl,congrArg (fun z:Int=>i64 z) (by rw [Int.pow_zero,Int.mul_one]),⟨rfl,rfl⟩,rfl,rfl,rfl,rfl,rfl,trivial⟩ (sk) rfl⟩
  intro j hj
  (first | refine brLt (fun j1=>?_) (fun j1=>?_) | refine brLe (fun j1=>?_) (fun j1=>?_) | refine brEq (fun j1=>?_) (fun j1=>?_))
  ·have j1:(j:Int)<(1:Nat):=j1
   have hb1:=hbd (j+1) (by omega)
   refine⟨(worldsI [] (ds.take k):Nat) * dn ^ (j+1),by rw [Int.pow_succ,← Int.mul_assoc] at hb1 ⊢;exact wrap_i64 (by omega) (by omega),?_⟩
   refine⟨_,wrap_i64 (by omega) (by omega),?_⟩
   exact⟨j+1,by omega,ent_of [] [] [] rfl (sk) (sk) rfl,by show 1 - (j+1)<1 - j;omega⟩
  have j1:¬ (j:Int)<(1:Nat):=j1
  have hjm:j=1:=by omega
  subst hjm
  refine⟨_,wrap_i64 (by omega) (by omega),?_⟩
  exact⟨k+1,⟨by omega,by rw [hN];omega⟩,ent_of [] [] [] rfl ⟨⟨rfl,rfl⟩,congrArg (fun z:Nat=>i64 z) hN,congrArg (fun z:Nat=>i64 z) hG,congrArg (fun z:Int=>i64 z) hW2.symm,rfl,rfl,rfl,trivial⟩ (sk) rfl,by show ds.length - (k+1)<ds.length - k;omega⟩
 have q4:¬ dk=4:=q4
 (first | refine brLt (fun q3=>?_) (fun q3=>?_) | refine brLe (fun q3=>?_) (fun q3=>?_) | refine brEq (fun q3=>?_) (fun q3=>?_))
 ·have q3:dk=3:=q3
  rw [if_pos q3] at sN sW
  refine And.intro (fun hp=>?_) (fun hp=>?_)
  ·have hp:dpl=[]:=hp
   rw [if_pos hp] at sN sW
   have hN:=sN
   have hq:1≤1→2≤dn∧dn≤4:=fun _=>hcard (.inl q3)
   have hW2:=(w2 1 hq).trans (congrArg (fun z:Nat=>(z:Int)) sW.symm)
   refine⟨((nodesI [] (ds.take k)+1:Nat):Int),by rw [Int.natCast_add];exact wrap_i64 (by omega) (by omega),?_⟩
   (first | refine brLt (fun g8=>?_) (fun g8=>?_) | refine brLe (fun g8=>?_) (fun g8=>?_) | refine brEq (fun g8=>?_) (fun g8=>?_))
   ·have g8:(8:Int)<((nodesI [] (ds.take k)+1:Nat):Int):=g8
    have hm:=nodes_mono (ds:=ds) (k+1)
    exact⟨[],[],[], .returned (.p (.bool true)),ckS ds b (mapI ds) l,rfl,sk,sk,by rw [show bigI ds=true by unfold bigI;rw [decide_eq_true (show 8<nodesI [] ds by omega)];simp],rfl⟩
   have g8:¬ (8:Int)<((nodesI [] (ds.take k)+1:Nat):Int):=g8
   have hbd:=pow_bd (q:=dn) hWl (show nodesI [] (ds.take k)+1≤8 by omega) hq
   refine⟨Nat,fun j=>[(0, .ptr 0 0 0),(3, .p (i64 (nodesI [] (ds.take k)+1:Nat))),(4, .p (i64 (gainsI (ds.take k):Nat))),(5, .p (i64 ((worldsI [] (ds.take k):Nat) * dn ^ j))),(7, .ptr 3 0 0),(13, .p (des ds)),(14, .p (i64 ds.length)),(15, .p (i64 k)),(41, .p (i64 (1:Nat))),(42, .p (i64 j))],fun _=>⟨4,[(3,dcO ⟨dk,dn,dnm,dpl,drs,dcs⟩),(2,isO l),(1,fmO (mapI ds)),(0,ckO ds (b:Nat) 2 l.length)]⟩,fun j=>j≤1,fun j=>1 - j,?_,?_⟩
   ·exact⟨0,Nat.zero_le _,ent_of [] [] [] rfl ⟨⟨rfl,rfl⟩,rfl,rfl,congrArg (fun z:Int=>i64 z) (by rw [Int.pow_zero,Int.mul_one]),⟨rfl,rfl⟩,rfl,rfl,rfl,rfl,rfl,trivial⟩ (sk) rfl⟩
   intro j hj
   (first | refine brLt (fun j1=>?_) (fun j1=>?_) | refine brLe (fun j1=>?_) (fun j1=>?_) | refine brEq (fun j1=>?_) (fun j1=>?_))
   ·have j1:(j:Int)<(1:Nat):=j1
    have hb1:=hbd (j+1) (by omega)
    refine⟨(worldsI [] (ds.take k):Nat) * dn ^ (j+1),by rw [Int.pow_succ,← Int.mul_assoc] at hb1 ⊢;exact wrap_i64 (by omega) (by omega),?_⟩
    refine⟨_,wrap_i64 (by omega) (by omega),?_⟩
    exact⟨j+1,by omega,ent_of [] [] [] rfl (sk) (sk) rfl,by show 1 - (j+1)<1 - j;omega⟩
   have j1:¬ (j:Int)<(1:Nat):=j1
   have hjm:j=1:=by omega
   subst hjm
   refine⟨_,wrap_i64 (by omega) (by omega),?_⟩
   exact⟨k+1,⟨by omega,by rw [hN];omega⟩,ent_of [] [] [] rfl ⟨⟨rfl,rfl⟩,congrArg (fun z:Nat=>i64 z) hN,congrArg (fun z:Nat=>i64 z) hG,congrArg (fun z:Int=>i64 z) hW2.symm,rfl,rfl,rfl,trivial⟩ (sk) rfl,by show ds.length - (k+1)<ds.length - k;omega⟩
  ·have hp:¬ dpl=[]:=hp
   rw [if_neg hp] at sN sW
   have hf:=hfull q3 hp
   have hs:=hspos q3 hp
   have hS:=size_h b l hcs hp
   rw [List.take_length,hf] at hS
   obtain⟨m,hm⟩:∃ m:Nat,sizeV (ds.take k) dpl=(m:Nat):=⟨(sizeV (ds.take k) dpl).toNat,by omega⟩
   rw [hm] at hS
   rw [hm,Int.toNat_natCast] at sN sW
   have hN:=sN
   have hq:1≤m→2≤dn∧dn≤4:=fun _=>hcard (.inl q3)
   have hW2:=(w2 m hq).trans (congrArg (fun z:Nat=>(z:Int)) sW.symm)
   have hm6:m≤6:=by omega
   refine hS.holds.useT [] [] rfl (sk) (sk) fun e0 H0 hq=>?_
   obtain⟨rfl,rfl⟩:=hq
   refine⟨rfl,_,⟨4,(2,isO l)::(1,fmO (mapI ds))::(0,ckO ds (b:Nat) 2 l.length)::[(3,dcO ⟨dk,dn,dnm,dpl,drs,dcs⟩)]⟩,rfl,rfl,?_⟩
   refine⟨((nodesI [] (ds.take k)+m:Nat):Int),by rw [Int.natCast_add];exact wrap_i64 (by omega) (by omega),?_⟩
   (first | refine brLt (fun g8=>?_) (fun g8=>?_) | refine brLe (fun g8=>?_) (fun g8=>?_) | refine brEq (fun g8=>?_) (fun g8=>?_))
   ·have g8:(8:Int)<((nodesI [] (ds.take k)+m:Nat):Int):=g8
    have hm:=nodes_mono (ds:=ds) (k+1)
    exact⟨[],[],[], .returned (.p (.bool true)),ckS ds b (mapI ds) l,rfl,sk,sk,by rw [show bigI ds=true by unfold bigI;rw [decide_eq_true (show 8<nodesI [] ds by omega)];simp],rfl⟩
   have g8:¬ (8:Int)<((nodesI [] (ds.take k)+m:Nat):Int):=g8
   have hbd:=pow_bd (q:=dn) hWl (show nodesI [] (ds.take k)+m≤8 by omega) hq
   refine⟨Nat,fun j=>[(0, .ptr 0 0 0),(3, .p (i64 (nodesI [] (ds.take k)+m:Nat))),(4, .p (i64 (gainsI (ds.take k):Nat))),(5, .p (i64 ((worldsI [] (ds.take k):Nat) * dn ^ j))),(7, .ptr 3 0 0),(13, .p (des ds)),(14, .p (i64 ds.length)),(15, .p (i64 k)),(41, .p (i64 (m:Nat))),(42, .p (i64 j))],fun _=>⟨4,[(3,dcO ⟨dk,dn,dnm,dpl,drs,dcs⟩),(2,isO l),(1,fmO (mapI ds)),(0,ckO ds (b:Nat) 2 l.length)]⟩,fun j=>j≤m,fun j=>m - j,?_,?_⟩
   ·exact⟨0,Nat.zero_le _,ent_of [] [] [] rfl ⟨⟨rfl,rfl⟩,rfl,rfl,congrArg (fun z:Int=>i64 z) (by rw [Int.pow_zero,Int.mul_one]),⟨rfl,rfl⟩,rfl,rfl,rfl,rfl,rfl,trivial⟩ (sk) rfl⟩
   intro j hj
   (first | refine brLt (fun j1=>?_) (fun j1=>?_) | refine brLe (fun j1=>?_) (fun j1=>?_) | refine brEq (fun j1=>?_) (fun j1=>?_))
   ·have j1:(j:Int)<(m:Nat):=j1
    have hb1:=hbd (j+1) (by omega)
    refine⟨(worldsI [] (ds.take k):Nat) * dn ^ (j+1),by rw [Int.pow_succ,← Int.mul_assoc] at hb1 ⊢;exact wrap_i64 (by omega) (by omega),?_⟩
    refine⟨_,wrap_i64 (by omega) (by omega),?_⟩
    exact⟨j+1,by omega,ent_of [] [] [] rfl (sk) (sk) rfl,by show m - (j+1)<m - j;omega⟩
   have j1:¬ (j:Int)<(m:Nat):=j1
   have hjm:j=m:=by omega
   subst hjm
   refine⟨_,wrap_i64 (by omega) (by omega),?_⟩
   exact⟨k+1,⟨by omega,by rw [hN];omega⟩,ent_of [] [] [] rfl ⟨⟨rfl,rfl⟩,congrArg (fun z:Nat=>i64 z) hN,congrArg (fun z:Nat=>i64 z) hG,congrArg (fun z:Int=>i64 z) hW2.symm,rfl,rfl,rfl,trivial⟩ (sk) rfl,by show ds.length - (k+1)<ds.length - k;omega⟩
 ·have q3:¬ dk=3:=q3
  rw [if_neg q3,if_neg q4] at sN sW
  have hN:=sN
  have hq:1≤0→2≤dn∧dn≤4:=fun h=>absurd h (by decide)
  have hW2:=(w2 0 hq).trans (congrArg (fun z:Nat=>(z:Int)) sW.symm)
  refine⟨((nodesI [] (ds.take k)+0:Nat):Int),by rw [Int.natCast_add];exact wrap_i64 (by omega) (by omega),?_⟩
  (first | refine brLt (fun g8=>?_) (fun g8=>?_) | refine brLe (fun g8=>?_) (fun g8=>?_) | refine brEq (fun g8=>?_) (fun g8=>?_))
  ·have g8:(8:Int)<((nodesI [] (ds.take k)+0:Nat):Int):=g8
   have hm:=nodes_mono (ds:=ds) (k+1)
   exact⟨[],[],[], .returned (.p (.bool true)),ckS ds b (mapI ds) l,rfl,sk,sk,by rw [show bigI ds=true by unfold bigI;rw [decide_eq_true (show 8<nodesI [] ds by omega)];simp],rfl⟩
  have g8:¬ (8:Int)<((nodesI [] (ds.take k)+0:Nat):Int):=g8
  have hbd:=pow_bd (q:=dn) hWl (show nodesI [] (ds.take k)+0≤8 by omega) hq
  refine⟨Nat,fun j=>[(0, .ptr 0 0 0),(3, .p (i64 (nodesI [] (ds.take k)+0:Nat))),(4, .p (i64 (gainsI (ds.take k):Nat))),(5, .p (i64 ((worldsI [] (ds.take k):Nat) * dn ^ j))),(7, .ptr 3 0 0),(13, .p (des ds)),(14, .p (i64 ds.length)),(15, .p (i64 k)),(41, .p (i64 (0:Nat))),(42, .p (i64 j))],fun _=>⟨4,[(3,dcO ⟨dk,dn,dnm,dpl,drs,dcs⟩),(2,isO l),(1,fmO (mapI ds)),(0,ckO ds (b:Nat) 2 l.length)]⟩,fun j=>j≤0,fun j=>0 - j,?_,?_⟩
  ·exact⟨0,Nat.zero_le _,ent_of [] [] [] rfl ⟨⟨rfl,rfl⟩,rfl,rfl,congrArg (fun z:Int=>i64 z) (by rw [Int.pow_zero,Int.mul_one]),⟨rfl,rfl⟩,rfl,rfl,rfl,rfl,rfl,trivial⟩ (sk) rfl⟩
  intro j hj
  (first | refine brLt (fun j1=>?_) (fun j1=>?_) | refine brLe (fun j1=>?_) (fun j1=>?_) | refine brEq (fun j1=>?_) (fun j1=>?_))
  ·have j1:(j:Int)<(0:Nat):=j1
   have hb1:=hbd (j+1) (by omega)
   refine⟨(worldsI [] (ds.take k):Nat) * dn ^ (j+1),by rw [Int.pow_succ,← Int.mul_assoc] at hb1 ⊢;exact wrap_i64 (by omega) (by omega),?_⟩
   refine⟨_,wrap_i64 (by omega) (by omega),?_⟩
   exact⟨j+1,by omega,ent_of [] [] [] rfl (sk) (sk) rfl,by show 0 - (j+1)<0 - j;omega⟩
  have j1:¬ (j:Int)<(0:Nat):=j1
  have hjm:j=0:=by omega
  subst hjm
  refine⟨_,wrap_i64 (by omega) (by omega),?_⟩
  exact⟨k+1,⟨by omega,by rw [hN];omega⟩,ent_of [] [] [] rfl ⟨⟨rfl,rfl⟩,congrArg (fun z:Nat=>i64 z) hN,congrArg (fun z:Nat=>i64 z) hG,congrArg (fun z:Int=>i64 z) hW2.symm,rfl,rfl,rfl,trivial⟩ (sk) rfl,by show ds.length - (k+1)<ds.length - k;omega⟩
abbrev pgS (ds:List De):Hp:=⟨2,[(1,fmO []),(0,⟨TCk,false, .bx [.p (des ds), .p (i64 0), .mp 1, .p .nils]⟩)]⟩
abbrev pgT (ds:List De) (b:Nat) (es:List (List UInt8 × PV)) (l:List Iss):Hp:=⟨3,[(2,isO l),(1,fmO es),(0,ckO ds (b:Nat) 2 l.length)]⟩
theorem noteN_h (ds:List De) (k:Int):HoldsG cx 48 [.ptr 0 0 0, .p (i64 k), .p .nils] (pgS ds) (fun e H'=>e=.returned und∧H'=pgT ds 0 [] [⟨k,0,[]⟩]):=by
 refine holdsN_of_vc Tryz.func48 rfl rfl rfl ?_
 refine⟨Unit,fun _=>[(0, .ptr 0 0 0),(6, .ptr 2 0 0),(15, .p .nils),(16, .p (i64 0)),(17, .p (i64 0))],fun _=>⟨3,[(2,⟨TIss,false, .bx [.p (i64 k), .p (i64 0), .p (.str [])]⟩),(1,fmO []),(0,⟨TCk,false, .bx [.p (des ds), .p (i64 0), .mp 1, .p .nils]⟩)]⟩,fun _=>True,fun _=>0,?_,?_⟩
 ·exact⟨(),trivial,ent_of [] [] [] rfl (sk) (sk) rfl⟩
 intro _ _
 refine And.intro (fun h=>absurd (show(0:Int)<0 from h) (by decide)) (fun _=>?_)
 refine vdraw_ot otN6 (by kernel_rfl) ?_
 refine⟨by show 1 * 32≤140737488355328;decide,?_⟩
 exact⟨[],[(2,3)],[], .returned und,pgT ds 0 [] [⟨k,0,[]⟩],rfl,sk,sk,rfl,rfl⟩
abbrev otP10:OT:=(.pure 0 (.pure 1 (.pure 2 (.pure 3 (.pure 4 (.pure 5 (.pure 6 (.eff 7 [] .fin .nil))))))))
def faO:AObj:=⟨133,false, .bx [.p .nilFn, .fn (.func 49) [.ptr 0 0 0] [], .fn (.func 50) [.ptr 0 0 0] [], .fn (.func 51) [.ptr 0 0 0] [], .fn (.func 52) [.ptr 0 0 0] [], .fn (.func 53) [.ptr 0 0 0] []]⟩
def pgQ (ds:List De) (l:List Iss) (e:AE) (H':Hp):Prop:=e=.returned und∧∃ b es,H'=pgT ds b es l
abbrev pgH (ds:List De) (x:Nat × List Iss):Hp:=⟨4,[(3,faO),(2,isO x.2),(1,fmO (mapI (ds.take x.1))),(0,ckO ds (x.1 - 1:Nat) 2 x.2.length)]⟩
theorem mapI_next {ds:List De} {k:Nat} (hk:k<ds.length):mapI (ds.take (k+1))=mapI (ds.take k)++(if (ds.getD k de0).name=[]∨(fstI (ds.take k) (ds.getD k de0).name).isSome then [] else [((ds.getD k de0).name,i64 (k:Nat))]):=by
 rw [take_succ_getD de0 hk,mapI_snoc,List.length_take,show min k ds.length=k by omega]
theorem each_next {ds:List De} {g:Int} {k:Nat} (hk:k<ds.length):eachI g [] (ds.take (k+1))=eachI g [] (ds.take k)++oneI (ds.take k) (ds.getD k de0) g:=by
 rw [take_succ_getD de0 hk,eachI_app]
 show _++(_++[])=_
 rw [List.append_nil];rfl
theorem ckS_at {ds:List De} {k:Nat} (hv:ds.length≤30) (hk:k≤ds.length):CkS ds k (mapI (ds.take k)):=⟨fun _ hn=>find_at _ hn,hv,hk⟩
theorem program_hS (ds:List De) (hv:validB ds=true):HoldsG cx 28 [.ptr 0 0 0] (pgS ds) (pgQ ds (allI ds)):=by
 obtain⟨hlen,hdv⟩:=valid_dcs hv
 have hm:(ds.map De.cells).length=ds.length:=List.length_map ..
 have hpre:∀ k,(headI ds++eachI (grainI ds) [] (ds.take k)).length≤13000:=fun k=>by
  have h1:=headI_len ds
  have h2:=eachI_len (grainI ds) (ds.take k) [] fun d hd=>hdv d (List.mem_of_mem_take hd)
  rw [List.length_take] at h2
  rw [List.length_append];omega
 obtain⟨R,hR⟩:∃ R,R=allI ds:=⟨_,rfl⟩
 rw [← hR]
 refine holdsN_of_vc Tryz.func28 rfl rfl rfl ?_
 apply cut
 case h=>
  intro key
  have hin:∀ X,X=headI ds→(0:Nat)≤ds.length∧X=headI ds++eachI (grainI ds) [] (ds.take 0):=fun X hX=>⟨Nat.zero_le _,by rw [hX];show _=headI ds++[];rw [List.append_nil]⟩
  by_cases h0:ds=[]
  ·refine And.intro (fun _=>?_) (fun h=>absurd (show((ds.map De.cells).length:Int)=0 by rw [h0];rfl) h)
   refine(noteN_h ds 1).holds.useT [] [] rfl (sk) (sk) fun e0 H0 hq=>?_
   obtain⟨rfl,rfl⟩:=hq
   refine⟨rfl,_,⟨3,(2,isO [⟨1,0,[]⟩])::(1,fmO [])::(0,ckO ds 0 2 1)::[]⟩,rfl,rfl,?_⟩
   exact⟨Nat × List Iss,fun x=>[(0, .ptr 0 0 0),(2, .ptr 3 0 0),(42, .p (des ds)),(43, .p (i64 ds.length)),(44, .p (i64 x.1))],pgH ds,fun x=>x.1≤ds.length∧x.2=headI ds++eachI (grainI ds) [] (ds.take x.1),fun x=>ds.length - x.1,⟨(0,[⟨1,0,[]⟩]),hin _ (by first | exact hd.symm | (rw [h0];rfl)),ent_of [] [] [] rfl ⟨⟨rfl,rfl⟩,⟨rfl,rfl⟩,rfl,congrArg (fun n:Nat=>i64 n) hm.symm,rfl,trivial⟩ (sk) rfl⟩,key.get⟩
  ·have hpos:1≤ds.length:=by
    cases ds with
    | nil=>exact absurd rfl h0
    | cons d r=>show 1≤r.length+1;omega
   have hh:∃ t:De,(ds.map De.cells)[0]?=some t.cells∧(headI ds=if t.kind=1 then [] else [⟨1,0,[]⟩]):=by
    cases ds with
    | nil=>exact absurd rfl h0
    | cons t r=>exact⟨t,rfl,rfl⟩
   obtain⟨⟨tk,tn,tnm,tpl,trs,tcs⟩,ht,hd⟩:=hh
   refine And.intro (fun h=>absurd (show((ds.map De.cells).length:Int)=0 from h) (by rw [hm];omega)) (fun _=>?_)
   refine⟨_,⟨by decide,(De.mk tk tn tnm tpl trs tcs).cells,ht,rfl⟩,?_⟩
   refine And.intro (fun k1=>?_) (fun k1=>?_)
   ·have k1:tk=1:=k1
    simp only [if_pos k1] at hd
    exact⟨Nat × List Iss,fun x=>[(0, .ptr 0 0 0),(2, .ptr 3 0 0),(42, .p (des ds)),(43, .p (i64 ds.length)),(44, .p (i64 x.1))],pgH ds,fun x=>x.1≤ds.length∧x.2=headI ds++eachI (grainI ds) [] (ds.take x.1),fun x=>ds.length - x.1,⟨(0,[]),hin [] hd.symm,ent_of [] [(3,2)] [(2,3)] rfl ⟨⟨rfl,rfl⟩,⟨rfl,rfl⟩,rfl,congrArg (fun n:Nat=>i64 n) hm.symm,rfl,trivial⟩ (sk) rfl⟩,key.get⟩
   ·have k1:¬ tk=1:=k1
    simp only [if_neg k1] at hd
    refine(noteN_h ds 1).holds.useT [] [] rfl (sk) (sk) fun e0 H0 hq=>?_
    obtain⟨rfl,rfl⟩:=hq
    refine⟨rfl,_,⟨3,(2,isO [⟨1,0,[]⟩])::(1,fmO [])::(0,ckO ds 0 2 1)::[]⟩,rfl,rfl,?_⟩
    exact⟨Nat × List Iss,fun x=>[(0, .ptr 0 0 0),(2, .ptr 3 0 0),(42, .p (des ds)),(43, .p (i64 ds.length)),(44, .p (i64 x.1))],pgH ds,fun x=>x.1≤ds.length∧x.2=headI ds++eachI (grainI ds) [] (ds.take x.1),fun x=>ds.length - x.1,⟨(0,[⟨1,0,[]⟩]),hin _ (by first | exact hd.symm | (rw [h0];rfl)),ent_of [] [] [] rfl ⟨⟨rfl,rfl⟩,⟨rfl,rfl⟩,rfl,congrArg (fun n:Nat=>i64 n) hm.symm,rfl,trivial⟩ (sk) rfl⟩,key.get⟩
 case k=>
  rintro⟨k,cur⟩ ⟨k1,k2⟩
  simp only [] at k1 k2
  have hcl:cur.length≤13000:=by rw [k2];exact hpre k
  (first | refine brLt (fun m1=>?_) (fun m1=>?_) | refine brLe (fun m1=>?_) (fun m1=>?_) | refine brEq (fun m1=>?_) (fun m1=>?_))
  rotate_left
  ·have m1:¬ (k:Int)<(ds.length:Nat):=m1
   have et:ds.take k=ds:=take_all (by omega)
   rw [et] at k2
   have hkl:k=ds.length:=by omega
   by_cases hb:cur=[]
   ·subst hb
    have hno:eachI (grainI ds) [] ds=[]:=(List.append_eq_nil_iff.1 k2.symm).2
    have hRa:R=if bigI ds then [⟨10,ds.length,[]⟩] else []:=by rw [hR,allI,if_pos (show baseI ds=[] from k2.symm)]
    have hB:=big_h (k - 1) [] hlen hno
    rw [show mapI ds=mapI (ds.take k) by rw [et]] at hB
    refine And.intro (fun _=>?_) (fun h=>absurd rfl h)
    by_cases hbg:bigI ds=true
    ·rw [if_pos hbg] at hRa
     rw [hbg] at hB
     refine hB.holds.useT [] [] rfl (sk) (sk) fun e0 H0 hq=>?_
     obtain⟨rfl,rfl⟩:=hq
     refine⟨rfl,_,⟨4,(2,isO [])::(1,fmO (mapI (ds.take k)))::(0,ckO ds (k - 1:Nat) 2 0)::[(3,faO)]⟩,rfl,rfl,?_⟩
     refine(note0_h ds (ds.map De.cells).length (mapI (ds.take k)) [] 10 (by simp)).holds.useT [] [] rfl (sk) (sk) fun e0 H0 hq=>?_
     obtain⟨rfl,rfl⟩:=hq
     refine⟨rfl,_,⟨5,(4,isO [Iss.mk 10 ((ds.map De.cells).length:Nat) []])::(1,fmO (mapI (ds.take k)))::(0,ckO ds ((ds.map De.cells).length:Nat) 4 1)::[(3,faO)]⟩,rfl,rfl,?_⟩
     exact⟨[],[(2,4)],[], .returned und,pgT ds (ds.map De.cells).length (mapI (ds.take k)) [⟨10,((ds.map De.cells).length:Nat),[]⟩],rfl,sk,sk,rfl,_,_,by rw [hRa,hm]⟩
    ·rw [if_neg hbg] at hRa
     rw [Bool.not_eq_true] at hbg
     rw [hbg] at hB
     refine hB.holds.useT [] [] rfl (sk) (sk) fun e0 H0 hq=>?_
     obtain⟨rfl,rfl⟩:=hq
     refine⟨rfl,_,⟨4,(2,isO [])::(1,fmO (mapI (ds.take k)))::(0,ckO ds (k - 1:Nat) 2 0)::[(3,faO)]⟩,rfl,rfl,?_⟩
     exact⟨[],[],[], .returned und,pgT ds (k - 1) (mapI (ds.take k)) [],rfl,sk,sk,rfl,k - 1,_,by rw [hRa]⟩
   ·have hRa:R=cur:=by
     rw [hR,allI,if_neg (show ¬ baseI ds=[] from fun e=>hb (k2.trans e))];exact k2.symm
    have hl0:¬ cur.length=0:=fun e=>hb (List.eq_nil_of_length_eq_zero e)
    refine And.intro (fun h=>absurd (show((cur.length:Nat):Int)=0 from h) (by omega)) (fun _=>?_)
    exact⟨[],[],[], .returned und,pgT ds (k - 1) (mapI (ds.take k)) cur,rfl,sk,sk,rfl,k - 1,_,by rw [hRa]⟩
  have m1:(k:Int)<(ds.length:Nat):=m1
  have hk:k<ds.length:=by omega
  have hcell:=decell hk
  have hd:=hdv _ (getD_memL de0 hk)
  have hC:=ckS_at hlen k1
  have hmap:=mapI_next hk
  have hnx:=each_next (g:=grainI ds) hk
  have k4:cur++oneI (ds.take k) (ds.getD k de0) (grainI ds)=headI ds++eachI (grainI ds) [] (ds.take (k+1)):=by rw [hnx,← List.append_assoc,← k2]
  have k5:(cur++oneI (ds.take k) (ds.getD k de0) (grainI ds)).length≤90000:=by rw [k4];have:=hpre (k+1);omega
  generalize ds.getD k de0=d at hcell hd hmap k4 k5
  clear hnx k2 hR
  have hd:=hd.ok
  obtain⟨dk,dn,dnm,dpl,drs,dcs⟩:=d
  simp only [] at hmap
  refine⟨_,⟨by omega,(De.mk dk dn dnm dpl drs dcs).cells,hcell,rfl⟩,?_⟩
  have hkind:=hd.ok.kind
  have hbare:=hd.ok.bare
  have hname:=hd.ok.name
  simp only [] at hkind hbare hname
  by_cases hb:dnm=[]
  ·have hnone:findM (mapI (ds.take k)) dnm=none:=by rw [hb];exact find_nil _
   rw [if_pos (.inl hb),List.append_nil] at hmap
   rcases hkind with rfl | rfl | rfl | rfl | rfl
   ·have hG:=grain_hS cur hC ⟨1,dn,dnm,dpl,drs,dcs⟩ rfl k5
    generalize cur++oneI (ds.take k) ⟨1,dn,dnm,dpl,drs,dcs⟩ (grainI ds)=nxt at hG k4
    refine VDraw.seq rfl ?_
    refine⟨by show(0:Int)≤1∧(1:Int)<6;decide,?_⟩
    refine⟨_,rfl,?_⟩
    refine(hG).holds.useT [] [] rfl (sk) (sk) fun e0 H0 hq=>?_
    obtain⟨rfl,rfl⟩:=hq
    refine⟨rfl,_,⟨6,(5,isO nxt)::(1,fmO (mapI (ds.take k)))::(0,ckO ds (k:Nat) 5 nxt.length)::[(4,dcO ⟨1,dn,dnm,dpl,drs,dcs⟩),(3,faO)]⟩,rfl,rfl,?_⟩
    refine VDraw.seq rfl ?_
    refine⟨_, .inr ⟨hnone,rfl⟩,?_⟩
    refine And.intro (fun _=>?_) (fun h=>absurd hb h)
    refine⟨((k+1:Nat):Int),by rw [Int.natCast_add];exact wrap_i64 (by omega) (by omega),?_⟩
    exact⟨(k+1,nxt),⟨by show k+1≤ds.length;omega,k4⟩,ent_of [] [(2,5),(3,3)] [] rfl (sk) ⟨⟨_,rfl,rfl,rfl,sk⟩,⟨_,rfl,rfl,rfl,rfl⟩,⟨_,rfl,rfl,rfl,congrArg Cn.ms (hmap.symm)⟩,⟨_,rfl,rfl,rfl,sk⟩,trivial⟩ rfl,by show ds.length - (k+1)<ds.length - k;omega⟩
   ·exact absurd hb (hname (.inl rfl))
   ·exact absurd hb (hname (.inr (.inl rfl)))
   ·exact absurd hb (hname (.inr (.inr rfl)))
   ·have hG:=gain_hS cur hC ⟨5,dn,dnm,dpl,drs,dcs⟩ hd rfl k5
    generalize cur++oneI (ds.take k) ⟨5,dn,dnm,dpl,drs,dcs⟩ (grainI ds)=nxt at hG k4
    refine VDraw.seq rfl ?_
    refine⟨by show(0:Int)≤5∧(5:Int)<6;decide,?_⟩
    refine⟨_,rfl,?_⟩
    refine(hG).holds.useT [] [] rfl (sk) (sk) fun e0 H0 hq=>?_
    obtain⟨rfl,rfl⟩:=hq
    refine⟨rfl,_,⟨6,(5,isO nxt)::(1,fmO (mapI (ds.take k)))::(0,ckO ds (k:Nat) 5 nxt.length)::[(4,dcO ⟨5,dn,dnm,dpl,drs,dcs⟩),(3,faO)]⟩,rfl,rfl,?_⟩
    refine VDraw.seq rfl ?_
    refine⟨_, .inr ⟨hnone,rfl⟩,?_⟩
    refine And.intro (fun _=>?_) (fun h=>absurd hb h)
    refine⟨((k+1:Nat):Int),by rw [Int.natCast_add];exact wrap_i64 (by omega) (by omega),?_⟩
    exact⟨(k+1,nxt),⟨by show k+1≤ds.length;omega,k4⟩,ent_of [] [(2,5),(3,3)] [] rfl (sk) ⟨⟨_,rfl,rfl,rfl,sk⟩,⟨_,rfl,rfl,rfl,rfl⟩,⟨_,rfl,rfl,rfl,congrArg Cn.ms (hmap.symm)⟩,⟨_,rfl,rfl,rfl,sk⟩,trivial⟩ rfl,by show ds.length - (k+1)<ds.length - k;omega⟩
  ·have hfa:=find_at (ds.take k) hb
   have hor:(findM (mapI (ds.take k)) dnm=none∧mapI (ds.take (k+1))=mapI (ds.take k)++[(dnm,i64 (k:Nat))])∨∃ i:Nat,findM (mapI (ds.take k)) dnm=some (i64 (i:Nat))∧mapI (ds.take (k+1))=mapI (ds.take k):=by
    cases hi:fstI (ds.take k) dnm with
    | none=>rw [hi] at hfa hmap;exact .inl ⟨hfa,by rw [hmap,if_neg (by intro h;rcases h with h | h;exact hb h;cases h)]⟩
    | some i=>rw [hi] at hfa hmap;exact .inr ⟨i,hfa,by rw [hmap,if_pos (.inr rfl),List.append_nil]⟩
   rcases hkind with rfl | rfl | rfl | rfl | rfl
   ·exact absurd (hbare (.inl rfl)) hb
   ·have hG:=plate_hS cur hC ⟨2,dn,dnm,dpl,drs,dcs⟩ hd.ok rfl k5
    generalize cur++oneI (ds.take k) ⟨2,dn,dnm,dpl,drs,dcs⟩ (grainI ds)=nxt at hG k4
    refine VDraw.seq rfl ?_
    refine Or.elim hor (fun hi=>?_) (fun hi=>?_)
    ·obtain⟨hi1,hi2⟩:=hi
     refine⟨by show(0:Int)≤2∧(2:Int)<6;decide,?_⟩
     refine⟨_,rfl,?_⟩
     refine(hG).holds.useT [] [] rfl (sk) (sk) fun e0 H0 hq=>?_
     obtain⟨rfl,rfl⟩:=hq
     refine⟨rfl,_,⟨6,(5,isO nxt)::(1,fmO (mapI (ds.take k)))::(0,ckO ds (k:Nat) 5 nxt.length)::[(4,dcO ⟨2,dn,dnm,dpl,drs,dcs⟩),(3,faO)]⟩,rfl,rfl,?_⟩
     refine VDraw.seq rfl ?_
     refine⟨_, .inr ⟨hi1,rfl⟩,?_⟩
     refine And.intro (fun h=>absurd h hb) (fun _=>?_)
     refine vdraw_ot otP10 (by kernel_rfl) ?_
     refine⟨_,rfl,?_⟩
     refine⟨((k+1:Nat):Int),by rw [Int.natCast_add];exact wrap_i64 (by omega) (by omega),?_⟩
     exact⟨(k+1,nxt),⟨by show k+1≤ds.length;omega,k4⟩,ent_of [] [(2,5),(3,3)] [] rfl (sk) ⟨⟨_,rfl,rfl,rfl,sk⟩,⟨_,rfl,rfl,rfl,rfl⟩,⟨_,rfl,rfl,rfl,congrArg Cn.ms (by rw [hi2,putM_new hi1])⟩,⟨_,rfl,rfl,rfl,sk⟩,trivial⟩ rfl,by show ds.length - (k+1)<ds.length - k;omega⟩
    ·obtain⟨i,hi1,hi2⟩:=hi
     refine⟨by show(0:Int)≤2∧(2:Int)<6;decide,?_⟩
     refine⟨_,rfl,?_⟩
     refine(hG).holds.useT [] [] rfl (sk) (sk) fun e0 H0 hq=>?_
     obtain⟨rfl,rfl⟩:=hq
     refine⟨rfl,_,⟨6,(5,isO nxt)::(1,fmO (mapI (ds.take k)))::(0,ckO ds (k:Nat) 5 nxt.length)::[(4,dcO ⟨2,dn,dnm,dpl,drs,dcs⟩),(3,faO)]⟩,rfl,rfl,?_⟩
     refine VDraw.seq rfl ?_
     refine⟨_, .inl ⟨_,hi1,rfl⟩,?_⟩
     refine⟨((k+1:Nat):Int),by rw [Int.natCast_add];exact wrap_i64 (by omega) (by omega),?_⟩
     exact⟨(k+1,nxt),⟨by show k+1≤ds.length;omega,k4⟩,ent_of [] [(2,5),(3,3)] [] rfl (sk) ⟨⟨_,rfl,rfl,rfl,sk⟩,⟨_,rfl,rfl,rfl,rfl⟩,⟨_,rfl,rfl,rfl,congrArg Cn.ms (hi2.symm)⟩,⟨_,rfl,rfl,rfl,sk⟩,trivial⟩ rfl,by show ds.length - (k+1)<ds.length - k;omega⟩
   ·have hG:=node_hS cur hC ⟨3,dn,dnm,dpl,drs,dcs⟩ hd rfl (by omega) k5
    generalize cur++oneI (ds.take k) ⟨3,dn,dnm,dpl,drs,dcs⟩ (grainI ds)=nxt at hG k4
    refine VDraw.seq rfl ?_
    refine Or.elim hor (fun hi=>?_) (fun hi=>?_)
    ·obtain⟨hi1,hi2⟩:=hi
     refine⟨by show(0:Int)≤3∧(3:Int)<6;decide,?_⟩
     refine⟨_,rfl,?_⟩
     refine(hG).holds.useT [] [] rfl (sk) (sk) fun e0 H0 hq=>?_
     obtain⟨rfl,rfl⟩:=hq
     refine⟨rfl,_,⟨6,(5,isO nxt)::(1,fmO (mapI (ds.take k)))::(0,ckO ds (k:Nat) 5 nxt.length)::[(4,dcO ⟨3,dn,dnm,dpl,drs,dcs⟩),(3,faO)]⟩,rfl,rfl,?_⟩
     refine VDraw.seq rfl ?_
     refine⟨_, .inr ⟨hi1,rfl⟩,?_⟩
     refine And.intro (fun h=>absurd h hb) (fun _=>?_)
     refine vdraw_ot otP10 (by kernel_rfl) ?_
     refine⟨_,rfl,?_⟩
     refine⟨((k+1:Nat):Int),by rw [Int.natCast_add];exact wrap_i64 (by omega) (by omega),?_⟩
     exact⟨(k+1,nxt),⟨by show k+1≤ds.length;omega,k4⟩,ent_of [] [(2,5),(3,3)] [] rfl (sk) ⟨⟨_,rfl,rfl,rfl,sk⟩,⟨_,rfl,rfl,rfl,rfl⟩,⟨_,rfl,rfl,rfl,congrArg Cn.ms (by rw [hi2,putM_new hi1])⟩,⟨_,rfl,rfl,rfl,sk⟩,trivial⟩ rfl,by show ds.length - (k+1)<ds.length - k;omega⟩
    ·obtain⟨i,hi1,hi2⟩:=hi
     refine⟨by show(0:Int)≤3∧(3:Int)<6;decide,?_⟩
     refine⟨_,rfl,?_⟩
     refine(hG).holds.useT [] [] rfl (sk) (sk) fun e0 H0 hq=>?_
     obtain⟨rfl,rfl⟩:=hq
     refine⟨rfl,_,⟨6,(5,isO nxt)::(1,fmO (mapI (ds.take k)))::(0,ckO ds (k:Nat) 5 nxt.length)::[(4,dcO ⟨3,dn,dnm,dpl,drs,dcs⟩),(3,faO)]⟩,rfl,rfl,?_⟩
     refine VDraw.seq rfl ?_
     refine⟨_, .inl ⟨_,hi1,rfl⟩,?_⟩
     refine⟨((k+1:Nat):Int),by rw [Int.natCast_add];exact wrap_i64 (by omega) (by omega),?_⟩
     exact⟨(k+1,nxt),⟨by show k+1≤ds.length;omega,k4⟩,ent_of [] [(2,5),(3,3)] [] rfl (sk) ⟨⟨_,rfl,rfl,rfl,sk⟩,⟨_,rfl,rfl,rfl,rfl⟩,⟨_,rfl,rfl,rfl,congrArg Cn.ms (hi2.symm)⟩,⟨_,rfl,rfl,rfl,sk⟩,trivial⟩ rfl,by show ds.length - (k+1)<ds.length - k;omega⟩
   ·have hG:=choose_hS cur hC ⟨4,dn,dnm,dpl,drs,dcs⟩ hd rfl k5
    generalize cur++oneI (ds.take k) ⟨4,dn,dnm,dpl,drs,dcs⟩ (grainI ds)=nxt at hG k4
    refine VDraw.seq rfl ?_
    refine Or.elim hor (fun hi=>?_) (fun hi=>?_)
    ·obtain⟨hi1,hi2⟩:=hi
     refine⟨by show(0:Int)≤4∧(4:Int)<6;decide,?_⟩
     refine⟨_,rfl,?_⟩
     refine(hG).holds.useT [] [] rfl (sk) (sk) fun e0 H0 hq=>?_
     obtain⟨rfl,rfl⟩:=hq
     refine⟨rfl,_,⟨6,(5,isO nxt)::(1,fmO (mapI (ds.take k)))::(0,ckO ds (k:Nat) 5 nxt.length)::[(4,dcO ⟨4,dn,dnm,dpl,drs,dcs⟩),(3,faO)]⟩,rfl,rfl,?_⟩
     refine VDraw.seq rfl ?_
     refine⟨_, .inr ⟨hi1,rfl⟩,?_⟩
     refine And.intro (fun h=>absurd h hb) (fun _=>?_)
     refine vdraw_ot otP10 (by kernel_rfl) ?_
     refine⟨_,rfl,?_⟩
     refine⟨((k+1:Nat):Int),by rw [Int.natCast_add];exact wrap_i64 (by omega) (by omega),?_⟩
     exact⟨(k+1,nxt),⟨by show k+1≤ds.length;omega,k4⟩,ent_of [] [(2,5),(3,3)] [] rfl (sk) ⟨⟨_,rfl,rfl,rfl,sk⟩,⟨_,rfl,rfl,rfl,rfl⟩,⟨_,rfl,rfl,rfl,congrArg Cn.ms (by rw [hi2,putM_new hi1])⟩,⟨_,rfl,rfl,rfl,sk⟩,trivial⟩ rfl,by show ds.length - (k+1)<ds.length - k;omega⟩
    ·obtain⟨i,hi1,hi2⟩:=hi
     refine⟨by show(0:Int)≤4∧(4:Int)<6;decide,?_⟩
     refine⟨_,rfl,?_⟩
     refine(hG).holds.useT [] [] rfl (sk) (sk) fun e0 H0 hq=>?_
     obtain⟨rfl,rfl⟩:=hq
     refine⟨rfl,_,⟨6,(5,isO nxt)::(1,fmO (mapI (ds.take k)))::(0,ckO ds (k:Nat) 5 nxt.length)::[(4,dcO ⟨4,dn,dnm,dpl,drs,dcs⟩),(3,faO)]⟩,rfl,rfl,?_⟩
     refine VDraw.seq rfl ?_
     refine⟨_, .inl ⟨_,hi1,rfl⟩,?_⟩
     refine⟨((k+1:Nat):Int),by rw [Int.natCast_add];exact wrap_i64 (by omega) (by omega),?_⟩
     exact⟨(k+1,nxt),⟨by show k+1≤ds.length;omega,k4⟩,ent_of [] [(2,5),(3,3)] [] rfl (sk) ⟨⟨_,rfl,rfl,rfl,sk⟩,⟨_,rfl,rfl,rfl,rfl⟩,⟨_,rfl,rfl,rfl,congrArg Cn.ms (hi2.symm)⟩,⟨_,rfl,rfl,rfl,sk⟩,trivial⟩ rfl,by show ds.length - (k+1)<ds.length - k;omega⟩
   ·exact absurd (hbare (.inr rfl)) hb
def scO (ds:List De):AObj:=⟨40,false, .bx [.p (des ds)]⟩
theorem issues_c (ds:List De) (hb:BigP ds):Pure cx 9 [srcV ds] (·=.ret (issV ds)):=by
 have hC:=pcheck_c ds hb
 rw [chkV] at hC
 by_cases hv:validB ds=true
 ·have hI:issV ds=[isl (allI ds),i64 0]:=by rw [issV,if_pos hv]
  rw [hI]
  rw [if_pos hv] at hC
  refine pure_of_vc Tryz.func9 rfl rfl rfl ?_
  refine hC.eq rfl ?_
  refine And.intro (fun _=>?_) (fun h=>absurd rfl h)
  refine(program_hS ds hv).holds.useT [] [(0,2)] rfl (sk) (sk) fun e0 H0 hq=>?_
  obtain⟨rfl,b,es,rfl⟩:=hq
  generalize allI ds=R
  refine⟨rfl,_,⟨4,(3,isO R)::(1,fmO es)::(2,ckO ds (b:Nat) 3 R.length)::[(0,scO ds)]⟩,rfl,rfl,?_⟩
  exact end2 (isl R) (i64 0) rfl ⟨_,rfl,by show 0+R.length≤(R.map Iss.cells).length;simp,takeAll (by simp)⟩ rfl rfl
 ·have hI:issV ds=[isl [],i64 380]:=by rw [issV,if_neg hv]
  rw [hI]
  rw [if_neg hv] at hC
  refine pure_of_vc Tryz.func9 rfl rfl rfl ?_
  refine hC.eq rfl ?_
  refine And.intro (fun h=>absurd (show(380:Int)=0 from h) (by decide)) (fun _=>?_)
  exact end2 (isl []) (i64 380) rfl (.inr (.inr ⟨3,rfl⟩)) rfl rfl
theorem scheck_c (ds:List De) (hb:BigP ds):Pure cx 17 [srcV ds] (·=.ret [i64 (scopeE ds)]):=by
 have hI:=issues_c ds hb
 rw [issV] at hI
 by_cases hv:validB ds=true
 ·rw [if_pos hv] at hI
  by_cases hn:allI ds=[]
  ·have hs:scopeE ds=0:=by rw [scopeE,if_pos hv,if_pos hn]
   rw [hs]
   rw [hn] at hI
   refine pure_of_vc Tryz.func17 rfl rfl rfl ?_
   refine hI.eq rfl ?_
   refine And.intro (fun _=>?_) (fun h=>absurd rfl h)
   refine And.intro (fun h=>absurd (show(0:Int)<0 from h) (by decide)) (fun _=>?_)
   exact end1 _ rfl rfl rfl
  ·have hs:scopeE ds=390:=by rw [scopeE,if_pos hv,if_neg hn]
   have hl:1≤(allI ds).length:=List.length_pos_iff.2 hn
   rw [hs]
   generalize allI ds=R at hI hl
   refine pure_of_vc Tryz.func17 rfl rfl rfl ?_
   refine hI.eq rfl ?_
   refine And.intro (fun _=>?_) (fun h=>absurd rfl h)
   refine And.intro (fun _=>?_) (fun h=>absurd (show(0:Int)<((R.map Iss.cells).length:Nat) by rw [List.length_map];omega) h)
   exact end1 _ rfl rfl rfl
 ·rw [if_neg hv] at hI
  have hs:scopeE ds=380:=by rw [scopeE,if_neg hv]
  rw [hs]
  refine pure_of_vc Tryz.func17 rfl rfl rfl ?_
  refine hI.eq rfl ?_
  refine And.intro (fun h=>absurd (show(380:Int)=0 from h) (by decide)) (fun _=>?_)
  exact end1 _ rfl rfl rfl
theorem find_put (a:List UInt8) (x:PV) (b:List UInt8):∀ es:List (List UInt8 × PV),findM (putM es a x) b=if b=a then some x else findM es b
 | []=>by
  show(match decide (b=a) with | true=>some x | false=>none)=if b=a then some x else none
  by_cases h:b=a
  ·rw [decide_eq_true h,if_pos h]
  ·rw [decide_eq_false h,if_neg h]
 | (k,y)::r=>by
  rw [putM]
  by_cases h:a=k
  ·rw [decide_eq_true h]
   show findM ((k,x)::r) b=_
   rw [findM,findM]
   by_cases h2:b=k
   ·rw [decide_eq_true h2,if_pos (h2.trans h.symm)]
   ·rw [decide_eq_false h2,if_neg (fun e=>h2 (e.trans h))]
  ·rw [decide_eq_false h]
   show findM ((k,y)::putM r a x) b=_
   rw [findM,findM,find_put a x b r]
   by_cases h2:b=k
   ·rw [decide_eq_true h2]
    show some y=if b=a then some x else some y
    rw [if_neg (fun e=>h (e.symm.trans h2))]
   ·rw [decide_eq_false h2]
structure SzM (ds:List De) (k:Nat) (es:List (List UInt8 × PV)):Prop where
 one:findM es []=some (i64 1)
 plate:∀ nm,nm ≠ []→∀ t,fstV (ds.take k) nm=some t→t.kind=2→findM es nm=some (i64 t.n)
theorem fst_next {ds:List De} {k:Nat} (hk:k<ds.length) {nm:List UInt8} {t:De} (h:fstV (ds.take (k+1)) nm=some t):fstV (ds.take k) nm=some t∨(fstV (ds.take k) nm=none∧t=ds.getD k de0∧t.name=nm):=by
 rw [take_succ_getD de0 hk] at h
 cases hf:fstV (ds.take k) nm with
 | some u=>rw [fstV_app hf] at h;exact .inl h
 | none=>
  have hm:=fstV_mem h
  rw [fstV_find,List.find?_append,← fstV_find,hf] at h
  have h2:=List.mem_of_find?_eq_some (show [ds.getD k de0].find? (fun d=>decide (d.name=nm))=some t from h)
  exact .inr ⟨rfl,List.mem_singleton.1 h2,hm.2⟩
theorem SzM.put {ds:List De} {k:Nat} {es:List (List UInt8 × PV)} (h:SzM ds k es) (hk:k<ds.length) (h2:fstV (ds.take k) (ds.getD k de0).name=none) (hn:(ds.getD k de0).name ≠ []):SzM ds (k+1) (putM es (ds.getD k de0).name (i64 (ds.getD k de0).n)):=by
 refine⟨by rw [find_put,if_neg (fun e=>hn e.symm)];exact h.one,fun nm hnm t ht hk2=>?_⟩
 rw [find_put]
 rcases fst_next hk ht with h3 | ⟨h3,h4,h5⟩
 ·rw [if_neg (fun e=>by rw [e,h2] at h3;cases h3)]
  exact h.plate nm hnm t h3 hk2
 ·rw [if_pos (by rw [← h5,h4]),h4]
theorem SzM.skip {ds:List De} {k:Nat} {es:List (List UInt8 × PV)} (h:SzM ds k es) (hk:k<ds.length) (h2:¬ (ds.getD k de0).kind=2):SzM ds (k+1) es:=by
 refine⟨h.one,fun nm hnm t ht hk2=>?_⟩
 rcases fst_next hk ht with h3 | ⟨h3,h4,h5⟩
 ·exact h.plate nm hnm t h3 hk2
 ·rw [h4] at hk2;exact absurd hk2 h2
end Go.Proofs.YtmepdfingcmkmaaGreatDoor

/- Part 1 of the proof: Ya Yb Yc Yd Ye Ydk Yf Yg Yh Yi -/
import Derived.WalkKit
import Derived.RangeFuncIn
import Derived.Laws.StructEq
import Derived.LaidEql
import Derived.Laws.BytesString
import Derived.Lib.Builder
namespace Go.Proofs.YtkegmchjobphdaaGreatDoor.Y
open Go
theorem sk {p:Prop} (h:p:=by(repeat' first | exact trivial | exact rfl | exact⟨rfl,rfl⟩ | exact .inl rfl | refine⟨_,rfl,rfl,rfl,?_⟩ | refine⟨_,_,rfl,?_,?_⟩ | refine⟨_,rfl,?_⟩ | refine And.intro ?_ ?_)):p:=h
inductive PV where
 | bool (b:Bool)
 | int (k:IntKind) (n:Int)
 | str (s:List UInt8)
 | nilp
 | fp (cs:List PV)
 | nils
 | lst (xs:List PV)
 | lsts (s:Nat) (xss:List (List PV))
 | nilm
 | fn (f:Fn) (first cap:List PV)
 | nilFn
 | iface (t:TypeId) (v:PV)
 | nilIface
 | agg (cs:List PV)
inductive AV where
 | p (v:PV)
 | ptr (n i f:Nat)
 | ptd (n i f:Nat)
 | sl (n s off len:Nat)
 | mp (n:Nat)
 | fn (f:Fn) (first cap:List AV)
 | iface (t:TypeId) (v:AV)
 | agg (cs:List AV)
 | tup (vs:List AV)
 | anyp
 | junk
def plainV:Value→Bool
 | .agg _ | .tuple _=>false
 | _=>true
def Seg (arr:List Value) (o:Nat) (us:List Value):Prop:=∃ pre post,arr=pre++us++post∧pre.length=o∧∀ u∈us,plainV u=true
abbrev Fzn:=Nat→Option (List Value)
def fnOK:Fn→Bool
 | .yield _=>false
 | _=>true
mutual
def VP (fz:Fzn):PV→Value→Prop
 | .bool b,v'=>v'=.bool b
 | .int k n,v'=>v'=.int k n
 | .str s,v'=>v'=.string ⟨⟨s⟩⟩
 | .nilp,v'=>v'=.pointer none
 | .fp cs,v'=>∃ b o arr us,v'=.pointer (some ⟨b,o,none⟩)∧fz b=some arr∧VPL fz cs us∧Seg arr o us
 | .nils,v'=>v'=.slice none 0 0
 | .lst xs,v'=>(xs=[]∧∃ a c,v'=.slice a 0 c)∨∃ b o c arr us,v'=.slice (some ⟨b,o,none⟩) xs.length c∧xs.length≤c∧fz b=some arr∧VPL fz xs us∧Seg arr o us
 | .lsts s xss,v'=>(xss=[]∧∃ a c,v'=.slice a 0 c)∨∃ b o c arr us,v'=.slice (some ⟨b,o,none⟩) xss.length c∧xss.length≤c∧fz b=some arr∧VPLL fz s xss us∧Seg arr o us
 | .nilm,v'=>v'=.map none
 | .fn f first cap,v'=>fnOK f=true∧∃ first' cap',v'=.func f first' cap'∧VPL fz first first'.toList∧VPL fz cap cap'.toList
 | .nilFn,v'=>v'=.nilFunc
 | .iface t v,v'=>∃ u,v'=.iface t u∧VP fz v u
 | .nilIface,v'=>v'=.nilIface
 | .agg cs,v'=>∃ cs',v'=.agg cs'∧VPL fz cs cs'.toList
def VPL (fz:Fzn):List PV→List Value→Prop
 | [],us=>us=[]
 | x::xs,us=>∃ u us',us=u::us'∧VP fz x u∧VPL fz xs us'
def VPLL (fz:Fzn) (s:Nat):List (List PV)→List Value→Prop
 | [],us=>us=[]
 | cs::xss,us=>∃ us1 us2,us=us1++us2∧us1.length=s∧VPL fz cs us1∧VPLL fz s xss us2
end
def Fzn.le (a b:Fzn):Prop:=∀ n x,a n=some x→b n=some x
theorem Fzn.le_refl (a:Fzn):a.le a:=fun _ _ h=>h
theorem Fzn.le_trans {a b c:Fzn} (h:a.le b) (k:b.le c):a.le c:=fun n x e=>k n x (h n x e)
mutual
theorem VP_mono {a b:Fzn} (h:a.le b):∀ (v:PV) (v':Value),VP a v v'→VP b v v'
 | .bool _,_,hv=>by simpa only [VP] using hv
 | .int _ _,_,hv=>by simpa only [VP] using hv
 | .str _,_,hv=>by simpa only [VP] using hv
 | .nilp,_,hv=>by simpa only [VP] using hv
 | .fp cs,_,hv=>by
  simp only [VP] at hv ⊢
  obtain⟨b',o,arr,us,h1,h2,h3,h4⟩:=hv
  exact⟨b',o,arr,us,h1,h _ _ h2,VPL_mono h cs us h3,h4⟩
 | .nils,_,hv=>by simpa only [VP] using hv
 | .lst xs,_,hv=>by
  simp only [VP] at hv ⊢
  rcases hv with hv | ⟨b',o,c,arr,us,h1,hc,h2,h3,h4⟩
  ·exact .inl hv
  ·exact .inr ⟨b',o,c,arr,us,h1,hc,h _ _ h2,VPL_mono h xs us h3,h4⟩
 | .lsts s xss,_,hv=>by
  simp only [VP] at hv ⊢
  rcases hv with hv | ⟨b',o,c,arr,us,h1,hc,h2,h3,h4⟩
  ·exact .inl hv
  ·exact .inr ⟨b',o,c,arr,us,h1,hc,h _ _ h2,VPLL_mono h s xss us h3,h4⟩
 | .nilm,_,hv=>by simpa only [VP] using hv
 | .fn _ fs cs,_,hv=>by
  simp only [VP] at hv ⊢
  obtain⟨h0,fs',cs',h1,h2,h3⟩:=hv
  exact⟨h0,fs',cs',h1,VPL_mono h fs _ h2,VPL_mono h cs _ h3⟩
 | .nilFn,_,hv=>by simpa only [VP] using hv
 | .iface _ v,_,hv=>by
  simp only [VP] at hv ⊢
  obtain⟨u,h1,h2⟩:=hv
  exact⟨u,h1,VP_mono h v u h2⟩
 | .nilIface,_,hv=>by simpa only [VP] using hv
 | .agg cs,_,hv=>by
  simp only [VP] at hv ⊢
  obtain⟨u,h1,h2⟩:=hv
  exact⟨u,h1,VPL_mono h cs _ h2⟩
theorem VPL_mono {a b:Fzn} (h:a.le b):∀ (v:List PV) (v':List Value),VPL a v v'→VPL b v v'
 | [],_,hv=>by simpa only [VPL] using hv
 | x::xs,_,hv=>by
  simp only [VPL] at hv ⊢
  obtain⟨u,us,h1,h2,h3⟩:=hv
  exact⟨u,us,h1,VP_mono h x u h2,VPL_mono h xs us h3⟩
theorem VPLL_mono {a b:Fzn} (h:a.le b) (s:Nat):∀ (v:List (List PV)) (v':List Value),VPLL a s v v'→VPLL b s v v'
 | [],_,hv=>by simpa only [VPLL] using hv
 | x::xs,_,hv=>by
  simp only [VPLL] at hv ⊢
  obtain⟨u,us,h1,hl,h2,h3⟩:=hv
  exact⟨u,us,h1,hl,VPL_mono h x u h2,VPLL_mono h s xs us h3⟩
end
structure Pl where
 blk:Nat
 s:Nat
 tc:Nat
 nl:Bool
structure Gm where
 nm:Nat→Option Pl
 fz:Fzn
structure Gm.le (a b:Gm):Prop where
 nm:∀ n q,a.nm n=some q→b.nm n=some q
 fz:a.fz.le b.fz
theorem Gm.le_refl (a:Gm):a.le a:=⟨fun _ _ h=>h,Fzn.le_refl _⟩
theorem Gm.le_trans {a b c:Gm} (h:a.le b) (k:b.le c):a.le c:=⟨fun n q e=>k.nm n q (h.nm n q e),Fzn.le_trans h.fz k.fz⟩
def FR (Γ:Gm):Fn→Fn→Prop
 | .yield l,f'=>∃ q,Γ.nm l=some q∧f'=.yield q.blk
 | f,f'=>f'=f
def PtrR (Γ:Gm) (n i f:Nat) (v':Value):Prop:=∃ q,Γ.nm n=some q∧q.nl=false∧v'=.pointer (some ⟨q.blk,i * q.s+f,none⟩)
def SlR (Γ : Gm) (n s off len : Nat) (v' : Value) : Prop := ∃ q, Γ.nm n = some q ∧ q.s = s ∧
  ((q.nl = true ∧ off = 0 ∧ len = 0 ∧ v' = .slice none 0 0) ∨
   (q.nl = false ∧ off + len ≤ q.tc ∧ ∃ o, v' = .slice (some ⟨q.blk, o, none⟩) len (q.tc - off) ∧ (o = off * q.s ∨ off = q.tc)))
mutual
def VR (Γ:Gm):AV→Value→Prop
 | .p v,v'=>VP Γ.fz v v'
 | .ptr n i f,v'=>PtrR Γ n i f v'
 | .ptd n i f,v'=>PtrR Γ n i f v'
 | .sl n s off len,v'=>SlR Γ n s off len v'
 | .mp n,v'=>∃ q,Γ.nm n=some q∧v'=.map (some q.blk)
 | .fn f first cap,v'=>∃ f' first' cap',v'=.func f' first' cap'∧FR Γ f f'∧VRL Γ first first'.toList∧VRL Γ cap cap'.toList
 | .iface t v,v'=>∃ u,v'=.iface t u∧VR Γ v u
 | .agg cs,v'=>∃ cs',v'=.agg cs'∧VRL Γ cs cs'.toList
 | .tup vs,v'=>∃ vs',v'=.tuple vs'∧VRL Γ vs vs'.toList
 | .anyp,v'=>∃ a,v'=.pointer a
 | .junk,_=>True
def VRL (Γ:Gm):List AV→List Value→Prop
 | [],us=>us=[]
 | x::xs,us=>∃ u us',us=u::us'∧VR Γ x u∧VRL Γ xs us'
end
theorem FR_mono {a b:Gm} (h:a.le b) {f f':Fn} (hf:FR a f f'):FR b f f':=by
 cases f <;> simp only [FR] at hf ⊢ <;> first | exact hf | (obtain⟨q,h1,h2⟩:=hf;exact⟨q,h.nm _ _ h1,h2⟩)
theorem PtrR_mono {a b:Gm} (h:a.le b) {n i f:Nat} {v:Value} (hv:PtrR a n i f v):PtrR b n i f v:=by
 obtain⟨q,h1,h2⟩:=hv;exact⟨q,h.nm _ _ h1,h2⟩
theorem SlR_mono {a b:Gm} (h:a.le b) {n s i f:Nat} {v:Value} (hv:SlR a n s i f v):SlR b n s i f v:=by
 obtain⟨q,h1,h2⟩:=hv;exact⟨q,h.nm _ _ h1,h2⟩
mutual
theorem VR_mono {a b:Gm} (h:a.le b):∀ (v:AV) (v':Value),VR a v v'→VR b v v'
 | .p v,v',hv=>by simp only [VR] at hv ⊢;exact VP_mono h.fz v v' hv
 | .ptr _ _ _,_,hv=>by simp only [VR] at hv ⊢;exact PtrR_mono h hv
 | .ptd _ _ _,_,hv=>by simp only [VR] at hv ⊢;exact PtrR_mono h hv
 | .sl _ _ _ _,_,hv=>by simp only [VR] at hv ⊢;exact SlR_mono h hv
 | .mp _,_,hv=>by
  simp only [VR] at hv ⊢
  obtain⟨q,h1,h2⟩:=hv;exact⟨q,h.nm _ _ h1,h2⟩
 | .fn _ fs cs,_,hv=>by
  simp only [VR] at hv ⊢
  obtain⟨f',fs',cs',h1,h2,h3,h4⟩:=hv
  exact⟨f',fs',cs',h1,FR_mono h h2,VRL_mono h fs _ h3,VRL_mono h cs _ h4⟩
 | .iface _ v,_,hv=>by
  simp only [VR] at hv ⊢
  obtain⟨u,h1,h2⟩:=hv
  exact⟨u,h1,VR_mono h v u h2⟩
 | .agg cs,_,hv=>by
  simp only [VR] at hv ⊢
  obtain⟨u,h1,h2⟩:=hv
  exact⟨u,h1,VRL_mono h cs _ h2⟩
 | .tup cs,_,hv=>by
  simp only [VR] at hv ⊢
  obtain⟨u,h1,h2⟩:=hv
  exact⟨u,h1,VRL_mono h cs _ h2⟩
 | .anyp,_,hv=>by simpa only [VR] using hv
 | .junk,_,_=>by simp only [VR]
theorem VRL_mono {a b:Gm} (h:a.le b):∀ (v:List AV) (v':List Value),VRL a v v'→VRL b v v'
 | [],_,hv=>by simpa only [VRL] using hv
 | x::xs,_,hv=>by
  simp only [VRL] at hv ⊢
  obtain⟨u,us,h1,h2,h3⟩:=hv
  exact⟨u,us,h1,VR_mono h x u h2,VRL_mono h xs us h3⟩
end
theorem VRL_length {Γ:Gm}:∀ {l:List AV} {l':List Value},VRL Γ l l'→l'.length=l.length
 | [],_,h=>by simp only [VRL] at h;rw [h];rfl
 | v::vs,_,h=>by
  simp only [VRL] at h
  obtain⟨u,us,rfl,_,h3⟩:=h
  simp [VRL_length h3]
theorem VPL_length {fz:Fzn}:∀ {l:List PV} {l':List Value},VPL fz l l'→l'.length=l.length
 | [],_,h=>by simp only [VPL] at h;rw [h];rfl
 | v::vs,_,h=>by
  simp only [VPL] at h
  obtain⟨u,us,rfl,_,h3⟩:=h
  simp [VPL_length h3]
theorem VRL_get {Γ:Gm}:∀ {l:List AV} {l':List Value},VRL Γ l l'→∀ {i:Nat} {v:AV},l[i]?=some v→∃ v',l'[i]?=some v'∧VR Γ v v'
 | [],_,_,i,v,hi=>by simp at hi
 | x::xs,_,h,i,v,hi=>by
  simp only [VRL] at h
  obtain⟨u,us,rfl,h2,h3⟩:=h
  cases i with
  | zero=>simp at hi;subst hi;exact⟨u,by simp,h2⟩
  | succ i=>simp at hi;obtain⟨v',h4,h5⟩:=VRL_get h3 hi;exact⟨v',by simpa using h4,h5⟩
theorem VPL_get {fz:Fzn}:∀ {l:List PV} {l':List Value},VPL fz l l'→∀ {i:Nat} {v:PV},l[i]?=some v→∃ v',l'[i]?=some v'∧VP fz v v'
 | [],_,_,i,v,hi=>by simp at hi
 | x::xs,_,h,i,v,hi=>by
  simp only [VPL] at h
  obtain⟨u,us,rfl,h2,h3⟩:=h
  cases i with
  | zero=>simp at hi;subst hi;exact⟨u,by simp,h2⟩
  | succ i=>simp at hi;obtain⟨v',h4,h5⟩:=VPL_get h3 hi;exact⟨v',by simpa using h4,h5⟩
theorem VRL_mk {Γ:Gm}:∀ {l:List AV} {l':List Value},l'.length=l.length→(∀ (i:Nat) (v:AV),l[i]?=some v→∃ v',l'[i]?=some v'∧VR Γ v v')→VRL Γ l l'
 | [],l',hl,_=>by simp only [VRL];exact List.eq_nil_of_length_eq_zero (by simpa using hl)
 | x::xs,[],hl,_=>by simp at hl
 | x::xs,y::ys,hl,h=>by
  simp only [VRL]
  refine⟨y,ys,rfl,?_,VRL_mk (by simpa using hl) fun i v hi=>?_⟩
  ·obtain⟨v',h1,h2⟩:=h 0 x (by simp)
   simp at h1;subst h1;exact h2
  ·have:=h (i+1) v (by simpa using hi)
   simpa using this
theorem VRL_append {Γ:Gm} {a b:List AV} {a' b':List Value} (h:VRL Γ a a') (k:VRL Γ b b'):VRL Γ (a++b) (a'++b'):=by
 induction a generalizing a' with
 | nil=>simp only [VRL] at h;subst h;simpa using k
 | cons x xs ih=>
  simp only [VRL] at h
  obtain⟨u,us,rfl,h2,h3⟩:=h
  simp only [List.cons_append,VRL]
  exact⟨u,us++b',rfl,h2,ih h3⟩
theorem VPL_append {fz:Fzn} {a b:List PV} {a' b':List Value} (h:VPL fz a a') (k:VPL fz b b'):VPL fz (a++b) (a'++b'):=by
 induction a generalizing a' with
 | nil=>simp only [VPL] at h;subst h;simpa using k
 | cons x xs ih=>
  simp only [VPL] at h
  obtain⟨u,us,rfl,h2,h3⟩:=h
  simp only [List.cons_append,VPL]
  exact⟨u,us++b',rfl,h2,ih h3⟩
theorem VRL_take {Γ:Gm}:∀ {l:List AV} {l':List Value} (n:Nat),VRL Γ l l'→VRL Γ (l.take n) (l'.take n)
 | _,_,0,_=>by simp [VRL]
 | [],_,n+1,h=>by simp only [VRL] at h;subst h;simp [VRL]
 | x::xs,_,n+1,h=>by
  simp only [VRL] at h
  obtain⟨u,us,rfl,h2,h3⟩:=h
  simp only [List.take_succ_cons,VRL]
  exact⟨u,_,rfl,h2,VRL_take n h3⟩
theorem VRL_drop {Γ:Gm}:∀ {l:List AV} {l':List Value} (n:Nat),VRL Γ l l'→VRL Γ (l.drop n) (l'.drop n)
 | _,_,0,h=>by simpa using h
 | [],_,n+1,h=>by simp only [VRL] at h;subst h;simp [VRL]
 | x::xs,_,n+1,h=>by
  simp only [VRL] at h
  obtain⟨u,us,rfl,h2,h3⟩:=h
  simpa using VRL_drop n h3
theorem VPL_take {fz:Fzn}:∀ {l:List PV} {l':List Value} (n:Nat),VPL fz l l'→VPL fz (l.take n) (l'.take n)
 | _,_,0,_=>by simp [VPL]
 | [],_,n+1,h=>by simp only [VPL] at h;subst h;simp [VPL]
 | x::xs,_,n+1,h=>by
  simp only [VPL] at h
  obtain⟨u,us,rfl,h2,h3⟩:=h
  simp only [List.take_succ_cons,VPL]
  exact⟨u,_,rfl,h2,VPL_take n h3⟩
theorem VPL_drop {fz:Fzn}:∀ {l:List PV} {l':List Value} (n:Nat),VPL fz l l'→VPL fz (l.drop n) (l'.drop n)
 | _,_,0,h=>by simpa using h
 | [],_,n+1,h=>by simp only [VPL] at h;subst h;simp [VPL]
 | x::xs,_,n+1,h=>by
  simp only [VPL] at h
  obtain⟨u,us,rfl,h2,h3⟩:=h
  simpa using VPL_drop n h3
theorem VRL_p {Γ:Gm}:∀ {l:List PV} {l':List Value},VRL Γ (l.map .p) l' ↔ VPL Γ.fz l l'
 | [],_=>by simp [VRL,VPL]
 | x::xs,_=>by
  simp only [List.map_cons,VRL,VPL,VR]
  constructor
  ·rintro⟨u,us,h1,h2,h3⟩;exact⟨u,us,h1,h2,VRL_p.1 h3⟩
  ·rintro⟨u,us,h1,h2,h3⟩;exact⟨u,us,h1,h2,VRL_p.2 h3⟩
theorem VPLL_flat {fz:Fzn} {s:Nat}:∀ {l:List (List PV)} {l':List Value},VPLL fz s l l' ↔ (VPL fz l.flatten l'∧∀ cs∈l,cs.length=s)
 | [],l'=>by simp [VPLL,VPL]
 | cs::l,l'=>by
  simp only [VPLL,List.flatten_cons]
  constructor
  ·rintro⟨us1,us2,rfl,h1,h2,h3⟩
   obtain⟨h4,h5⟩:=VPLL_flat.1 h3
   refine⟨VPL_append h2 h4,fun c hc=>?_⟩
   rcases List.mem_cons.1 hc with rfl | hc
   ·rw [← VPL_length h2];exact h1
   ·exact h5 c hc
  ·rintro⟨h1,h2⟩
   have hl:=h2 cs (by simp)
   have ha:VPL fz cs (l'.take cs.length):=by simpa using VPL_take cs.length h1
   have hb:VPL fz l.flatten (l'.drop cs.length):=by simpa using VPL_drop cs.length h1
   exact⟨_,_,(List.take_append_drop cs.length l').symm,by rw [VPL_length ha];exact hl,ha,VPLL_flat.2 ⟨hb,fun c hc=>h2 c (by simp [hc])⟩⟩
theorem VR_junk (Γ:Gm) (v:Value):VR Γ .junk v:=by simp only [VR]
theorem VR_undef (Γ:Gm):VR Γ (.tup []) undef:=by simp only [VR];exact⟨#[],rfl,rfl⟩
theorem VRL_map {Γ:Gm} {α:Type} {f:α→AV} {g:α→Value} (h:∀ x,VR Γ (f x) (g x)):∀ l:List α,VRL Γ (l.map f) (l.map g)
 | []=>rfl
 | x::l=>by
  simp only [List.map_cons,VRL]
  exact⟨_,_,rfl,h x,VRL_map h l⟩
mutual
def absV:Value→Option PV
 | .bool b=>some (.bool b)
 | .int k n=>some (.int k n)
 | .string ⟨⟨s⟩⟩=>some (.str s)
 | .pointer none=>some .nilp
 | .slice none 0 0=>some .nils
 | .map none=>some .nilm
 | .func (.func f) ⟨fs⟩ ⟨cs⟩=>match absL fs,absL cs with
  | some a,some b=>some (.fn (.func f) a b)
  | _,_=>none
 | .nilFunc=>some .nilFn
 | .iface t v=>match absV v with
  | some a=>some (.iface t a)
  | none=>none
 | .nilIface=>some .nilIface
 | .agg ⟨cs⟩=>match absL cs with
  | some a=>some (.agg a)
  | none=>none
 | _=>none
def absL:List Value→Option (List PV)
 | []=>some []
 | v::vs=>match absV v,absL vs with
  | some a,some b=>some (a::b)
  | _,_=>none
end
mutual
theorem VP_abs (fz:Fzn):∀ (v:Value) (x:PV),absV v=some x→VP fz x v
 | .bool _,x,h=>by simp only [absV,Option.some.injEq] at h;subst h;simp only [VP]
 | .int _ _,x,h=>by simp only [absV,Option.some.injEq] at h;subst h;simp only [VP]
 | .float _ _,x,h=>by simp [absV] at h
 | .complex _ _ _,x,h=>by simp [absV] at h
 | .string ⟨⟨s⟩⟩,x,h=>by simp only [absV,Option.some.injEq] at h;subst h;simp only [VP]
 | .pointer none,x,h=>by simp only [absV,Option.some.injEq] at h;subst h;simp only [VP]
 | .pointer (some _),x,h=>by simp [absV] at h
 | .slice a n c,x,h=>by
  cases a with
  | some a=>simp [absV] at h
  | none=>
   cases n with
   | succ n=>simp [absV] at h
   | zero=>
    cases c with
    | succ n=>simp [absV] at h
    | zero=>simp only [absV,Option.some.injEq] at h;subst h;simp only [VP]
 | .map none,x,h=>by simp only [absV,Option.some.injEq] at h;subst h;simp only [VP]
 | .map (some _),x,h=>by simp [absV] at h
 | .chan _,x,h=>by simp [absV] at h
 | .func f ⟨fs⟩ ⟨cs⟩,x,h=>by
  cases f <;> simp only [absV,reduceCtorEq] at h
  split at h
  ·rename_i a b ha hb
   simp only [Option.some.injEq] at h
   subst h
   simp only [VP]
   exact⟨rfl,⟨fs⟩,⟨cs⟩,rfl,VPL_abs fz fs a ha,VPL_abs fz cs b hb⟩
  ·cases h
 | .nilFunc,x,h=>by simp only [absV,Option.some.injEq] at h;subst h;simp only [VP]
 | .iface t v,x,h=>by
  simp only [absV] at h
  split at h
  ·rename_i a ha
   simp only [Option.some.injEq] at h
   subst h
   simp only [VP]
   exact⟨v,rfl,VP_abs fz v a ha⟩
  ·cases h
 | .nilIface,x,h=>by simp only [absV,Option.some.injEq] at h;subst h;simp only [VP]
 | .agg ⟨cs⟩,x,h=>by
  simp only [absV] at h
  split at h
  ·rename_i a ha
   simp only [Option.some.injEq] at h
   subst h
   simp only [VP]
   exact⟨⟨cs⟩,rfl,VPL_abs fz cs a ha⟩
  ·cases h
 | .tuple _,x,h=>by simp [absV] at h
theorem VPL_abs (fz:Fzn):∀ (v:List Value) (x:List PV),absL v=some x→VPL fz x v
 | [],x,h=>by simp only [absL,Option.some.injEq] at h;subst h;simp only [VPL]
 | v::vs,x,h=>by
  simp only [absL] at h
  split at h
  ·rename_i a b ha hb
   simp only [Option.some.injEq] at h
   subst h
   simp only [VPL]
   exact⟨v,vs,rfl,VP_abs fz v a ha,VPL_abs fz vs b hb⟩
  ·cases h
end
def allP:List AV→Option (List PV)
 | []=>some []
 | .p v::r=>match allP r with
  | some l=>some (v::l)
  | none=>none
 | _::_=>none
theorem allP_some:∀ {l:List AV} {r:List PV},allP l=some r→l=r.map .p
 | [],r,h=>by simp only [allP,Option.some.injEq] at h;subst h;rfl
 | x::l,r,h=>by
  cases x <;> simp only [allP,reduceCtorEq] at h
  split at h
  ·rename_i l' hl
   simp only [Option.some.injEq] at h
   subst h
   rw [allP_some hl];rfl
  ·cases h
def mkAgg (cs:List AV):AV:=match allP cs with
 | some ps=>.p (.agg ps)
 | none=>.agg cs
theorem VR_mkAgg {Γ:Gm} {cs:List AV} {v':Value}:VR Γ (mkAgg cs) v' ↔ VR Γ (.agg cs) v':=by
 unfold mkAgg
 split
 ·rename_i ps h
  rw [allP_some h]
  simp only [VR,VP]
  constructor
  ·rintro⟨cs',h1,h2⟩;exact⟨cs',h1,VRL_p.2 h2⟩
  ·rintro⟨cs',h1,h2⟩;exact⟨cs',h1,VRL_p.1 h2⟩
 ·exact Iff.rfl
def mkIf (t:TypeId):AV→AV
 | .p v=>.p (.iface t v)
 | v=>.iface t v
theorem VR_mkIf {Γ:Gm} {t:TypeId} {v:AV} {v':Value}:VR Γ (mkIf t v) v' ↔ VR Γ (.iface t v) v':=by
 cases v <;> simp only [mkIf,VR,VP]
def mkFn (f:Fn) (a b:List AV):AV:=match fnOK f,allP a,allP b with
 | true,some a,some b=>.p (.fn f a b)
 | _,_,_=>.fn f a b
theorem FR_ok {Γ:Gm} {f f':Fn} (h:fnOK f=true):FR Γ f f' ↔ f'=f:=by cases f <;> simp_all [fnOK,FR]
theorem VR_mkFn {Γ:Gm} {f:Fn} {a b:List AV} {v':Value}:VR Γ (mkFn f a b) v' ↔ VR Γ (.fn f a b) v':=by
 unfold mkFn
 split
 ·rename_i a' b' hf ha hb
  rw [allP_some ha,allP_some hb]
  simp only [VR,VP]
  constructor
  ·rintro⟨_,fs',cs',h1,h2,h3⟩;exact⟨f,fs',cs',h1,(FR_ok hf).2 rfl,VRL_p.2 h2,VRL_p.2 h3⟩
  ·rintro⟨f',fs',cs',h1,hr,h2,h3⟩;rw [FR_ok hf] at hr;subst hr;exact⟨hf,fs',cs',h1,VRL_p.1 h2,VRL_p.1 h3⟩
 ·exact Iff.rfl
inductive Cn where
 | bx (cs:List AV)
 | pu (xs:List PV)
 | pus (xss:List (List PV))
 | mx (xs:List AV)
 | mxs (xss:List (List AV))
 | lp (st:LoopState) (pend:Option Code) (lim N:Nat) (σ:Nat→AV) (params:List Tmp) (assign body:Code) (dn:Nat)
 | df
 | ms (es:List (List UInt8 × PV))
 | mk (zs:List PV) (es:List (List PV × PV))
 | it (s:List UInt8) (i:Nat)
structure AObj where
 t:TypeId
 fr:Bool
 c:Cn
structure Hp where
 next:Nat
 l:List (Nat × AObj)
def lget:List (Nat × AObj)→Nat→Option AObj
 | [],_=>none
 | (k,o)::r,n=>match Nat.beq k n with
  | true=>some o
  | false=>lget r n
def lset:List (Nat × AObj)→Nat→AObj→List (Nat × AObj)
 | [],_,_=>[]
 | (k,o)::r,n,x=>match Nat.beq k n with
  | true=>(k,x)::r
  | false=>(k,o)::lset r n x
def ldel:List (Nat × AObj)→Nat→List (Nat × AObj)
 | [],_=>[]
 | (k,o)::r,n=>match Nat.beq k n with
  | true=>ldel r n
  | false=>(k,o)::ldel r n
theorem beq_refl' (n:Nat):Nat.beq n n=true:=by simp
theorem beq_ne {n m:Nat} (h:n ≠ m):Nat.beq n m=false:=by
 rw [Bool.eq_false_iff];intro e;exact h (Nat.eq_of_beq_eq_true e)
theorem lget_cons_same {n:Nat} {o:AObj} {l:List (Nat × AObj)}:lget ((n,o)::l) n=some o:=by simp [lget]
theorem lget_cons_ne {n m:Nat} {o:AObj} {l:List (Nat × AObj)} (h:n ≠ m):lget ((n,o)::l) m=lget l m:=by
 simp only [lget,beq_ne h]
theorem lget_lset_same {l:List (Nat × AObj)} {n:Nat} {o x:AObj} (h:lget l n=some o):lget (lset l n x) n=some x:=by
 induction l with
 | nil=>simp [lget] at h
 | cons p r ih=>
  obtain⟨k,y⟩:=p
  by_cases hk:k=n
  ·subst hk;simp [lset,lget]
  ·rw [lget_cons_ne hk] at h
   simp only [lset,beq_ne hk]
   rw [lget_cons_ne hk]
   exact ih h
theorem lget_lset_other {l:List (Nat × AObj)} {n m:Nat} {x:AObj} (h:m ≠ n):lget (lset l n x) m=lget l m:=by
 induction l with
 | nil=>rfl
 | cons p r ih=>
  obtain⟨k,y⟩:=p
  by_cases hk:k=n
  ·subst hk
   simp only [lset,beq_refl']
   rw [lget_cons_ne (Ne.symm h),lget_cons_ne (Ne.symm h)]
  ·simp only [lset,beq_ne hk]
   by_cases hm:k=m
   ·subst hm;simp [lget]
   ·rw [lget_cons_ne hm,lget_cons_ne hm,ih]
theorem lget_ldel {l:List (Nat × AObj)} {n m:Nat} {o:AObj}:lget (ldel l n) m=some o ↔ m ≠ n∧lget l m=some o:=by
 induction l with
 | nil=>simp [ldel,lget]
 | cons p r ih=>
  obtain⟨k,y⟩:=p
  by_cases hk:k=n
  ·subst hk
   simp only [ldel,beq_refl']
   rw [ih]
   by_cases hm:k=m
   ·subst hm;simp
   ·rw [lget_cons_ne hm]
  ·simp only [ldel,beq_ne hk]
   by_cases hm:k=m
   ·subst hm;simp [lget,hk]
   ·rw [lget_cons_ne hm,lget_cons_ne hm,ih]
theorem lget_mem {l:List (Nat × AObj)} {n:Nat} {o:AObj} (h:lget l n=some o):(n,o)∈l:=by
 induction l with
 | nil=>simp [lget] at h
 | cons p r ih=>
  obtain⟨k,x⟩:=p
  by_cases e:k=n
  ·subst e;rw [lget_cons_same] at h;injection h with h;subst h;simp
  ·rw [lget_cons_ne e] at h;exact List.mem_cons_of_mem _ (ih h)
structure Cx where
 P:Program
 gt:List (Nat × List PV)
def gget:List (Nat × List PV)→Nat→Option (List PV)
 | [],_=>none
 | (k,o)::r,n=>match Nat.beq k n with
  | true=>some o
  | false=>gget r n
def szOf (P:Program) (t:TypeId):Option Nat:=(P.info? t).map (·.size)
def Free (fz:Nat × Nat) (n:Nat):Prop:=fz.2≤fz.1∨n≤fz.1
def flat:Cn→List AV
 | .bx cs=>cs
 | .pu xs=>xs.map .p
 | .pus xss=>xss.flatten.map .p
 | .mx xs=>xs
 | .mxs xss=>xss.flatten
 | _=>[]
def Sized (s tc:Nat):Cn→Prop
 | .bx cs=>cs.length=s∧tc=1
 | .pu _=>s=1
 | .pus xss=>∀ cs∈xss,cs.length=s
 | .mx _=>s=1
 | .mxs xss=>∀ cs∈xss,cs.length=s
 | _=>False
def Empt:Cn→Prop
 | .pu xs=>xs=[]
 | .pus xs=>xs=[]
 | .mx xs=>xs=[]
 | .mxs xs=>xs=[]
 | _=>False
def Gm.cut (Γ:Gm) (l:Nat):Gm:=⟨fun m=>match Nat.blt m l with | true=>Γ.nm m | false=>none,Γ.fz⟩
theorem Gm.cut_le (Γ:Gm) (l:Nat):(Γ.cut l).le Γ:=by
 refine⟨fun n q h=>?_,Fzn.le_refl _⟩
 simp only [Gm.cut] at h
 split at h
 ·exact h
 ·cases h
theorem Gm.cut_mono {a b:Gm} (h:a.le b) (l:Nat):(a.cut l).le (b.cut l):=by
 refine⟨fun n q h1=>?_,h.fz⟩
 simp only [Gm.cut] at h1 ⊢
 split at h1
 ·exact h.nm _ _ h1
 ·cases h1
def CellsR (P:Program) (Γ:Gm) (w:World) (q:Pl) (o:AObj):Prop:=
 ∃ us rest z,w.heap[q.blk]?=some (.cells ⟨us++rest⟩ o.t z)∧Free z (us++rest).length∧szOf P o.t=some q.s∧0<q.s∧(us++rest).length=q.tc * q.s ∧
  VRL Γ (flat o.c) us∧(∀ u∈us,plainV u=true)∧Sized q.s q.tc o.c∧(o.fr=true→Γ.fz q.blk=some (us++rest))
def isCells:Cn→Bool
 | .lp ..=>false
 | .df=>false
 | .ms _=>false
 | .mk _ _=>false
 | .it _ _=>false
 | _=>true
def EntR (fz:Fzn):List (List UInt8 × PV)→List MapEntry→Prop
 | [],us=>us=[]
 | (k,x)::r,us=>∃ e us',us=e::us'∧e.key=.string ⟨⟨k⟩⟩∧VP fz x e.val∧EntR fz r us'
theorem EntR_mono {a b:Fzn} (h:a.le b):∀ {es:List (List UInt8 × PV)} {us:List MapEntry},EntR a es us→EntR b es us
 | [],_,he=>he
 | (k,x)::r,_,he=>by
  simp only [EntR] at he ⊢
  obtain⟨e,us',h1,h2,h3,h4⟩:=he
  exact⟨e,us',h1,h2,VP_mono h x _ h3,EntR_mono h h4⟩
def sameKind:PV→PV→Bool
 | .int k _, .int k' _=>k == k'
 | .str _, .str _=>true
 | .bool _, .bool _=>true
 | _,_=>false
def sameKinds:List PV→List PV→Bool
 | [],[]=>true
 | x::xs,y::ys=>sameKind x y && sameKinds xs ys
 | _,_=>false
def real:PV→Value
 | .int k n=>.int k n
 | .str s=>.string ⟨⟨s⟩⟩
 | .bool b=>.bool b
 | _=>undef
def EntK (fz:Fzn) (zs:List PV):List (List PV × PV)→List MapEntry→Prop
 | [],us=>us=[]
 | (k,x)::r,us=>∃ e us',us=e::us'∧(sameKinds zs k=true∧e.key=.agg ⟨k.map real⟩)∧VP fz x e.val∧EntK fz zs r us'
theorem EntK_mono {a b:Fzn} {zs:List PV} (h:a.le b):∀ {es:List (List PV × PV)} {us:List MapEntry},EntK a zs es us→EntK b zs es us
 | [],_,he=>he
 | (k,x)::r,_,he=>by
  simp only [EntK] at he ⊢
  obtain⟨e,us',h1,h2,h3,h4⟩:=he
  exact⟨e,us',h1,h2,VP_mono h x _ h3,EntK_mono h h4⟩
def ObjR (P:Program) (Γ:Gm) (w:World) (q:Pl) (o:AObj):Prop:=
 match o.c with
 | .lp st pend lim N σ ps asg bd dn=>q.nl=false∧o.fr=false∧∃ fn tm qd,(P.funcs[fn]?).isSome=true∧w.heap[q.blk]?=some (.loop { state:=st,pending:=pend,fn:=fn,tmps:=tm,params:=⟨ps⟩,assign:=asg,body:=bd,defers:=qd.blk })∧(tm.size=N∧∀ t,VR (Γ.cut lim) (σ t) (tm.getD t undef))∧Γ.nm dn=some qd
 | .df=>q.nl=false∧o.fr=false∧w.heap[q.blk]?=some (.deferred (some []))
 | .ms es=>q.nl=false∧o.fr=false∧∃ us k,w.heap[q.blk]?=some (.map us k)∧EntR Γ.fz es us.toList
 | .mk zs es=>q.nl=false∧o.fr=false∧∃ us k,w.heap[q.blk]?=some (.map us k)∧EntK Γ.fz zs es us.toList
 | .it s i=>q.nl=false∧o.fr=false∧w.heap[q.blk]?=some (.stringIter ⟨⟨s⟩⟩ i)
 | c=>(q.nl=true∧Empt c∧Sized q.s q.tc c)∨(q.nl=false∧CellsR P Γ w q o)
theorem ObjR_cells {P:Program} {Γ:Gm} {w:World} {q:Pl} {o:AObj} (h:isCells o.c=true):ObjR P Γ w q o ↔ ((q.nl=true∧Empt o.c∧Sized q.s q.tc o.c)∨(q.nl=false∧CellsR P Γ w q o)):=by
 obtain⟨t,fr,c⟩:=o
 cases c <;> simp_all [ObjR,isCells]
def Own (Γ:Gm) (H:Hp) (k:Nat):Prop:=∃ n o q,lget H.l n=some o∧o.fr=false∧Γ.nm n=some q∧q.nl=false∧q.blk=k
def GlobV (fz:Fzn) (g:Nat) (cs:List PV):Prop:=VP fz (.fp cs) (.pointer (some ⟨g,0,none⟩))∧∃ arr,fz g=some arr∧arr.length=cs.length
theorem GlobV.mono {a b:Fzn} (h:a.le b) {g:Nat} {cs:List PV} (hv:GlobV a g cs):GlobV b g cs:=by
 obtain⟨h1,arr,h2,h3⟩:=hv
 exact⟨VP_mono h _ _ h1,arr,h _ _ h2,h3⟩
structure R (C:Cx) (Γ:Gm) (H:Hp) (w:World):Prop where
 glob:∀ g cs,gget C.gt g=some cs→GlobV Γ.fz g cs
 fresh:∀ n,H.next≤n→Γ.nm n=none
 fzok:∀ b arr,Γ.fz b=some arr→∃ t z,w.heap[b]?=some (.cells ⟨arr⟩ t z)
 objs:∀ n o,lget H.l n=some o→∃ q,Γ.nm n=some q∧ObjR C.P Γ w q o
 own:∀ n o q,lget H.l n=some o→o.fr=false→Γ.nm n=some q→q.nl=false→Γ.fz q.blk=none
 apart:∀ n o m p q q',lget H.l n=some o→lget H.l m=some p→n ≠ m→Γ.nm n=some q→Γ.nm m=some q'→o.fr=false→q.nl=false→q'.nl=false→q.blk ≠ q'.blk
structure Tr (Γ:Gm) (H:Hp) (w:World) (Γ':Gm) (H':Hp) (w':World):Prop where
 os:w'.os=w.os
 tape:w'.tape=w.tape
 output:w'.output=w.output
 size:w.heap.size≤w'.heap.size
 kept:∀ k,k<w.heap.size→¬ Own Γ H k→w'.heap[k]?=w.heap[k]?
 prov:∀ k,Own Γ' H' k→w.heap.size≤k∨Own Γ H k
 fz:Γ.fz.le Γ'.fz
 fzprov:∀ k a,Γ'.fz k=some a→Γ.fz k=some a∨w.heap.size≤k∨Own Γ H k
theorem Tr.refl (Γ:Gm) (H:Hp) (w:World):Tr Γ H w Γ H w:=⟨rfl,rfl,rfl,Nat.le_refl _,fun _ _ _=>rfl,fun _ h=>.inr h,Fzn.le_refl _,fun _ _ h=>.inl h⟩
theorem Tr.trans {Γ Γ1 Γ2:Gm} {H H1 H2:Hp} {w w1 w2:World} (h:Tr Γ H w Γ1 H1 w1) (k:Tr Γ1 H1 w1 Γ2 H2 w2):Tr Γ H w Γ2 H2 w2:=by
 refine⟨k.os.trans h.os,k.tape.trans h.tape,k.output.trans h.output,Nat.le_trans h.size k.size,fun j hj hn=>?_,fun j hj=>?_,Fzn.le_trans h.fz k.fz,fun j a hj=>?_⟩
 ·rw [k.kept j (Nat.lt_of_lt_of_le hj h.size) (fun ho=>?_),h.kept j hj hn]
  rcases h.prov j ho with h1 | h1
  ·omega
  ·exact hn h1
 ·rcases k.prov j hj with h1 | h1
  ·exact .inl (Nat.le_trans h.size h1)
  ·exact h.prov j h1
 ·rcases k.fzprov j a hj with h1 | h1 | h1
  ·exact h.fzprov j a h1
  ·exact .inr (.inl (Nat.le_trans h.size h1))
  ·exact .inr (h.prov j h1)
theorem R.drew {C:Cx} {Γ:Gm} {H:Hp} {w:World} (h:R C Γ H w):R C Γ H { w with drawn:=w.drawn+1 }:=
 ⟨h.glob,h.fresh,h.fzok,h.objs,h.own,h.apart⟩
theorem Tr.drew (Γ:Gm) (H:Hp) (w:World):Tr Γ H w Γ H { w with drawn:=w.drawn+1 }:=⟨rfl,rfl,rfl,Nat.le_refl _,fun _ _ _=>rfl,fun _ h=>.inr h,Fzn.le_refl _,fun _ _ h=>.inl h⟩
def Gm.put (Γ:Gm) (n:Nat) (q:Pl):Gm:=⟨fun m=>match Nat.beq m n with | true=>some q | false=>Γ.nm m,Γ.fz⟩
theorem Gm.put_same (Γ:Gm) (n:Nat) (q:Pl):(Γ.put n q).nm n=some q:=by simp [Gm.put]
theorem Gm.put_other (Γ:Gm) {n m:Nat} (q:Pl) (h:m ≠ n):(Γ.put n q).nm m=Γ.nm m:=by simp only [Gm.put,beq_ne h]
theorem Gm.le_put {Γ:Gm} {n:Nat} {q:Pl} (h:Γ.nm n=none):Γ.le (Γ.put n q):=by
 refine⟨fun m q' hm=>?_,Fzn.le_refl _⟩
 by_cases e:m=n
 ·subst e;rw [h] at hm;cases hm
 ·rw [Gm.put_other _ _ e];exact hm
theorem ObjR.blk_lt {P:Program} {Γ:Gm} {w:World} {q:Pl} {o:AObj} (h:ObjR P Γ w q o) (hn:q.nl=false):q.blk<w.heap.size:=by
 have key:∀ x,w.heap[q.blk]?=some x→q.blk<w.heap.size:=fun x hx=>(Array.getElem?_eq_some_iff.1 hx).1
 by_cases hc:isCells o.c=true
 ·rcases (ObjR_cells hc).1 h with ⟨h1,_⟩ | ⟨_,us,rest,z,h1,_⟩
  ·rw [h1] at hn;cases hn
  ·exact key _ h1
 ·obtain⟨t,fr,c⟩:=o
  cases c <;> simp only [isCells,not_true_eq_false,Bool.false_eq_true,not_false_eq_true] at hc
  ·simp only [ObjR] at h
   obtain⟨_,_,_,_,_,_,h1,_⟩:=h
   exact key _ h1
  ·simp only [ObjR] at h
   exact key _ h.2.2
  ·simp only [ObjR] at h
   obtain⟨_,_,_,_,h1,_⟩:=h
   exact key _ h1
  ·simp only [ObjR] at h
   obtain⟨_,_,_,_,h1,_⟩:=h
   exact key _ h1
  ·simp only [ObjR] at h
   exact key _ h.2.2
theorem Own.blk_lt {C:Cx} {Γ:Gm} {H:Hp} {w:World} (h:R C Γ H w) {k:Nat} (ho:Own Γ H k):k<w.heap.size:=by
 obtain⟨n,o,q,h1,h2,h3,h4,rfl⟩:=ho
 obtain⟨q',hq',h5⟩:=h.objs n o h1
 rw [h3] at hq'
 injection hq' with e
 subst e
 exact h5.blk_lt h4
theorem fz_lt {C:Cx} {Γ:Gm} {H:Hp} {w:World} (h:R C Γ H w) {k:Nat} {a:List Value} (ho:Γ.fz k=some a):k<w.heap.size:=by
 obtain⟨t,z,h1⟩:=h.fzok k a ho
 exact(Array.getElem?_eq_some_iff.1 h1).1
def Hp.push (H:Hp) (o:AObj):Hp:=⟨H.next+1,(H.next,o)::H.l⟩
theorem ObjR.ext {P:Program} {Γ Γ':Gm} {w w':World} {q:Pl} {o:AObj} (h:ObjR P Γ w q o) (hb:Γ.le Γ')
  (hk:q.nl=false→w'.heap[q.blk]?=w.heap[q.blk]?):ObjR P Γ' w' q o:=by
 by_cases hc:isCells o.c=true
 ·rw [ObjR_cells hc] at h ⊢
  rcases h with h | ⟨h0,us,rest,z,h1,h2,h3,h3',h4,h5,h6,h7,h8⟩
  ·exact .inl h
  ·exact .inr ⟨h0,us,rest,z,by rw [hk h0];exact h1,h2,h3,h3',h4,VRL_mono hb _ _ h5,h6,h7,fun e=>hb.fz _ _ (h8 e)⟩
 ·obtain⟨t,fr,c⟩:=o
  cases c <;> simp only [isCells,not_true_eq_false,Bool.false_eq_true,not_false_eq_true] at hc
  ·simp only [ObjR] at h ⊢
   obtain⟨h0,h0',fn,tm,qd,hfn,h1,h2,h3⟩:=h
   exact⟨h0,h0',fn,tm,qd,hfn,by rw [hk h0];exact h1,⟨h2.1,fun t=>VR_mono (Gm.cut_mono hb _) _ _ (h2.2 t)⟩,hb.nm _ _ h3⟩
  ·simp only [ObjR] at h ⊢
   exact⟨h.1,h.2.1,by rw [hk h.1];exact h.2.2⟩
  ·simp only [ObjR] at h ⊢
   obtain⟨h0,h1,us,k,h2,h3⟩:=h
   exact⟨h0,h1,us,k,by rw [hk h0];exact h2,EntR_mono hb.fz h3⟩
  ·simp only [ObjR] at h ⊢
   obtain⟨h0,h1,us,k,h2,h3⟩:=h
   exact⟨h0,h1,us,k,by rw [hk h0];exact h2,EntK_mono hb.fz h3⟩
  ·simp only [ObjR] at h ⊢
   exact⟨h.1,h.2.1,by rw [hk h.1];exact h.2.2⟩
end Go.Proofs.YtkegmchjobphdaaGreatDoor.Y
namespace Go.Proofs.YtkegmchjobphdaaGreatDoor.Y
open Go
section
variable {α:Type}
def getN0:List α→Nat→Option (List α)
 | _,0=>some []
 | [],_+1=>none
 | x::l,n+1=>match getN0 l n with
  | some r=>some (x::r)
  | none=>none
termination_by structural _ n=>n
def getN:List α→Nat→Nat→Option (List α)
 | l,0,n=>getN0 l n
 | [],_+1,_=>none
 | _::l,k+1,n=>getN l k n
termination_by structural _ k _=>k
def spl0:List α→List α→List α
 | l,[]=>l
 | [],_::_=>[]
 | _::l,v::vs=>v::spl0 l vs
termination_by structural _ vs=>vs
def spl:List α→Nat→List α→List α
 | l,0,vs=>spl0 l vs
 | [],_+1,_=>[]
 | x::l,k+1,vs=>x::spl l k vs
termination_by structural _ k _=>k
def nth:List α→Nat→Option α
 | [],_=>none
 | x::_,0=>some x
 | _::l,n+1=>nth l n
theorem nth_eq (l:List α) (n:Nat):nth l n=l[n]?:=by
 induction l generalizing n with
 | nil=>rfl
 | cons x l ih=>cases n with
  | zero=>rfl
  | succ n=>simpa [nth] using ih n
theorem getN0_some:∀ {l:List α} {n:Nat} {r:List α},getN0 l n=some r→r=l.take n∧r.length=n∧n≤l.length
 | l,0,r,h=>by simp only [getN0,Option.some.injEq] at h;subst h;simp
 | [],n+1,r,h=>by simp [getN0] at h
 | x::l,n+1,r,h=>by
  simp only [getN0] at h
  cases hg:getN0 l n with
  | none=>rw [hg] at h;cases h
  | some r'=>
   rw [hg] at h
   injection h with h
   subst h
   obtain⟨h1,h2,h3⟩:=getN0_some hg
   exact⟨by rw [h1];simp,by simp [h2],by simp;omega⟩
theorem getN_le:∀ {l:List α} {k n:Nat} {r:List α},getN l k n=some r→r=(l.drop k).take n∧r.length=n∧k+n≤l.length
 | l,0,n,r,h=>by
  simp only [getN] at h
  obtain⟨h1,h2,h3⟩:=getN0_some h
  exact⟨by simpa using h1,h2,by omega⟩
 | [],k+1,n,r,h=>by simp [getN] at h
 | x::l,k+1,n,r,h=>by
  simp only [getN] at h
  obtain⟨h1,h2,h3⟩:=getN_le h
  exact⟨by simpa using h1,h2,by simp;omega⟩
theorem getN_some {l:List α} {k n:Nat} {r:List α} (h:getN l k n=some r):r=(l.drop k).take n∧r.length=n∧(0<n→k+n≤l.length):=
 let ⟨h1,h2,h3⟩:=getN_le h;⟨h1,h2,fun _=>h3⟩
theorem spl0_length:∀ (l vs:List α),(spl0 l vs).length=l.length
 | l,[]=>by simp [spl0]
 | [],_::_=>by simp [spl0]
 | x::l,v::vs=>by simp [spl0,spl0_length l vs]
theorem spl_length:∀ (l:List α) (k:Nat) (vs:List α),(spl l k vs).length=l.length
 | l,0,vs=>spl0_length l vs
 | [],k+1,_=>by simp [spl]
 | x::l,k+1,vs=>by simp [spl,spl_length l k vs]
theorem spl0_get:∀ (l vs:List α) (i:Nat),(spl0 l vs)[i]?=if i<vs.length∧i<l.length then vs[i]? else l[i]?
 | l,[],i=>by simp [spl0]
 | [],v::vs,i=>by simp [spl0]
 | x::l,v::vs,0=>by simp [spl0]
 | x::l,v::vs,i+1=>by
  simp only [spl0,List.getElem?_cons_succ,spl0_get l vs i]
  simp
theorem spl_get:∀ (l:List α) (k:Nat) (vs:List α) (i:Nat),
  (spl l k vs)[i]?=if k≤i∧i<k+vs.length∧i<l.length then vs[i - k]? else l[i]?
 | l,0,vs,i=>by
  simp only [spl,spl0_get,Nat.zero_add,Nat.zero_le,true_and,Nat.sub_zero]
 | [],k+1,vs,i=>by simp [spl]
 | x::l,k+1,vs,0=>by simp [spl]
 | x::l,k+1,vs,i+1=>by
  simp only [spl,List.getElem?_cons_succ,spl_get l k vs i]
  have:(k+1≤i+1∧i+1<k+1+vs.length∧i+1<(x::l).length) ↔ (k≤i∧i<k+vs.length∧i<l.length):=by simp;omega
  simp only [this]
  have e:i+1 - (k+1)=i - k:=by omega
  rw [e]
theorem spl_one (l:List α) (k:Nat) (v:α):spl l k [v]=l.set k v:=by
 apply List.ext_getElem?
 intro i
 rw [spl_get,List.getElem?_set]
 by_cases h:k=i
 ·subst h
  by_cases h2:k<l.length
  ·simp [h2]
  ·simp [h2]
 ·have:¬ (k≤i∧i<k+[v].length∧i<l.length):=by simp;omega
  rw [if_neg this,if_neg h]
theorem spl_eq {l:List α} {k:Nat} {vs:List α} (h:k+vs.length≤l.length):spl l k vs=l.take k++vs++l.drop (k+vs.length):=by
 apply List.ext_getElem?
 intro i
 rw [spl_get]
 by_cases h1:i<k
 ·rw [if_neg (by omega),List.append_assoc,List.getElem?_append_left (by simp;omega),List.getElem?_take,if_pos h1]
 ·by_cases h2:i<k+vs.length
  ·rw [if_pos (by omega),List.append_assoc,List.getElem?_append_right (by simp;omega),List.getElem?_append_left (by simp;omega)]
   congr 1;simp;omega
  ·rw [if_neg (by omega),List.append_assoc,List.getElem?_append_right (by simp;omega),List.getElem?_append_right (by simp;omega),List.getElem?_drop]
   congr 1;simp;omega
theorem setList_spl (l:List α) (k:Nat) (v:α) (vs:List α):spl (l.set k v) (k+1) vs=spl l k (v::vs):=by
 apply List.ext_getElem?
 intro i
 rw [spl_get,spl_get,List.getElem?_set]
 simp only [List.length_set,List.length_cons]
 by_cases h1:k+1≤i∧i<k+1+vs.length∧i<l.length
 ·rw [if_pos h1,if_pos (by omega),show i - k=(i - (k+1))+1 by omega,List.getElem?_cons_succ]
 ·rw [if_neg h1]
  by_cases h2:k=i
  ·subst h2
   rw [if_pos rfl]
   by_cases h3:k<l.length
   ·rw [if_pos h3,if_pos (by omega),Nat.sub_self];rfl
   ·rw [if_neg h3,if_neg (by omega),List.getElem?_eq_none (by omega)]
  ·rw [if_neg h2,if_neg (by omega)]
end
theorem VRL_spl {Γ:Gm} {l vs:List AV} {l' vs':List Value} (k:Nat) (h:VRL Γ l l') (hv:VRL Γ vs vs'):VRL Γ (spl l k vs) (spl l' k vs'):=by
 have hl:=VRL_length h
 have hlv:=VRL_length hv
 refine VRL_mk (by rw [spl_length,spl_length,hl]) fun j v hj=>?_
 rw [spl_get] at hj ⊢
 split at hj
 ·rename_i hin
  rw [if_pos (by rw [hlv,hl];exact hin)]
  exact VRL_get hv hj
 ·rename_i hin
  rw [if_neg (by rw [hlv,hl];exact hin)]
  exact VRL_get h hj
theorem Seg.get {arr us:List Value} {o:Nat} (h:Seg arr o us) {j:Nat} {v:Value} (hj:us[j]?=some v):arr[o+j]?=some v:=by
 obtain⟨pre,post,rfl,rfl,_⟩:=h
 have hl:j<us.length:=(List.getElem?_eq_some_iff.1 hj).1
 rw [List.append_assoc,List.getElem?_append_right (by omega),List.getElem?_append_left (by omega)]
 rw [← hj];congr 1;omega
theorem Seg.sub {arr us:List Value} {o:Nat} (h:Seg arr o us) (k n:Nat) (hk:k≤us.length):Seg arr (o+k) ((us.drop k).take n):=by
 obtain⟨pre,post,rfl,rfl,hp⟩:=h
 refine⟨pre++us.take k,(us.drop k).drop n++post,?_,by simp;omega,fun u hu=>hp u (List.mem_of_mem_drop (List.mem_of_mem_take hu))⟩
 simp only [List.append_assoc]
 congr 1
 rw [← List.append_assoc ((us.drop k).take n),List.take_append_drop,← List.append_assoc,List.take_append_drop]
theorem Seg.plain {arr us:List Value} {o:Nat} (h:Seg arr o us):∀ u∈us,plainV u=true:=by
 obtain⟨pre,post,_,_,hp⟩:=h;exact hp
section
variable {P:Program} {w:World}
theorem add_spot (a:Addr) (h:a.spot=none) (n:Nat):a.add n=⟨a.block,a.off+n,none⟩:=by
 obtain⟨b,o,s⟩:=a
 simp only at h
 subst h
 unfold Addr.add
 by_cases hn:n=0
 ·simp [hn]
 ·simp [hn]
theorem run_loadFrom (b o:Nat):∀ (vs:List Value) (i:Nat) (acc:Array Value),(∀ (j:Nat) (v:Value),vs[j]?=some v→w.cell? ⟨b,o+i+j,none⟩=some v) →
  (loadCellsFrom ⟨b,o,none⟩ i vs.length acc).run P w=.ok (acc++⟨vs⟩) w
 | [],i,acc,_=>by simp [loadCellsFrom]
 | v::vs,i,acc,h=>by
  have h0:=h 0 v (by simp)
  have hr:=run_loadFrom b o vs (i+1) (acc.push v) (fun j u hj=>by
   have:=h (j+1) u (by simpa using hj)
   rw [← this];congr 2;omega)
  have e:(acc.push v++(⟨vs⟩:Array Value))=acc++⟨v::vs⟩:=by
   apply Array.ext'
   simp
  rw [e] at hr
  show(Sem.bind (load _) _).run P w=_
  rw [add_spot _ rfl]
  simp only [load,Sem.bind,Sem.run]
  simp only [Nat.add_zero] at h0
  rw [h0]
  exact hr
theorem run_loadN (b o:Nat) (vs:List Value) (h:∀ (j:Nat) (v:Value),vs[j]?=some v→w.cell? ⟨b,o+j,none⟩=some v) :
  (loadCells ⟨b,o,none⟩ vs.length).run P w=.ok ⟨vs⟩ w:=by
 have:=run_loadFrom (P:=P) (w:=w) b o vs 0 #[] (by simpa using h)
 simpa [loadCells] using this
def putBlk (w:World) (b:Nat) (o:Obj):World:={ w with heap:=w.heap.setIfInBounds b o }
theorem putBlk_same {b:Nat} {o o':Obj} (h:w.heap[b]?=some o):(putBlk w b o').heap[b]?=some o':=by
 have hb:b<w.heap.size:=(Array.getElem?_eq_some_iff.1 h).1
 simp [putBlk,hb]
theorem putBlk_other {b k:Nat} {o':Obj} (h:k ≠ b):(putBlk w b o').heap[k]?=w.heap[k]?:=by
 simp [putBlk,Array.getElem?_setIfInBounds_ne (Ne.symm h)]
theorem setCell_putBlk {b i:Nat} {arr:Array Value} {t:TypeId} {fz:Nat × Nat} {v:Value} (h:w.heap[b]?=some (.cells arr t fz)) :
  w.setCell ⟨b,i,none⟩ v=putBlk w b (.cells (arr.setIfInBounds i v) t fz):=by
 have hb:b<w.heap.size:=(Array.getElem?_eq_some_iff.1 h).1
 unfold World.setCell putBlk
 congr 1
 apply Array.ext_getElem?
 intro j
 by_cases hj:b=j
 ·subst hj
  rw [Array.getElem?_modify,if_pos rfl,h,Array.getElem?_setIfInBounds_self_of_lt hb]
  rfl
 ·rw [Array.getElem?_modify,if_neg hj,Array.getElem?_setIfInBounds_ne hj]
theorem putBlk_putBlk {b:Nat} {o o':Obj}:putBlk (putBlk w b o) b o'=putBlk w b o':=by
 simp [putBlk,Array.setIfInBounds_setIfInBounds]
theorem run_store_plain (a:Addr) (v:Value) (hv:plainV v=true) (k:Sem Unit) {u:Value} (hc:w.cell? a=some u) (hf:w.frozen? a=false) :
  (Sem.store .plain a v k).run P w=k.run P (w.setCell a v):=by
 cases v <;> simp_all [plainV,Sem.run]
theorem run_storeN (b:Nat) (t:TypeId) (fz:Nat × Nat):∀ (vs:List Value) (o i:Nat) (w:World) (arr:Array Value),w.heap[b]?=some (.cells arr t fz)→Free fz arr.size→o+i+vs.length≤arr.size→(∀ v∈vs,plainV v=true) →
  (storeCells ⟨b,o,none⟩ vs i).run P w=.ok () (putBlk w b (.cells ⟨spl arr.toList (o+i) vs⟩ t fz))
 | [],o,i,w,arr,h,_,_,_=>by
  simp only [storeCells]
  have:spl arr.toList (o+i) []=arr.toList:=by
   apply List.ext_getElem?
   intro j
   rw [spl_get];simp;omega
  rw [this]
  have e:putBlk w b (.cells ⟨arr.toList⟩ t fz)=w:=by
   unfold putBlk
   have hb:b<w.heap.size:=(Array.getElem?_eq_some_iff.1 h).1
   have:w.heap.setIfInBounds b (.cells arr t fz)=w.heap:=by
    apply Array.ext_getElem?
    intro j
    by_cases hj:b=j
    ·subst hj;rw [Array.getElem?_setIfInBounds_self_of_lt hb,h]
    ·simp [Array.getElem?_setIfInBounds_ne hj]
   simp [this]
  rw [e]
  rfl
 | v::vs,o,i,w,arr,h,hfz,hl,hp=>by
  have hlt:o+i<arr.size:=by simp at hl;omega
  have hc:w.cell? ⟨b,o+i,none⟩=some arr[o+i]:=by simp [World.cell?,h,hlt]
  have hf:w.frozen? ⟨b,o+i,none⟩=false:=by
   obtain⟨lo,hi⟩:=fz
   rcases hfz with hfz | hfz <;> simp only at hfz <;> simp only [World.frozen?,h] <;> simp <;> omega
  have ih:=run_storeN b t fz vs o (i+1) (putBlk w b (.cells (arr.setIfInBounds (o+i) v) t fz)) (arr.setIfInBounds (o+i) v) (putBlk_same h) (by simpa using hfz) (by simp at hl ⊢;omega) (fun u hu=>hp u (by simp [hu]))
  show(Sem.bind (store _ v) _).run P w=_
  rw [add_spot _ rfl]
  simp only [store,Sem.bind]
  rw [run_store_plain _ _ (hp v (by simp)) _ hc hf,setCell_putBlk h]
  refine ih.trans ?_
  rw [putBlk_putBlk]
  congr 4
  have:(arr.setIfInBounds (o+i) v).toList=arr.toList.set (o+i) v:=by simp
  rw [this,show o+(i+1)=(o+i)+1 by omega,setList_spl]
end
def Ext (n:Nat) (a b:Gm):Prop:=∀ m,m<n→b.nm m=a.nm m
theorem Ext.refl (n:Nat) (a:Gm):Ext n a a:=fun _ _=>rfl
theorem Ext.trans {n:Nat} {a b c:Gm} (h:Ext n a b) (k:Ext n b c):Ext n a c:=fun m hm=>(k m hm).trans (h m hm)
theorem Ext.mono {n m:Nat} {a b:Gm} (h:Ext n a b) (hm:m≤n):Ext m a b:=fun k hk=>h k (by omega)
section
variable {C:Cx} {Γ:Gm} {H:Hp} {w:World}
def Later (C:Cx) (n0:Nat) (Γ:Gm) (H:Hp) (w:World) (Γ':Gm) (H':Hp) (w':World):Prop:=
 R C Γ' H' w'∧Ext n0 Γ Γ'∧n0≤H'.next∧Tr Γ H w Γ' H' w'
theorem Later.refl (h:R C Γ H w) (n0:Nat) (hn:n0≤H.next):Later C n0 Γ H w Γ H w:=⟨h,Ext.refl _ _,hn,Tr.refl _ _ _⟩
theorem Later.trans {n0:Nat} {Γ1 Γ2:Gm} {H1 H2:Hp} {w1 w2:World} (h:Later C n0 Γ H w Γ1 H1 w1) (k:Later C n0 Γ1 H1 w1 Γ2 H2 w2):Later C n0 Γ H w Γ2 H2 w2:=
 ⟨k.1,h.2.1.trans k.2.1,k.2.2.1,h.2.2.2.trans k.2.2.2⟩
theorem Later.mono {n0 n1:Nat} {Γ1:Gm} {H1:Hp} {w1:World} (h:Later C n1 Γ H w Γ1 H1 w1) (hn:n0≤n1):Later C n0 Γ H w Γ1 H1 w1:=
 ⟨h.1,h.2.1.mono hn,Nat.le_trans hn h.2.2.1,h.2.2.2⟩
theorem Later.drew (h:R C Γ H w) (n0:Nat) (hn:n0≤H.next):Later C n0 Γ H w Γ H { w with drawn:=w.drawn+1 }:=⟨h.drew,Ext.refl _ _,hn,Tr.drew _ _ _⟩
theorem Later.le {Γ1:Gm} {H1:Hp} {w1:World} (hR:R C Γ H w) (h:Later C H.next Γ H w Γ1 H1 w1):Γ.le Γ1:=by
 refine⟨fun n q hq=>?_,h.2.2.2.fz⟩
 have hn:n<H.next:=by
  rcases Nat.lt_or_ge n H.next with h1 | h1
  ·exact h1
  ·rw [hR.fresh n h1] at hq;cases hq
 rw [h.2.1 n hn];exact hq
theorem push_get {o:AObj} {n:Nat} {p:AObj} (h:lget (H.push o).l n=some p):(n=H.next∧p=o)∨(n ≠ H.next∧lget H.l n=some p):=by
 simp only [Hp.push] at h
 by_cases e:H.next=n
 ·subst e;rw [lget_cons_same] at h;injection h with h;exact .inl ⟨rfl,h.symm⟩
 ·rw [lget_cons_ne e] at h;exact .inr ⟨fun e'=>e e'.symm,h⟩
theorem R.push (h:R C Γ H w) {ob:Obj} {q:Pl} {o:AObj} (hb:q.blk=w.heap.size) (_hn:q.nl=false) (hf:o.fr=false) (ho:ObjR C.P (Γ.put H.next q) (w.alloc ob) q o) :
  Later C H.next Γ H w (Γ.put H.next q) (H.push o) (w.alloc ob):=by
 have hle:Γ.le (Γ.put H.next q):=Gm.le_put (h.fresh _ (Nat.le_refl _))
 have hold:∀ k,k<w.heap.size→(w.alloc ob).heap[k]?=w.heap[k]?:=fun k hk=>RowKit.Below.heap_alloc w _ k hk
 have hlt:∀ (m:Nat) (p:AObj) (q':Pl),lget H.l m=some p→Γ.nm m=some q'→q'.nl=false→q'.blk<w.heap.size:=by
  intro m p q' hm hq' hnl
  obtain⟨q1,e1,e2⟩:=h.objs m p hm
  rw [hq'] at e1
  injection e1 with e1
  subst e1
  exact e2.blk_lt hnl
 refine⟨⟨fun g cs hg=>(h.glob g cs hg).mono hle.fz,fun n hn=>?_,fun b arr hfz=>?_,fun n p hp=>?_,fun n p q1 hp hfr hq1 hnl=>?_,fun n p m p' q1 q2 hp hp' hne hq1 hq2 hfr hnl hnl'=>?_⟩,fun m hm=>Gm.put_other _ _ (by omega),by simp [Hp.push],⟨rfl,rfl,rfl,by simp,fun k hk _=>hold k hk,fun k hk=>?_,Fzn.le_refl _,fun k a hk=>.inl hk⟩⟩
 ·simp only [Hp.push] at hn
  rw [Gm.put_other _ _ (by omega)]
  exact h.fresh n (by omega)
 ·obtain⟨t,z,e⟩:=h.fzok b arr hfz
  exact⟨t,z,by rw [hold _ (fz_lt h hfz)];exact e⟩
 ·rcases push_get hp with ⟨rfl,rfl⟩ | ⟨hne,hp⟩
  ·exact⟨q,Gm.put_same _ _ _,ho⟩
  ·obtain⟨q1,e1,e2⟩:=h.objs n p hp
   exact⟨q1,hle.nm _ _ e1,e2.ext hle fun hnl=>hold _ (hlt n p q1 hp e1 hnl)⟩
 ·rcases push_get hp with ⟨rfl,rfl⟩ | ⟨hne,hp⟩
  ·rw [Gm.put_same] at hq1
   injection hq1 with e
   subst e
   show Γ.fz q.blk=none
   cases hx:Γ.fz q.blk with
   | none=>rfl
   | some a=>have:=fz_lt h hx;omega
  ·rw [Gm.put_other _ _ hne] at hq1
   exact h.own n p q1 hp hfr hq1 hnl
 ·rcases push_get hp with ⟨rfl,rfl⟩ | ⟨hn1,hp⟩
  ·rcases push_get hp' with ⟨rfl,rfl⟩ | ⟨hn2,hp'⟩
   ·exact absurd rfl hne
   ·rw [Gm.put_same] at hq1
    injection hq1 with e
    subst e
    rw [Gm.put_other _ _ hn2] at hq2
    have:=hlt m p' q2 hp' hq2 hnl'
    omega
  ·rw [Gm.put_other _ _ hn1] at hq1
   have hlq:=hlt n p q1 hp hq1 hnl
   rcases push_get hp' with ⟨rfl,rfl⟩ | ⟨hn2,hp'⟩
   ·rw [Gm.put_same] at hq2
    injection hq2 with e
    subst e
    omega
   ·rw [Gm.put_other _ _ hn2] at hq2
    exact h.apart n p m p' q1 q2 hp hp' hne hq1 hq2 hfr hnl hnl'
 ·obtain⟨n,p,q1,h1,h2,h3,h4,rfl⟩:=hk
  rcases push_get h1 with ⟨rfl,rfl⟩ | ⟨hne,hp⟩
  ·rw [Gm.put_same] at h3;injection h3 with h3;subst h3;exact .inl (by omega)
  ·rw [Gm.put_other _ _ hne] at h3
   exact .inr ⟨n,p,q1,hp,h2,h3,h4,rfl⟩
theorem R.pushNil (h:R C Γ H w) {q:Pl} {o:AObj} (hn:q.nl=true) (hc:isCells o.c=true) (he:Empt o.c) (hsz:Sized q.s q.tc o.c) :
  Later C H.next Γ H w (Γ.put H.next q) (H.push o) w:=by
 have hle:Γ.le (Γ.put H.next q):=Gm.le_put (h.fresh _ (Nat.le_refl _))
 refine⟨⟨fun g cs hg=>(h.glob g cs hg).mono hle.fz,fun n hn=>?_,h.fzok,fun n p hp=>?_,fun n p q1 hp hfr hq1 hnl=>?_,fun n p m p' q1 q2 hp hp' hne hq1 hq2 hfr hnl hnl'=>?_⟩,fun m hm=>Gm.put_other _ _ (by omega),by simp [Hp.push],⟨rfl,rfl,rfl,Nat.le_refl _,fun k hk _=>rfl,fun k hk=>?_,Fzn.le_refl _,fun k a hk=>.inl hk⟩⟩
 ·simp only [Hp.push] at hn
  rw [Gm.put_other _ _ (by omega)]
  exact h.fresh n (by omega)
 ·rcases push_get hp with ⟨rfl,rfl⟩ | ⟨hne,hp⟩
  ·exact⟨q,Gm.put_same _ _ _,(ObjR_cells hc).2 (.inl ⟨hn,he,hsz⟩)⟩
  ·obtain⟨q1,e1,e2⟩:=h.objs n p hp
   exact⟨q1,hle.nm _ _ e1,e2.ext hle fun hnl=>rfl⟩
 ·rcases push_get hp with ⟨rfl,rfl⟩ | ⟨hne,hp⟩
  ·rw [Gm.put_same] at hq1
   injection hq1 with e
   subst e
   rw [hn] at hnl;cases hnl
  ·rw [Gm.put_other _ _ hne] at hq1
   exact h.own n p q1 hp hfr hq1 hnl
 ·rcases push_get hp with ⟨rfl,rfl⟩ | ⟨hn1,hp⟩
  ·rw [Gm.put_same] at hq1
   injection hq1 with e
   subst e
   rw [hn] at hnl;cases hnl
  ·rw [Gm.put_other _ _ hn1] at hq1
   rcases push_get hp' with ⟨rfl,rfl⟩ | ⟨hn2,hp'⟩
   ·rw [Gm.put_same] at hq2
    injection hq2 with e
    subst e
    rw [hn] at hnl';cases hnl'
   ·rw [Gm.put_other _ _ hn2] at hq2
    exact h.apart n p m p' q1 q2 hp hp' hne hq1 hq2 hfr hnl hnl'
 ·obtain⟨n,p,q1,h1,h2,h3,h4,rfl⟩:=hk
  rcases push_get h1 with ⟨rfl,rfl⟩ | ⟨hne,hp⟩
  ·rw [Gm.put_same] at h3;injection h3 with h3;subst h3;rw [hn] at h4;cases h4
  ·rw [Gm.put_other _ _ hne] at h3
   exact .inr ⟨n,p,q1,hp,h2,h3,h4,rfl⟩
theorem R.repl (h:R C Γ H w) {n:Nat} {o o':AObj} {q:Pl} {x:Obj} (hn:lget H.l n=some o) (hfr:o.fr=false) (hq:Γ.nm n=some q) (hnl:q.nl=false) (hfr':o'.fr=false)
  (ho:ObjR C.P Γ (putBlk w q.blk x) q o') :
  Later C H.next Γ H w Γ { H with l:=lset H.l n o' } (putBlk w q.blk x):=by
 have hget:∀ m p,lget (lset H.l n o') m=some p→(m=n∧p=o')∨(m ≠ n∧lget H.l m=some p):=by
  intro m p hm
  by_cases e:m=n
  ·subst e;rw [lget_lset_same hn] at hm;injection hm with hm;exact .inl ⟨rfl,hm.symm⟩
  ·rw [lget_lset_other e] at hm;exact .inr ⟨e,hm⟩
 have hownq:Own Γ H q.blk:=⟨n,o,q,hn,hfr,hq,hnl,rfl⟩
 refine⟨⟨h.glob,h.fresh,fun b arr hfz=>?_,fun m p hp=>?_,fun m p q1 hp hf hq1 hl=>?_,fun m p m' p' q1 q2 hp hp' hne hq1 hq2 hf hl hl'=>?_⟩,Ext.refl _ _,Nat.le_refl _,⟨rfl,rfl,rfl,by simp [putBlk],fun k hk hno=>putBlk_other (fun e=>hno (e ▸ hownq)),fun k hk=>?_,Fzn.le_refl _,fun k a hk=>.inl hk⟩⟩
 ·obtain⟨t,z,e⟩:=h.fzok b arr hfz
  refine⟨t,z,?_⟩
  rw [putBlk_other (fun e'=>?_)]
  ·exact e
  ·subst e';rw [h.own n o q hn hfr hq hnl] at hfz;cases hfz
 ·rcases hget m p hp with ⟨rfl,rfl⟩ | ⟨hne,hp⟩
  ·exact⟨q,hq,ho⟩
  ·obtain⟨q1,e1,e2⟩:=h.objs m p hp
   exact⟨q1,e1,e2.ext (Gm.le_refl _) fun hl=>putBlk_other (Ne.symm (h.apart n o m p q q1 hn hp (Ne.symm hne) hq e1 hfr hnl hl))⟩
 ·rcases hget m p hp with ⟨rfl,rfl⟩ | ⟨hne,hp⟩
  ·exact h.own _ o q1 hn hfr hq1 hl
  ·exact h.own m p q1 hp hf hq1 hl
 ·rcases hget m p hp with ⟨rfl,rfl⟩ | ⟨hn1,hp⟩
  ·rcases hget m' p' hp' with ⟨rfl,rfl⟩ | ⟨hn2,hp'⟩
   ·exact absurd rfl hne
   ·exact h.apart m o m' p' q1 q2 hn hp' hne hq1 hq2 hfr hl hl'
  ·have hx:=h.apart m p n o q1 q2 hp hn
   rcases hget m' p' hp' with ⟨rfl,rfl⟩ | ⟨hn2,hp'⟩
   ·exact hx hne hq1 hq2 hf hl hl'
   ·exact h.apart m p m' p' q1 q2 hp hp' hne hq1 hq2 hf hl hl'
 ·obtain⟨m,p,q1,h1,h2,h3,h4,rfl⟩:=hk
  rcases hget m p h1 with ⟨rfl,rfl⟩ | ⟨hne,hp⟩
  ·exact .inr ⟨m,o,q1,hn,hfr,h3,h4,rfl⟩
  ·exact .inr ⟨m,p,q1,hp,h2,h3,h4,rfl⟩
theorem R.del (h:R C Γ H w) (n:Nat):Later C H.next Γ H w Γ { H with l:=ldel H.l n } w:=by
 refine⟨⟨h.glob,h.fresh,h.fzok,fun m o hm=>h.objs m o (lget_ldel.1 hm).2,fun m o q hm=>h.own m o q (lget_ldel.1 hm).2,fun m o k p q q' hm hk=>h.apart m o k p q q' (lget_ldel.1 hm).2 (lget_ldel.1 hk).2⟩,Ext.refl _ _,Nat.le_refl _,⟨rfl,rfl,rfl,Nat.le_refl _,fun _ _ _=>rfl,?_,Fzn.le_refl _,fun _ _ h=>.inl h⟩⟩
 rintro k ⟨m,o,q,h1,h2⟩
 exact .inr ⟨m,o,q,(lget_ldel.1 h1).2,h2⟩
theorem R.rename (h:R C Γ H w) {n:Nat} {o:AObj} {q:Pl} (hn:lget H.l n=some o) (hq:Γ.nm n=some q) :
  Later C H.next Γ H w (Γ.put H.next q) (Hp.push { H with l:=ldel H.l n } o) w:=by
 have hle:Γ.le (Γ.put H.next q):=Gm.le_put (h.fresh _ (Nat.le_refl _))
 have hget:∀ m p,lget (Hp.push { H with l:=ldel H.l n } o).l m=some p→(m=H.next∧p=o)∨(m ≠ H.next∧m ≠ n∧lget H.l m=some p):=by
  intro m p hm
  rcases push_get hm with ⟨rfl,rfl⟩ | ⟨hne,hp⟩
  ·exact .inl ⟨rfl,rfl⟩
  ·obtain⟨a1,a2⟩:=lget_ldel.1 hp
   exact .inr ⟨hne,a1,a2⟩
 refine⟨⟨fun g cs hg=>(h.glob g cs hg).mono hle.fz,fun m hm=>?_,h.fzok,fun m p hp=>?_,fun m p q1 hp hfr hq1 hnl=>?_,fun m p m' p' q1 q2 hp hp' hne hq1 hq2 hfr hnl hnl'=>?_⟩,fun m hm=>Gm.put_other _ _ (by omega),by simp [Hp.push],⟨rfl,rfl,rfl,Nat.le_refl _,fun k hk _=>rfl,fun k hk=>?_,Fzn.le_refl _,fun k a hk=>.inl hk⟩⟩
 ·simp only [Hp.push] at hm
  rw [Gm.put_other _ _ (by omega)]
  exact h.fresh m (by omega)
 ·rcases hget m p hp with ⟨rfl,rfl⟩ | ⟨h1,h2,h3⟩
  ·obtain⟨q1,e1,e2⟩:=h.objs n p hn
   rw [hq] at e1;injection e1 with e1;subst e1
   exact⟨q,Gm.put_same _ _ _,e2.ext hle fun _=>rfl⟩
  ·obtain⟨q1,e1,e2⟩:=h.objs m p h3
   exact⟨q1,hle.nm _ _ e1,e2.ext hle fun hnl=>rfl⟩
 ·rcases hget m p hp with ⟨rfl,rfl⟩ | ⟨h1,h2,h3⟩
  ·rw [Gm.put_same] at hq1
   injection hq1 with e
   subst e
   exact h.own n p q hn hfr hq hnl
  ·rw [Gm.put_other _ _ h1] at hq1
   exact h.own m p q1 h3 hfr hq1 hnl
 ·rcases hget m p hp with ⟨rfl,rfl⟩ | ⟨h1,h2,h3⟩
  ·rcases hget m' p' hp' with ⟨rfl,rfl⟩ | ⟨h1',h2',h3'⟩
   ·exact absurd rfl hne
   ·rw [Gm.put_same] at hq1
    injection hq1 with e
    subst e
    rw [Gm.put_other _ _ h1'] at hq2
    exact h.apart n p m' p' q q2 hn h3' (Ne.symm h2') hq hq2 hfr hnl hnl'
  ·rw [Gm.put_other _ _ h1] at hq1
   rcases hget m' p' hp' with ⟨rfl,rfl⟩ | ⟨h1',h2',h3'⟩
   ·rw [Gm.put_same] at hq2
    injection hq2 with e
    subst e
    exact h.apart m p n p' q1 q h3 hn h2 hq1 hq hfr hnl hnl'
   ·rw [Gm.put_other _ _ h1'] at hq2
    exact h.apart m p m' p' q1 q2 h3 h3' hne hq1 hq2 hfr hnl hnl'
 ·obtain⟨m,p,q1,h1,h2,h3,h4,rfl⟩:=hk
  rcases hget m p h1 with ⟨rfl,rfl⟩ | ⟨k1,k2,k3⟩
  ·rw [Gm.put_same] at h3;injection h3 with h3;subst h3
   exact .inr ⟨n,p,q,hn,h2,hq,h4,rfl⟩
  ·rw [Gm.put_other _ _ k1] at h3
   exact .inr ⟨m,p,q1,k3,h2,h3,h4,rfl⟩
def Gm.frz (Γ:Gm) (b:Nat) (a:List Value):Gm:=⟨Γ.nm,fun k=>match Nat.beq k b with | true=>some a | false=>Γ.fz k⟩
theorem Gm.frz_same (Γ:Gm) (b:Nat) (a:List Value):(Γ.frz b a).fz b=some a:=by simp [Gm.frz]
theorem Gm.frz_other (Γ:Gm) {b k:Nat} (a:List Value) (h:k ≠ b):(Γ.frz b a).fz k=Γ.fz k:=by simp only [Gm.frz,beq_ne h]
theorem R.freeze (h:R C Γ H w) {n:Nat} {o:AObj} (hn:lget H.l n=some o) (hc:isCells o.c=true) :
  ∃ Γ',Γ'.nm=Γ.nm∧Later C H.next Γ H w Γ' { H with l:=lset H.l n { o with fr:=true } } w:=by
 obtain⟨q,hq,ho⟩:=h.objs n o hn
 have hget:∀ m p,lget (lset H.l n { o with fr:=true }) m=some p→(m=n∧p={ o with fr:=true })∨(m ≠ n∧lget H.l m=some p):=by
  intro m p hm
  by_cases e:m=n
  ·subst e;rw [lget_lset_same hn] at hm;injection hm with hm;exact .inl ⟨rfl,hm.symm⟩
  ·rw [lget_lset_other e] at hm;exact .inr ⟨e,hm⟩
 -- the general step
 have key:∀ Γ':Gm,Γ'.nm=Γ.nm→Γ.fz.le Γ'.fz→(∀ b a,Γ'.fz b=some a→Γ.fz b=some a∨(o.fr=false∧q.nl=false∧b=q.blk∧∃ t z,w.heap[b]?=some (.cells ⟨a⟩ t z)))→ObjR C.P Γ' w q { o with fr:=true } →
   Later C H.next Γ H w Γ' { H with l:=lset H.l n { o with fr:=true } } w:=by
  intro Γ' hnm hfz hfz' hob
  have hle:Γ.le Γ':=⟨fun m q' e=>by rw [hnm];exact e,hfz⟩
  refine⟨⟨fun g cs hg=>(h.glob g cs hg).mono hfz,fun m hm=>by rw [hnm];exact h.fresh m hm,fun b arr hb=>?_,fun m p hp=>?_,fun m p q1 hp hf hq1 hl=>?_,fun m p m' p' q1 q2 hp hp' hne hq1 hq2 hf hl hl'=>?_⟩,fun m hm=>by rw [hnm],Nat.le_refl _,⟨rfl,rfl,rfl,Nat.le_refl _,fun k hk _=>rfl,fun k hk=>?_,hfz,fun k a hk=>?_⟩⟩
  ·rcases hfz' b arr hb with e | ⟨_,_,_,e⟩
   ·exact h.fzok b arr e
   ·exact e
  ·rcases hget m p hp with ⟨rfl,rfl⟩ | ⟨hne,hp⟩
   ·exact⟨q,by rw [hnm];exact hq,hob⟩
   ·obtain⟨q1,e1,e2⟩:=h.objs m p hp
    exact⟨q1,by rw [hnm];exact e1,e2.ext hle fun _=>rfl⟩
  ·rw [hnm] at hq1
   rcases hget m p hp with ⟨rfl,rfl⟩ | ⟨hne,hp⟩
   ·cases hf
   ·have h0:=h.own m p q1 hp hf hq1 hl
    cases hx:Γ'.fz q1.blk with
    | none=>rfl
    | some a=>
     rcases hfz' _ _ hx with e | ⟨e1,e2,e3,_⟩
     ·rw [h0] at e;cases e
     ·exact absurd e3 (h.apart m p n o q1 q hp hn hne hq1 hq hf hl e2)
  ·rw [hnm] at hq1 hq2
   rcases hget m p hp with ⟨rfl,rfl⟩ | ⟨hn1,hp⟩
   ·cases hf
   ·have hx:=h.apart m p n o q1 q2 hp hn
    rcases hget m' p' hp' with ⟨rfl,rfl⟩ | ⟨hn2,hp'⟩
    ·exact hx hne hq1 hq2 hf hl hl'
    ·exact h.apart m p m' p' q1 q2 hp hp' hne hq1 hq2 hf hl hl'
  ·obtain⟨m,p,q1,h1,h2,h3,h4,rfl⟩:=hk
   rw [hnm] at h3
   rcases hget m p h1 with ⟨rfl,rfl⟩ | ⟨hne,hp⟩
   ·cases h2
   ·exact .inr ⟨m,p,q1,hp,h2,h3,h4,rfl⟩
  ·rcases hfz' k a hk with e | ⟨e1,e2,e3,_⟩
   ·exact .inl e
   ·exact .inr (.inr ⟨n,o,q,hn,e1,hq,e2,e3.symm⟩)
 rcases (ObjR_cells hc).1 ho with ⟨hnl,he⟩ | ⟨hnl,us,rest,z,h1,h2,h3,h3',h4,h5,h6,h7,h8⟩
 ·exact⟨Γ,rfl,key Γ rfl (Fzn.le_refl _) (fun b a e=>.inl e) ((ObjR_cells (o:={ o with fr:=true }) hc).2 (.inl ⟨hnl,he⟩))⟩
 ·cases hfr:o.fr with
  | true=>exact⟨Γ,rfl,key Γ rfl (Fzn.le_refl _) (fun b a e=>.inl e) ((ObjR_cells (o:={ o with fr:=true }) hc).2 (.inr ⟨hnl,us,rest,z,h1,h2,h3,h3',h4,h5,h6,h7,fun _=>h8 hfr⟩))⟩
  | false=>
   have h0:=h.own n o q hn hfr hq hnl
   have hle:Γ.fz.le (Γ.frz q.blk (us++rest)).fz:=by
    intro k x hk
    by_cases e:k=q.blk
    ·subst e;rw [h0] at hk;cases hk
    ·rw [Gm.frz_other _ _ e];exact hk
   refine⟨Γ.frz q.blk (us++rest),rfl,key _ rfl hle (fun b a e=>?_) ((ObjR_cells (o:={ o with fr:=true }) hc).2 (.inr ⟨hnl,us,rest,z,h1,h2,h3,h3',h4,VRL_mono (a:=Γ) (b:=Γ.frz q.blk (us++rest)) ⟨fun _ _ e=>e,hle⟩ _ _ h5,h6,h7,fun _=>Gm.frz_same _ _ _⟩))⟩
   by_cases e':b=q.blk
   ·subst e'
    rw [Gm.frz_same] at e
    injection e with e
    subst e
    exact .inr ⟨hfr,hnl,rfl,_,_,h1⟩
   ·rw [Gm.frz_other _ _ e'] at e
    exact .inl e
end
end Go.Proofs.YtkegmchjobphdaaGreatDoor.Y
namespace Go.Proofs.YtkegmchjobphdaaGreatDoor.Y
open Go
inductive PRes where
 | val (v:AV)
 | cond (c:Prop) (v:AV)
 | split (c:Prop) (a b:AV)
 | splitc (g c:Prop) (a b:AV)
 | wrap (k:IntKind) (n:Int)
 | wrapc (c:Prop) (k:IntKind) (n:Int)
 | ex (p:AV→Prop)
 | bad
def PRes.Then (r:PRes) (K:AV→Prop):Prop:=
 match r with
 | .val v=>K v
 | .cond c v=>c∧K v
 | .split c a b=>(c→K a)∧(¬ c→K b)
 | .splitc g c a b=>g∧(c→K a)∧(¬ c→K b)
 | .wrap k n=>∃ m,m=k.wrap n∧K (.p (.int k m))
 | .wrapc c k n=>c∧∃ m,m=k.wrap n∧K (.p (.int k m))
 | .ex p=>∃ v,p v∧K v
 | .bad=>False
def PRes.Yld (r:PRes) (v:AV):Prop:=
 match r with
 | .val u=>v=u
 | .cond c u=>c∧v=u
 | .split c a b=>(c∧v=a)∨(¬ c∧v=b)
 | .splitc g c a b=>g∧((c∧v=a)∨(¬ c∧v=b))
 | .wrap k n=>v=.p (.int k (k.wrap n))
 | .wrapc c k n=>c∧v=.p (.int k (k.wrap n))
 | .ex p=>p v
 | .bad=>False
theorem PRes.yld {r:PRes} {K:AV→Prop} (h:r.Then K):∃ v,r.Yld v∧K v:=by
 cases r with
 | val v=>exact⟨v,rfl,h⟩
 | cond c v=>exact⟨v,⟨h.1,rfl⟩,h.2⟩
 | split c a b=>
  by_cases hc:c
  ·exact⟨a, .inl ⟨hc,rfl⟩,h.1 hc⟩
  ·exact⟨b, .inr ⟨hc,rfl⟩,h.2 hc⟩
 | splitc g c a b=>
  by_cases hc:c
  ·exact⟨a,⟨h.1, .inl ⟨hc,rfl⟩⟩,h.2.1 hc⟩
  ·exact⟨b,⟨h.1, .inr ⟨hc,rfl⟩⟩,h.2.2 hc⟩
 | wrap k n=>obtain⟨m,rfl,hk⟩:=h;exact⟨_,rfl,hk⟩
 | wrapc c k n=>obtain⟨hc,m,rfl,hk⟩:=h;exact⟨_,⟨hc,rfl⟩,hk⟩
 | ex p=>obtain⟨v,hp,hk⟩:=h;exact⟨v,hp,hk⟩
 | bad=>exact h.elim
abbrev vB (b:Bool):AV:=.p (.bool b)
abbrev vI (k:IntKind) (n:Int):AV:=.p (.int k n)
abbrev vS (s:List UInt8):AV:=.p (.str s)
def vCells:AV→List AV
 | .p (.agg cs)=>cs.map .p
 | .agg cs=>cs
 | v=>[v]
def pCells:PV→List PV
 | .agg cs=>cs
 | v=>[v]
section
variable (P:Program)
def aggSz (t:TypeId):Option (Option Nat):=
 match P.underlying t with
 | some (.struct _)=>(szOf P t).map some
 | some (.array _ _)=>(szOf P t).map some
 | some _=>some none
 | none=>none
def ldIn (t:TypeId) (cs:List AV) (f:Nat):Option AV:=
 match aggSz P t with
 | some (some s)=>match getN cs f s with
  | some r=>some (mkAgg r)
  | none=>none
 | some none=>nth cs f
 | none=>none
def ldInP (t:TypeId) (cs:List PV) (f:Nat):Option PV:=
 match aggSz P t with
 | some (some s)=>match getN cs f s with
  | some r=>some (.agg r)
  | none=>none
 | some none=>nth cs f
 | none=>none
def popLoad (t:TypeId) (v:AV) (lk:Nat→Option AObj):PRes:=
 match v with
 | .ptr n i f=>
  match lk n with
  | some o=>match o.c with
   | .bx cs=>match Nat.beq i 0,ldIn P t cs f with
    | true,some u=>.val u
    | _,_=>.bad
   | .pu xs=>match Nat.beq f 0,aggSz P t with
    | true,some none=>.ex fun u=>∃ x,xs[i]?=some x∧u=.p x
    | _,_=>.bad
   | .pus xss=>.ex fun u=>∃ cs x,xss[i]?=some cs∧ldInP P t cs f=some x∧u=.p x
   | .mx xs=>match Nat.beq f 0,aggSz P t,nth xs i with
    | true,some none,some x=>.val x
    | _,_,_=>.bad
   | .mxs xss=>.ex fun u=>∃ cs,xss[i]?=some cs∧ldIn P t cs f=some u
   | _=>.bad
  | none=>.bad
 | .ptd n i f=>
  match lk n with
  | some o=>match o.c with
   | .bx cs=>match Nat.beq i 0 with
    | true=>.ex fun u=>ldIn P t cs f=some u
    | false=>.bad
   | _=>.bad
  | none=>.bad
 | .p (.fp cs)=>match ldInP P t cs 0 with
  | some x=>.val (.p x)
  | none=>.bad
 | _=>.bad
def popInt (op:BinOp) (k:IntKind) (a b:Int):PRes:=
 match op with
 | .add=>.wrap k (a+b)
 | .sub=>.wrap k (a - b)
 | .mul=>.wrap k (a * b)
 | .quo=>.wrapc (b ≠ 0) k (a.tdiv b)
 | .rem=>.cond (b ≠ 0) (vI k (a.tmod b))
 | .and=>.wrap k ((BitVec.ofInt k.bits a &&& BitVec.ofInt k.bits b).toNat:Int)
 | .or=>.wrap k ((BitVec.ofInt k.bits a ||| BitVec.ofInt k.bits b).toNat:Int)
 | .xor=>.wrap k ((BitVec.ofInt k.bits a ^^^ BitVec.ofInt k.bits b).toNat:Int)
 | .andNot=>.wrap k ((BitVec.ofInt k.bits a &&& ~~~ BitVec.ofInt k.bits b).toNat:Int)
 | .eql=>.split (a=b) (vB true) (vB false)
 | .neq=>.split (a=b) (vB false) (vB true)
 | .lss=>.split (a<b) (vB true) (vB false)
 | .leq=>.split (a≤b) (vB true) (vB false)
 | .gtr=>.split (b<a) (vB true) (vB false)
 | .geq=>.split (b≤a) (vB true) (vB false)
 | _=>.bad
def popStr (op:BinOp) (a b:List UInt8):PRes:=
 match op with
 | .add=>.cond (a.length+b.length≤9223372036854775807) (vS (a++b))
 | .eql=>.split (a=b) (vB true) (vB false)
 | .neq=>.split (a=b) (vB false) (vB true)
 | .lss=>.split (Op.bytesLess a b=true) (vB true) (vB false)
 | .geq=>.split (Op.bytesLess a b=true) (vB false) (vB true)
 | .leq=>.split (Op.bytesLess a b=true∨a=b) (vB true) (vB false)
 | .gtr=>.split (Op.bytesLess a b=true∨a=b) (vB false) (vB true)
 | _=>.bad
def fits (t:TypeId) (x:PV):Bool:=
 match x with
 | .str _=>match P.underlying t with
  | some .string=>true
  | _=>false
 | .int _ _=>match P.underlying t with
  | some (.int _)=>true
  | _=>false
 | .bool _=>match P.underlying t with
  | some .bool=>true
  | _=>false
 | _=>false
def fitAll:List Field→List PV→Nat→Bool
 | [],[],_=>true
 | f :: fs, x :: xs, n => Nat.beq f.offset n && (f.name != "_") && fits P f.type x && fitAll fs xs (n + 1)
 | _,_,_=>false
def flatOK (t:TypeId) (xs:List PV):Bool:=
 match P.underlying t with
 | some (.struct fs)=>fitAll P fs.toList xs 0
 | _=>false
def fitFs (g:TypeId→List PV→Bool):List Field→List PV→Nat→Bool
 | [],[],_=>true
 | [],_::_,_=>false
 | f :: fs, xs, n => Nat.beq f.offset n && (f.name != "_") && (match szOf P f.type with
  | some c=>Nat.beq (xs.take c).length c && g f.type (xs.take c) && fitFs g fs (xs.drop c) (n+c)
  | none=>false)
def fitT:Nat→TypeId→List PV→Bool
 | 0,_,_=>false
 | d+1,t,xs=>match P.underlying t with
  | some (.struct fs)=>!P.stoodInHeld t && fitFs P (fitT d) fs.toList xs 0
  | _=>match xs with
   | [x]=>fits P t x
   | _=>false
inductive Kd where
 | nilp | ptr | nili | ifc | other
def kd:AV→Kd
 | .p .nilp=>.nilp
 | .p (.fp _)=>.ptr
 | .ptr _ _ _=>.ptr
 | .ptd _ _ _=>.ptr
 | .p .nilIface=>.nili
 | .p (.iface _ _)=>.ifc
 | .iface _ _=>.ifc
 | _=>.other
def samePtr:AV→AV→Bool
 | .ptr n i f, .ptr n' i' f'=>Nat.beq n n' && Nat.beq i i' && Nat.beq f f'
 | _,_=>false
def popEqN (t:TypeId) (x y:AV) (neg:Bool) (cst:Bool):PRes:=
 match kd x,kd y with
 | .ptr, .ptr=>match samePtr x y,P.underlying t with
  | true,some (.pointer e)=>match szOf P e with
   | some _=>.val (vB (!neg))
   | none=>.bad
  | _,_=>.bad
 | .nilp, .nilp=>match P.underlying t with
  | some (.pointer _)=>.val (vB (!neg))
  | _=>.bad
 | .ptr, .nilp=>match P.underlying t with
  | some (.pointer _)=>.val (vB neg)
  | _=>.bad
 | .nilp, .ptr=>match P.underlying t with
  | some (.pointer _)=>.val (vB neg)
  | _=>.bad
 | .nili, .nili=>match cst,P.underlying t with
  | true,some (.interface _)=>.val (vB (!neg))
  | _,_=>.bad
 | .ifc, .nili=>match P.underlying t with
  | some (.interface _)=>.val (vB neg)
  | _=>.bad
 | .nili, .ifc=>match P.underlying t with
  | some (.interface _)=>.val (vB neg)
  | _=>.bad
 | _,_=>.bad
def popEq (t:TypeId) (x y:AV) (neg:Bool) (cst:Bool):PRes:=
 match x,y with
 | .p (.bool a), .p (.bool b)=>match P.underlying t with
  | some .bool=>.split (a=b) (vB (!neg)) (vB neg)
  | _=>.bad
 | .p (.agg xs), .p (.agg ys)=>match flatOK P t xs && sameKinds xs ys with
  | true=>.splitc (P.stoodInHeld t=false∧P.eqGuardType P.depth t=false) (xs=ys) (vB (!neg)) (vB neg)
  | false=>.bad
 | x,y=>popEqN P t x y neg cst
def popBin (op:BinOp) (t:TypeId) (x y:AV) (cst:Bool):PRes:=
 match x,y with
 | .p (.int k a), .p (.int k' b)=>
  match op with
  | .shl=>.wrapc (0≤b) k (a * 2 ^ (min b.toNat k.bits))
  | .shr=>.cond (0≤b) (vI k (a.fdiv (2 ^ (min b.toNat k.bits))))
  | op=>match k == k' with
   | true=>popInt op k a b
   | false=>.bad
 | .p (.str a), .p (.str b)=>popStr op a b
 | x,y=>match op with
  | .eql=>popEq P t x y false cst
  | .neq=>popEq P t x y true cst
  | _=>.bad
def fnth:List Field→Nat→Option Field
 | [],_=>none
 | x::_,0=>some x
 | _::l,n+1=>fnth l n
theorem fnth_eq (l:List Field) (n:Nat):fnth l n=l[n]?:=by
 induction l generalizing n with
 | nil=>rfl
 | cons x l ih=>cases n with
  | zero=>rfl
  | succ n=>simpa [fnth] using ih n
def ofO (o:Option AV):PRes:=match o with
 | some v=>.val v
 | none=>.bad
def ofP (o:Option PV):PRes:=match o with
 | some v=>.val (.p v)
 | none=>.bad
def popField (t:TypeId) (x:AV) (f:Nat):PRes:=
 match P.underlying t with
 | some (.struct fs)=>
  match fnth fs.toList f with
  | some fd=>match x with
   | .p (.agg cs)=>ofP (ldInP P fd.type cs fd.offset)
   | .agg cs=>ofO (ldIn P fd.type cs fd.offset)
   | _=>.bad
  | none=>.bad
 | _=>.bad
def popFieldAddr (s:TypeId) (x:AV) (f:Nat):PRes:=
 match P.underlying s with
 | some (.struct fs)=>
  match fnth fs.toList f with
  | some fd=>match szOf P fd.type with
   | some (z+1)=>match x with
    | .ptr n i f=>.val (.ptr n i (f+fd.offset))
    | .ptd n i f=>.val (.ptd n i (f+fd.offset))
    | .p (.fp cs)=>match getN cs fd.offset (z+1) with
     | some r=>.val (.p (.fp r))
     | none=>.bad
    | _=>.bad
   | _=>.bad
  | none=>.bad
 | _=>.bad
def popIndexAddr (t:TypeId) (x i:AV):PRes:=
 match i with
 | .p (.int _ i)=>
  match P.underlying t with
  | some (.slice e)=>match szOf P e with
   | some s=>match x with
    | .sl n s' off len=>match Nat.beq s s' with
     | true=>.cond (0≤i∧i<len) (.ptr n (off+i.toNat) 0)
     | false=>.bad
    | .p (.lst xs)=>match Nat.beq s 1 with
     | true=>.ex fun u=>0≤i∧∃ x,xs[i.toNat]?=some x∧u=.p (.fp [x])
     | false=>.bad
    | .p (.lsts s' xss)=>match Nat.beq s s' with
     | true=>.ex fun u=>0≤i∧∃ x,xss[i.toNat]?=some x∧u=.p (.fp x)
     | false=>.bad
    | _=>.bad
   | none=>.bad
  | some (.array n e)=>match szOf P e with
   | some (s+1)=>match x with
    | .ptr m j f=>.cond (0≤i∧i<n) (.ptd m j (f+i.toNat * (s+1)))
    | .ptd m j f=>.cond (0≤i∧i<n) (.ptd m j (f+i.toNat * (s+1)))
    | .p (.fp cs)=>.ex fun u=>(0≤i∧i<n)∧∃ r,getN cs (i.toNat * (s+1)) (s+1)=some r∧u=.p (.fp r)
    | _=>.bad
   | _=>.bad
  | _=>.bad
 | _=>.bad
def popIndex (t:TypeId) (x i:AV):PRes:=
 match i with
 | .p (.int _ i)=>
  match P.underlying t with
  | some .string=>match x with
   | .p (.str s)=>.ex fun u=>0≤i∧∃ b:UInt8,s[i.toNat]?=some b∧u=vI .u8 (b.toNat:Int)
   | _=>.bad
  | some (.array n e)=>match szOf P e with
   | some s=>match x with
    | .p (.agg cs)=>.ex fun u=>(0≤i∧i<n)∧∃ v,ldInP P e cs (i.toNat * s)=some v∧u=.p v
    | .agg cs=>.ex fun u=>(0≤i∧i<n)∧ldIn P e cs (i.toNat * s)=some u
    | _=>.bad
   | none=>.bad
  | _=>.bad
 | _=>.bad
def sub {α:Type} (s:List α):Option Int→Option Int→List α
 | none,none=>s
 | none,some h=>s.take h.toNat
 | some l,none=>s.drop l.toNat
 | some l,some h=>(s.drop l.toNat).take (h.toNat - l.toNat)
def okSub (n:Nat):Option Int→Option Int→Prop
 | none,none=>True
 | none,some h=>0≤h∧h≤n
 | some l,none=>0≤l∧l≤n
 | some l,some h=>0≤l∧l≤h∧h≤n
def bnd:Option AV→Option (Option Int)
 | none=>some none
 | some (.p (.int _ l))=>some (some l)
 | _=>none
def loN:Option Int→Nat
 | none=>0
 | some l=>l.toNat
def hiN (n:Nat):Option Int→Nat
 | none=>n
 | some l=>l.toNat
def popSlice (t:TypeId) (x:AV) (lo hi mx:Option AV):PRes:=
 match mx with
 | some _=>.bad
 | none=>match bnd lo,bnd hi with
  | some l,some h=>
   match P.underlying t with
   | some .string=>match x with
    | .p (.str s)=>.cond (okSub s.length l h) (vS (sub s l h))
    | _=>.bad
   | some (.slice e)=>match szOf P e with
    | some s=>match x with
     | .sl n s' off len=>match Nat.beq s s' with
      | true=>.cond (okSub len l h) (.sl n s' (off+loN l) (hiN len h - loN l))
      | false=>.bad
     | .p (.lst xs)=>match Nat.beq s 1 with
      | true=>.cond (okSub xs.length l h) (.p (.lst (sub xs l h)))
      | false=>.bad
     | .p (.lsts s' xss)=>match Nat.beq s s' with
      | true=>.cond (okSub xss.length l h) (.p (.lsts s' (sub xss l h)))
      | false=>.bad
     | .p .nils=>.cond (okSub 0 l h) (.p .nils)
     | _=>.bad
    | none=>.bad
   | _=>.bad
  | _,_=>.bad
def popLen0 (t:TypeId) (x:AV):PRes:=
 match P.underlying t with
 | some .string=>match x with
  | .p (.str s)=>.val (vI .i64 s.length)
  | _=>.bad
 | some (.slice _)=>match x with
  | .sl _ _ _ n=>.val (vI .i64 n)
  | .p (.lst xs)=>.val (vI .i64 xs.length)
  | .p (.lsts _ xss)=>.val (vI .i64 xss.length)
  | .p .nils=>.val (vI .i64 0)
  | _=>.bad
 | some (.array n _)=>.val (vI .i64 n)
 | _=>.bad
def bld (ev:Operand→AV) (place:Nat→Option (Nat × Nat)) (cells:List AV):List (Nat × Operand)→Option (List AV)
 | []=>some cells
 | (i,x)::r=>
  match place i with
  | none=>none
  | some (off,s)=>match Nat.beq (vCells (ev x)).length s && Nat.ble (off+s) cells.length with
   | true=>bld ev place (spl cells off (vCells (ev x))) r
   | false=>none
def structPlace (fs:List Field) (i:Nat):Option (Nat × Nat):=
 match fnth fs i with
 | some f=>match szOf P f.type with
  | some s=>some (f.offset,s)
  | none=>none
 | none=>none
def allSized:List Field→Bool
 | []=>true
 | f::r=>(szOf P f.type).isSome && allSized r
def known:AV→Bool
 | .junk=>false
 | _=>true
def zeroOf (t:TypeId):Option PV:=
 match P.info? t with
 | some i=>match i.zero with
  | some z=>absV z
  | none=>none
 | none=>none
def popBuild (t:TypeId) (parts:List (Nat × Operand)) (ev:Operand→AV):PRes:=
 match zeroOf P t,P.underlying t,parts.all (fun p=>known (ev p.2)) with
 | some z,some (.struct fs),true=>match allSized P fs.toList,bld ev (structPlace P fs.toList) (vCells (.p z)) parts with
  | true,some cs=>.val (mkAgg cs)
  | _,_=>.bad
 | some z,some (.array _ e),true=>match szOf P e with
  | some s=>match bld ev (fun i=>some (i * s,s)) (vCells (.p z)) parts with
   | some cs=>.val (mkAgg cs)
   | none=>.bad
  | none=>.bad
 | _,_,_=>.bad
def conc:TypeDesc→Bool
 | .interface _=>false
 | _=>true
def ifParts:AV→Option (Option (TypeId × AV))
 | .p .nilIface=>some none
 | .p (.iface t v)=>some (some (t, .p v))
 | .iface t v=>some (some (t,v))
 | _=>none
def popAssert (x:AV) (asserted:TypeId) (ok:Bool):PRes:=
 match P.underlying asserted with
 | none=>.bad
 | some d=>match conc d with
  | false=>.bad
  | true=>match ifParts x,ok with
   | some (some (t,v)),true=>match Nat.beq t asserted,zeroOf P asserted with
    | true,_=>.val (.tup [v,vB true])
    | false,some z=>.val (.tup [.p z,vB false])
    | _,_=>.bad
   | some (some (t,v)),false=>match Nat.beq t asserted with
    | true=>.val v
    | false=>.bad
   | some none,true=>match zeroOf P asserted with
    | some z=>.val (.tup [.p z,vB false])
    | none=>.bad
   | _,_=>.bad
def minI:Int→List AV→Option Int
 | a,[]=>some a
 | a, .p (.int _ b)::r=>minI (if b<a then b else a) r
 | _,_=>none
def maxI:Int→List AV→Option Int
 | a,[]=>some a
 | a, .p (.int _ b)::r=>maxI (if a<b then b else a) r
 | _,_=>none
def ub (b:UInt8):PV:=.int .u8 (b.toNat:Int)
def isBytes (d:TypeDesc):Bool:=
 match d with
 | .slice e=>match P.underlying e with
  | some (.int k)=>k == .u8
  | _=>false
 | _=>false
def popStrOf (x:AV) (lk:Nat→Option AObj):PRes:=
 match x with
 | .p .nils=>.val (vS [])
 | .p (.lst xs)=>.ex fun u=>∃ s:List UInt8,xs=s.map ub∧u=vS s
 | .sl n s off len=>match lk n,Nat.beq s 1 with
  | some o,true=>match o.c with
   | .pu xs=>.ex fun u=>off+len≤xs.length∧∃ s:List UInt8,(xs.drop off).take len=s.map ub∧u=vS s
   | _=>.bad
  | _,_=>.bad
 | _=>.bad
def runeL (n:Int):List UInt8:=(Utf8.encode n).data.toList
def popConv (src dst:TypeId) (x:AV) (lk:Nat→Option AObj):PRes:=
 match P.underlying src,P.underlying dst with
 | some _,some (.int k)=>match x with
  | .p (.int _ n)=>.wrap k n
  | _=>.bad
 | some sd,some .string=>match x with
  | .p (.str s)=>.val (vS s)
  | .p (.int _ n)=>.val (vS (runeL n))
  | x=>match isBytes P sd with
   | true=>popStrOf x lk
   | false=>.bad
 | some (.pointer t),some .unsafePointer=>match x with
  | .ptr n i f=>match Nat.beq i 0,lk n,szOf P t with
   | true,some o,some (_+1)=>match o.c with
    | .bx cs=>match Nat.blt f cs.length with
     | true=>.val (.ptr n i f)
     | false=>.bad
    | _=>.bad
   | _,_,_=>.bad
  | _=>.bad
 | some .unsafePointer,some (.pointer u)=>match x with
  | .ptr n i f=>match Nat.beq i 0 && Nat.beq f 0,lk n,szOf P u with
   | true,some o,some (_+1)=>match o.c,Nat.beq o.t u || liesAt P P.depth o.t 1 0 u 1 with
    | .bx _,true=>.val (.ptr n i f)
    | _,_=>.bad
   | _,_,_=>.bad
  | _=>.bad
 | _,_=>.bad
def popLen (t:TypeId) (x:AV) (lk:Nat→Option AObj):PRes:=
 match x with
 | .mp n=>match P.underlying t with
  | some (.map _ _)=>match lk n with
   | some o=>match o.c with
    | .ms es=>.val (vI .i64 es.length)
    | _=>.bad
   | none=>.bad
  | _=>.bad
 | x=>popLen0 P t x
def popCap (t:TypeId) (x:AV):PRes:=
 match P.underlying t with
 | some (.slice _)=>match x with
  | .p .nils=>.val (vI .i64 0)
  | _=>.bad
 | _=>.bad
def isC:Operand→Bool
 | .const _=>true
 | _=>false
def findM:List (List UInt8 × PV)→List UInt8→Option PV
 | [],_=>none
 | (k,x)::r,a=>match decide (a=k) with
  | true=>some x
  | false=>findM r a
open Classical in
noncomputable def findK:List (List PV × PV)→List PV→Option PV
 | [],_=>none
 | (k,x)::r,a=>if a=k then some x else findK r a
def popLookK (t:TypeId) (m k:AV) (ok:Bool) (lk:Nat→Option AObj):PRes:=
 match P.underlying t with
 | some (.map kt e)=>match P.underlying kt,k,zeroOf P e with
  | some (.struct _), .p (.agg cs),some z=>match m with
   | .mp n=>match lk n with
    | some o=>match o.c with
     | .mk zs es=>.ex fun v=>(fitT P 9 kt zs && sameKinds zs cs)=true∧((∃ x,findK es cs=some x∧v=match ok with
        | true=>.tup [.p x,vB true]
        | false=>.p x)∨(findK es cs=none∧v=match ok with
        | true=>.tup [.p z,vB false]
        | false=>.p z))
     | _=>.bad
    | none=>.bad
   | _=>.bad
  | _,_,_=>.bad
 | _=>.bad
def popLookS (t:TypeId) (m k:AV) (ok:Bool) (lk:Nat→Option AObj):PRes:=
 match P.underlying t with
 | some (.map kt e)=>match P.underlying kt,k,zeroOf P e with
  | some .string, .p (.str a),some z=>match m with
   | .mp n=>match lk n with
    | some o=>match o.c with
     | .ms es=>.ex fun v=>(∃ x,findM es a=some x∧v=match ok with
       | true=>.tup [.p x,vB true]
       | false=>.p x)∨(findM es a=none∧v=match ok with
       | true=>.tup [.p z,vB false]
       | false=>.p z)
     | _=>.bad
    | none=>.bad
   | .p .nilm=>.val (match ok with
    | true=>.tup [.p z,vB false]
    | false=>.p z)
   | _=>.bad
  | _,_,_=>.bad
 | _=>.bad
def popLook (t:TypeId) (m k:AV) (ok:Bool) (lk:Nat→Option AObj):PRes:=
 match k with
 | .p (.agg cs)=>popLookK P t m (.p (.agg cs)) ok lk
 | k=>popLookS P t m k ok lk
def pop (op:Op) (ev:Operand→AV) (lk:Nat→Option AObj):PRes:=
 match op with
 | .move x=>.val (ev x)
 | .assign x=>.val (ev x)
 | .pick c a b=>match ev c with
  | .p (.bool true)=>.val (ev a)
  | .p (.bool false)=>.val (ev b)
  | _=>.bad
 | .load t a=>popLoad P t (ev a) lk
 | .nilCheck x=>match kd (ev x) with
  | .ptr=>.val (ev x)
  | _=>match ev x with
   | .fn (.func f) a b=>.val (.fn (.func f) a b)
   | .p (.fn (.func f) a b)=>.val (.p (.fn (.func f) a b))
   | _=>.bad
 | .binOp op t x y _=>popBin P op t (ev x) (ev y) (isC x || isC y)
 | .unOp op _ x=>match op,ev x with
  | .not, .p (.bool b)=>.val (vB (!b))
  | .neg, .p (.int k n)=>.wrap k (0 - n)
  | _,_=>.bad
 | .convert s d x=>popConv P s d (ev x) lk
 | .makeInterface t x=>match P.underlying t with
  | some (.interface _)=>.bad
  | some _=>.val (mkIf t (ev x))
  | none=>.bad
 | .makeFunc fn first cap=>match fnOK fn with
  | true=>.val (mkFn fn (first.toList.map ev) (cap.toList.map ev))
  | false=>.bad
 | .fieldAddr s x f=>popFieldAddr P s (ev x) f
 | .field s x f=>popField P s (ev x) f
 | .indexAddr t x i=>popIndexAddr P t (ev x) (ev i)
 | .index t x i=>popIndex P t (ev x) (ev i)
 | .slice t x lo hi mx=>popSlice P t (ev x) (lo.map ev) (hi.map ev) (mx.map ev)
 | .extract x i=>match ev x with
  | .tup vs=>ofO (nth vs i)
  | _=>.bad
 | .build t parts=>popBuild P t parts.toList ev
 | .typeAssert x _ t ok=>popAssert P (ev x) t ok
 | .lookup t m k ok=>popLook P t (ev m) (ev k) ok lk
 | .call { callee:=.builtin b,args,argTypes }=>match b,args.toList,argTypes.toList with
  | .len,[x],[t]=>popLen P t (ev x) lk
  | .cap,[x],[t]=>popCap P t (ev x)
  | .min,x::r,_=>match ev x with
   | .p (.int k a)=>match minI a (r.map ev) with
    | some m=>.val (vI k m)
    | none=>.bad
   | _=>.bad
  | .max,x::r,_=>match ev x with
   | .p (.int k a)=>match maxI a (r.map ev) with
    | some m=>.val (vI k m)
    | none=>.bad
   | _=>.bad
  | _,_,_=>.bad
 | _=>.bad
end
end Go.Proofs.YtkegmchjobphdaaGreatDoor.Y
namespace Go.Proofs.YtkegmchjobphdaaGreatDoor.Y
open Go
section
variable {P:Program} {Γ:Gm} {w:World}
theorem szOf_info {t:TypeId} {s:Nat} (h:szOf P t=some s):∃ i,P.info? t=some i∧i.size=s:=by
 unfold szOf at h
 cases hi:P.info? t with
 | none=>rw [hi] at h;cases h
 | some i=>rw [hi] at h;injection h with h;exact⟨i,rfl,h⟩
theorem run_szOf {t:TypeId} {s:Nat} (h:szOf P t=some s) (w:World):(sizeOf t).run P w=.ok s w:=by
 obtain⟨i,h1,h2⟩:=szOf_info h
 simp [sizeOf,typeInfo,program,Sem.run,h1,h2]
theorem zero_info {t:TypeId} {z:PV} (h:zeroOf P t=some z):∃ i z',P.info? t=some i∧i.zero=some z'∧absV z'=some z:=by
 unfold zeroOf at h
 cases hi:P.info? t with
 | none=>rw [hi] at h;cases h
 | some i=>
  rw [hi] at h
  simp only at h
  cases hz:i.zero with
  | none=>rw [hz] at h;cases h
  | some z'=>rw [hz] at h;exact⟨i,z',rfl,hz,h⟩
theorem run_zero {t:TypeId} {z:PV} (h:zeroOf P t=some z) (w:World) (Γ:Gm):∃ z',(zeroValue t).run P w=.ok z' w∧VR Γ (.p z) z':=by
 obtain⟨i,z',h1,h2,h3⟩:=zero_info h
 exact⟨z',by simp [zeroValue,typeInfo,program,Sem.run,h1,h2],by simp only [VR];exact VP_abs _ _ _ h3⟩
theorem run_isAgg {t:TypeId} {o:Option Nat} (h:aggSz P t=some o) (w:World):(isAgg t).run P w=.ok o.isSome w∧∀ s,o=some s→szOf P t=some s:=by
 unfold aggSz at h
 cases hu:P.underlying t with
 | none=>rw [hu] at h;cases h
 | some d=>
  rw [hu] at h
  have hr:(isAgg t).run P w=.ok (match d with | .struct _ | .array _ _=>true | _=>false) w:=by
   unfold isAgg
   simp only [Sem.run_bind,run_underlying hu,Result.andThen_ok]
   cases d <;> rfl
  rw [hr]
  cases d <;> simp only [Option.map_eq_some_iff] at h <;>
   first
    | (obtain⟨a,h1,rfl⟩:=h;exact⟨rfl,fun s e=>by injection e with e;rw [← e];exact h1⟩)
    | (injection h with h;subst h;exact⟨rfl,fun s e=>by cases e⟩)
theorem load_cells {t:TypeId} {b o:Nat} {cs:List AV} {us:List Value} (hv:VRL Γ cs us) (hc:∀ (j:Nat) (u:Value),us[j]?=some u→w.cell? ⟨b,o+j,none⟩=some u) {f:Nat} {v:AV} (hl:ldIn P t cs f=some v) :
  ∃ v',(Instr.loadAt t (.pointer (some ⟨b,o+f,none⟩))).run P w=.ok v' w∧VR Γ v v':=by
 unfold ldIn at hl
 split at hl
 ·rename_i s ht
  obtain⟨hagg,hsz⟩:=run_isAgg ht w
  split at hl
  ·rename_i r hg
   injection hl with hl
   subst hl
   obtain⟨hr1,hr2,hr3⟩:=getN_some hg
   have hvr:VRL Γ r ((us.drop f).take s):=by rw [hr1];exact VRL_take _ (VRL_drop _ hv)
   have hlen:=VRL_length hvr
   have hrun:=run_loadN (P:=P) (w:=w) b (o+f) ((us.drop f).take s) (fun j u hj=>by
    rw [List.getElem?_take] at hj
    split at hj
    ·rw [List.getElem?_drop] at hj
     rw [Nat.add_assoc]
     exact hc _ _ hj
    ·cases hj)
   rw [hlen,hr2] at hrun
   refine⟨.agg ⟨(us.drop f).take s⟩,?_,VR_mkAgg.2 (by simp only [VR];exact⟨_,rfl,hvr⟩)⟩
   simp [Instr.loadAt,Instr.sureAddr,loadVar,hagg,run_szOf (hsz s rfl),hrun]
  ·cases hl
 ·rename_i ht
  obtain⟨hagg,_⟩:=run_isAgg ht w
  rw [nth_eq] at hl
  obtain⟨u',h1,h2⟩:=VRL_get hv hl
  refine⟨u',?_,h2⟩
  simp [Instr.loadAt,Instr.sureAddr,loadVar,hagg,load,Sem.run,hc _ _ h1]
 ·cases hl
theorem getN0_map {α β:Type} (g:α→β):∀ (l:List α) (n:Nat),getN0 (l.map g) n=(getN0 l n).map (List.map g)
 | l,0=>by simp [getN0]
 | [],n+1=>by simp [getN0]
 | x::l,n+1=>by
  simp only [List.map_cons,getN0,getN0_map g l n]
  cases getN0 l n <;> simp
theorem getN_map {α β:Type} (g:α→β):∀ (l:List α) (k n:Nat),getN (l.map g) k n=(getN l k n).map (List.map g)
 | l,0,n=>getN0_map g l n
 | [],k+1,n=>by simp [getN]
 | x::l,k+1,n=>by simp only [List.map_cons,getN,getN_map g l k n]
theorem nth_map {α β:Type} (g:α→β) (l:List α) (n:Nat):nth (l.map g) n=(nth l n).map g:=by
 rw [nth_eq,nth_eq,List.getElem?_map]
theorem allP_map:∀ (l:List PV),allP (l.map .p)=some l
 | []=>rfl
 | x::l=>by simp [allP,allP_map l]
theorem ldIn_p {t:TypeId} {cs:List PV} {f:Nat}:ldIn P t (cs.map .p) f=(ldInP P t cs f).map .p:=by
 unfold ldIn ldInP
 split
 ·rw [getN_map]
  cases getN cs _ _ <;> simp [mkAgg,allP_map]
 ·rw [nth_map]
 ·rfl
theorem cells_at {us rest:List Value} {b:Nat} {t:TypeId} {z:Nat × Nat} (h:w.heap[b]?=some (.cells ⟨us++rest⟩ t z)) {j:Nat} {u:Value} (hj:us[j]?=some u):w.cell? ⟨b,j,none⟩=some u:=by
 have hl:j<us.length:=(List.getElem?_eq_some_iff.1 hj).1
 simp only [World.cell?,h,Option.isSome_none,Bool.false_eq_true,if_false,List.getElem?_toArray]
 rw [List.getElem?_append_left hl];exact hj
theorem flatten_get {α:Type} {s:Nat}:∀ {xss:List (List α)},(∀ cs∈xss,cs.length=s)→∀ {i:Nat} {cs:List α},xss[i]?=some cs→cs=(xss.flatten.drop (i * s)).take s∧i * s+s≤xss.flatten.length
 | [],_,i,cs,h=>by simp at h
 | c::xss,hs,0,cs,h=>by
  simp only [List.getElem?_cons_zero,Option.some.injEq] at h
  subst h
  have hl:=hs c (by simp)
  simp [← hl]
 | c::xss,hs,i+1,cs,h=>by
  simp only [List.getElem?_cons_succ] at h
  obtain⟨h1,h2⟩:=flatten_get (fun c hc=>hs c (by simp [hc])) h
  have hl:=hs c (by simp)
  have e:(i+1) * s=c.length+i * s:=by rw [hl,Nat.succ_mul];omega
  refine⟨?_,?_⟩
  ·rw [List.flatten_cons,e,List.drop_append,List.drop_eq_nil_of_le (by omega)]
   simpa using h1
  ·rw [List.flatten_cons,List.length_append,e]
   omega
variable {C:Cx} {H:Hp}
theorem load_sound (h:R C Γ H w) {t:TypeId} {x:AV} {x':Value} {v:AV} (hx:VR Γ x x') (hy:(popLoad C.P t x (lget H.l)).Yld v) :
  ∃ v',(Instr.loadAt t x').run C.P w=.ok v' w∧VR Γ v v':=by
 have cell:∀ {n:Nat} {o:AObj} {q:Pl},lget H.l n=some o→isCells o.c=true→Γ.nm n=some q→q.nl=false→CellsR C.P Γ w q o:=by
  intro n o q hn hc hq hnl
  obtain⟨q',hq',ho⟩:=h.objs n o hn
  rw [hq] at hq'
  injection hq' with e
  subst e
  rcases (ObjR_cells hc).1 ho with ⟨e,_⟩ | ⟨_,e⟩
  ·rw [hnl] at e;cases e
  ·exact e
 unfold popLoad at hy
 split at hy
 ·rename_i n i f
  simp only [VR] at hx
  obtain⟨q,hq,hnl,rfl⟩:=hx
  split at hy <;> try exact hy.elim
  rename_i o ho
  split at hy <;> try exact hy.elim
  ·rename_i cs hc
   obtain⟨us,rest,z,h1,h2,h3,h3',h4,h5,h6,h7,_⟩:=cell ho (by rw [hc];rfl) hq hnl
   rw [hc] at h5
   split at hy <;> try exact hy.elim
   rename_i u hi hl
   have hi:=Nat.eq_of_beq_eq_true hi
   subst hi
   simp only [PRes.Yld] at hy
   subst hy
   have:=load_cells (P:=C.P) (w:=w) (b:=q.blk) (o:=0) h5 (fun j u hj=>by rw [Nat.zero_add];exact cells_at h1 hj) hl
   simpa using this
  ·rename_i xs hc
   obtain⟨us,rest,z,h1,h2,h3,h3',h4,h5,h6,h7,_⟩:=cell ho (by rw [hc];rfl) hq hnl
   rw [hc] at h5 h7
   simp only [Sized] at h7
   split at hy <;> try exact hy.elim
   rename_i hf ht
   have hf:=Nat.eq_of_beq_eq_true hf
   subst hf
   obtain⟨x,hx,rfl⟩:=hy
   have hl:ldIn C.P t (flat (.pu xs)) i=some (.p x):=by
    simp only [ldIn,ht,flat]
    rw [nth_eq,List.getElem?_map,hx]
    rfl
   have:=load_cells (P:=C.P) (w:=w) (b:=q.blk) (o:=0) h5 (fun j u hj=>by rw [Nat.zero_add];exact cells_at h1 hj) hl
   simpa [h7] using this
  ·rename_i xss hc
   obtain⟨us,rest,z,h1,h2,h3,h3',h4,h5,h6,h7,_⟩:=cell ho (by rw [hc];rfl) hq hnl
   rw [hc] at h5 h7
   simp only [Sized] at h7
   obtain⟨cs,x,hx,hl,rfl⟩:=hy
   obtain⟨e1,e2⟩:=flatten_get h7 hx
   have hcs:VRL Γ (cs.map .p) ((us.drop (i * q.s)).take q.s):=by
    have:cs.map AV.p=((flat (.pus xss)).drop (i * q.s)).take q.s:=by
     conv=>lhs;rw [e1]
     simp only [flat]
     rw [← List.map_drop,← List.map_take]
    rw [this]
    exact VRL_take _ (VRL_drop _ h5)
   have hl':ldIn C.P t (cs.map .p) f=some (.p x):=by rw [ldIn_p,hl];rfl
   exact load_cells (P:=C.P) (w:=w) (b:=q.blk) (o:=i * q.s) hcs (fun j u hj=>by
    rw [List.getElem?_take] at hj
    split at hj
    ·rw [List.getElem?_drop] at hj
     exact cells_at h1 hj
    ·cases hj) hl'
  ·rename_i xs hc
   obtain⟨us,rest,z,h1,h2,h3,h3',h4,h5,h6,h7,_⟩:=cell ho (by rw [hc];rfl) hq hnl
   rw [hc] at h5 h7
   simp only [Sized] at h7
   split at hy <;> try exact hy.elim
   rename_i x hf ht hx
   have hf:=Nat.eq_of_beq_eq_true hf
   subst hf
   simp only [PRes.Yld] at hy
   subst hy
   have hl:ldIn C.P t (flat (.mx xs)) i=some v:=by simp only [ldIn,ht,flat];exact hx
   have:=load_cells (P:=C.P) (w:=w) (b:=q.blk) (o:=0) h5 (fun j u hj=>by rw [Nat.zero_add];exact cells_at h1 hj) hl
   simpa [h7] using this
  ·rename_i xss hc
   obtain⟨us,rest,z,h1,h2,h3,h3',h4,h5,h6,h7,_⟩:=cell ho (by rw [hc];rfl) hq hnl
   rw [hc] at h5 h7
   simp only [Sized] at h7
   obtain⟨cs,hx,hl⟩:=hy
   obtain⟨e1,e2⟩:=flatten_get h7 hx
   have hcs:VRL Γ cs ((us.drop (i * q.s)).take q.s):=by
    have:cs=((flat (.mxs xss)).drop (i * q.s)).take q.s:=by simp only [flat];exact e1
    rw [this]
    exact VRL_take _ (VRL_drop _ h5)
   exact load_cells (P:=C.P) (w:=w) (b:=q.blk) (o:=i * q.s) hcs (fun j u hj=>by
    rw [List.getElem?_take] at hj
    split at hj
    ·rw [List.getElem?_drop] at hj
     exact cells_at h1 hj
    ·cases hj) hl
 ·rename_i n i f
  simp only [VR] at hx
  obtain⟨q,hq,hnl,rfl⟩:=hx
  split at hy <;> try exact hy.elim
  rename_i o ho
  split at hy <;> try exact hy.elim
  rename_i cs hc
  obtain⟨us,rest,z,h1,h2,h3,h3',h4,h5,h6,h7,_⟩:=cell ho (by rw [hc];rfl) hq hnl
  rw [hc] at h5
  split at hy <;> try exact hy.elim
  rename_i hi
  have hi:=Nat.eq_of_beq_eq_true hi
  subst hi
  simp only [PRes.Yld] at hy
  have:=load_cells (P:=C.P) (w:=w) (b:=q.blk) (o:=0) h5 (fun j u hj=>by rw [Nat.zero_add];exact cells_at h1 hj) hy
  simpa using this
 ·rename_i cs
  simp only [VR,VP] at hx
  obtain⟨b,o,arr,us,rfl,hfz,hus,hseg⟩:=hx
  split at hy <;> try exact hy.elim
  rename_i x hl
  simp only [PRes.Yld] at hy
  subst hy
  obtain⟨t',z,hb⟩:=h.fzok b arr hfz
  have hl':ldIn C.P t (cs.map .p) 0=some (.p x):=by rw [ldIn_p,hl];rfl
  have:=load_cells (P:=C.P) (w:=w) (b:=b) (o:=o) (VRL_p.2 hus) (fun j u hj=>by
   have:=hseg.get hj
   simp only [World.cell?,hb,Option.isSome_none,Bool.false_eq_true,if_false,List.getElem?_toArray]
   exact this) hl'
  simpa using this
 ·exact hy.elim
theorem str_inj {a b:List UInt8}:((⟨⟨a⟩⟩:ByteArray).toList == (⟨⟨b⟩⟩:ByteArray).toList)=decide (a=b):=by
 rw [ByteArray.toList_mk,ByteArray.toList_mk,Bool.eq_iff_iff]
 simp
theorem int_sound {op:BinOp} {k:IntKind} {t:TypeId} {a b:Int} {v:AV} (hy:(popInt op k a b).Yld v) :
  ∃ v',(binOp op t (.int k a) (.int k b)).run P w=.ok v' w∧VR Γ v v':=by
 cases op <;> simp only [popInt,PRes.Yld] at hy <;> try exact hy.elim
 all_goals simp only [binOp,ne_eq,not_true_eq_false,if_false,Op.intArith,Op.intDiv,Op.intBits,Op.intCmp]
 all_goals
  first
   | (subst hy;exact⟨_,rfl,by simp only [VR,VP]⟩)
   | (obtain⟨hc,rfl⟩:=hy;rw [if_neg hc];exact⟨_,rfl,by simp only [VR,VP]⟩)
   | (rcases hy with ⟨hc,rfl⟩ | ⟨hc,rfl⟩ <;> exact⟨_,rfl,by simp [VR,VP,hc,bne]⟩)
theorem append_bytes (a b:List UInt8):(⟨⟨a⟩⟩:ByteArray)++⟨⟨b⟩⟩=⟨⟨a++b⟩⟩:=by
 apply ByteArray.ext
 rw [ByteArray.data_append]
 simp
theorem str_sound {op:BinOp} {t:TypeId} {a b:List UInt8} {v:AV} (hy:(popStr op a b).Yld v) :
  ∃ v',(binOp op t (.string ⟨⟨a⟩⟩) (.string ⟨⟨b⟩⟩)).run P w=.ok v' w∧VR Γ v v':=by
 have hsa:(⟨⟨a⟩⟩:ByteArray).size=a.length:=rfl
 have hsb:(⟨⟨b⟩⟩:ByteArray).size=b.length:=rfl
 cases op <;> simp only [popStr,PRes.Yld] at hy <;> try exact hy.elim
 all_goals simp only [binOp,Op.stringOp,str_inj]
 all_goals try simp only [ByteArray.toList_mk]
 all_goals
  first
   | (obtain⟨hc,rfl⟩:=hy;rw [if_neg (by rw [show IntKind.i64.max=9223372036854775807 from rfl,hsa,hsb];omega)];exact⟨_,rfl,by simp only [VR,VP,append_bytes]⟩)
   | (rcases hy with ⟨hc,rfl⟩ | ⟨hc,rfl⟩ <;> refine⟨_,rfl,?_⟩ <;> simp only [VR,VP,Value.bool.injEq] <;> (first | (simp_all;done) | (rcases hc with hc | hc <;> simp_all)))
theorem sameKind_real {fz:Fzn} {x y:PV} {x' y':Value} (hs:sameKind x y=true) (hx:VP fz x x') (hy:VP fz y y'):x'=real x∧y'=real y:=by
 unfold sameKind at hs
 split at hs <;> first | (exact absurd hs (by decide)) | (simp only [VP] at hx hy;exact⟨hx,hy⟩)
theorem sameKinds_real {fz:Fzn}:∀ {xs ys:List PV} {xs' ys':List Value},sameKinds xs ys=true→VPL fz xs xs'→VPL fz ys ys'→xs'=xs.map real∧ys'=ys.map real
 | [],[],_,_,_,hx,hy=>by simp only [VPL] at hx hy;exact⟨hx,hy⟩
 | x::xs,y::ys,_,_,hs,hx,hy=>by
  simp only [sameKinds,Bool.and_eq_true] at hs
  simp only [VPL] at hx hy
  obtain⟨u,us,rfl,h1,h2⟩:=hx
  obtain⟨v,vs,rfl,h3,h4⟩:=hy
  obtain⟨rfl,rfl⟩:=sameKind_real hs.1 h1 h3
  obtain⟨rfl,rfl⟩:=sameKinds_real hs.2 h2 h4
  exact⟨rfl,rfl⟩
 | [],_::_,_,_,hs,_,_=>by simp [sameKinds] at hs
 | _::_,[],_,_,hs,_,_=>by simp [sameKinds] at hs
theorem fits_int {t:TypeId} {k:IntKind} {a:Int} (h:fits P t (.int k a)=true):∃ k',P.underlying t=some (.int k'):=by
 simp only [fits] at h
 split at h
 ·exact⟨_,by assumption⟩
 ·cases h
theorem fits_string {t:TypeId} {a:List UInt8} (h:fits P t (.str a)=true):P.underlying t=some .string:=by
 simp only [fits] at h
 split at h
 ·assumption
 ·cases h
theorem fits_bool {t:TypeId} {a:Bool} (h:fits P t (.bool a)=true):P.underlying t=some .bool:=by
 simp only [fits] at h
 split at h
 ·assumption
 ·cases h
theorem fits_kind {t:TypeId} {x:PV} (h:fits P t x=true):(∃ k a,x=.int k a)∨(∃ a,x=.str a)∨(∃ a,x=.bool a):=by
 unfold fits at h
 split at h
 ·exact .inr (.inl ⟨_,rfl⟩)
 ·exact .inl ⟨_,_,rfl⟩
 ·exact .inr (.inr ⟨_,rfl⟩)
 ·cases h
theorem run_part_fit {t:TypeId} {x:PV} (hf:fits P t x=true) {cs:Array Value} {n:Nat} (hv:cs[n]?=some (real x)):(part t cs n).run P w=.ok (real x) w:=by
 have ha:(isAgg t).run P w=.ok false w:=by
  unfold isAgg
  rcases fits_kind hf with ⟨k,a,rfl⟩ | ⟨a,rfl⟩ | ⟨a,rfl⟩
  ·obtain⟨k',hu⟩:=fits_int hf
   simp only [Sem.run_bind,run_underlying hu,Result.andThen_ok];rfl
  ·simp only [Sem.run_bind,run_underlying (fits_string hf),Result.andThen_ok];rfl
  ·simp only [Sem.run_bind,run_underlying (fits_bool hf),Result.andThen_ok];rfl
 unfold part
 simp [ha,hv]
theorem run_eqFit {t:TypeId} {x y:PV} (hf:fits P t x=true) (hs:sameKind x y=true) (d:Nat):∃ b,(Op.equalIn (d+1) t (real x) (real y)).run P w=.ok b w∧(b=true ↔ x=y):=by
 rcases fits_kind hf with ⟨k,a,rfl⟩ | ⟨a,rfl⟩ | ⟨a,rfl⟩
 ·cases y <;> try (simp [sameKind] at hs;done)
  rename_i k' b
  simp only [sameKind,beq_iff_eq] at hs
  subst hs
  obtain⟨k',hu⟩:=fits_int hf
  exact⟨a == b,by simp [real,Op.equalIn,run_underlying hu],by simp⟩
 ·cases y <;> try (simp [sameKind] at hs;done)
  rename_i b
  have hu:=fits_string hf
  exact⟨(⟨⟨a⟩⟩:ByteArray).toList == (⟨⟨b⟩⟩:ByteArray).toList,by simp [real,Op.equalIn,run_underlying hu,beq_toListBytes],by simp []⟩
 ·cases y <;> try (simp [sameKind] at hs;done)
  rename_i b
  have hu:=fits_bool hf
  exact⟨a == b,by simp [real,Op.equalIn,run_underlying hu],by simp⟩
theorem run_eqFields:∀ (fs:List Field) (xs ys:List PV) (pre pre':List Value),pre'.length=pre.length→fitAll P fs xs pre.length=true→sameKinds xs ys=true→∀ (d:Nat),
  ∃ b,(Op.eqFields (d+1) ⟨pre++xs.map real⟩ ⟨pre'++ys.map real⟩ fs).run P w=.ok b w∧(b=true ↔ xs=ys)
 | [],[],[],_,_,_,_,_,d=>⟨true,by simp [Op.eqFields],by simp⟩
 | [],[],_::_,_,_,_,_,hs,d=>by simp [sameKinds] at hs
 | [],_::_,_,_,_,_,hf,_,d=>by simp [fitAll] at hf
 | _::_,[],_,_,_,_,hf,_,d=>by simp [fitAll] at hf
 | f::fs,x::xs,[],_,_,_,_,hs,d=>by simp [sameKinds] at hs
 | f::fs,x::xs,y::ys,pre,pre',hl,hf,hs,d=>by
  simp only [fitAll,Bool.and_eq_true,bne_iff_ne,ne_eq] at hf
  obtain⟨⟨⟨h1,h2⟩,h3⟩,h4⟩:=hf
  have h1:=Nat.eq_of_beq_eq_true h1
  simp only [sameKinds,Bool.and_eq_true] at hs
  obtain⟨b,hb,hbx⟩:=run_eqFit (w:=w) h3 hs.1 d
  have hpx:(part f.type ⟨pre++(x::xs).map real⟩ f.offset).run P w=.ok (real x) w:=run_part_fit h3 (by rw [h1];simp)
  have hfy:fits P f.type y=true:=by
   rcases fits_kind h3 with ⟨k,a,rfl⟩ | ⟨a,rfl⟩ | ⟨a,rfl⟩
   ·cases y <;> try (simp [sameKind] at hs;done)
    obtain⟨k',hu⟩:=fits_int h3
    simp [fits,hu]
   ·cases y <;> try (simp [sameKind] at hs;done)
    simp [fits,fits_string h3]
   ·cases y <;> try (simp [sameKind] at hs;done)
    simp [fits,fits_bool h3]
  have hpy:(part f.type ⟨pre'++(y::ys).map real⟩ f.offset).run P w=.ok (real y) w:=run_part_fit hfy (by rw [h1,← hl];simp)
  obtain⟨b',hb',hbx'⟩:=run_eqFields fs xs ys (pre++[real x]) (pre'++[real y]) (by simp [hl]) (by simpa using h4) hs.2 d
  simp only [List.append_assoc,List.singleton_append] at hb'
  simp only [List.map_cons] at hpx hpy ⊢
  cases b with
  | true=>
   refine⟨b',?_,?_⟩
   ·simp [Op.eqFields,h2,hpx,hpy,hb,hb']
   ·rw [hbx'];simp [hbx.1 rfl]
  | false=>
   refine⟨false,?_,?_⟩
   ·simp [Op.eqFields,h2,hpx,hpy,hb]
   ·simp
    intro e
    have:=hbx.2 e
    simp at this
def eqKind:Value→Bool
 | .bool _ | .pointer _ | .nilIface | .iface _ _ | .agg _=>true
 | _=>false
def plainPair:Value→Value→Bool
 | .nilIface, .nilIface=>false
 | .agg _, .agg _=>false
 | _,_=>true
theorem run_eqlVals (t:TypeId) {x y:Value} {b:Bool} (h:(Op.equalIn 10000 t x y).run P w=.ok b w) (hk:eqKind x=true) :
  (binOp .eql t x y).run P w=.ok (.bool b) w∧(binOp .neq t x y).run P w=.ok (.bool (!b)) w:=by
 constructor <;> cases x <;> first | (simp [eqKind] at hk;done) | simp [binOp,Op.equal,Op.maxDepth,h]
theorem guard_plain (op:BinOp) (t:TypeId) (X Y:Operand) {x y:Value} (h:plainPair x y=true):(eqGuard op t X Y x y).run P w=.ok () w:=by
 cases op <;> simp only [eqGuard,Bool.not_true,Bool.not_false,Bool.false_eq_true,if_false,if_true]
 all_goals first | rfl | (split <;> first | (simp [plainPair] at h;done) | rfl)
section
variable (d:Nat) {t e:TypeId} {ms:Array (String × TypeId)}
theorem eqi_bool (a b:Bool) (hu:P.underlying t=some .bool):(Op.equalIn (d+1) t (.bool a) (.bool b)).run P w=.ok (a == b) w:=by simp [Op.equalIn,run_underlying hu]
theorem eqi_nn (hu:P.underlying t=some (.pointer e)):(Op.equalIn (d+1) t (.pointer none) (.pointer none)).run P w=.ok true w:=by simp [Op.equalIn,run_underlying hu]
theorem eqi_sn (a:Addr) (hu:P.underlying t=some (.pointer e)):(Op.equalIn (d+1) t (.pointer (some a)) (.pointer none)).run P w=.ok false w:=by simp [Op.equalIn,run_underlying hu]
theorem eqi_ns (a:Addr) (hu:P.underlying t=some (.pointer e)):(Op.equalIn (d+1) t (.pointer none) (.pointer (some a))).run P w=.ok false w:=by simp [Op.equalIn,run_underlying hu]
theorem eqi_inn (hu:P.underlying t=some (.interface ms)):(Op.equalIn (d+1) t .nilIface .nilIface).run P w=.ok true w:=by simp [Op.equalIn,run_underlying hu]
theorem eqi_isn (u:TypeId) (x:Value) (hu:P.underlying t=some (.interface ms)):(Op.equalIn (d+1) t (.iface u x) .nilIface).run P w=.ok false w:=by simp [Op.equalIn,run_underlying hu]
theorem eqi_ins (u:TypeId) (x:Value) (hu:P.underlying t=some (.interface ms)):(Op.equalIn (d+1) t .nilIface (.iface u x)).run P w=.ok false w:=by simp [Op.equalIn,run_underlying hu]
end
theorem eqi_same {P:Program} {w:World} {t e:TypeId} (d:Nat) (a:Addr) {s:Nat} (hu:P.underlying t=some (.pointer e)) (hs:szOf P e=some s):(Op.equalIn (d+1) t (.pointer (some a)) (.pointer (some a))).run P w=.ok true w:=by
 obtain⟨i,hi,_⟩:=szOf_info hs
 simp [Op.equalIn,run_underlying hu,sizeOf,typeInfo,hi,run_sameAddr_same]
def KdR:Kd→Value→Prop
 | .nilp,v=>v=.pointer none
 | .ptr,v=>∃ a,v=.pointer (some a)
 | .nili,v=>v=.nilIface
 | .ifc,v=>∃ t u,v=.iface t u
 | .other,_=>True
theorem kd_sound {x:AV} {x':Value} (h:VR Γ x x'):KdR (kd x) x':=by
 cases x with
 | p v=>cases v <;> simp only [VR,VP] at h <;> simp only [kd,KdR] <;>
   first
    | exact h
    | (obtain⟨b,o,arr,us,rfl,_⟩:=h;exact⟨_,rfl⟩)
    | (obtain⟨u,rfl,_⟩:=h;exact⟨_,_,rfl⟩)
 | ptr n i f=>simp only [VR] at h;obtain⟨q,_,_,rfl⟩:=h;exact⟨_,rfl⟩
 | ptd n i f=>simp only [VR] at h;obtain⟨q,_,_,rfl⟩:=h;exact⟨_,rfl⟩
 | iface t v=>simp only [VR] at h;obtain⟨u,rfl,_⟩:=h;exact⟨_,_,rfl⟩
 | _=>simp only [kd,KdR]
theorem eq_sound {t:TypeId} {x y:AV} {x' y':Value} {v:AV} {neg:Bool} {X Y:Operand} (hx:VR Γ x x') (hy:VR Γ y y')
  (hv:(popEq P t x y neg (isC X || isC Y)).Yld v) :
  ∃ v',(do eqGuard (if neg then .neq else .eql) t X Y x' y';binOp (if neg then .neq else .eql) t x' y':Sem Value).run P w=.ok v' w∧VR Γ v v':=by
 have fin:∀ (b:Bool),(eqGuard (if neg then .neq else .eql) t X Y x' y').run P w=.ok () w→(Op.equalIn 10000 t x' y').run P w=.ok b w→eqKind x'=true →
   v=vB (if neg then !b else b)→∃ v',(do eqGuard (if neg then .neq else .eql) t X Y x' y';binOp (if neg then .neq else .eql) t x' y':Sem Value).run P w=.ok v' w∧VR Γ v v':=by
  intro b hg he hk hvb
  obtain⟨h1,h2⟩:=run_eqlVals t he hk
  rw [Sem.run_bind,hg]
  subst hvb
  refine⟨.bool (if neg then !b else b),?_,by simp only [VR,VP]⟩
  cases neg
  ·simpa using h1
  ·simpa using h2
 unfold popEq at hv
 split at hv
 ·rename_i a b
  simp only [VR,VP] at hx hy
  subst hx;subst hy
  split at hv
  ·rename_i hu
   refine fin (a == b) (guard_plain _ _ _ _ rfl) (eqi_bool 9999 a b hu) rfl ?_
   rcases hv with ⟨hc,rfl⟩ | ⟨hc,rfl⟩ <;> cases neg <;> simp [hc]
  ·exact hv.elim
 ·rename_i xs ys
  split at hv
  ·rename_i hc
   simp only [Bool.and_eq_true] at hc
   obtain⟨h1,h2⟩:=hc
   obtain⟨⟨h3,h4⟩,hv⟩:=hv
   simp only [VR,VP] at hx hy
   obtain⟨xs',rfl,hxs⟩:=hx
   obtain⟨ys',rfl,hys⟩:=hy
   obtain⟨e1,e2⟩:=sameKinds_real h2 hxs hys
   obtain⟨lx'⟩:=xs'
   obtain⟨ly'⟩:=ys'
   simp only at e1 e2 h1 h2
   subst e1;subst e2
   unfold flatOK at h1
   split at h1
   ·rename_i fs hu
    have hfo:P.fieldsOf t=fs:=by simp [Program.fieldsOf,hu]
    obtain⟨b,hb,hbx⟩:=run_eqFields (P:=P) (w:=w) fs.toList xs ys [] [] rfl (by simpa using h1) h2 9998
    refine fin b (run_eqGuard_agg w _ _ _ _ _ _ h4) ?_ rfl ?_
    ·rw [run_equalIn_struct w 9999 t _ _ (by rw [hfo];exact hu) h3,hfo]
     simpa using hb
    ·rcases hv with ⟨hc,rfl⟩ | ⟨hc,rfl⟩
     ·have:=hbx.2 hc
      subst this
      cases neg <;> rfl
     ·have:b=false:=by
       cases hbb:b with
       | false=>rfl
       | true=>exact absurd (hbx.1 hbb) hc
      subst this
      cases neg <;> rfl
   ·cases h1
  ·exact hv.elim
 ·have kx:=kd_sound hx
  have ky:=kd_sound hy
  unfold popEqN at hv
  split at hv <;> try exact hv.elim
  ·split at hv <;> try exact hv.elim
   rename_i e hsm hu
   split at hv <;> try exact hv.elim
   rename_i s hs
   have hsame:∃ a,x'=.pointer (some a)∧y'=.pointer (some a):=by
    unfold samePtr at hsm
    split at hsm <;> try (cases hsm;done)
    rename_i n i f n' i' f'
    simp only [Bool.and_eq_true] at hsm
    have h1:=Nat.eq_of_beq_eq_true hsm.1.1
    have h2:=Nat.eq_of_beq_eq_true hsm.1.2
    have h3:=Nat.eq_of_beq_eq_true hsm.2
    subst h1;subst h2;subst h3
    simp only [VR] at hx hy
    obtain⟨q,k1,_,rfl⟩:=hx
    obtain⟨q',k2,_,rfl⟩:=hy
    rw [k1] at k2
    injection k2 with k2
    subst k2
    exact⟨_,rfl,rfl⟩
   obtain⟨a,rfl,rfl⟩:=hsame
   refine fin true (guard_plain _ _ _ _ rfl) (eqi_same 9999 a hu hs) rfl ?_
   simp only [PRes.Yld] at hv;subst hv;cases neg <;> rfl
  ·rename_i e1 e2
   rw [e1] at kx;rw [e2] at ky
   simp only [KdR] at kx ky
   subst kx;subst ky
   split at hv
   ·rename_i hu
    refine fin true (guard_plain _ _ _ _ rfl) (eqi_nn 9999 hu) rfl ?_
    simp only [PRes.Yld] at hv;subst hv;cases neg <;> rfl
   ·exact hv.elim
  ·rename_i e1 e2
   rw [e1] at kx;rw [e2] at ky
   simp only [KdR] at kx ky
   obtain⟨a,rfl⟩:=kx;subst ky
   split at hv
   ·rename_i hu
    refine fin false (guard_plain _ _ _ _ rfl) (eqi_sn 9999 _ hu) rfl ?_
    simp only [PRes.Yld] at hv;subst hv;cases neg <;> rfl
   ·exact hv.elim
  ·rename_i e1 e2
   rw [e1] at kx;rw [e2] at ky
   simp only [KdR] at kx ky
   obtain⟨a,rfl⟩:=ky;subst kx
   split at hv
   ·rename_i hu
    refine fin false (guard_plain _ _ _ _ rfl) (eqi_ns 9999 _ hu) rfl ?_
    simp only [PRes.Yld] at hv;subst hv;cases neg <;> rfl
   ·exact hv.elim
  ·rename_i e1 e2
   rw [e1] at kx;rw [e2] at ky
   simp only [KdR] at kx ky
   subst kx;subst ky
   split at hv
   ·rename_i hc hu
    refine fin true ?_ (eqi_inn 9999 hu) rfl ?_
    ·have hc':(match X with | .const _=>true | _=>false)=true∨(match Y with | .const _=>true | _=>false)=true:=by
      simp only [Bool.or_eq_true] at hc
      rcases hc with hc | hc
      ·left;cases X <;> first | rfl | cases hc
      ·right;cases Y <;> first | rfl | cases hc
     have hor:∀ op:BinOp,(eqGuard op t X Y .nilIface .nilIface).run P w=.ok () w:=by
      intro op
      rcases hc' with hc' | hc'
      ·cases X <;> first | (simp at hc';done) | (cases op <;> simp [eqGuard])
      ·cases Y <;> first | (simp at hc';done) | (cases op <;> simp [eqGuard])
     exact hor _
    ·simp only [PRes.Yld] at hv;subst hv;cases neg <;> rfl
   ·exact hv.elim
  ·rename_i e1 e2
   rw [e1] at kx;rw [e2] at ky
   simp only [KdR] at kx ky
   obtain⟨_,_,rfl⟩:=kx;subst ky
   split at hv
   ·rename_i hu
    refine fin false (guard_plain _ _ _ _ rfl) (eqi_isn 9999 _ _ hu) rfl ?_
    simp only [PRes.Yld] at hv;subst hv;cases neg <;> rfl
   ·exact hv.elim
  ·rename_i e1 e2
   rw [e1] at kx;rw [e2] at ky
   simp only [KdR] at kx ky
   obtain⟨_,_,rfl⟩:=ky;subst kx
   split at hv
   ·rename_i hu
    refine fin false (guard_plain _ _ _ _ rfl) (eqi_ins 9999 _ _ hu) rfl ?_
    simp only [PRes.Yld] at hv;subst hv;cases neg <;> rfl
   ·exact hv.elim
theorem bin_sound {op:BinOp} {t:TypeId} {x y:AV} {x' y':Value} {v:AV} {X Y:Operand} (hx:VR Γ x x') (hy:VR Γ y y')
  (hv:(popBin P op t x y (isC X || isC Y)).Yld v) :
  ∃ v',(do eqGuard op t X Y x' y';binOp op t x' y':Sem Value).run P w=.ok v' w∧VR Γ v v':=by
 unfold popBin at hv
 split at hv
 ·rename_i k a k' b
  simp only [VR,VP] at hx hy
  subst hx;subst hy
  rw [Sem.run_bind,guard_plain _ _ _ _ rfl]
  simp only [Result.andThen_ok]
  split at hv
  ·obtain⟨hc,rfl⟩:=hv
   simp only [binOp,Op.shift]
   rw [if_neg (by omega)]
   exact⟨_,rfl,by simp only [VR,VP]⟩
  ·obtain⟨hc,rfl⟩:=hv
   simp only [binOp,Op.shift]
   rw [if_neg (by omega)]
   exact⟨_,rfl,by simp only [VR,VP]⟩
  ·split at hv
   ·rename_i hk
    have hk:k=k':=by simpa using hk
    subst hk
    exact int_sound hv
   ·exact hv.elim
 ·rename_i a b
  simp only [VR,VP] at hx hy
  subst hx;subst hy
  rw [Sem.run_bind,guard_plain _ _ _ _ rfl]
  exact str_sound hv
 ·split at hv
  ·exact eq_sound (neg:=false) hx hy hv
  ·exact eq_sound (neg:=true) hx hy hv
  ·exact hv.elim
end
end Go.Proofs.YtkegmchjobphdaaGreatDoor.Y
namespace Go.Proofs.YtkegmchjobphdaaGreatDoor.Y
open Go
section
variable {P:Program} {Γ:Gm} {w:World}
theorem part_cells {t:TypeId} {cs:List AV} {cs':Array Value} (hv:VRL Γ cs cs'.toList) {f:Nat} {v:AV} (hl:ldIn P t cs f=some v) :
  ∃ v',(part t cs' f).run P w=.ok v' w∧VR Γ v v':=by
 unfold ldIn at hl
 split at hl
 ·rename_i s ht
  obtain⟨ha,hsz⟩:=run_isAgg ht w
  split at hl
  ·rename_i r hg
   injection hl with hl
   subst hl
   obtain⟨h1,h2,h3⟩:=getN_some hg
   refine⟨.agg (cs'.extract f (f+s)),by simp [part,ha,run_szOf (hsz s rfl)],VR_mkAgg.2 ?_⟩
   simp only [VR]
   refine⟨_,rfl,?_⟩
   have e:(cs'.extract f (f+s)).toList=(cs'.toList.drop f).take s:=by
    simp [Array.toList_extract,List.extract_eq_take_drop]
   rw [e,h1]
   exact VRL_take _ (VRL_drop _ hv)
  ·cases hl
 ·rename_i ht
  obtain⟨ha,_⟩:=run_isAgg ht w
  rw [nth_eq] at hl
  obtain⟨v',h1,h2⟩:=VRL_get hv hl
  have h1':cs'[f]?=some v':=by rw [← Array.getElem?_toList];exact h1
  exact⟨v',by simp [part,ha,h1'],h2⟩
 ·cases hl
theorem field_sound {t:TypeId} {x:AV} {x':Value} {v:AV} {f:Nat} (hx:VR Γ x x') (hv:(popField P t x f).Yld v):∃ v',(Instr.field t x' f).run P w=.ok v' w∧VR Γ v v':=by
 unfold popField at hv
 split at hv <;> try exact hv.elim
 rename_i fs hu
 split at hv <;> try exact hv.elim
 rename_i fd hfd
 rw [fnth_eq] at hfd
 have hfd':fs[f]?=some fd:=by rw [← Array.getElem?_toList];exact hfd
 have go:∀ (cs:List AV) (cs':Array Value),VRL Γ cs cs'.toList→ldIn P fd.type cs fd.offset=some v→∃ v',(Instr.field t (.agg cs') f).run P w=.ok v' w∧VR Γ v v':=by
  intro cs cs' h1 h2
  obtain⟨v',h3,h4⟩:=part_cells (w:=w) h1 h2
  exact⟨v',by simp [Instr.field,run_underlying hu,hfd',asAgg,h3],h4⟩
 split at hv <;> try exact hv.elim
 ·rename_i cs
  simp only [VR,VP] at hx
  obtain⟨cs',rfl,hcs⟩:=hx
  unfold ofP at hv
  split at hv <;> try exact hv.elim
  rename_i u hu'
  simp only [PRes.Yld] at hv
  subst hv
  exact go _ cs' (VRL_p.2 hcs) (by rw [ldIn_p,hu'];rfl)
 ·rename_i cs
  simp only [VR] at hx
  obtain⟨cs',rfl,hcs⟩:=hx
  unfold ofO at hv
  split at hv <;> try exact hv.elim
  rename_i u hu'
  simp only [PRes.Yld] at hv
  subst hv
  exact go _ cs' hcs hu'
theorem run_fieldAt {s:TypeId} {f:Nat} {fs:Array Field} {fd:Field} {z b o:Nat} (hu:P.underlying s=some (.struct fs)) (hfd:fs[f]?=some fd) (hk:szOf P fd.type=some (z+1)) :
  (Instr.fieldAt s (.pointer (some ⟨b,o,none⟩)) f).run P w=.ok (.pointer (some ⟨b,o+fd.offset,none⟩)) w:=by
 have e:=add_spot ⟨b,o,none⟩ rfl fd.offset
 simp [Instr.fieldAt,run_underlying hu,hfd,Instr.sureAddr,fieldPlace,run_szOf hk,e]
theorem fp_sub {fz:Fzn} {cs r:List PV} {b o k n:Nat} {v:Value} (h:VP fz (.fp cs) v) (hv:v=.pointer (some ⟨b,o,none⟩)) (hg:getN cs k n=some r) (hn:0<n):VP fz (.fp r) (.pointer (some ⟨b,o+k,none⟩)):=by
 subst hv
 simp only [VP] at h ⊢
 obtain⟨b',o',arr,us,e,h1,h2,h3⟩:=h
 simp only [Value.pointer.injEq,Option.some.injEq,Addr.mk.injEq,and_true] at e
 obtain⟨rfl,rfl⟩:=e
 obtain⟨g1,g2,g3⟩:=getN_some hg
 refine⟨b,o+k,arr,_,rfl,h1,?_,h3.sub k n ?_⟩
 ·rw [g1];exact VPL_take _ (VPL_drop _ h2)
 ·rw [VPL_length h2];have:=g3 hn;omega
theorem fieldAddr_sound {s:TypeId} {x:AV} {x':Value} {v:AV} {f:Nat} (hx:VR Γ x x') (hv:(popFieldAddr P s x f).Yld v):∃ v',(Instr.fieldAt s x' f).run P w=.ok v' w∧VR Γ v v':=by
 unfold popFieldAddr at hv
 split at hv <;> try exact hv.elim
 rename_i fs hu
 split at hv <;> try exact hv.elim
 rename_i fd hfd
 rw [fnth_eq] at hfd
 have hfd':fs[f]?=some fd:=by rw [← Array.getElem?_toList];exact hfd
 split at hv <;> try exact hv.elim
 rename_i z hk
 split at hv <;> try exact hv.elim
 ·rename_i n i f
  simp only [VR] at hx
  obtain⟨q,hq,hnl,rfl⟩:=hx
  simp only [PRes.Yld] at hv
  subst hv
  exact⟨_,run_fieldAt hu hfd' hk,by simp only [VR];exact⟨q,hq,hnl,by rw [Nat.add_assoc]⟩⟩
 ·rename_i n i f
  simp only [VR] at hx
  obtain⟨q,hq,hnl,rfl⟩:=hx
  simp only [PRes.Yld] at hv
  subst hv
  exact⟨_,run_fieldAt hu hfd' hk,by simp only [VR];exact⟨q,hq,hnl,by rw [Nat.add_assoc]⟩⟩
 ·rename_i cs
  split at hv <;> try exact hv.elim
  rename_i r hr
  simp only [PRes.Yld] at hv
  subst hv
  simp only [VR] at hx
  have hx':=hx
  simp only [VP] at hx
  obtain⟨b,o,arr,us,e,_⟩:=hx
  rw [e]
  exact⟨_,run_fieldAt hu hfd' hk,by simp only [VR];exact fp_sub hx' e hr (by omega)⟩
theorem run_indexSlice {t e:TypeId} {s b o n c:Nat} {k:IntKind} {i:Int} (hu:P.underlying t=some (.slice e)) (hs:szOf P e=some s) (h0:0≤i) (h1:i<n) :
  (Instr.indexAt t (.slice (some ⟨b,o,none⟩) n c) (.int k i)).run P w=.ok (.pointer (some ⟨b,o+i.toNat * s,none⟩)) w:=by
 have e':=add_spot ⟨b,o,none⟩ rfl (i.toNat * s)
 simp [Instr.indexAt,asIntOf,run_underlying hu,h0,h1,run_szOf hs,e']
theorem run_indexArray {t e:TypeId} {s b o n:Nat} {k:IntKind} {i:Int} (hu:P.underlying t=some (.array n e)) (hs:szOf P e=some s) (h0:0≤i) (h1:i<n) :
  (Instr.indexAt t (.pointer (some ⟨b,o,none⟩)) (.int k i)).run P w=.ok (.pointer (some ⟨b,o+i.toNat * s,none⟩)) w:=by
 have e':=add_spot ⟨b,o,none⟩ rfl (i.toNat * s)
 simp [Instr.indexAt,asIntOf,run_underlying hu,Instr.sureAddr,h0,h1,run_szOf hs,e']
theorem indexAddr_sound {t:TypeId} {x i:AV} {x' i':Value} {v:AV} (hx:VR Γ x x') (hi:VR Γ i i') (hv:(popIndexAddr P t x i).Yld v):∃ v',(Instr.indexAt t x' i').run P w=.ok v' w∧VR Γ v v':=by
 unfold popIndexAddr at hv
 split at hv <;> try exact hv.elim
 rename_i k i
 simp only [VR,VP] at hi
 subst hi
 split at hv <;> try exact hv.elim
 ·rename_i e hu
  split at hv <;> try exact hv.elim
  rename_i s hs
  split at hv <;> try exact hv.elim
  ·rename_i n s' off len
   split at hv <;> try exact hv.elim
   rename_i hb
   have hb:=Nat.eq_of_beq_eq_true hb
   subst hb
   obtain⟨⟨h0,h1⟩,rfl⟩:=hv
   simp only [VR] at hx
   obtain⟨q,hq,hqs,⟨_,_,rfl,_⟩ | ⟨hnl,htc,o,rfl,ho⟩⟩:=hx
   ·exact absurd h1 (by simp;omega)
   ·have ho:o=off * q.s:=by
     rcases ho with ho | ho
     ·exact ho
     ·exact absurd h1 (by omega)
    subst ho
    refine⟨_,run_indexSlice hu hs h0 h1,?_⟩
    simp only [VR]
    exact⟨q,hq,hnl,by rw [hqs,Nat.add_mul,Nat.add_zero]⟩
  ·rename_i xs
   split at hv <;> try exact hv.elim
   rename_i hb
   have hb:=Nat.eq_of_beq_eq_true hb
   subst hb
   obtain⟨h0,y,hy,rfl⟩:=hv
   have hlt:i.toNat<xs.length:=(List.getElem?_eq_some_iff.1 hy).1
   simp only [VR,VP] at hx
   rcases hx with ⟨rfl,_⟩ | ⟨b,o,c,arr,us,rfl,hc,h1,h2,h3⟩
   ·simp at hlt
   ·refine⟨_,run_indexSlice hu hs h0 (by omega),?_⟩
    obtain⟨u,hu1,hu2⟩:=VPL_get h2 hy
    have hul:i.toNat<us.length:=(List.getElem?_eq_some_iff.1 hu1).1
    simp only [VR,VP]
    refine⟨b,_,arr,[u],rfl,h1,by simp only [VPL];exact⟨_,_,rfl,hu2,rfl⟩,?_⟩
    have:=h3.sub i.toNat 1 (by omega)
    rw [Nat.mul_one]
    rw [List.drop_eq_getElem_cons hul] at this
    have e:us[i.toNat]=u:=by rw [List.getElem?_eq_getElem hul] at hu1;injection hu1
    simpa [e] using this
  ·rename_i s' xss
   split at hv <;> try exact hv.elim
   rename_i hb
   have hb:=Nat.eq_of_beq_eq_true hb
   subst hb
   obtain⟨h0,cs,hy,rfl⟩:=hv
   have hlt:i.toNat<xss.length:=(List.getElem?_eq_some_iff.1 hy).1
   simp only [VR,VP] at hx
   rcases hx with ⟨rfl,_⟩ | ⟨b,o,c,arr,us,rfl,hc,h1,h2,h3⟩
   ·simp at hlt
   ·refine⟨_,run_indexSlice hu hs h0 (by omega),?_⟩
    obtain⟨g1,g2⟩:=VPLL_flat.1 h2
    obtain⟨e1,e2⟩:=flatten_get g2 hy
    simp only [VR,VP]
    refine⟨b,_,arr,(us.drop (i.toNat * s)).take s,rfl,h1,?_,h3.sub _ _ ?_⟩
    ·conv=>arg 2;rw [e1]
     exact VPL_take _ (VPL_drop _ g1)
    ·rw [VPL_length g1];omega
 ·rename_i n e hu
  split at hv <;> try exact hv.elim
  rename_i s hs
  split at hv <;> try exact hv.elim
  ·rename_i m j f
   obtain⟨⟨h0,h1⟩,rfl⟩:=hv
   simp only [VR] at hx
   obtain⟨q,hq,hnl,rfl⟩:=hx
   exact⟨_,run_indexArray hu hs h0 h1,by simp only [VR];exact⟨q,hq,hnl,by rw [Nat.add_assoc]⟩⟩
  ·rename_i m j f
   obtain⟨⟨h0,h1⟩,rfl⟩:=hv
   simp only [VR] at hx
   obtain⟨q,hq,hnl,rfl⟩:=hx
   exact⟨_,run_indexArray hu hs h0 h1,by simp only [VR];exact⟨q,hq,hnl,by rw [Nat.add_assoc]⟩⟩
  ·rename_i cs
   obtain⟨⟨h0,h1⟩,r,hr,rfl⟩:=hv
   simp only [VR] at hx
   have hx':=hx
   simp only [VP] at hx
   obtain⟨b,o,arr,us,e,hx1,hx2,hx3⟩:=hx
   rw [e]
   refine⟨_,run_indexArray hu hs h0 h1,?_⟩
   simp only [VR]
   exact fp_sub hx' e hr (by omega)
theorem index_sound {t:TypeId} {x i:AV} {x' i':Value} {v:AV} (hx:VR Γ x x') (hi:VR Γ i i') (hv:(popIndex P t x i).Yld v):∃ v',(Instr.index t x' i').run P w=.ok v' w∧VR Γ v v':=by
 unfold popIndex at hv
 split at hv <;> try exact hv.elim
 rename_i k i
 simp only [VR,VP] at hi
 subst hi
 split at hv <;> try exact hv.elim
 ·rename_i hu
  split at hv <;> try exact hv.elim
  rename_i s
  simp only [VR,VP] at hx
  subst hx
  obtain⟨h0,b,hb,rfl⟩:=hv
  refine⟨.int .u8 (b.toNat:Int),?_,by simp only [VR,VP]⟩
  have hlt:i.toNat<s.length:=(List.getElem?_eq_some_iff.1 hb).1
  have hb':(⟨⟨s⟩⟩:ByteArray)[i.toNat]?=some b:=by
   rw [getElem?_pos (⟨⟨s⟩⟩:ByteArray) i.toNat hlt]
   rw [List.getElem?_eq_getElem hlt] at hb
   exact hb
  simp [Instr.index,asIntOf,run_underlying hu,h0,hb']
 ·rename_i n e hu
  split at hv <;> try exact hv.elim
  rename_i s hs
  have go:∀ (cs:List AV) (cs':Array Value),VRL Γ cs cs'.toList→(0≤i∧i<n)→ldIn P e cs (i.toNat * s)=some v→∃ v',(Instr.index t (.agg cs') (.int k i)).run P w=.ok v' w∧VR Γ v v':=by
   intro cs cs' h1 ⟨h0,hn⟩ h2
   obtain⟨v',h3,h4⟩:=part_cells (w:=w) h1 h2
   exact⟨v',by simp [Instr.index,asIntOf,run_underlying hu,h0,hn,run_szOf hs,h3],h4⟩
  split at hv <;> try exact hv.elim
  ·rename_i cs
   simp only [VR,VP] at hx
   obtain⟨cs',rfl,hcs⟩:=hx
   obtain⟨hb,u,hl,rfl⟩:=hv
   exact go _ cs' (VRL_p.2 hcs) hb (by rw [ldIn_p,hl];rfl)
  ·rename_i cs
   simp only [VR] at hx
   obtain⟨cs',rfl,hcs⟩:=hx
   exact go _ cs' hcs hv.1 hv.2
theorem bnd_some {lo:Option AV} {lo':Option Value} {l:Option Int} (h:bnd lo=some l) (hr:∀ v,lo=some v→∃ v',lo'=some v'∧VR Γ v v') (hn:lo=none→lo'=none) :
  (lo'=none∧l=none)∨∃ k x,lo'=some (.int k x)∧l=some x:=by
 cases lo with
 | none=>left;simp [bnd] at h;exact⟨hn rfl,h.symm⟩
 | some v=>
  obtain⟨v',h1,h2⟩:=hr v rfl
  cases v with
  | p x=>
   cases x <;> simp only [bnd,Option.some.injEq,reduceCtorEq] at h
   simp only [VR,VP] at h2
   subst h2;subst h
   exact .inr ⟨_,_,h1,rfl⟩
  | _=>simp [bnd] at h
theorem okSub_spec {n:Nat} {l h:Option Int} (hs:okSub n l h):loN l≤hiN n h∧hiN n h≤n∧(∀ x,l=some x→0≤x)∧(∀ x,h=some x→0≤x):=by
 cases l <;> cases h <;> simp only [okSub] at hs <;> simp only [loN,hiN] <;>
  refine⟨?_,?_,?_,?_⟩ <;> first | omega | (intro x hx;injection hx with hx;omega) | (intro x hx;cases hx)
theorem sub_eq {α:Type} (s:List α) (l h:Option Int):sub s l h=(s.drop (loN l)).take (hiN s.length h - loN l):=by
 cases l <;> cases h <;> simp [sub,loN,hiN]
 rw [List.take_of_length_le (by simp)]
theorem run_bounds (isSlice:Bool) {len cap:Nat} {lo hi:Option Value} {l h:Option Int} (hlo:(lo=none∧l=none)∨∃ k x,lo=some (.int k x)∧l=some x) (hhi:(hi=none∧h=none)∨∃ k x,hi=some (.int k x)∧h=some x)
  (hs:okSub len l h) (hc:len≤cap):(Instr.sliceBounds isSlice len cap lo hi none).run P w=.ok (loN l,hiN len h,cap) w:=by
 rcases hhi with ⟨rfl,rfl⟩ | ⟨k,x,rfl,rfl⟩ <;> rcases hlo with ⟨rfl,rfl⟩ | ⟨k',y,rfl,rfl⟩ <;> simp only [okSub] at hs
 ·simp [Instr.sliceBounds,loN,hiN]
 ·have h0:0≤y:=by omega
  have h1:y≤(len:Int):=by omega
  simp [Instr.sliceBounds,Instr.sliceBound,asIntOf,h0,h1,loN,hiN]
 ·have h0:0≤x:=by omega
  have h1:x≤(cap:Int):=by omega
  simp [Instr.sliceBounds,Instr.sliceBound,asIntOf,h0,h1,loN,hiN]
 ·have h0:0≤y:=by omega
  have h2:x≤(cap:Int):=by omega
  have h3:0≤x:=by omega
  have h4:y≤(x.toNat:Int):=by omega
  simp [Instr.sliceBounds,Instr.sliceBound,asIntOf,h0,h2,h3,loN,hiN]
  intro hc
  exact absurd hc (by omega)
theorem extract_bytes (s:List UInt8) (a b:Nat):(⟨⟨s⟩⟩:ByteArray).extract a b=⟨⟨(s.drop a).take (b - a)⟩⟩:=by
 apply ByteArray.ext
 rw [ByteArray.data_extract]
 simp [List.extract_eq_take_drop]
theorem run_sliceSlice {t e:TypeId} {s n c:Nat} {a:Option Addr} {lo hi:Option Value} {l h:Option Int} (hu:P.underlying t=some (.slice e)) (hs:szOf P e=some s)
  (hlo:(lo=none∧l=none)∨∃ k x,lo=some (.int k x)∧l=some x) (hhi:(hi=none∧h=none)∨∃ k x,hi=some (.int k x)∧h=some x) (ho:okSub n l h) (hc:n≤c) (ha:∀ x,a=some x→x.spot=none) :
  ∃ a',(Instr.sliceAt t (.slice a n c) lo hi none).run P w=.ok (.slice a' (hiN n h - loN l) (c - loN l)) w ∧
   ((a=none∧a'=none)∨∃ b o o',a=some ⟨b,o,none⟩∧a'=some ⟨b,o',none⟩∧(o'=o+loN l * s∨c=loN l)):=by
 have hb:=run_bounds (P:=P) (w:=w) true (len:=n) (cap:=c) hlo hhi ho hc
 cases a with
 | none=>
  exact⟨none,by simp [Instr.sliceAt,run_underlying hu,Instr.slice,hb,run_szOf hs], .inl ⟨rfl,rfl⟩⟩
 | some a=>
  obtain⟨b,o,sp⟩:=a
  have:=ha _ rfl
  simp only at this
  subst this
  by_cases hm:c=loN l
  ·refine⟨some ⟨b,o,none⟩,?_, .inr ⟨b,o,o,rfl,rfl, .inr hm⟩⟩
   simp [Instr.sliceAt,run_underlying hu,Instr.slice,hb,run_szOf hs]
   simp [hm]
  ·have e':=add_spot ⟨b,o,none⟩ rfl (loN l * s)
   refine⟨some ⟨b,o+loN l * s,none⟩,?_, .inr ⟨b,o,_,rfl,rfl, .inl rfl⟩⟩
   simp [Instr.sliceAt,run_underlying hu,Instr.slice,hb,run_szOf hs,hm,e']
theorem flatten_sub {α:Type} {s:Nat}:∀ {xss:List (List α)},(∀ cs∈xss,cs.length=s)→∀ (k n:Nat),k≤xss.length→((xss.drop k).take n).flatten=(xss.flatten.drop (k * s)).take (n * s)
 | [],_,k,n,h=>by simp at h;subst h;simp
 | c::xss,hs,0,n,_=>by
  have hl:=hs c (by simp)
  cases n with
  | zero=>simp
  | succ n=>
   have:=flatten_sub (fun c hc=>hs c (by simp [hc])) 0 n (Nat.zero_le _) (xss:=xss)
   simp only [List.drop_zero,Nat.zero_mul] at this
   simp only [List.drop_zero,List.take_succ_cons,List.flatten_cons,Nat.zero_mul,this]
   rw [List.take_append,show(n+1) * s - c.length=n * s by rw [hl,Nat.succ_mul];omega,List.take_of_length_le (l:=c) (by rw [hl,Nat.succ_mul];omega)]
 | c::xss,hs,k+1,n,h=>by
  have hl:=hs c (by simp)
  simp only [List.drop_succ_cons]
  rw [flatten_sub (fun c hc=>hs c (by simp [hc])) k n (by simpa using h),List.flatten_cons]
  have e:(k+1) * s=c.length+k * s:=by rw [hl,Nat.succ_mul];omega
  rw [e,List.drop_append,show List.drop (c.length+k * s) c=[] from List.drop_eq_nil_of_le (by omega),show c.length+k * s - c.length=k * s by omega]
  rfl
theorem run_slice0 {t e:TypeId} {s c:Nat} {a:Option Addr} {lo hi:Option Value} {l h:Option Int} (hu:P.underlying t=some (.slice e)) (hs:szOf P e=some s)
  (hlo:(lo=none∧l=none)∨∃ k x,lo=some (.int k x)∧l=some x) (hhi:(hi=none∧h=none)∨∃ k x,hi=some (.int k x)∧h=some x) (ho:okSub 0 l h) :
  (Instr.sliceAt t (.slice a 0 c) lo hi none).run P w=.ok (.slice a 0 c) w:=by
 have hb:=run_bounds (P:=P) (w:=w) true (len:=0) (cap:=c) hlo hhi ho (Nat.zero_le _)
 obtain⟨k1,k2,_⟩:=okSub_spec ho
 have e1:loN l=0:=by omega
 have e2:hiN 0 h=0:=by omega
 rw [e1,e2] at hb
 cases a with
 | none=>simp [Instr.sliceAt,run_underlying hu,Instr.slice,hb,run_szOf hs]
 | some a=>
  simp [Instr.sliceAt,run_underlying hu,Instr.slice,hb,run_szOf hs,Addr.add]
theorem slice_sound {t:TypeId} {x:AV} {x':Value} {v:AV} {lo hi mx:Option AV} {lo' hi' mx':Option Value} (hx:VR Γ x x')
  (hlo:∀ v,lo=some v→∃ v',lo'=some v'∧VR Γ v v') (hlo0:lo=none→lo'=none)
  (hhi:∀ v,hi=some v→∃ v',hi'=some v'∧VR Γ v v') (hhi0:hi=none→hi'=none) (hmx0:mx=none→mx'=none)
  (hv:(popSlice P t x lo hi mx).Yld v):∃ v',(Instr.sliceAt t x' lo' hi' mx').run P w=.ok v' w∧VR Γ v v':=by
 unfold popSlice at hv
 split at hv <;> try exact hv.elim
 have hm:mx'=none:=hmx0 rfl
 subst hm
 split at hv <;> try exact hv.elim
 rename_i l h hl hh
 have hL:=bnd_some hl hlo hlo0
 have hH:=bnd_some hh hhi hhi0
 split at hv <;> try exact hv.elim
 ·rename_i hu
  split at hv <;> try exact hv.elim
  rename_i s
  simp only [VR,VP] at hx
  subst hx
  obtain⟨ho,rfl⟩:=hv
  have hb:=run_bounds (P:=P) (w:=w) false (len:=s.length) (cap:=s.length) hL hH ho (Nat.le_refl _)
  refine⟨.string ⟨⟨sub s l h⟩⟩,?_,by simp only [VR,VP]⟩
  have hsz:(⟨⟨s⟩⟩:ByteArray).size=s.length:=rfl
  rw [sub_eq,← extract_bytes]
  simp [Instr.sliceAt,run_underlying hu,Instr.slice,hsz,hb]
 ·rename_i e hu
  split at hv <;> try exact hv.elim
  rename_i s hs
  split at hv <;> try exact hv.elim
  ·rename_i n s' off len
   split at hv <;> try exact hv.elim
   rename_i hb
   have hb:=Nat.eq_of_beq_eq_true hb
   subst hb
   obtain⟨ho,rfl⟩:=hv
   obtain⟨k1,k2,_⟩:=okSub_spec ho
   simp only [VR] at hx
   obtain⟨q,hq,hqs,⟨hnl,rfl,rfl,rfl⟩ | ⟨hnl,htc,o,rfl,ho'⟩⟩:=hx
   ·obtain⟨a',hr,⟨_,rfl⟩ | ⟨_,_,_,e,_⟩⟩:=run_sliceSlice (w:=w) (c:=0) (a:=none) hu hs hL hH ho (Nat.le_refl _) (fun x e=>by cases e)
    ·refine⟨_,hr,?_⟩
     have e1:hiN 0 h - loN l=0:=by omega
     have e2:loN l=0:=by omega
     simp only [VR]
     rw [e1,e2]
     exact⟨q,hq,hqs, .inl ⟨hnl,rfl,rfl,rfl⟩⟩
    ·cases e
   ·obtain⟨a',hr,⟨e,_⟩ | ⟨b,o1,o2,e,rfl,he⟩⟩:=run_sliceSlice (w:=w) (a:=some ⟨q.blk,o,none⟩) (c:=q.tc - off) hu hs hL hH ho (by omega) (fun x e=>by injection e with e;subst e;rfl)
    ·cases e
    ·injection e with e
     injection e with e1 e2
     subst e1;subst e2
     refine⟨_,hr,?_⟩
     simp only [VR]
     refine⟨q,hq,hqs, .inr ⟨hnl,by omega,o2,by rw [Nat.sub_sub],?_⟩⟩
     rcases he with he | he
     ·rcases ho' with ho' | ho'
      ·left;rw [he,ho',hqs,Nat.add_mul]
      ·right;omega
     ·right;omega
  ·rename_i xs
   split at hv <;> try exact hv.elim
   rename_i hb
   have hb:=Nat.eq_of_beq_eq_true hb
   subst hb
   obtain⟨ho,rfl⟩:=hv
   obtain⟨k1,k2,_⟩:=okSub_spec ho
   have hlen:(sub xs l h).length=hiN xs.length h - loN l:=by rw [sub_eq];simp;omega
   simp only [VR,VP] at hx
   rcases hx with ⟨rfl,a,c,rfl⟩ | ⟨b,o,c,arr,us,rfl,hc,h1,h2,h3⟩
   ·refine⟨_,run_slice0 hu hs hL hH ho,?_⟩
    simp only [VR,VP]
    exact .inl ⟨List.eq_nil_of_length_eq_zero (by rw [hlen];simp only [List.length_nil] at k2 ⊢;omega),a,c,rfl⟩
   ·obtain⟨a',hr,⟨e,_⟩ | ⟨b',o1,o2,e,rfl,he⟩⟩:=run_sliceSlice (w:=w) (a:=some ⟨b,o,none⟩) (c:=c) hu hs hL hH ho hc (fun x e=>by injection e with e;subst e;rfl)
    ·cases e
    ·injection e with e
     injection e with e1 e2
     subst e1;subst e2
     refine⟨_,hr,?_⟩
     simp only [VR,VP]
     rcases Nat.eq_zero_or_pos (hiN xs.length h - loN l) with hz | hz
     ·left
      exact⟨List.eq_nil_of_length_eq_zero (by rw [hlen,hz]),_,_,by rw [hz]⟩
     ·right
      have ho2:o2=o+loN l:=by
       rcases he with he | he
       ·simpa using he
       ·omega
      subst ho2
      refine⟨b,_,_,arr,(us.drop (loN l)).take (hiN xs.length h - loN l),by rw [hlen],by omega,h1,?_,h3.sub _ _ (by rw [VPL_length h2];omega)⟩
      rw [sub_eq]
      exact VPL_take _ (VPL_drop _ h2)
  ·rename_i s' xss
   split at hv <;> try exact hv.elim
   rename_i hb
   have hb:=Nat.eq_of_beq_eq_true hb
   subst hb
   obtain⟨ho,rfl⟩:=hv
   obtain⟨k1,k2,_⟩:=okSub_spec ho
   have hlen:(sub xss l h).length=hiN xss.length h - loN l:=by rw [sub_eq];simp;omega
   simp only [VR,VP] at hx
   rcases hx with ⟨rfl,a,c,rfl⟩ | ⟨b,o,c,arr,us,rfl,hc,h1,h2,h3⟩
   ·refine⟨_,run_slice0 hu hs hL hH ho,?_⟩
    simp only [VR,VP]
    exact .inl ⟨List.eq_nil_of_length_eq_zero (by rw [hlen];simp only [List.length_nil] at k2 ⊢;omega),a,c,rfl⟩
   ·obtain⟨a',hr,⟨e,_⟩ | ⟨b',o1,o2,e,rfl,he⟩⟩:=run_sliceSlice (w:=w) (a:=some ⟨b,o,none⟩) (c:=c) hu hs hL hH ho hc (fun x e=>by injection e with e;subst e;rfl)
    ·cases e
    ·injection e with e
     injection e with e1 e2
     subst e1;subst e2
     refine⟨_,hr,?_⟩
     simp only [VR,VP]
     rcases Nat.eq_zero_or_pos (hiN xss.length h - loN l) with hz | hz
     ·left
      exact⟨List.eq_nil_of_length_eq_zero (by rw [hlen,hz]),_,_,by rw [hz]⟩
     ·right
      have ho2:o2=o+loN l * s:=by
       rcases he with he | he
       ·exact he
       ·omega
      subst ho2
      obtain⟨g1,g2⟩:=VPLL_flat.1 h2
      have hmul:loN l * s≤xss.flatten.length:=by
       have hfl:xss.flatten.length=xss.length * s:=by
        clear hlen hz hr ho h2 g1 k1 k2 hc
        induction xss with
        | nil=>simp
        | cons c xss ih=>
         rw [List.flatten_cons,List.length_append,ih (fun c hc=>g2 c (by simp [hc])),g2 c (by simp),List.length_cons,Nat.succ_mul]
         omega
       rw [hfl]
       exact Nat.mul_le_mul_right _ (by omega)
      refine⟨b,_,_,arr,(us.drop (loN l * s)).take ((hiN xss.length h - loN l) * s),by rw [hlen],by omega,h1,VPLL_flat.2 ⟨?_,?_⟩,h3.sub _ _ (by rw [VPL_length g1];exact hmul)⟩
      ·rw [sub_eq,flatten_sub g2 _ _ (by omega)]
       exact VPL_take _ (VPL_drop _ g1)
      ·intro cs hcs
       rw [sub_eq] at hcs
       exact g2 cs (List.mem_of_mem_drop (List.mem_of_mem_take hcs))
  ·obtain⟨ho,rfl⟩:=hv
   obtain⟨k1,k2,_⟩:=okSub_spec ho
   simp only [VR,VP] at hx
   subst hx
   obtain⟨a',hr,⟨_,rfl⟩ | ⟨_,_,_,e,_⟩⟩:=run_sliceSlice (w:=w) (c:=0) (a:=none) hu hs hL hH ho (Nat.le_refl _) (fun x e=>by cases e)
   ·refine⟨_,hr,?_⟩
    have e1:hiN 0 h - loN l=0:=by omega
    simp only [VR,VP]
    rw [e1,Nat.zero_sub]
   ·cases e
end
end Go.Proofs.YtkegmchjobphdaaGreatDoor.Y
namespace Go.Proofs.YtkegmchjobphdaaGreatDoor.Y
open Go
set_option maxHeartbeats 4000000
section
variable (P:Program)
def valT (t:TypeId) (xs:List PV):Value:=match P.underlying t with
 | some (.struct _)=>.agg ⟨xs.map real⟩
 | _=>(xs.map real).headD undef
end
section
variable {P:Program} {w:World}
theorem sameKinds_len:∀ {xs ys:List PV},sameKinds xs ys=true→ys.length=xs.length
 | [],[],_=>rfl
 | [],_::_,h=>by simp [sameKinds] at h
 | _::_,[],h=>by simp [sameKinds] at h
 | x::xs,y::ys,h=>by
  simp only [sameKinds,Bool.and_eq_true] at h
  rw [List.length_cons,List.length_cons,sameKinds_len h.2]
theorem sameKinds_take:∀ (c:Nat) {xs ys:List PV},sameKinds xs ys=true→sameKinds (xs.take c) (ys.take c)=true∧sameKinds (xs.drop c) (ys.drop c)=true
 | 0,xs,ys,h=>by simpa [sameKinds] using h
 | c+1,[],[],_=>by simp [sameKinds]
 | c+1,[],_::_,h=>by simp [sameKinds] at h
 | c+1,_::_,[],h=>by simp [sameKinds] at h
 | c+1,x::xs,y::ys,h=>by
  simp only [sameKinds,Bool.and_eq_true] at h
  have ih:=sameKinds_take c h.2
  simp only [List.take_succ_cons,List.drop_succ_cons,sameKinds,Bool.and_eq_true]
  exact⟨⟨h.1,ih.1⟩,ih.2⟩
theorem fits_same {t:TypeId} {x y:PV} (h:fits P t x=true) (hs:sameKind x y=true):fits P t y=true:=by
 rcases fits_kind h with ⟨k,a,rfl⟩ | ⟨a,rfl⟩ | ⟨a,rfl⟩
 ·cases y <;> try (simp [sameKind] at hs;done)
  obtain⟨k',hu⟩:=fits_int h
  simp [fits,hu]
 ·cases y <;> try (simp [sameKind] at hs;done)
  simp [fits,fits_string h]
 ·cases y <;> try (simp [sameKind] at hs;done)
  simp [fits,fits_bool h]
theorem fits_struct {t:TypeId} {x:PV} (h:fits P t x=true):∀ fs,P.underlying t ≠ some (.struct fs):=by
 intro fs e
 rcases fits_kind h with ⟨k,a,rfl⟩ | ⟨a,rfl⟩ | ⟨a,rfl⟩
 ·obtain⟨k',hu⟩:=fits_int h
  rw [e] at hu;cases hu
 ·have:=fits_string h
  rw [e] at this;cases this
 ·have:=fits_bool h
  rw [e] at this;cases this
theorem fitFs_same {g:TypeId→List PV→Bool} (hg:∀ t xs ys,g t xs=true→sameKinds xs ys=true→g t ys=true):∀ (fs:List Field) (xs ys:List PV) (n:Nat),fitFs P g fs xs n=true→sameKinds xs ys=true→fitFs P g fs ys n=true
 | [],[],[],_,_,_=>rfl
 | [],[],_::_,_,_,hs=>by simp [sameKinds] at hs
 | [],_::_,_,_,h,_=>by simp [fitFs] at h
 | f::fs,xs,ys,n,h,hs=>by
  unfold fitFs at h ⊢
  simp only [Bool.and_eq_true] at h ⊢
  refine⟨h.1,?_⟩
  have h:=h.2
  split at h
  ·rename_i c hc
   simp only [Bool.and_eq_true] at h ⊢
   have h2:=sameKinds_take c hs
   exact⟨⟨by rw [sameKinds_len h2.1];exact h.1.1,hg _ _ _ h.1.2 h2.1⟩,fitFs_same hg fs _ _ _ h.2 h2.2⟩
  ·cases h
theorem fitT_same:∀ (d:Nat) (t:TypeId) (xs ys:List PV),fitT P d t xs=true→sameKinds xs ys=true→fitT P d t ys=true
 | 0,_,_,_,h,_=>by cases h
 | d+1,t,xs,ys,h,hs=>by
  unfold fitT at h ⊢
  split at h
  ·rename_i fs hu
   simp only [Bool.and_eq_true] at h ⊢
   exact⟨h.1,fitFs_same (fitT_same d) _ _ _ _ h.2 hs⟩
  ·split at h
   ·rename_i x
    cases ys with
    | nil=>simp [sameKinds] at hs
    | cons y ys=>
     cases ys with
     | cons z ys=>simp [sameKinds] at hs
     | nil=>
      simp only [sameKinds,Bool.and_true] at hs
      exact fits_same h hs
   ·cases h
theorem valT_fit {t:TypeId} {x:PV} (h:fits P t x=true):valT P t [x]=real x:=by
 unfold valT
 split
 ·rename_i fs hu
  exact absurd hu (fits_struct h fs)
 ·rfl
theorem run_part_agg {t:TypeId} {fs:Array Field} {c:Nat} (hu:P.underlying t=some (.struct fs)) (hc:szOf P t=some c) (cs:Array Value) (n:Nat):(part t cs n).run P w=.ok (.agg (cs.extract n (n+c))) w:=by
 have ha:(isAgg t).run P w=.ok true w:=by
  unfold isAgg
  simp only [Sem.run_bind,run_underlying hu,Result.andThen_ok];rfl
 have hz:=run_szOf hc w
 unfold part
 simp [ha,hz]
theorem extract_mid (a b c:List Value):(⟨a++(b++c)⟩:Array Value).extract a.length (a.length+b.length)=⟨b⟩:=by
 apply Array.ext'
 simp
theorem run_part_T {d:Nat} {t:TypeId} {xs:List PV} {c:Nat} (hf:fitT P d t xs=true) (hc:szOf P t=some c) (hl:xs.length=c) (pre rest:List Value) :
  (part t ⟨pre++(xs.map real++rest)⟩ pre.length).run P w=.ok (valT P t xs) w:=by
 cases d with
 | zero=>cases hf
 | succ d=>
  unfold fitT at hf
  split at hf
  ·rename_i fs hu
   rw [run_part_agg hu hc]
   unfold valT
   rw [hu]
   have:=extract_mid pre (xs.map real) rest
   rw [List.length_map,hl] at this
   rw [this]
  ·split at hf
   ·rename_i x
    rw [valT_fit hf]
    exact run_part_fit hf (by simp)
   ·cases hf
theorem run_eqFs {d m:Nat} (ih:∀ (t:TypeId) (xs ys:List PV),fitT P d t xs=true→sameKinds xs ys=true→∃ b,(Op.equalIn (d+m) t (valT P t xs) (valT P t ys)).run P w=.ok b w∧(b=true ↔ xs=ys)) :
  ∀ (fs:List Field) (xs ys:List PV) (pre pre':List Value),pre'.length=pre.length→fitFs P (fitT P d) fs xs pre.length=true→sameKinds xs ys=true →
  ∃ b,(Op.eqFields (d+m) ⟨pre++xs.map real⟩ ⟨pre'++ys.map real⟩ fs).run P w=.ok b w∧(b=true ↔ xs=ys)
 | [],[],[],_,_,_,_,_=>⟨true,by simp [Op.eqFields],by simp⟩
 | [],[],_::_,_,_,_,_,hs=>by simp [sameKinds] at hs
 | [],_::_,_,_,_,_,hf,_=>by simp [fitFs] at hf
 | f::fs,xs,ys,pre,pre',hl,hf,hs=>by
  unfold fitFs at hf
  simp only [Bool.and_eq_true,bne_iff_ne,ne_eq] at hf
  obtain⟨⟨h1,h2⟩,h3⟩:=hf
  have h1:=Nat.eq_of_beq_eq_true h1
  split at h3 <;> try cases h3
  rename_i c hc
  simp only [Bool.and_eq_true] at h3
  obtain⟨⟨h4,h5⟩,h6⟩:=h3
  have h4:=Nat.eq_of_beq_eq_true h4
  have hk:=sameKinds_take c hs
  have h4':(ys.take c).length=c:=by rw [sameKinds_len hk.1];exact h4
  have h5':=fitT_same d _ _ _ h5 hk.1
  obtain⟨b,hb,hbx⟩:=ih f.type _ _ h5 hk.1
  have ex:xs.map real=(xs.take c).map real++(xs.drop c).map real:=by rw [← List.map_append,List.take_append_drop]
  have ey:ys.map real=(ys.take c).map real++(ys.drop c).map real:=by rw [← List.map_append,List.take_append_drop]
  have hpx:(part f.type ⟨pre++xs.map real⟩ f.offset).run P w=.ok (valT P f.type (xs.take c)) w:=by
   rw [ex,h1];exact run_part_T h5 hc h4 pre _
  have hpy:(part f.type ⟨pre'++ys.map real⟩ f.offset).run P w=.ok (valT P f.type (ys.take c)) w:=by
   rw [ey,h1,← hl];exact run_part_T h5' hc h4' pre' _
  obtain⟨b',hb',hbx'⟩:=run_eqFs ih fs (xs.drop c) (ys.drop c) (pre++(xs.take c).map real) (pre'++(ys.take c).map real) (by simp only [List.length_append,List.length_map];omega) (by rw [List.length_append,List.length_map,h4];exact h6) hk.2
  simp only [List.append_assoc] at hb'
  rw [← ex,← ey] at hb'
  cases b with
  | true=>
   refine⟨b',?_,?_⟩
   ·simp [Op.eqFields,h2,hpx,hpy,hb,hb']
   ·rw [hbx']
    have e1:=hbx.1 rfl
    constructor
    ·intro e2
     rw [← List.take_append_drop c xs,← List.take_append_drop c ys,e1,e2]
    ·intro e;rw [e]
  | false=>
   refine⟨false,?_,?_⟩
   ·simp [Op.eqFields,h2,hpx,hpy,hb]
   ·constructor
    ·intro e;cases e
    ·intro e
     exact hbx.2 (by rw [e])
theorem run_eqT:∀ (d:Nat) (t:TypeId) (xs ys:List PV),fitT P d t xs=true→sameKinds xs ys=true→∀ m,∃ b,(Op.equalIn (d+m) t (valT P t xs) (valT P t ys)).run P w=.ok b w∧(b=true ↔ xs=ys)
 | 0,_,_,_,h,_,_=>by cases h
 | d+1,t,xs,ys,h,hs,m=>by
  have h0:=h
  have hy:=fitT_same (d+1) t xs ys h hs
  unfold fitT at h
  split at h
  ·rename_i fs hu
   simp only [Bool.and_eq_true] at h
   have hp:P.stoodInHeld t=false:=by simpa using h.1
   have hfo:P.fieldsOf t=fs:=by simp [Program.fieldsOf,hu]
   obtain⟨b,hb,hbx⟩:=run_eqFs (P:=P) (w:=w) (d:=d) (m:=m) (fun t xs ys h hs=>run_eqT d t xs ys h hs m) fs.toList xs ys [] [] rfl h.2 hs
   refine⟨b,?_,hbx⟩
   unfold valT
   rw [hu]
   simp only []
   rw [show d+1+m=(d+m)+1 by omega,run_equalIn_struct w (d+m) t _ _ (by rw [hfo];exact hu) hp,hfo]
   simpa using hb
  ·split at h
   ·rename_i x
    cases ys with
    | nil=>simp [sameKinds] at hs
    | cons y ys=>
     cases ys with
     | cons z ys=>simp [sameKinds] at hs
     | nil=>
      simp only [sameKinds,Bool.and_true] at hs
      rw [valT_fit h,valT_fit (fits_same h hs)]
      obtain⟨b,hb,hbx⟩:=run_eqFit (w:=w) h hs (d+m)
      refine⟨b,by rw [show d+1+m=(d+m)+1 by omega];exact hb,?_⟩
      rw [hbx]
      constructor
      ·intro e;rw [e]
      ·intro e;injection e
   ·cases h
theorem run_keyFs {b:Bool} {d m:Nat} (ih:∀ (t:TypeId) (xs:List PV),fitT P d t xs=true→(Instr.checkKey b (d+m) t (valT P t xs)).run P w=.ok () w) :
  ∀ (fs:List Field) (xs:List PV) (pre:List Value),fitFs P (fitT P d) fs xs pre.length=true →
  (forIn (m:=Sem) fs PUnit.unit fun f _=>do
   if f.name ≠ "_" then Instr.checkKey b (d + m) f.type (← part f.type ⟨pre ++ xs.map real⟩ f.offset)
   pure (ForInStep.yield PUnit.unit)).run P w=.ok PUnit.unit w
 | [],_,_,_=>by simp
 | f::fs,xs,pre,hf=>by
  unfold fitFs at hf
  simp only [Bool.and_eq_true,bne_iff_ne,ne_eq] at hf
  obtain⟨⟨h1,h2⟩,h3⟩:=hf
  have h1:=Nat.eq_of_beq_eq_true h1
  split at h3 <;> try cases h3
  rename_i c hc
  simp only [Bool.and_eq_true] at h3
  obtain⟨⟨h4,h5⟩,h6⟩:=h3
  have h4:=Nat.eq_of_beq_eq_true h4
  have hk:=ih f.type _ h5
  have ex:xs.map real=(xs.take c).map real++(xs.drop c).map real:=by rw [← List.map_append,List.take_append_drop]
  have hpx:(part f.type ⟨pre++xs.map real⟩ f.offset).run P w=.ok (valT P f.type (xs.take c)) w:=by
   rw [ex,h1];exact run_part_T h5 hc h4 pre _
  have ht:=run_keyFs ih fs (xs.drop c) (pre++(xs.take c).map real) (by rw [List.length_append,List.length_map,h4];exact h6)
  simp only [List.append_assoc] at ht
  rw [← ex] at ht
  simp only [List.forIn_cons]
  simp [h2,hpx,hk]
  simpa using ht
theorem run_keyT {b:Bool}:∀ (d:Nat) (t:TypeId) (xs:List PV),fitT P d t xs=true→∀ m,(Instr.checkKey b (d+m) t (valT P t xs)).run P w=.ok () w
 | 0,_,_,h,_=>by cases h
 | d+1,t,xs,h,m=>by
  rw [show d+1+m=(d+m)+1 by omega]
  unfold fitT at h
  split at h
  ·rename_i fs hu
   simp only [Bool.and_eq_true] at h
   have hF:=run_keyFs (P:=P) (w:=w) (b:=b) (d:=d) (m:=m) (fun t xs h=>run_keyT d t xs h m) fs.toList xs [] h.2
   unfold valT
   rw [hu]
   unfold Instr.checkKey
   simp only [Sem.run_bind,run_underlying hu,Result.andThen_ok]
   rw [← Array.forIn_toList]
   simp only [List.nil_append] at hF
   rw [hF]
   rfl
  ·split at h
   ·rename_i x
    rw [valT_fit h]
    rcases fits_kind h with ⟨k,a,rfl⟩ | ⟨a,rfl⟩ | ⟨a,rfl⟩
    ·obtain⟨k',hu⟩:=fits_int h
     unfold Instr.checkKey
     simp only [Sem.run_bind,run_underlying hu,Result.andThen_ok]
     rfl
    ·have hu:=fits_string h
     unfold Instr.checkKey
     simp only [Sem.run_bind,run_underlying hu,Result.andThen_ok]
     rfl
    ·have hu:=fits_bool h
     unfold Instr.checkKey
     simp only [Sem.run_bind,run_underlying hu,Result.andThen_ok]
     rfl
   ·cases h
end
end Go.Proofs.YtkegmchjobphdaaGreatDoor.Y
namespace Go.Proofs.YtkegmchjobphdaaGreatDoor.Y
open Go
section
variable {P:Program} {Γ:Gm} {w:World}
theorem len_sound {t ty:TypeId} {x:AV} {x':Value} {v:AV} (hx:VR Γ x x') (hv:(popLen0 P t x).Yld v):∃ v',(Builtin.len_ #[t] ty #[x']).run P w=.ok v' w∧VR Γ v v':=by
 have sl:∀ {e:TypeId} {a:Option Addr} {n c:Nat},P.underlying t=some (.slice e)→∃ v',(Builtin.len_ #[t] ty #[.slice a n c]).run P w=.ok v' w∧VR Γ (vI .i64 n) v':=by
  intro e a n c hu
  exact⟨.int .i64 n,by simp [Builtin.len_,run_underlying hu,goInt],by simp only [VR,VP]⟩
 unfold popLen0 at hv
 split at hv <;> try exact hv.elim
 ·rename_i hu
  split at hv <;> try exact hv.elim
  rename_i s
  simp only [VR,VP] at hx
  simp only [PRes.Yld] at hv
  subst hx;subst hv
  have hsz:(⟨⟨s⟩⟩:ByteArray).size=s.length:=rfl
  exact⟨.int .i64 s.length,by simp [Builtin.len_,run_underlying hu,goInt,hsz],by simp only [VR,VP]⟩
 ·rename_i e hu
  split at hv <;> try exact hv.elim
  ·simp only [PRes.Yld] at hv
   subst hv
   simp only [VR] at hx
   obtain⟨q,hq,_,⟨_,_,rfl,rfl⟩ | ⟨_,_,o,rfl,_⟩⟩:=hx
   ·exact sl hu
   ·exact sl hu
  ·simp only [PRes.Yld] at hv
   subst hv
   simp only [VR,VP] at hx
   rcases hx with ⟨rfl,a,c,rfl⟩ | ⟨b,o,c,arr,us,rfl,_⟩
   ·exact sl hu
   ·exact sl hu
  ·simp only [PRes.Yld] at hv
   subst hv
   simp only [VR,VP] at hx
   rcases hx with ⟨rfl,a,c,rfl⟩ | ⟨b,o,c,arr,us,rfl,_⟩
   ·exact sl hu
   ·exact sl hu
  ·simp only [PRes.Yld] at hv
   subst hv
   simp only [VR,VP] at hx
   subst hx
   exact sl hu
 ·rename_i n e hu
  simp only [PRes.Yld] at hv
  subst hv
  exact⟨.int .i64 n,by simp [Builtin.len_,run_underlying hu,goInt],by simp only [VR,VP]⟩
theorem foldl_bytes:∀ (l:List UInt8) (acc:ByteArray),(l.map fun b=>(b.toNat:Int)).foldl (fun r n=>r.push (UInt8.ofNat n.toNat)) acc=⟨acc.data++⟨l⟩⟩
 | [],acc=>by cases acc;simp
 | b::l,acc=>by
  have hb:UInt8.ofNat (Int.toNat (b.toNat:Int))=b:=by simp
  simp only [List.map_cons,List.foldl_cons]
  rw [hb,foldl_bytes l]
  cases acc
  simp [ByteArray.push]
theorem VPL_ub {fz:Fzn}:∀ {l:List UInt8} {us:List Value},VPL fz (l.map ub) us→us=l.map fun b=>.int .u8 (b.toNat:Int)
 | [],us,h=>by simpa only [List.map_nil,VPL] using h
 | b::l,us,h=>by
  simp only [List.map_cons,VPL,ub,VP] at h
  obtain⟨u,us',rfl,rfl,h⟩:=h
  rw [VPL_ub h];rfl
theorem run_bytes {b o n c:Nat} {l:List UInt8} (hl:l.length=n) (h:∀ (j:Nat) (u:Value),(l.map fun b=>(Value.int .u8 (b.toNat:Int)))[j]?=some u→w.cell? ⟨b,o+j,none⟩=some u) :
  (Conv.bytesToString (.slice (some ⟨b,o,none⟩) n c)).run P w=.ok (.string ⟨⟨l⟩⟩) w:=by
 have h1:=run_loadN (P:=P) b o (l.map fun b=>(Value.int .u8 (b.toNat:Int))) h
 rw [List.length_map,hl] at h1
 have:=run_bytesToString (P:=P) w ⟨b,o,none⟩ n c (l.map fun b=>(b.toNat:Int)) (by rw [h1];simp [Function.comp_def])
 rw [this,foldl_bytes]
 simp
theorem strOf_sound {C:Cx} {H:Hp} (h:R C Γ H w) {x:AV} {x':Value} {v:AV} (hx:VR Γ x x') (hv:(popStrOf x (lget H.l)).Yld v):∃ v',(Conv.bytesToString x').run C.P w=.ok v' w∧VR Γ v v':=by
 have emp:∀ {a:Option Addr} {c:Nat},(Conv.bytesToString (.slice a 0 c)).run C.P w=.ok (.string .empty) w:=by
  intro a c
  cases a with
  | none=>rfl
  | some a=>
   have:=run_bytesToString (P:=C.P) w a 0 c [] (by rfl)
   exact this
 unfold popStrOf at hv
 split at hv <;> try exact hv.elim
 ·simp only [VR,VP] at hx
  simp only [PRes.Yld] at hv
  subst hx;subst hv
  exact⟨_,emp,by simp only [VR,VP];rfl⟩
 ·rename_i xs
  obtain⟨s,rfl,rfl⟩:=hv
  simp only [VR,VP] at hx
  rcases hx with ⟨e,a,c,rfl⟩ | ⟨b,o,c,arr,us,rfl,hc,h1,h2,h3⟩
  ·have:s=[]:=by simpa using e
   subst this
   exact⟨_,emp,by simp only [VR,VP];rfl⟩
  ·have:=VPL_ub h2
   subst this
   obtain⟨t,z,hb⟩:=h.fzok b arr h1
   refine⟨_,run_bytes (l:=s) (by simp) fun j u hj=>?_,by simp only [VR,VP]⟩
   simp only [World.cell?,hb,Option.isSome_none,Bool.false_eq_true,if_false,List.getElem?_toArray]
   exact h3.get hj
 ·rename_i n s off len
  split at hv <;> try exact hv.elim
  rename_i o ho hs
  have hs:=Nat.eq_of_beq_eq_true hs
  subst hs
  split at hv <;> try exact hv.elim
  rename_i xs hoc
  obtain⟨hle,l,hl,rfl⟩:=hv
  have hll:l.length=len:=by
   have:=congrArg List.length hl
   simp at this
   omega
  simp only [VR] at hx
  obtain⟨q,hq,hqs,hsl⟩:=hx
  rcases hsl with ⟨hnl,rfl,rfl,rfl⟩ | ⟨hnl,htc,o',rfl,ho'⟩
  ·have:l=[]:=List.eq_nil_of_length_eq_zero hll
   subst this
   exact⟨_,emp,by simp only [VR,VP];rfl⟩
  ·rcases Nat.eq_zero_or_pos len with h0 | h0
   ·subst h0
    have:l=[]:=List.eq_nil_of_length_eq_zero hll
    subst this
    exact⟨_,emp,by simp only [VR,VP];rfl⟩
   ·obtain⟨q',hq',hob⟩:=h.objs n o ho
    rw [hq] at hq'
    injection hq' with e
    subst e
    rcases (ObjR_cells (by rw [hoc];rfl)).1 hob with ⟨e,_⟩ | ⟨_,us,rest,z,h1,h2,h3,h3',h4,h5,h6,h7,h8⟩
    ·rw [hnl] at e;cases e
    ·rw [hoc] at h5
     have h5:=VRL_p.1 h5
     have h5':=VPL_take len (VPL_drop off h5)
     rw [hl] at h5'
     have hus:=VPL_ub h5'
     have ho2:o'=off:=by
      rcases ho' with e | e
      ·rw [e,hqs];simp
      ·omega
     subst ho2
     refine⟨_,run_bytes hll fun j u hj=>?_,by simp only [VR,VP]⟩
     rw [← hus,List.getElem?_take] at hj
     split at hj
     ·rw [List.getElem?_drop] at hj
      exact cells_at h1 hj
     ·cases hj
theorem cellsOf0 {C:Cx} {H:Hp} (h:R C Γ H w) {n:Nat} {o:AObj} {q:Pl} (hn:lget H.l n=some o) (hc:isCells o.c=true) (hq:Γ.nm n=some q) (hnl:q.nl=false):CellsR C.P Γ w q o:=by
 obtain⟨q',e1,e2⟩:=h.objs n o hn
 rw [hq] at e1
 injection e1 with e1
 subst e1
 rcases (ObjR_cells hc).1 e2 with ⟨e,_⟩ | ⟨_,e⟩
 ·rw [hnl] at e;cases e
 ·exact e
theorem liesAt_self {P:Program} {u:TypeId} {z:Nat} (hc:P.cellsOf u=z+1):liesAt P P.depth u 1 0 u 1=true:=by
 have hd:P.depth=(2 * (P.types.size+Made.depth)+1)+1:=rfl
 rw [hd]
 simp only [liesAt,Bool.or_eq_true]
 left
 rw [hd]
 simp [rowAt,hc,sameLayout]
theorem conv_sound {C:Cx} {H:Hp} (h:R C Γ H w) {s d:TypeId} {x:AV} {x':Value} {v:AV} (hx:VR Γ x x') (hv:(popConv C.P s d x (lget H.l)).Yld v):∃ v',(convert s d x').run C.P w=.ok v' w∧VR Γ v v':=by
 unfold popConv at hv
 split at hv <;> try exact hv.elim
 ·rename_i a k hs hd
  split at hv <;> try exact hv.elim
  simp only [VR,VP] at hx
  simp only [PRes.Yld] at hv
  rename_i k' n
  subst hx;subst hv
  refine⟨.int k (k.wrap n),?_,by simp only [VR,VP]⟩
  cases a <;> simp [convert,run_underlying hs,run_underlying hd,Conv.intToInt]
 ·rename_i a hs hd
  split at hv <;> try exact hv.elim
  ·simp only [VR,VP] at hx
   simp only [PRes.Yld] at hv
   rename_i b
   subst hx;subst hv
   refine⟨.string ⟨⟨b⟩⟩,?_,by simp only [VR,VP]⟩
   cases a <;> simp [convert,run_underlying hs,run_underlying hd]
  ·simp only [VR,VP] at hx
   simp only [PRes.Yld] at hv
   rename_i b n
   subst hx;subst hv
   refine⟨.string (Utf8.encode n),?_,by simp only [VR,VP];rfl⟩
   cases a <;> simp [convert,run_underlying hs,run_underlying hd,Conv.intToString]
  ·split at hv <;> try exact hv.elim
   rename_i hb
   unfold isBytes at hb
   split at hb <;> try (cases hb;done)
   rename_i e
   split at hb <;> try (cases hb;done)
   rename_i k he
   have hk:k=.u8:=by simpa using hb
   subst hk
   obtain⟨v',h1,h2⟩:=strOf_sound h hx hv
   refine⟨v',?_,h2⟩
   have hsl:∃ a n c,x'=.slice a n c:=by
    unfold popStrOf at hv
    split at hv <;> try exact hv.elim
    ·simp only [VR,VP] at hx;exact⟨_,_,_,hx⟩
    ·simp only [VR,VP] at hx
     rcases hx with ⟨_,_,_,rfl⟩ | ⟨_,_,_,_,_,rfl,_⟩ <;> exact⟨_,_,_,rfl⟩
    ·simp only [VR,SlR] at hx
     obtain⟨_,_,_,⟨_,_,_,rfl⟩ | ⟨_,_,_,rfl,_⟩⟩:=hx <;> exact⟨_,_,_,rfl⟩
   obtain⟨a,n,c,rfl⟩:=hsl
   simp [convert,run_underlying hs,run_underlying hd,run_underlying he,h1]
 ·rename_i t hs hd
  split at hv <;> try exact hv.elim
  rename_i n i f
  split at hv <;> try exact hv.elim
  rename_i o z hi ho hz
  have hi:=Nat.eq_of_beq_eq_true hi
  subst hi
  split at hv <;> try exact hv.elim
  rename_i cs hoc
  split at hv <;> try exact hv.elim
  rename_i hf
  have hf:f<cs.length:=by simpa using hf
  simp only [PRes.Yld] at hv;subst hv
  have hx0:=hx
  simp only [VR] at hx
  obtain⟨q,hq,hnl,rfl⟩:=hx
  obtain⟨us,rest,zz,h1,h2,h3,h3',h4,h5,h6,h7,h8⟩:=cellsOf0 h ho (by rw [hoc];rfl) hq hnl
  rw [hoc] at h5
  have hlu:=VRL_length h5
  simp only [flat] at hlu
  obtain⟨j,hj,hjs⟩:=szOf_info hz
  exact⟨_,Lib.run_to_unsafe w _ hs hd hj (by rw [hjs];simp) (by simp only [World.shape?,h1];rfl) (by simp;omega),hx0⟩
 ·rename_i u hs hd
  split at hv <;> try exact hv.elim
  rename_i n i f
  split at hv <;> try exact hv.elim
  rename_i o z hi ho hz
  simp only [Bool.and_eq_true] at hi
  have hi1:=Nat.eq_of_beq_eq_true hi.1
  have hi2:=Nat.eq_of_beq_eq_true hi.2
  subst hi1;subst hi2
  split at hv <;> try exact hv.elim
  rename_i cs hoc htu
  simp only [PRes.Yld] at hv;subst hv
  have hx0:=hx
  simp only [VR] at hx
  obtain⟨q,hq,hnl,rfl⟩:=hx
  obtain⟨us,rest,zz,h1,h2,h3,h3',h4,h5,h6,h7,h8⟩:=cellsOf0 h ho (by rw [hoc];rfl) hq hnl
  rw [hoc] at h7
  obtain⟨_,htc⟩:=h7
  obtain⟨j,hj,hjs⟩:=szOf_info hz
  have hce:C.P.cellsOf u=z+1:=by simp [Program.cellsOf,hj,hjs]
  obtain⟨k,hk⟩:∃ k,q.s=k+1:=⟨q.s - 1,by omega⟩
  rw [hk] at h3
  obtain⟨j2,hj2,hjs2⟩:=szOf_info h3
  have hcE:C.P.cellsOf o.t=k+1:=by simp [Program.cellsOf,hj2,hjs2]
  have hl:liesAt C.P C.P.depth o.t 1 0 u 1=true:=by
   rcases Bool.or_eq_true_iff.1 htu with h9 | h9
   ·have h9:=Nat.eq_of_beq_eq_true h9
    rw [h9];exact liesAt_self hce
   ·exact h9
  refine⟨_,Lib.run_from_unsafe w _ hs hd hj (by simp only [World.shape?,h1];rfl) ?_,hx0⟩
  rw [hcE]
  have hn:(us++rest).toArray.size / (k+1)=1:=by
   rw [List.size_toArray,h4,htc,hk];simp
  rw [hn]
  simp only [Nat.zero_mul,Nat.add_zero]
  exact hl
theorem VR_bool {b:Bool} {v:Value} (h:VR Γ (vB b) v):v=.bool b:=by simpa only [VR,VP] using h
theorem VR_int {k:IntKind} {n:Int} {v:Value} (h:VR Γ (vI k n) v):v=.int k n:=by simpa only [VR,VP] using h
theorem VR_tup2 {a b:AV} {a' b':Value} (ha:VR Γ a a') (hb:VR Γ b b'):VR Γ (.tup [a,b]) (.tuple #[a',b']):=by
 simp only [VR]
 exact⟨_,rfl,by simp only [VRL];exact⟨_,_,rfl,ha,_,_,rfl,hb,rfl⟩⟩
theorem ifParts_sound {x:AV} {x':Value} (hx:VR Γ x x'):(ifParts x=some none→x'=.nilIface)∧(∀ t v,ifParts x=some (some (t,v))→∃ u,x'=.iface t u∧VR Γ v u):=by
 cases x with
 | p x=>
  cases x <;> simp only [ifParts,reduceCtorEq,false_implies,implies_true,and_true,Option.some.injEq,Prod.mk.injEq,true_and,and_self,forall_const]
  ·rintro t v ⟨rfl,rfl⟩
   simp only [VR,VP] at hx
   obtain⟨u,h1,h2⟩:=hx
   exact⟨u,h1,by simp only [VR];exact h2⟩
  ·simpa only [VR,VP] using hx
 | iface t v=>
  simp only [ifParts,reduceCtorEq,false_implies,Option.some.injEq,Prod.mk.injEq,true_and]
  rintro t v ⟨rfl,rfl⟩
  simpa only [VR] using hx
 | _=>simp [ifParts]
theorem assert_sound {x:AV} {x':Value} {v:AV} {xt t:TypeId} {ok:Bool} (hx:VR Γ x x') (hv:(popAssert P x t ok).Yld v):∃ v',(Instr.typeAssert x' xt t ok).run P w=.ok v' w∧VR Γ v v':=by
 obtain⟨hn,hi⟩:=ifParts_sound hx
 have hb (b:Bool):VR Γ (vB b) (.bool b):=by simp only [VR,VP]
 unfold popAssert at hv
 split at hv <;> try exact hv.elim
 rename_i d hu
 split at hv <;> try exact hv.elim
 rename_i hc
 split at hv <;> try exact hv.elim
 ·rename_i u y e
  obtain⟨y',rfl,hy⟩:=hi _ _ e
  split at hv <;> try exact hv.elim
  ·rename_i hbq
   simp only [PRes.Yld] at hv
   subst hv
   have hbq:=Nat.eq_of_beq_eq_true hbq
   subst hbq
   refine⟨.tuple #[y', .bool true],?_,VR_tup2 hy (hb _)⟩
   cases d <;> first | (simp [conc] at hc;done) | simp [Instr.typeAssert,run_underlying hu]
  ·rename_i z hbq hz
   simp only [PRes.Yld] at hv
   subst hv
   obtain⟨z',hzr,hzc⟩:=run_zero hz w Γ
   have hbq:u ≠ t:=by
    intro e;subst e
    simp at hbq
   refine⟨.tuple #[z', .bool false],?_,VR_tup2 hzc (hb _)⟩
   cases d <;> first | (simp [conc] at hc;done) | simp [Instr.typeAssert,run_underlying hu,hbq,hzr]
 ·rename_i u y e
  obtain⟨y',rfl,hy⟩:=hi _ _ e
  split at hv <;> try exact hv.elim
  rename_i hbq
  simp only [PRes.Yld] at hv
  subst hv
  have hbq:=Nat.eq_of_beq_eq_true hbq
  subst hbq
  refine⟨y',?_,hy⟩
  cases d <;> first | (simp [conc] at hc;done) | simp [Instr.typeAssert,run_underlying hu]
 ·rename_i e
  have:=hn e
  subst this
  split at hv <;> try exact hv.elim
  rename_i z hz
  simp only [PRes.Yld] at hv
  subst hv
  obtain⟨z',hzr,hzc⟩:=run_zero hz w Γ
  refine⟨.tuple #[z', .bool false],?_,VR_tup2 hzc (hb _)⟩
  cases d <;> first | (simp [conc] at hc;done) | simp [Instr.typeAssert,run_underlying hu,hzr]
theorem minI_sound {k:IntKind}:∀ {l:List AV} {l':List Value} {a m:Int},VRL Γ l l'→minI a l=some m→(l'.foldlM Builtin.min2 (.int k a)).run P w=.ok (.int k m) w
 | [],_,a,m,h,hm=>by
  simp only [VRL] at h
  subst h
  simp only [minI,Option.some.injEq] at hm
  subst hm
  rfl
 | v::vs,_,a,m,h,hm=>by
  simp only [VRL] at h
  obtain⟨u,us,rfl,h1,h2⟩:=h
  cases v with
  | p v=>
   cases v <;> simp only [minI,reduceCtorEq] at hm
   simp only [VR,VP] at h1
   subst h1
   rw [List.foldlM_cons,Sem.run_bind]
   simp only [Builtin.min2,Sem.run_pure,Result.andThen_ok]
   exact minI_sound h2 hm
  | _=>simp [minI] at hm
theorem maxI_sound {k:IntKind}:∀ {l:List AV} {l':List Value} {a m:Int},VRL Γ l l'→maxI a l=some m→(l'.foldlM Builtin.max2 (.int k a)).run P w=.ok (.int k m) w
 | [],_,a,m,h,hm=>by
  simp only [VRL] at h
  subst h
  simp only [maxI,Option.some.injEq] at hm
  subst hm
  rfl
 | v::vs,_,a,m,h,hm=>by
  simp only [VRL] at h
  obtain⟨u,us,rfl,h1,h2⟩:=h
  cases v with
  | p v=>
   cases v <;> simp only [maxI,reduceCtorEq] at hm
   simp only [VR,VP] at h1
   subst h1
   rw [List.foldlM_cons,Sem.run_bind]
   simp only [Builtin.max2,Sem.run_pure,Result.andThen_ok]
   exact maxI_sound h2 hm
  | _=>simp [maxI] at hm
def rCells:Value→List Value
 | .agg cs=>cs.toList
 | v=>[v]
theorem rCells_eq (v:Value):v.cells.toList=rCells v:=by cases v <;> rfl
theorem VP_notagg {fz:Fzn} {v:PV} {cs:Array Value} (h:VP fz v (.agg cs)):∃ l,v=.agg l:=by
 cases v <;> simp [VP] at h
 exact⟨_,rfl⟩
theorem VR_notagg {v:AV} {cs:Array Value} (h:VR Γ v (.agg cs)):known v=false∨(∃ l,v=.agg l)∨∃ l,v=.p (.agg l):=by
 cases v with
 | p v=>simp only [VR] at h;obtain⟨l,rfl⟩:=VP_notagg h;exact .inr (.inr ⟨l,rfl⟩)
 | agg l=>exact .inr (.inl ⟨l,rfl⟩)
 | junk=>exact .inl rfl
 | ptr=>simp [VR,PtrR] at h
 | ptd=>simp [VR,PtrR] at h
 | sl=>simp [VR,SlR] at h
 | mp=>simp [VR] at h
 | fn=>simp [VR] at h
 | iface=>simp [VR] at h
 | tup=>simp [VR] at h
 | anyp=>simp [VR] at h
theorem vCells_VR {v:AV} {v':Value} (h:VR Γ v v') (hk:known v=true):VRL Γ (vCells v) (rCells v'):=by
 by_cases ha:∃ cs,v'=.agg cs
 ·obtain⟨cs',rfl⟩:=ha
  rcases VR_notagg h with e | ⟨l,rfl⟩ | ⟨l,rfl⟩
  ·rw [hk] at e;cases e
  ·simp only [VR] at h
   obtain⟨cs'',e,h2⟩:=h
   injection e with e
   subst e
   exact h2
  ·simp only [VR,VP] at h
   obtain⟨cs'',e,h2⟩:=h
   injection e with e
   subst e
   simp only [vCells,rCells]
   exact VRL_p.2 h2
 ·have h2:rCells v'=[v']:=by
   cases v' <;> first | rfl | exact absurd ⟨_,rfl⟩ ha
  have h1:vCells v=[v]:=by
   cases v with
   | p v=>
    cases v <;> first | rfl | skip
    simp only [VR,VP] at h
    obtain⟨cs',e,_⟩:=h
    exact absurd ⟨_,e⟩ ha
   | agg l=>
    simp only [VR] at h
    obtain⟨cs',e,_⟩:=h
    exact absurd ⟨_,e⟩ ha
   | _=>rfl
  rw [h1,h2]
  simp only [VRL]
  exact⟨v',[],rfl,h,rfl⟩
theorem fill_spl (cells:Array Value) (off:Nat):∀ (vs:List Value) (k:Nat) (cs:Array Value),cs.toList=cells.toList →
  ((vs.zipIdx k).foldl (fun cs (c:Value × Nat)=>cs.setIfInBounds (off+c.2) c.1) cs).toList=spl cells.toList (off+k) vs:=by
 intro vs
 induction vs generalizing cells with
 | nil=>
  intro k cs h
  simp only [List.zipIdx_nil,List.foldl_nil,h]
  apply List.ext_getElem?
  intro i
  rw [spl_get]
  simp
  omega
 | cons v vs ih=>
  intro k cs h
  simp only [List.zipIdx_cons,List.foldl_cons]
  rw [ih (cs.setIfInBounds (off+k) v) (k+1) _ rfl]
  have:(cs.setIfInBounds (off+k) v).toList=cells.toList.set (off+k) v:=by simp [h]
  rw [this,show off+(k+1)=off+k+1 by omega,setList_spl]
theorem bld_sound {ev:Operand→AV} {ev':Operand→Value} (hev:∀ x,VR Γ (ev x) (ev' x)) {place:Nat→Option (Nat × Nat)}:∀ (parts:List (Nat × Operand)) {cs:List AV} {cs':Array Value} {r:List AV},
  (∀ p∈parts,known (ev p.2)=true)→VRL Γ cs cs'.toList→bld ev place cs parts=some r →
  ∃ r',Instr.fill place cs' (parts.map fun p=>(p.1,ev' p.2))=some r'∧VRL Γ r r'.toList
 | [],cs,cs',r,_,hc,hb=>by
  simp only [bld,Option.some.injEq] at hb
  subst hb
  exact⟨cs',rfl,hc⟩
 | (i,x)::rest,cs,cs',r,hk,hc,hb=>by
  simp only [bld] at hb
  split at hb
  ·cases hb
  ·rename_i off s hp
   split at hb
   ·rename_i hcond
    simp only [Bool.and_eq_true] at hcond
    have h1:=Nat.eq_of_beq_eq_true hcond.1
    have h2:=Nat.le_of_ble_eq_true hcond.2
    have hx:=vCells_VR (hev x) (hk (i,x) (by simp))
    have hlx:=VRL_length hx
    have hlc:=VRL_length hc
    have hlc':cs'.size=cs.length:=by simpa using hlc
    have hcx:(ev' x).cells.size=s:=by
     have:=rCells_eq (ev' x)
     rw [← Array.length_toList,this,hlx,h1]
    have hsp:VRL Γ (spl cs off (vCells (ev x))) (((ev' x).cells.zipIdx.foldl (fun cs (c:Value × Nat)=>cs.setIfInBounds (off+c.2) c.1) cs')).toList:=by
     have e:((ev' x).cells.zipIdx.foldl (fun cs (c:Value × Nat)=>cs.setIfInBounds (off+c.2) c.1) cs').toList=spl cs'.toList off (rCells (ev' x)):=by
      have:=fill_spl cs' off (rCells (ev' x)) 0 cs' rfl
      rw [← rCells_eq] at this ⊢
      rw [← Array.foldl_toList,Array.toList_zipIdx]
      simpa using this
     rw [e]
     exact VRL_spl _ hc hx
    obtain⟨r',h3,h4⟩:=bld_sound hev rest (fun p hp=>hk p (by simp [hp])) hsp hb
    refine⟨r',?_,h4⟩
    simp only [List.map_cons,Instr.fill,hp]
    rw [if_neg (by simp [hcx];omega)]
    exact h3
   ·cases hb
theorem run_places:∀ (fs:List Field),allSized P fs=true→(fs.mapM (fun (f:Field)=>(Prod.mk f.offset <$> sizeOf f.type:Sem (Nat × Nat)))).run P w=.ok (fs.map fun f=>(f.offset,(szOf P f.type).getD 0)) w
 | [],_=>rfl
 | f::fs,h=>by
  simp only [allSized,Bool.and_eq_true] at h
  obtain⟨s,hs⟩:=Option.isSome_iff_exists.1 h.1
  have ih:=run_places fs h.2
  rw [List.mapM_cons]
  simp [run_szOf hs,ih,hs]
theorem zero_cells {t:TypeId} {z:PV} (hz:zeroOf P t=some z) (w:World):∃ z',(zeroValue t).run P w=.ok z' w∧VRL Γ (vCells (.p z)) z'.cells.toList:=by
 obtain⟨z',hzr,hzc⟩:=run_zero hz w Γ
 exact⟨z',hzr,by rw [rCells_eq];exact vCells_VR hzc rfl⟩
theorem build_sound {t:TypeId} {parts:Array (Nat × Operand)} {ev:Operand→AV} {ev':Operand→Value} (hev:∀ x,VR Γ (ev x) (ev' x)) {v:AV} (hv:(popBuild P t parts.toList ev).Yld v) :
  ∃ v',(Instr.build t (parts.map fun p=>(p.1,ev' p.2))).run P w=.ok v' w∧VR Γ v v':=by
 unfold popBuild at hv
 split at hv <;> try exact hv.elim
 ·rename_i z fs hz hu hk
  obtain⟨z',hzr,hz0⟩:=zero_cells (Γ:=Γ) hz w
  split at hv <;> try exact hv.elim
  rename_i cs ha hb
  simp only [PRes.Yld] at hv
  subst hv
  have hk':∀ p∈parts.toList,known (ev p.2)=true:=List.all_eq_true.1 hk
  obtain⟨r',h1,h2⟩:=bld_sound (Γ:=Γ) hev parts.toList hk' hz0 hb
  refine⟨.agg r',?_,VR_mkAgg.2 (by simp only [VR];exact⟨r',rfl,h2⟩)⟩
  have hpl:(fs.mapM (fun (f:Field)=>(Prod.mk f.offset <$> sizeOf f.type:Sem (Nat × Nat)))).run P w=.ok (fs.map fun f=>(f.offset,(szOf P f.type).getD 0)) w:=by
   obtain⟨fl⟩:=fs
   have:=run_places (w:=w) fl ha
   rw [List.mapM_toArray]
   simp [this]
  have hfill:Instr.fill ((fs.map fun f=>(f.offset,(szOf P f.type).getD 0))[·]?) z'.cells (parts.map fun p=>(p.1,ev' p.2)).toList=some r':=by
   have:((fs.map fun f=>(f.offset,(szOf P f.type).getD 0))[·]?:Nat→Option (Nat × Nat))=structPlace P fs.toList:=by
    funext i
    unfold structPlace
    rw [fnth_eq,Array.getElem?_map,← Array.getElem?_toList (xs:=fs)]
    cases hi:fs.toList[i]? with
    | none=>rfl
    | some f=>
     simp only [Option.map_some]
     have hs:(szOf P f.type).isSome=true:=by
      have hm:f∈fs.toList:=List.mem_of_getElem? hi
      clear hb h1 hpl hi hu
      generalize fs.toList=fl at ha hm
      induction fl with
      | nil=>simp at hm
      | cons g gs ih=>
       simp only [allSized,Bool.and_eq_true] at ha
       rcases List.mem_cons.1 hm with rfl | hm
       ·exact ha.1
       ·exact ih ha.2 hm
     obtain⟨s,hs⟩:=Option.isSome_iff_exists.1 hs
     simp [hs]
   rw [this]
   simpa using h1
  simp only [Array.getElem?_map,Array.toList_map] at hfill
  simp [Instr.build,hzr,run_underlying hu,hpl,hfill]
 ·rename_i z n e hz hu hk
  obtain⟨z',hzr,hz0⟩:=zero_cells (Γ:=Γ) hz w
  split at hv <;> try exact hv.elim
  rename_i s hs
  split at hv <;> try exact hv.elim
  rename_i cs hb
  simp only [PRes.Yld] at hv
  subst hv
  have hk':∀ p∈parts.toList,known (ev p.2)=true:=List.all_eq_true.1 hk
  obtain⟨r',h1,h2⟩:=bld_sound (Γ:=Γ) hev parts.toList hk' hz0 hb
  refine⟨.agg r',?_,VR_mkAgg.2 (by simp only [VR];exact⟨r',rfl,h2⟩)⟩
  have hfill:Instr.fill (fun i=>some (i * s,s)) z'.cells (parts.map fun p=>(p.1,ev' p.2)).toList=some r':=by simpa using h1
  simp only [Array.toList_map] at hfill
  simp [Instr.build,hzr,run_underlying hu,run_szOf hs,hfill]
theorem kd_ptr {x:AV} {x':Value} (h:VR Γ x x') (hk:kd x=.ptr):∃ a,x'=.pointer (some a):=by
 have:=kd_sound h
 rw [hk] at this
 exact this
variable {C:Cx} {H:Hp}
theorem bytes_beq (a b:List UInt8):((⟨⟨a⟩⟩:ByteArray) == ⟨⟨b⟩⟩)=decide (a=b):=by
 rw [beq_toListBytes,str_inj]
theorem findNow_spec {fz:Fzn} {a:List UInt8}:∀ {es:List (List UInt8 × PV)} {us:List MapEntry} (i:Nat),EntR fz es us →
  (∀ x,findM es a=some x→∃ j v',Instr.findNow .string (.string ⟨⟨a⟩⟩) us i=some (some (i+j,v'))∧VP fz x v'∧∃ e,us[j]?=some e∧e.key=.string ⟨⟨a⟩⟩) ∧
  (findM es a=none→Instr.findNow .string (.string ⟨⟨a⟩⟩) us i=some none)
 | [],us,i,h=>by
  simp only [EntR] at h
  subst h
  exact⟨fun x hx=>by simp [findM] at hx,fun _=>rfl⟩
 | (k,y)::r,us,i,h=>by
  simp only [EntR] at h
  obtain⟨e,us',rfl,h2,h3,h4⟩:=h
  have ih:=findNow_spec (a:=a) (i+1) h4
  by_cases hk:a=k
  ·subst hk
   have e1:Instr.sameNow .string (.string ⟨⟨a⟩⟩) e.key=some true:=by rw [h2];simp [Instr.sameNow,bytes_beq]
   constructor
   ·intro x hx
    simp only [findM,decide_true] at hx
    injection hx with hx
    subst hx
    exact⟨0,e.val,by simp [Instr.findNow,e1],h3,e,rfl,h2⟩
   ·intro hx
    simp [findM] at hx
  ·have e1:Instr.sameNow .string (.string ⟨⟨a⟩⟩) e.key=some false:=by rw [h2];simp [Instr.sameNow,bytes_beq,hk]
   have e2:findM ((k,y)::r) a=findM r a:=by simp [findM,hk]
   rw [e2]
   constructor
   ·intro x hx
    obtain⟨j,v',h5,h6,h7⟩:=ih.1 x hx
    exact⟨j+1,v',by simp only [Instr.findNow,e1,h5];congr 3;omega,h6,h7⟩
   ·intro hx
    simp only [Instr.findNow,e1]
    exact ih.2 hx
def rowB:Obj→Bool
 | .cells ..=>true
 | _=>false
theorem run_getObj' {b:Nat} {x:Obj} (h:w.heap[b]?=some x) (hx:rowB x=false):(getObj b).run P w=.ok x w:=by
 cases x <;> first | (simp [rowB] at hx;done) | simp [getObj,h,Sem.run]
theorem run_checkKey {kt:TypeId} (hk:P.underlying kt=some .string) (b:Bool) (s:ByteArray):(Instr.checkKey b 10000 kt (.string s)).run P w=.ok () w:=by
 rw [show(10000:Nat)=9999+1 from rfl]
 unfold Instr.checkKey
 simp only [Sem.run_bind,run_underlying hk,Result.andThen_ok]
 rfl
theorem run_findKey {kt:TypeId} (hk:P.underlying kt=some .string) {a:List UInt8} {us:List MapEntry} {r:Option (Nat × Value)} (h:Instr.findNow .string (.string ⟨⟨a⟩⟩) us 0=some r) :
  (Instr.findKey kt (.string ⟨⟨a⟩⟩) us).run P w=.ok r w:=by
 simp [Instr.findKey,run_underlying hk,h]
theorem EntR_len {fz:Fzn}:∀ {es:List (List UInt8 × PV)} {us:List MapEntry},EntR fz es us→us.length=es.length
 | [],us,h=>by
  simp only [EntR] at h
  subst h;rfl
 | (k,y)::r,us,h=>by
  simp only [EntR] at h
  obtain⟨e,us',rfl,_,_,h4⟩:=h
  rw [List.length_cons,List.length_cons,EntR_len h4]
theorem len_sound2 (h:R C Γ H w) {t ty:TypeId} {x:AV} {x':Value} {v:AV} (hx:VR Γ x x') (hv:(popLen C.P t x (lget H.l)).Yld v):∃ v',(Builtin.len_ #[t] ty #[x']).run C.P w=.ok v' w∧VR Γ v v':=by
 unfold popLen at hv
 split at hv
 ·rename_i n
  split at hv <;> try exact hv.elim
  rename_i kt e hu
  split at hv <;> try exact hv.elim
  rename_i o ho
  split at hv <;> try exact hv.elim
  rename_i es hc
  simp only [VR] at hx
  obtain⟨q,hq,rfl⟩:=hx
  obtain⟨q',hq',hob⟩:=h.objs n o ho
  rw [hq] at hq'
  injection hq' with e'
  subst e'
  obtain⟨t0,fr0,c0⟩:=o
  simp only at hc
  subst hc
  simp only [ObjR] at hob
  obtain⟨_,_,us,kk,hob,hes⟩:=hob
  simp only [PRes.Yld] at hv
  subst hv
  have hl:=EntR_len hes
  refine⟨.int .i64 (es.length:Nat),?_,by simp only [VR,VP]⟩
  have hs:us.size=es.length:=by rw [← hl];simp
  simp [Builtin.len_,run_underlying hu,run_getObj' hob rfl,goInt,hs]
 ·exact len_sound hx hv
theorem look_soundS (h:R C Γ H w) {t:TypeId} {m k:AV} {m' k':Value} {ok:Bool} {v:AV} (hm:VR Γ m m') (hk:VR Γ k k') (hv:(popLookS C.P t m k ok (lget H.l)).Yld v) :
  ∃ v',(Instr.lookup t m' k' ok).run C.P w=.ok v' w∧VR Γ v v':=by
 unfold popLookS at hv
 split at hv <;> try exact hv.elim
 rename_i kt e hu
 split at hv <;> try exact hv.elim
 rename_i a z hkt hz
 have hk:k'=.string ⟨⟨a⟩⟩:=by simpa only [VR,VP] using hk
 subst hk
 obtain⟨z',hz1,hz2⟩:=run_zero hz w Γ
 split at hv
 ·rename_i n
  split at hv <;> try exact hv.elim
  rename_i o ho
  split at hv <;> try exact hv.elim
  rename_i es hc
  simp only [VR] at hm
  obtain⟨q,hq,rfl⟩:=hm
  obtain⟨q',hq',hob⟩:=h.objs n o ho
  rw [hq] at hq'
  injection hq' with e'
  subst e'
  obtain⟨t0,fr0,c0⟩:=o
  simp only at hc
  subst hc
  simp only [ObjR] at hob
  obtain⟨_,_,us,kk,hob,hes⟩:=hob
  have hS:=findNow_spec (a:=a) 0 hes
  simp only [PRes.Yld] at hv
  rcases hv with ⟨x,hx,rfl⟩ | ⟨hx,rfl⟩
  ·obtain⟨j,v',h1,h2,_⟩:=hS.1 x hx
   have h3:=run_findKey (w:=w) hkt h1
   refine⟨if ok then .tuple #[v', .bool true] else v',?_,?_⟩
   ·simp [Instr.lookup,run_underlying hu,run_getObj' hob rfl,run_checkKey hkt,h3]
   ·cases ok
    ·simpa only [VR,Bool.false_eq_true,if_false] using h2
    ·exact VR_tup2 (by simpa only [VR] using h2) (by simp only [VR,VP])
  ·have h3:=run_findKey (w:=w) hkt (hS.2 hx)
   refine⟨if ok then .tuple #[z', .bool false] else z',?_,?_⟩
   ·simp [Instr.lookup,run_underlying hu,run_getObj' hob rfl,run_checkKey hkt,h3,hz1]
   ·cases ok
    ·exact hz2
    ·exact VR_tup2 hz2 (by simp only [VR,VP])
 ·simp only [VR,VP] at hm
  subst hm
  have h3:=run_findKey (P:=C.P) (w:=w) hkt (a:=a) (us:=[]) (r:=none) rfl
  simp only [PRes.Yld] at hv
  subst hv
  refine⟨if ok then .tuple #[z', .bool false] else z',?_,?_⟩
  ·simp [Instr.lookup,run_underlying hu,run_checkKey hkt,h3,hz1]
  ·cases ok
   ·exact hz2
   ·exact VR_tup2 hz2 (by simp only [VR,VP])
 ·exact hv.elim
theorem sameKinds_symm:∀ {xs ys:List PV},sameKinds xs ys=true→sameKinds ys xs=true
 | [],[],_=>rfl
 | [],_::_,h=>by simp [sameKinds] at h
 | _::_,[],h=>by simp [sameKinds] at h
 | x::xs,y::ys,h=>by
  simp only [sameKinds,Bool.and_eq_true] at h ⊢
  refine⟨?_,sameKinds_symm h.2⟩
  have h1:=h.1
  cases x <;> cases y <;> simp_all [sameKind]
theorem sameKinds_trans:∀ {xs ys zs:List PV},sameKinds xs ys=true→sameKinds ys zs=true→sameKinds xs zs=true
 | [],[],_,_,h=>h
 | [],_::_,_,h,_=>by simp [sameKinds] at h
 | _::_,[],_,h,_=>by simp [sameKinds] at h
 | x::xs,y::ys,[],_,h=>by simp [sameKinds] at h
 | x::xs,y::ys,z::zs,h,k=>by
  simp only [sameKinds,Bool.and_eq_true] at h k ⊢
  refine⟨?_,sameKinds_trans h.2 k.2⟩
  have h1:=h.1
  have k1:=k.1
  cases x <;> cases y <;> cases z <;> simp_all [sameKind]
theorem keyV {kt:TypeId} {fs:Array Field} (hk:P.underlying kt=some (.struct fs)) (xs:List PV):valT P kt xs=.agg ⟨xs.map real⟩:=by
 unfold valT
 rw [hk]
theorem ask_spec {fz:Fzn} {zs a:List PV} {kt:TypeId} {fs:Array Field} (hk:P.underlying kt=some (.struct fs)) (hz:fitT P 9 kt zs=true) (ha:sameKinds zs a=true):∀ {es:List (List PV × PV)} {us:List MapEntry} (i:Nat),EntK fz zs es us →
  (∀ x,findK es a=some x→∃ j v',(Instr.findAsking kt (.agg ⟨a.map real⟩) us i).run P w=.ok (some (i+j,v')) w∧VP fz x v'∧∃ e,us[j]?=some e∧e.key=.agg ⟨a.map real⟩) ∧
  (findK es a=none→(Instr.findAsking kt (.agg ⟨a.map real⟩) us i).run P w=.ok none w)
 | [],us,i,h=>by
  simp only [EntK] at h
  subst h
  exact⟨fun x hx=>by simp [findK] at hx,fun _=>by simp [Instr.findAsking]⟩
 | (k,y)::r,us,i,h=>by
  simp only [EntK] at h
  obtain⟨e,us',rfl,⟨h1,h2⟩,h3,h4⟩:=h
  have ih:=ask_spec hk hz ha (i+1) h4
  obtain⟨b,hb,hbx⟩:=run_eqT (P:=P) (w:=w) 9 kt a k (fitT_same 9 kt zs a hz ha) (sameKinds_trans (sameKinds_symm ha) h1) 9991
  rw [keyV hk,keyV hk] at hb
  have hb:(Op.equal kt (.agg ⟨a.map real⟩) e.key).run P w=.ok b w:=by rw [h2];exact hb
  by_cases e1:a=k
  ·have hbt:b=true:=hbx.2 e1
   subst hbt
   have e2:findK ((k,y)::r) a=some y:=by rw [findK,if_pos e1]
   constructor
   ·intro x hx
    rw [e2] at hx
    injection hx with hx
    subst hx
    exact⟨0,e.val,by simp [Instr.findAsking,hb],h3,e,rfl,by rw [h2,e1]⟩
   ·intro hx
    rw [e2] at hx;cases hx
  ·have hbf:b=false:=by
    cases b with
    | false=>rfl
    | true=>exact absurd (hbx.1 rfl) e1
   subst hbf
   have e2:findK ((k,y)::r) a=findK r a:=by rw [findK,if_neg e1]
   rw [e2]
   constructor
   ·intro x hx
    obtain⟨j,v',h5,h6,h7⟩:=ih.1 x hx
    refine⟨j+1,v',?_,h6,h7⟩
    simp only [Instr.findAsking,Sem.run_bind,hb,Result.andThen_ok]
    rw [show i+(j+1)=i+1+j by omega]
    simpa using h5
   ·intro hx
    simp only [Instr.findAsking,Sem.run_bind,hb,Result.andThen_ok]
    simpa using ih.2 hx
theorem run_findKeyK {kt:TypeId} {fs:Array Field} (hk:P.underlying kt=some (.struct fs)) (cs:Array Value) (us:List MapEntry) :
  (Instr.findKey kt (.agg cs) us).run P w=(Instr.findAsking kt (.agg cs) us 0).run P w:=by
 unfold Instr.findKey
 simp only [Sem.run_bind,run_underlying hk,Result.andThen_ok]
 cases us with
 | nil=>simp [Instr.findNow,Instr.findAsking]
 | cons e us=>simp [Instr.findNow,Instr.sameNow]
theorem look_soundK (h:R C Γ H w) {t:TypeId} {m k:AV} {m' k':Value} {ok:Bool} {v:AV} (hm:VR Γ m m') (hk:VR Γ k k') (hv:(popLookK C.P t m k ok (lget H.l)).Yld v) :
  ∃ v',(Instr.lookup t m' k' ok).run C.P w=.ok v' w∧VR Γ v v':=by
 unfold popLookK at hv
 split at hv <;> try exact hv.elim
 rename_i kt e hu
 split at hv <;> try exact hv.elim
 rename_i fs cs z hkt hz
 obtain⟨z',hz1,hz2⟩:=run_zero hz w Γ
 split at hv <;> try exact hv.elim
 rename_i n
 split at hv <;> try exact hv.elim
 rename_i o ho
 split at hv <;> try exact hv.elim
 rename_i zs es hc
 simp only [PRes.Yld] at hv
 obtain⟨hfit,hv⟩:=hv
 simp only [Bool.and_eq_true] at hfit
 simp only [VR,VP] at hk
 obtain⟨cs',rfl,hcs⟩:=hk
 have hreal:=(sameKinds_real (sameKinds_trans (sameKinds_symm hfit.2) hfit.2) hcs hcs).1
 obtain⟨lcs⟩:=cs'
 simp only at hreal
 subst hreal
 simp only [VR] at hm
 obtain⟨q,hq,rfl⟩:=hm
 obtain⟨q',hq',hob⟩:=h.objs n o ho
 rw [hq] at hq'
 injection hq' with e'
 subst e'
 obtain⟨t0,fr0,c0⟩:=o
 simp only at hc
 subst hc
 simp only [ObjR] at hob
 obtain⟨_,_,us,kk,hob,hes⟩:=hob
 have hS:=ask_spec (P:=C.P) (w:=w) (a:=cs) hkt hfit.1 hfit.2 0 hes
 have hck:∀ b,(Instr.checkKey b 10000 kt (.agg ⟨cs.map real⟩)).run C.P w=.ok () w:=fun b=>by
  have:=run_keyT (P:=C.P) (w:=w) (b:=b) 9 kt cs (fitT_same 9 kt zs cs hfit.1 hfit.2) 9991
  rw [keyV hkt] at this
  exact this
 have hfk:=run_findKeyK (P:=C.P) (w:=w) hkt ⟨cs.map real⟩ us.toList
 rcases hv with ⟨x,hx,rfl⟩ | ⟨hx,rfl⟩
 ·obtain⟨j,v',h1,h2,_⟩:=hS.1 x hx
  rw [h1] at hfk
  refine⟨if ok then .tuple #[v', .bool true] else v',?_,?_⟩
  ·simp [Instr.lookup,run_underlying hu,run_getObj' hob rfl,hck,hfk]
  ·cases ok
   ·simpa only [VR,Bool.false_eq_true,if_false] using h2
   ·exact VR_tup2 (by simpa only [VR] using h2) (by simp only [VR,VP])
 ·rw [hS.2 hx] at hfk
  refine⟨if ok then .tuple #[z', .bool false] else z',?_,?_⟩
  ·simp [Instr.lookup,run_underlying hu,run_getObj' hob rfl,hck,hfk,hz1]
  ·cases ok
   ·exact hz2
   ·exact VR_tup2 hz2 (by simp only [VR,VP])
theorem look_sound (h:R C Γ H w) {t:TypeId} {m k:AV} {m' k':Value} {ok:Bool} {v:AV} (hm:VR Γ m m') (hk:VR Γ k k') (hv:(popLook C.P t m k ok (lget H.l)).Yld v) :
  ∃ v',(Instr.lookup t m' k' ok).run C.P w=.ok v' w∧VR Γ v v':=by
 unfold popLook at hv
 split at hv
 ·exact look_soundK h hm hk hv
 ·exact look_soundS h hm hk hv
theorem pop_sound (h:R C Γ H w) {ev:Operand→AV} {ev':Operand→Value} (hev:∀ x,VR Γ (ev x) (ev' x)) (o:Oper) {v:AV} (hv:(pop C.P o.op ev (lget H.l)).Yld v) :
  ∃ v',(execOp ev' o).run C.P w=.ok (.value v') w∧VR Γ v v':=by
 have lift:∀ {s:Sem Value},(∃ v',s.run C.P w=.ok v' w∧VR Γ v v')→∃ v',(do pure (.value (← s)):Sem Next).run C.P w=.ok (.value v') w∧VR Γ v v':=by
  rintro s ⟨v',h1,h2⟩
  exact⟨v',by simp [h1],h2⟩
 obtain⟨dst,op,type,pos,after,guard⟩:=o
 simp only at hv
 unfold pop at hv
 split at hv
 ·rename_i x
  simp only [PRes.Yld] at hv;subst hv
  exact⟨_,rfl,hev x⟩
 ·rename_i x
  simp only [PRes.Yld] at hv;subst hv
  exact⟨_,rfl,hev x⟩
 ·rename_i c a b
  have hc:=hev c
  split at hv
  ·rename_i e
   rw [e] at hc
   have hc:=VR_bool hc
   simp only [PRes.Yld] at hv;subst hv
   exact⟨ev' a,by simp [execOp,hc,asBool],hev a⟩
  ·rename_i e
   rw [e] at hc
   have hc:=VR_bool hc
   simp only [PRes.Yld] at hv;subst hv
   exact⟨ev' b,by simp [execOp,hc,asBool],hev b⟩
  ·exact hv.elim
 ·rename_i t a
  exact lift (load_sound h (hev a) hv)
 ·rename_i x
  have hx:=hev x
  split at hv
  ·rename_i e
   obtain⟨a,e'⟩:=kd_ptr hx e
   simp only [PRes.Yld] at hv;subst hv
   refine⟨ev' x,?_,hx⟩
   simp [execOp,e']
  ·split at hv
   ·rename_i f a b e
    rw [e] at hx
    simp only [PRes.Yld] at hv;subst hv
    refine⟨ev' x,?_,hx⟩
    simp only [VR,FR] at hx
    obtain⟨fn',fs',cs',e',rfl,_⟩:=hx
    simp [execOp,e']
   ·rename_i f a b e
    rw [e] at hx
    simp only [PRes.Yld] at hv;subst hv
    refine⟨ev' x,?_,hx⟩
    simp only [VR,VP] at hx
    obtain⟨_,fs',cs',e',_⟩:=hx
    simp [execOp,e']
   ·exact hv.elim
 ·rename_i op t x y ty
  exact lift (bin_sound (hev x) (hev y) hv)
 ·rename_i op t x
  have hx:=hev x
  split at hv
  ·rename_i b e
   rw [e] at hx
   have hx:=VR_bool hx
   simp only [PRes.Yld] at hv;subst hv
   exact⟨.bool (!b),by simp [execOp,hx,Op.unary],by simp only [VR,VP]⟩
  ·rename_i k n e
   rw [e] at hx
   have hx:=VR_int hx
   simp only [PRes.Yld] at hv;subst hv
   exact⟨.int k (k.wrap (0 - n)),by simp [execOp,hx,Op.unary,Op.intArith],by simp only [VR,VP]⟩
  ·exact hv.elim
 ·rename_i s d x
  exact lift (conv_sound h (hev x) hv)
 ·rename_i t x
  split at hv
  ·exact hv.elim
  ·rename_i d hnot hu
   simp only [PRes.Yld] at hv;subst hv
   refine lift ⟨.iface t (ev' x),?_,VR_mkIf.2 (by simp only [VR];exact⟨_,rfl,hev x⟩)⟩
   cases d <;> first | (exact absurd rfl (hnot _)) | simp [Instr.makeInterface,run_underlying hu]
  ·exact hv.elim
 ·rename_i fn first cap
  split at hv
  ·rename_i hny
   simp only [PRes.Yld] at hv;subst hv
   refine⟨.func fn (first.map ev') (cap.map ev'),rfl,VR_mkFn.2 ?_⟩
   simp only [VR]
   refine⟨fn,_,_,rfl,(FR_ok hny).2 rfl,?_,?_⟩
   ·simpa using VRL_map hev first.toList
   ·simpa using VRL_map hev cap.toList
  ·exact hv.elim
 ·exact lift (fieldAddr_sound (hev _) hv)
 ·exact lift (field_sound (hev _) hv)
 ·exact lift (indexAddr_sound (hev _) (hev _) hv)
 ·exact lift (index_sound (hev _) (hev _) hv)
 ·rename_i t x lo hi mx
  refine lift (slice_sound (hev x) ?_ ?_ ?_ ?_ ?_ hv)
  ·intro v e;cases lo with
   | none=>cases e
   | some z=>injection e with e;subst e;exact⟨_,rfl,hev z⟩
  ·intro e;cases lo with
   | none=>rfl
   | some z=>cases e
  ·intro v e;cases hi with
   | none=>cases e
   | some z=>injection e with e;subst e;exact⟨_,rfl,hev z⟩
  ·intro e;cases hi with
   | none=>rfl
   | some z=>cases e
  ·intro e;cases mx with
   | none=>rfl
   | some z=>cases e
 ·rename_i x i
  have hx:=hev x
  split at hv <;> try exact hv.elim
  rename_i vs e
  rw [e] at hx
  simp only [VR] at hx
  obtain⟨vs',e',hvs⟩:=hx
  unfold ofO at hv
  split at hv <;> try exact hv.elim
  rename_i u hu
  simp only [PRes.Yld] at hv;subst hv
  rw [nth_eq] at hu
  obtain⟨u',h1,h2⟩:=VRL_get hvs hu
  refine lift ⟨u',?_,h2⟩
  have h1':vs'[i]?=some u':=by rw [← Array.getElem?_toList];exact h1
  simp [e',Instr.extract,h1']
 ·rename_i t parts
  exact lift (build_sound hev hv)
 ·exact lift (assert_sound (hev _) hv)
 ·exact lift (look_sound h (hev _) (hev _) hv)
 ·rename_i b args argTypes
  obtain⟨args⟩:=args
  obtain⟨argTypes⟩:=argTypes
  simp only at hv
  split at hv
  ·rename_i x t
   obtain⟨v',h1,h2⟩:=len_sound2 (ty:=type) h (hev x) hv
   refine⟨v',?_,h2⟩
   simp [execOp,resolve,invoke,builtin,h1]
  ·rename_i x t
   have hx:=hev x
   unfold popCap at hv
   split at hv <;> try exact hv.elim
   rename_i e hu
   split at hv <;> try exact hv.elim
   rename_i ex
   rw [ex] at hx
   simp only [VR,VP] at hx
   simp only [PRes.Yld] at hv;subst hv
   refine⟨.int .i64 0,?_,by simp only [VR,VP]⟩
   simp [execOp,resolve,invoke,builtin,Builtin.cap_,run_underlying hu,hx,goInt]
  ·rename_i x r
   have hx:=hev x
   split at hv <;> try exact hv.elim
   rename_i k a e
   rw [e] at hx
   have hx:=VR_int hx
   split at hv <;> try exact hv.elim
   rename_i m hm
   simp only [PRes.Yld] at hv;subst hv
   have:=minI_sound (P:=C.P) (w:=w) (k:=k) (VRL_map hev r) hm
   refine⟨.int k m,?_,by simp only [VR,VP]⟩
   simp [execOp,resolve,invoke,builtin,Builtin.min_,hx,this]
  ·rename_i x r
   have hx:=hev x
   split at hv <;> try exact hv.elim
   rename_i k a e
   rw [e] at hx
   have hx:=VR_int hx
   split at hv <;> try exact hv.elim
   rename_i m hm
   simp only [PRes.Yld] at hv;subst hv
   have:=maxI_sound (P:=C.P) (w:=w) (k:=k) (VRL_map hev r) hm
   refine⟨.int k m,?_,by simp only [VR,VP]⟩
   simp [execOp,resolve,invoke,builtin,Builtin.max_,hx,this]
  ·exact hv.elim
 ·exact hv.elim
end
end Go.Proofs.YtkegmchjobphdaaGreatDoor.Y
namespace Go.Proofs.YtkegmchjobphdaaGreatDoor.Y
open Go
abbrev Sg:=Nat→AV
def upd (σ:Sg) (d:Nat) (v:AV):Sg:=fun t=>match Nat.beq t d with
 | true=>v
 | false=>σ t
theorem upd_same (σ:Sg) (d:Nat) (v:AV):upd σ d v d=v:=by simp [upd]
theorem upd_other (σ:Sg) {d t:Nat} (v:AV) (h:t ≠ d):upd σ d v t=σ t:=by simp only [upd,beq_ne h]
def sets (σ:Sg):List (Nat × AV)→Sg
 | []=>σ
 | (k,v)::r=>upd (sets σ r) k v
structure AP where
 v:AV
 rcv:Bool
inductive AE where
 | returned (v:AV)
 | panicked (ch:List AP)
inductive AX where
 | normal
 | exit (id:Nat)
 | goto (l:Nat)
 | ret
 | panic (ch:List AP)
inductive AD where
 | fn (g:FuncId) (cap args:List AV)
 | col (n:Nat)
def PE (Γ:Gm) (p:AP) (p':PanicEntry):Prop:=VR Γ p.v p'.v∧p'.recovered=p.rcv∧p'.goexit=false
def PEL (Γ:Gm):List AP→List PanicEntry→Prop
 | [],l'=>l'=[]
 | p::ps,l'=>∃ q qs,l'=q::qs∧PE Γ p q∧PEL Γ ps qs
def ER (Γ:Gm):AE→Ending→Prop
 | .returned v,e'=>∃ v',e'=.returned v'∧VR Γ v v'
 | .panicked c,e'=>∃ c',e'=.panicked c'∧PEL Γ c c'
theorem PEL_mono {a b:Gm} (h:a.le b):∀ {l:List AP} {l':List PanicEntry},PEL a l l'→PEL b l l'
 | [],_,hl=>hl
 | p::ps,_,hl=>by
  simp only [PEL] at hl ⊢
  obtain⟨q,qs,h1,⟨h2,h3⟩,h4⟩:=hl
  exact⟨q,qs,h1,⟨VR_mono h _ _ h2,h3⟩,PEL_mono h h4⟩
theorem ER_mono {a b:Gm} (h:a.le b) {e:AE} {e':Ending} (he:ER a e e'):ER b e e':=by
 cases e with
 | returned v=>obtain⟨v',h1,h2⟩:=he;exact⟨v',h1,VR_mono h _ _ h2⟩
 | panicked c=>obtain⟨c',h1,h2⟩:=he;exact⟨c',h1,PEL_mono h h2⟩
section
variable (C:Cx)
def Post (Γ:Gm) (H:Hp) (w:World) (Q:AE→Hp→Prop) (e':Ending) (w':World):Prop:=
 ∃ e H' Γ',Q e H'∧ER Γ' e e'∧Later C H.next Γ H w Γ' H' w'
def Holds (g:FuncId) (args:List AV) (H:Hp) (Q:AE→Hp→Prop):Prop:=
 ∀ (Γ:Gm) (w:World) (args':List Value),R C Γ H w→VRL Γ args args' →
  ((callFunc g ⟨args'⟩).run C.P w=.ok (.enter g ⟨args'⟩) w∧Calls C.P g ⟨args'⟩ w (Post C Γ H w Q)) ∨
  (∃ v' w',(callFunc g ⟨args'⟩).run C.P w=.ok (.value v') w'∧Post C Γ H w Q (.returned v') w')
def HoldsG (g:FuncId) (args:List AV) (H:Hp) (Q:AE→Hp→Prop):Prop:=
 ∀ (Γ:Gm) (w:World) (args':List Value),R C Γ H w→VRL Γ args args' →
  (callFunc g ⟨args'⟩).run C.P w=.ok (.enter g ⟨args'⟩) w∧Calls C.P g ⟨args'⟩ w (Post C Γ H w Q)
theorem HoldsG.holds {C:Cx} {g:FuncId} {args:List AV} {H:Hp} {Q:AE→Hp→Prop} (h:HoldsG C g args H Q):Holds C g args H Q:=
 fun Γ w args' hR hA=>.inl (h Γ w args' hR hA)
def Fz (ro:Option Nat):Fence:={ Fence.wide with round:=ro }
def RoundH (L:Nat) (args:List AV) (H:Hp) (Q:AE→Hp→Prop):Prop:=
 ∀ (Γ:Gm) (w:World) (args':List Value) (ro:Option Nat),R C Γ H w→VRL Γ args args' →
  ∃ q f tmps asg bd,Γ.nm L=some q∧(Instr.yield q.blk ⟨args'⟩).run C.P w=.ok (.round q.blk f tmps asg bd) w∧RoundIn (Fz ro) 0 C.P q.blk f tmps asg bd w (Post C Γ H w Q)
theorem Post.mono {C:Cx} {Γ:Gm} {H:Hp} {w:World} {Q Q':AE→Hp→Prop} (hq:∀ e H',Q e H'→Q' e H') {e:Ending} {w':World} (h:Post C Γ H w Q e w'):Post C Γ H w Q' e w':=by
 obtain⟨e0,H',Γ',h1,h2⟩:=h
 exact⟨e0,H',Γ',hq _ _ h1,h2⟩
theorem Holds.mono {C:Cx} {g:FuncId} {args:List AV} {H:Hp} {Q Q':AE→Hp→Prop} (h:Holds C g args H Q) (hq:∀ e H',Q e H'→Q' e H'):Holds C g args H Q':=by
 intro Γ w args' hR hA
 rcases h Γ w args' hR hA with ⟨h1,h2⟩ | ⟨v',w',h1,h2⟩
 ·exact .inl ⟨h1,h2.mono fun _ _=>Post.mono hq⟩
 ·exact .inr ⟨v',w',h1,h2.mono hq⟩
def evl (σ:Sg):Operand→AV
 | .tmp t=>σ t
 | .const v=>match absV v with
  | some x=>.p x
  | none=>.junk
 | .global g=>match gget C.gt g with
  | some cs=>.p (.fp cs)
  | none=>.junk
 | .func f=>.p (.fn (.func f) [] [])
def pl:AV→Bool
 | .p (.agg _) | .agg _ | .tup _ | .junk=>false
 | _=>true
def byOf (t:TypeId):Option Nat:=(C.P.info? t).map (·.bytes)
abbrev KH:=AV→Hp→Prop
abbrev und:AV:=.tup []
def eBoxC (t:TypeId) (cs:List AV) (H:Hp) (K:KH):Prop:=
 match szOf C.P t with
 | some s=>match Nat.blt 0 s && Nat.beq cs.length s && cs.all pl with
  | true=>K (.ptr H.next 0 0) (H.push ⟨t,false, .bx cs⟩)
  | false=>False
 | none=>False
def eAlloc (t:TypeId) (H:Hp) (K:KH):Prop:=
 match zeroOf C.P t with
 | some z=>eBoxC C t (vCells (.p z)) H K
 | none=>False
def eBox (t:TypeId) (v:AV) (H:Hp) (K:KH):Prop:=
 match known v with
 | true=>eBoxC C t (vCells v) H K
 | false=>False
def mapsP:List (List PV)→List (List AV)
 | []=>[]
 | cs::r=>cs.map .p::mapsP r
def eStore (t:TypeId) (a v:AV) (H:Hp) (K:KH):Prop:=
 match szOf C.P t with
 | some s=>match known v && Nat.beq (vCells v).length s && (vCells v).all pl with
  | true=>match a with
   | .ptr n i f=>match lget H.l n with
    | some o=>match o.fr with
     | true=>False
     | false=>match o.c with
      | .bx cs=>match Nat.beq i 0 && Nat.ble (f+s) cs.length with
       | true=>K und { H with l:=lset H.l n { o with c:=.bx (spl cs f (vCells v)) } }
       | false=>False
      | .pu xs=>match Nat.beq f 0 && pl v,v with
       | true, .p x=>i<xs.length∧K und { H with l:=lset H.l n { o with c:=.pu (xs.set i x) } }
       | true,v=>i<xs.length∧K und { H with l:=lset H.l n { o with c:=.mx (spl (xs.map .p) i [v]) } }
       | _,_=>False
      | .pus xss=>match allP (vCells v) with
       | some ps=>∃ cs,xss[i]?=some cs∧f+s≤cs.length∧K und { H with l:=lset H.l n { o with c:=.pus (xss.set i (spl cs f ps)) } }
       | none=>∃ cs,xss[i]?=some cs∧f+s≤cs.length∧K und { H with l:=lset H.l n { o with c:=.mxs ((mapsP xss).set i (spl (cs.map .p) f (vCells v))) } }
      | .mx xs=>match Nat.beq f 0 && Nat.blt i xs.length && pl v with
       | true=>K und { H with l:=lset H.l n { o with c:=.mx (spl xs i [v]) } }
       | false=>False
      | .mxs xss=>∃ cs,xss[i]?=some cs∧f+s≤cs.length∧K und { H with l:=lset H.l n { o with c:=.mxs (xss.set i (spl cs f (vCells v))) } }
      | _=>False
    | none=>False
   | .ptd n i f=>match lget H.l n with
    | some o=>match o.fr with
     | true=>False
     | false=>match o.c with
      | .bx cs=>match Nat.beq i 0 with
       | true=>f+s≤cs.length∧K und { H with l:=lset H.l n { o with c:=.bx (spl cs f (vCells v)) } }
       | false=>False
      | _=>False
    | none=>False
   | _=>False
  | false=>False
 | none=>False
def mkz {α:Type}:Nat→List α→List α
 | 0,_=>[]
 | n+1,z=>z++mkz n z
def chunks {α:Type} (s:Nat):Nat→List α→List (List α)
 | 0,_=>[]
 | n+1,l=>l.take s::chunks s n (l.drop s)
def cnOf (s len:Nat) (cs:List AV):Option Cn:=
 match allP cs with
 | some ps=>match Nat.beq s 1 with
  | true=>some (.pu ps)
  | false=>some (.pus (chunks s len ps))
 | none=>match Nat.beq s 1 with
  | true=>some (.mx cs)
  | false=>some (.mxs (chunks s len cs))
def eBuild (t:TypeId) (len:Nat) (parts:List (Nat × Operand)) (ev:Operand→AV) (H:Hp) (K:KH):Prop:=
 match C.P.underlying t with
 | some (.slice e)=>
  match szOf C.P e,zeroOf C.P e with
  | some s,some z=>
   match Nat.ble (len * s) 16777216 && Nat.beq (vCells (.p z)).length s && Nat.blt 0 s && parts.all (fun p=>known (ev p.2)) with
   | true=>match bld ev (fun i=>some (i * s,s)) (mkz len (vCells (.p z))) parts with
    | some cs=>match cs.all pl,cnOf s len cs with
     | true,some c=>K (.sl H.next s 0 len) (H.push ⟨e,false,c⟩)
     | _,_=>False
    | none=>False
   | false=>False
  | _,_=>False
 | _=>False
def eMake (t:TypeId) (l c:AV) (H:Hp) (K:KH):Prop:=
 match C.P.underlying t,l,c with
 | some (.slice e), .p (.int _ l), .p (.int _ c)=>
  match szOf C.P e,zeroOf C.P e,byOf C e with
  | some s,some z,some b=>
   match Nat.beq (vCells (.p z)).length s && Nat.blt 0 s && (vCells (.p z)).all pl with
   | true=>(0≤l∧l≤c∧c * b≤281474976710656∧c≤281474976710656) ∧
    match Nat.beq s 1 && pl (.p z) with
    | true=>K (.sl H.next s 0 l.toNat) (H.push ⟨e,false, .pu (List.replicate l.toNat z)⟩)
    | false=>K (.sl H.next s 0 l.toNat) (H.push ⟨e,false, .pus (List.replicate l.toNat (pCells z))⟩)
   | false=>False
  | _,_,_=>False
 | _,_,_=>False
def part1 (c:Cn) (off len:Nat) (K:Cn→Prop):Prop:=
 match c with
 | .pu xs=>off+len≤xs.length∧∃ ys,ys=(xs.drop off).take len∧K (.pu ys)
 | .pus xss=>off+len≤xss.length∧∃ ys,ys=(xss.drop off).take len∧K (.pus ys)
 | .mx xs=>match getN xs off len with
  | some ys=>K (.mx ys)
  | none=>False
 | .mxs xss=>off+len≤xss.length∧∃ ys,ys=(xss.drop off).take len∧K (.mxs ys)
 | _=>False
def marks (l:List (Nat × AObj)):List Nat→List (Nat × AObj)
 | []=>l
 | n::r=>match lget l n with
  | some o=>marks (lset l n { o with fr:=true }) r
  | none=>marks l r
def marksOK (l:List (Nat × AObj)):List Nat→Bool
 | []=>true
 | n::r=>match lget l n with
  | some o=>isCells o.c && marksOK (lset l n { o with fr:=true }) r
  | none=>false
def Hp.mrk (H:Hp) (fs:List Nat):Hp:={ H with l:=marks H.l fs }
def ResL (f:AV→PV→Prop):List AV→List PV→Prop
 | [],ys=>ys=[]
 | v::vs,ys=>∃ y ys',ys=y::ys'∧f v y∧ResL f vs ys'
def ResLL (f:AV→PV→Prop):List (List AV)→List (List PV)→Prop
 | [],ys=>ys=[]
 | v::vs,ys=>∃ y ys',ys=y::ys'∧ResL f v y∧ResLL f vs ys'
def nilAs (y x:PV):Prop:=match y with
 | .nils=>x=.nils∨x=.lst []∨∃ s,x=.lsts s []
 | y=>x=y
def nilAsL:List PV→List PV→Prop
 | [],xs=>xs=[]
 | y::ys,xs=>∃ z zs,xs=z::zs∧nilAs y z∧nilAsL ys zs
def Res (L:List (Nat × AObj)):Nat→AV→PV→Prop
 | 0,v,x=>match v with
  | .p y=>x=y
  | _=>False
 | d+1,v,x=>match v with
  | .p .nils=>x=.nils∨x=.lst []∨∃ s,x=.lsts s []
  | .p (.agg (.nils::r))=>∃ zs,x=.agg zs∧nilAsL (.nils::r) zs
  | .p y=>x=y
  | .sl n s off len=>match lget L n with
   | some o=>match o.fr with
    | false=>False
    | true=>match o.c with
     | .pu xs=>∃ ys,x=.lst ys∧off+len≤xs.length∧ys=(xs.drop off).take len
     | .pus xss=>∃ ys,x=.lsts s ys∧off+len≤xss.length∧ys=(xss.drop off).take len
     | .mx vs=>∃ us ys,getN vs off len=some us∧x=.lst ys∧ResL (Res L d) us ys
     | .mxs vss=>∃ ys,x=.lsts s ys∧off+len≤vss.length∧ResLL (Res L d) ((vss.drop off).take len) ys
     | _=>False
   | none=>False
  | .ptr n i f=>match lget L n,Nat.beq i 0 && Nat.beq f 0 with
   | some o,true=>match o.fr with
    | false=>False
    | true=>match o.c with
     | .bx cs=>∃ ys,x=.fp ys∧ResL (Res L d) cs ys
     | _=>False
   | _,_=>False
  | .fn f a b=>fnOK f=true∧∃ a' b',x=.fn f a' b'∧ResL (Res L d) a a'∧ResL (Res L d) b b'
  | .iface t v=>∃ y,x=.iface t y∧Res L d v y
  | .agg cs=>∃ ys,x=.agg ys∧ResL (Res L d) cs ys
  | _=>False
def eSrc (s:Nat) (x:AV) (H:Hp) (K:Nat→Cn→Hp→Prop):Prop:=
 match x with
 | .p .nils=>match Nat.beq s 1 with
  | true=>K 0 (.pu []) H
  | false=>K 0 (.pus []) H
 | .p (.lst xs)=>match Nat.beq s 1 with
  | true=>K xs.length (.pu xs) H
  | false=>False
 | .p (.lsts s' xss)=>match Nat.beq s s' && !Nat.beq s 1 with
  | true=>K xss.length (.pus xss) H
  | false=>False
 | .sl n s' off len=>match lget H.l n,Nat.beq s s' with
  | some o,true=>part1 o.c off len fun c=>match c with
   | .mx vs=>(∃ fs ps,marksOK H.l fs=true∧ResL (Res (marks H.l fs) 5) vs ps∧K len (.pu ps) (H.mrk fs))∨K len (.mx vs) H
   | .mxs vss=>(∃ fs pss,marksOK H.l fs=true∧ResLL (Res (marks H.l fs) 5) vss pss∧K len (.pus pss) (H.mrk fs))∨K len (.mxs vss) H
   | c=>K len c H
  | _,_=>False
 | .p (.str str)=>match Nat.beq s 1 with
  | true=>K str.length (.pu (str.map ub)) H
  | false=>False
 | _=>False
def joinC (a b:Cn) (K:Cn→Prop):Prop:=
 match a,b with
 | .pu xs, .pu ys=>∃ zs,zs=xs++ys∧K (.pu zs)
 | .pus xs, .pus ys=>∃ zs,zs=xs++ys∧K (.pus zs)
 | .mx xs, .mx ys=>K (.mx (xs++ys))
 | .pu [], .mx ys=>K (.mx ys)
 | .mx xs, .pu ys=>K (.mx (xs++ys.map .p))
 | .mxs xs, .mxs ys=>∃ zs,zs=xs++ys∧K (.mxs zs)
 | .mxs xs, .pus ys=>∃ zs,zs=xs++mapsP ys∧K (.mxs zs)
 | .pus xs, .mxs ys=>∃ zs,zs=mapsP xs++ys∧K (.mxs zs)
 | _,_=>False
def eAppend (t:TypeId) (sv x:AV) (H:Hp) (K:KH):Prop:=
 match C.P.underlying t with
 | some (.slice e)=>
  match szOf C.P e,zeroOf C.P e,byOf C e with
  | some s,some z,some b=>
   match Nat.beq (vCells (.p z)).length s && Nat.blt 0 s && Nat.blt 0 b && (vCells (.p z)).all pl with
   | true=>
    match sv with
    | .p .nils=>eSrc s x H fun m c H1=>m * b≤140737488355328∧K (.sl H1.next s 0 m) (H1.push ⟨e,false,c⟩)
    | .sl n s' off len=>
     match Nat.beq s s' && Nat.beq off 0 with
     | true=>eSrc s x H fun m c1 H1=>match lget H1.l n with
      | some o=>match o.fr || !Nat.beq o.t e with
       | true=>False
       | false=>part1 o.c 0 len fun c0=>(len+m) * b≤140737488355328∧joinC c0 c1 fun c=>
        K (.sl H1.next s 0 (len+m)) (Hp.push { H1 with l:=ldel H1.l n } ⟨e,false,c⟩)
      | none=>False
     | false=>False
    | _=>False
   | false=>False
  | _,_,_=>False
 | _=>False
def putC (a:Cn) (off len m:Nat) (b:Cn) (K:Cn→Prop):Prop:=
 match a,b with
 | .pu xs, .pu ys=>(off+len≤xs.length∧m≤len)∧∃ zs,zs=spl xs off ys∧K (.pu zs)
 | _,_=>False
def eCopy (t:TypeId) (d x:AV) (H:Hp) (K:KH):Prop:=
 match C.P.underlying t with
 | some (.slice e)=>match szOf C.P e with
  | some s=>match d with
   | .sl n s' off len=>match Nat.beq s s' && Nat.blt 0 s with
    | true=>eSrc s x H fun m c H1=>match lget H1.l n with
     | some o=>match o.fr with
      | true=>False
      | false=>putC o.c off len m c fun c'=>K (vI .i64 m) { H1 with l:=lset H1.l n { o with c:=c' } }
     | none=>False
    | false=>False
   | _=>False
  | none=>False
 | _=>False
def eData (ty:TypeId) (x:AV) (H:Hp) (K:KH):Prop:=
 match C.P.underlying ty with
 | some (.pointer _)=>match x with
  | .p .nils=>K (.p .nilp) H
  | .sl n _ off len=>match lget H.l n with
   | some o=>match isCells o.c with
    | true=>(0<len→K (.ptr n off 0) H)∧(len=0→K .anyp H)
    | false=>False
   | none=>False
  | _=>False
 | _=>False
def eUStr (pt:TypeId) (p n:AV) (H:Hp) (K:KH):Prop:=
 match n with
 | .p (.int k m)=>match k == .i64 with
  | false=>False
  | true=>match p with
   | .p .nilp=>m=0∧K (vS []) H
   | .anyp=>m=0∧K (vS []) H
   | .ptr a i f=>match Nat.beq i 0 && Nat.beq f 0,lget H.l a with
    | true,some o=>match C.P.underlying pt with
     | some (.pointer e)=>match o.fr || !Nat.beq o.t e || !Nat.beq (C.P.cellsOf e) 1 with
      | true=>False
      | false=>match o.c with
       | .pu xs=>∃ s:List UInt8,s ≠ []∧m=s.length∧s.length≤9223372036854775807∧s.length≤xs.length∧xs.take s.length=s.map ub∧K (vS s) { H with l:=ldel H.l a }
       | _=>False
     | _=>False
    | _,_=>False
   | _=>False
 | _=>False
def eBytes (s e:TypeId) (x:AV) (H:Hp) (K:KH):Prop:=
 match C.P.underlying s,C.P.underlying e,szOf C.P e with
 | some .string,some (.int k),some z=>match k == .u8 && Nat.beq z 1,x with
  | true, .p (.str b)=>K (.sl H.next 1 0 b.length) (H.push ⟨e,false, .pu (b.map ub)⟩)
  | _,_=>False
 | _,_,_=>False
def ePanic (v:AV) (X:List AP→Prop):Prop:=
 match ifParts v with
 | some (some _)=>X [⟨v,false⟩]
 | _=>False
def notInt (t:TypeId):Bool:=
 match C.P.underlying t with
 | some (.slice _)=>true
 | some .string=>true
 | _=>false
def fnOf:AV→Option (Fn × List AV × List AV)
 | .fn f a b=>some (f,a,b)
 | .p (.fn f a b)=>some (f,a.map .p,b.map .p)
 | _=>none
def onE (K:AV→Hp→Prop) (X:List AP→Hp→Prop):AE→Hp→Prop
 | .returned v,H'=>K v H'
 | .panicked ch,H'=>X ch H'
def nilX (x:AV) (neg:Bool):Option (Bool × Bool × Prop):=
 match x with
 | .p .nils=>some (neg,false,True)
 | .p (.lst xs)=>some (neg,true,xs=[])
 | .p (.lsts _ xss)=>some (neg,true,xss=[])
 | .sl _ _ _ len=>some (neg,true,len=0)
 | _=>none
def nilQ (op:BinOp) (x y:AV):Option (Bool × Bool × Prop):=
 match y with
 | .p .nils=>match op with
  | .eql=>nilX x false
  | .neq=>nilX x true
  | _=>none
 | _=>none
def eNil (t:TypeId) (neg b:Bool) (c:Prop) (H:Hp) (K:KH):Prop:=
 match C.P.underlying t with
 | some (.slice _)=>(match b with
  | true=>K (vB neg) H
  | false=>True)∧(c→K (vB (!neg)) H)
 | _=>False
def metOf (t:TypeId) (name:String):Option (FuncId × Option Nat):=
 match C.P.info? t with
 | none=>none
 | some i=>match i.methods.find? (·.name == name) with
  | none=>none
  | some m=>match m.func with
   | none=>none
   | some (g,pr)=>match m.path.toList with
    | []=>match C.P.underlying t,pr with
     | some (.pointer _),true=>some (g,none)
     | some (.pointer _),false=>none
     | some _,false=>some (g,none)
     | _,_=>none
    | [s]=>match s.deref && pr,C.P.underlying s.struct with
     | true,some (.struct fs)=>match fs[s.index]? with
      | none=>none
      | some fd=>match szOf C.P fd.type,C.P.underlying fd.type with
       | some (_+1),some (.pointer _)=>none
       | some (_+1),some _=>some (g,some fd.offset)
       | _,_=>none
     | _,_=>none
    | _=>none
def moved:AV→Option Nat→Option AV
 | v,none=>some v
 | .ptr n i f,some k=>some (.ptr n i (f+k))
 | _,_=>none
def eInv (t:TypeId) (name:String) (v:AV) (args:List AV) (H:Hp) (Q:AE→Hp→Prop):Prop:=
 ∃ g k u,metOf C t name=some (g,k)∧moved v k=some u∧Holds C g (u::args) H Q
def putM:List (List UInt8 × PV)→List UInt8→PV→List (List UInt8 × PV)
 | [],a,x=>[(a,x)]
 | (k,y)::r,a,x=>match decide (a=k) with
  | true=>(k,x)::r
  | false=>(k,y)::putM r a x
def strMap (t:TypeId):Bool:=
 match C.P.underlying t with
 | some (.map kt _)=>match C.P.underlying kt with
  | some .string=>true
  | _=>false
 | _=>false
def keyZ (t:TypeId):Option (List PV):=
 match C.P.underlying t with
 | some (.map kt _)=>match C.P.underlying kt,zeroOf C.P kt with
  | some (.struct _),some (.agg zs)=>some zs
  | _,_=>none
 | _=>none
def fitOK (t:TypeId) (zs:List PV):Bool:=
 match C.P.underlying t with
 | some (.map kt _)=>fitT C.P 9 kt zs
 | _=>false
open Classical in
noncomputable def putK:List (List PV × PV)→List PV→PV→List (List PV × PV)
 | [],a,x=>[(a,x)]
 | (k,y)::r,a,x=>if a=k then(k,x)::r else(k,y)::putK r a x
def eMakeMap (t:TypeId) (H:Hp) (K:KH):Prop:=
 match strMap C t with
 | true=>K (.mp H.next) (H.push ⟨t,false, .ms []⟩)
 | false=>match keyZ C t with
  | some zs=>K (.mp H.next) (H.push ⟨t,false, .mk zs []⟩)
  | none=>False
def eInsertK (t:TypeId) (m:AV) (cs:List PV) (x:AV) (H:Hp) (K:KH):Prop:=
 match keyZ C t,m with
 | some zk, .mp n=>fitOK C t zk=true∧∃ fs y,marksOK H.l fs=true∧Res (marks H.l fs) 5 x y∧(match lget (marks H.l fs) n with
  | some o=>match o.c with
   | .mk zs es=>(sameKinds zk zs && sameKinds zs cs)=true∧∃ es',es'=putK es cs y∧K und { H.mrk fs with l:=lset (H.mrk fs).l n { o with c:=.mk zs es' } }
   | _=>False
  | none=>False)
 | _,_=>False
def eInsertS (t:TypeId) (m k x:AV) (H:Hp) (K:KH):Prop:=
 match strMap C t,m,k,x with
 | true, .mp n, .p (.str a), .p y=>match lget H.l n with
  | some o=>match o.c with
   | .ms es=>∃ es',es'=putM es a y∧K und { H with l:=lset H.l n { o with c:=.ms es' } }
   | _=>False
  | none=>False
 | _,_,_,_=>False
def eInsert (t:TypeId) (m k x:AV) (H:Hp) (K:KH):Prop:=
 match k with
 | .p (.agg cs)=>eInsertK C t m cs x H K
 | k=>eInsertS C t m k x H K
def eRange (t:TypeId) (x:AV) (H:Hp) (K:KH):Prop:=
 match C.P.underlying t,x with
 | some .string, .p (.str s)=>K (.ptr H.next 0 0) (H.push ⟨t,false, .it s 0⟩)
 | _,_=>False
def eNext (x:AV) (str:Bool) (H:Hp) (K:KH):Prop:=
 match str,x with
 | true, .ptr n 0 0=>match lget H.l n with
  | some o=>match o.c with
   | .it s i=>(s.length≤i→K (.tup [vB false]) H)∧(i<s.length→∃ c d,Utf8.decode ⟨⟨s⟩⟩ i=(c,d)∧K (.tup [vB true,vI .i64 i,vI .i32 c]) { H with l:=lset H.l n { o with c:=.it s (i+d) } })
   | _=>False
  | none=>False
 | _,_=>False
def eClear (t:TypeId) (x:AV) (H:Hp) (K:KH):Prop:=
 match C.P.underlying t with
 | some (.slice e)=>match szOf C.P e,zeroOf C.P e with
  | some s,some z=>match Nat.beq s 1 && pl (.p z) && Nat.beq (vCells (.p z)).length 1,x with
   | true, .sl n s' off len=>match Nat.beq s' 1,lget H.l n with
    | true,some o=>match o.fr with
     | true=>False
     | false=>match o.c with
      | .pu xs=>off+len≤xs.length∧∃ ys,ys=spl xs off (List.replicate len z)∧K und { H with l:=lset H.l n { o with c:=.pu ys } }
      | _=>False
    | _,_=>False
   | _,_=>False
  | _,_=>False
 | _=>False
def vOp (rd:Bool) (o:Oper) (σ:Sg) (ds:List AD) (H:Hp) (K:AV→List AD→Hp→Prop) (X:List AP→Hp→Prop):Prop:=
 match o.op with
 | .alloc t=>eAlloc C t H fun v H'=>K v ds H'
 | .box t x=>eBox C t (evl C σ x) H fun v H'=>K v ds H'
 | .store t a x=>eStore C t (evl C σ a) (evl C σ x) H fun v H'=>K v ds H'
 | .buildSlice t n parts=>eBuild C t n parts.toList (evl C σ) H fun v H'=>K v ds H'
 | .makeSlice t l c=>eMake C t (evl C σ l) (evl C σ c) H fun v H'=>K v ds H'
 | .call { callee:=.value f,args, .. }=>
  match fnOf (evl C σ f) with
  | some (.func g,first,cap)=>Holds C g (first++args.toList.map (evl C σ)++cap) H (onE (fun v H'=>K v ds H') X)
  | some (.yield L,[],[])=>RoundH C L (args.toList.map (evl C σ)) H (onE (fun v H'=>K v ds H') X)
  | _=>False
 | .call { callee:=.invoke r name,args, .. }=>
  match ifParts (evl C σ r) with
  | some (some (t,v))=>eInv C t name v (args.toList.map (evl C σ)) H (onE (fun v H'=>K v ds H') X)
  | _=>False
 | .call { callee:=.builtin .append,args,argTypes }=>
  match args.toList,argTypes.toList with
  | [s,x],[t,t']=>match notInt C t' with
   | true=>eAppend C t (evl C σ s) (evl C σ x) H fun v H'=>K v ds H'
   | false=>False
  | _,_=>False
 | .call { callee:=.builtin .copy,args,argTypes }=>
  match args.toList,argTypes.toList with
  | [s,x],[t,_]=>eCopy C t (evl C σ s) (evl C σ x) H fun v H'=>K v ds H'
  | _,_=>False
 | .call { callee:=.builtin .clear,args,argTypes }=>
  match args.toList,argTypes.toList with
  | [x],[t]=>eClear C t (evl C σ x) H fun v H'=>K v ds H'
  | _,_=>False
 | .call { callee:=.builtin .unsafeSliceData,args, .. }=>
  match args.toList with
  | [x]=>eData C o.type (evl C σ x) H fun v H'=>K v ds H'
  | _=>False
 | .call { callee:=.builtin .unsafeString,args,argTypes }=>
  match args.toList,argTypes.toList with
  | [p,n],[t,_]=>eUStr C t (evl C σ p) (evl C σ n) H fun v H'=>K v ds H'
  | _,_=>False
 | .convert s d x=>match C.P.underlying d with
  | some (.slice e)=>eBytes C s e (evl C σ x) H fun v H'=>K v ds H'
  | _=>(pop C.P (.convert s d x) (evl C σ) (lget H.l)).Then fun v=>K v ds H
 | .defer { callee:=.value f,args, .. }=>
  match rd,fnOf (evl C σ f) with
  | false,some (.func g,first,cap)=>K und (.fn g cap (first++args.toList.map (evl C σ))::ds) H
  | _,_=>False
 | .panic x=>ePanic (evl C σ x) fun ch=>X ch H
 | .makeMap t none=>eMakeMap C t H fun v H'=>K v ds H'
 | .insert t m k x=>eInsert C t (evl C σ m) (evl C σ k) (evl C σ x) H fun v H'=>K v ds H'
 | .mapUpdate t m k x=>eInsert C t (evl C σ m) (evl C σ k) (evl C σ x) H fun v H'=>K v ds H'
 | .range t x=>eRange C t (evl C σ x) H fun v H'=>K v ds H'
 | .next x str=>eNext (evl C σ x) str H fun v H'=>K v ds H'
 | .binOp op t x y c=>match nilQ op (evl C σ x) (evl C σ y) with
  | some (neg,b,p)=>eNil C t neg b p H fun v H'=>K v ds H'
  | none=>(pop C.P (.binOp op t x y c) (evl C σ) (lget H.l)).Then fun v=>K v ds H
 | op=>(pop C.P op (evl C σ) (lget H.l)).Then fun v=>K v ds H
def onth:List Oper→Nat→Option Oper
 | [],_=>none
 | x::_,0=>some x
 | _::l,n+1=>onth l n
def gd (all:List Oper) (o:Oper) (σ:Sg):Option Bool:=
 match o.guard with
 | none=>some true
 | some (j,want)=>match onth all j with
  | some oj=>match oj.dst with
   | some d=>match σ d with
    | .p (.bool b)=>some (b == want)
    | .tup _=>some false
    | _=>none
   | none=>none
  | none=>none
def force (v:AV) (K:AV→Prop):Prop:=
 match v with
 | .p x=>match x with
  | .int k n=>K (.p (.int k n))
  | .bool b=>K (.p (.bool b))
  | .str s=>K (.p (.str s))
  | .agg cs=>K (.p (.agg cs))
  | x=>K (.p x)
 | .ptr n i f=>K (.ptr n i f)
 | .sl n s off len=>K (.sl n s off len)
 | .agg cs=>K (.agg cs)
 | .tup cs=>K (.tup cs)
 | v=>K v
theorem force_eq {v:AV} {K:AV→Prop} (h:force v K):K v:=by
 unfold force at h
 split at h
 ·split at h <;> exact h
 all_goals exact h
def vput (N:Nat) (dst:Option Tmp) (σ:Sg) (v:AV) (K:Sg→Prop):Prop:=
 match dst with
 | none=>K σ
 | some d=>match Nat.blt d N with
  | true=>force v fun v=>K (upd σ d v)
  | false=>False
noncomputable def vOps (rd:Bool) (N:Nat) (all:List Oper) (l:List Oper):Sg→List AD→Hp→(Sg→List AD→Hp→Prop)→(List AP→Sg→List AD→Hp→Prop)→Prop:=
 List.rec (motive:=fun _=>Sg→List AD→Hp→(Sg→List AD→Hp→Prop)→(List AP→Sg→List AD→Hp→Prop)→Prop)
  (fun σ ds H K _=>K σ ds H)
  (fun o _ ih σ ds H K X=>match gd all o σ with
   | some true=>vOp C rd o σ ds H (fun v ds' H'=>vput N o.dst σ v fun σ'=>ih σ' ds' H' K X) (fun ch H'=>X ch σ ds H')
   | some false=>vput N o.dst σ und fun σ'=>ih σ' ds H K X
   | none=>False) l
theorem vOps_cons (rd:Bool) (N:Nat) (all:List Oper) (o:Oper) (r:List Oper) (σ:Sg) (ds:List AD) (H:Hp) (K:Sg→List AD→Hp→Prop) (X:List AP→Sg→List AD→Hp→Prop):vOps C rd N all (o::r) σ ds H K X=(match gd all o σ with
  | some true=>vOp C rd o σ ds H (fun v ds' H'=>vput N o.dst σ v fun σ'=>vOps C rd N all r σ' ds' H' K X) (fun ch H'=>X ch σ ds H')
  | some false=>vput N o.dst σ und fun σ'=>vOps C rd N all r σ' ds H K X
  | none=>False):=rfl
abbrev KQ:=AX→Sg→List AD→Hp→Prop
def DR (hd:Option (List Deferred)) (Γ:Gm) (d:AD) (d':Deferred):Prop:=
 match d with
 | .fn f cap args=>∃ cap' args',d'={ target:=.fn (.func f) cap',args:=args' }∧VRL Γ cap cap'.toList∧VRL Γ args args'.toList
 | .col n=>hd.isSome=true∧∃ q,Γ.nm n=some q∧d'={ target:=.collected q.blk,args:=#[] }
def DRL (hd:Option (List Deferred)) (Γ:Gm):List AD→List Deferred→Prop
 | [],l'=>l'=hd.getD []
 | d::ds,l'=>∃ u us,l'=u::us∧DR hd Γ d u∧DRL hd Γ ds us
theorem DR_mono {hd:Option (List Deferred)} {a b:Gm} (h:a.le b) {d:AD} {d':Deferred} (hr:DR hd a d d'):DR hd b d d':=by
 cases d with
 | fn f cap args=>obtain⟨cap',args',h1,h2,h3⟩:=hr;exact⟨cap',args',h1,VRL_mono h _ _ h2,VRL_mono h _ _ h3⟩
 | col n=>obtain⟨h0,q,h1,h2⟩:=hr;exact⟨h0,q,h.nm _ _ h1,h2⟩
theorem DRL_mono {hd:Option (List Deferred)} {a b:Gm} (h:a.le b):∀ {l:List AD} {l':List Deferred},DRL hd a l l'→DRL hd b l l'
 | [],_,hl=>hl
 | d::ds,_,hl=>by
  simp only [DRL] at hl ⊢
  obtain⟨u,us,h1,h2,h3⟩:=hl
  exact⟨u,us,h1,DR_mono h h2,DRL_mono h h3⟩
structure SR (hd:Option (List Deferred)) (Γ:Gm) (σ:Sg) (ds:List AD) (N:Nat) (a:Act):Prop where
 size:a.tmps.size=N
 tm:∀ t,VR Γ (σ t) (a.tmps.getD t undef)
 df:DRL hd Γ ds a.defers
def colD (b:Nat):Deferred:={ target:=.collected b,args:=#[] }
structure HX (r:Bool) (B:Nat→Prop) (hd:Option (List Deferred)) (Γ:Gm) (H:Hp) (w:World):Prop where
 some':hd.isSome=r
 hid:∃ bs:List Nat,hd.getD []=bs.map colD∧bs.Nodup∧∀ b∈bs,B b∧b<w.heap.size∧¬ Own Γ H b∧w.heap[b]?=some (.deferred (some []))
 own:∀ k,Own Γ H k→B k
 size:∀ k,w.heap.size≤k→B k
theorem HX.tr {r:Bool} {B:Nat→Prop} {hd:Option (List Deferred)} {Γ Γ':Gm} {H H':Hp} {w w':World} (h:HX r B hd Γ H w) (t:Tr Γ H w Γ' H' w'):HX r B hd Γ' H' w':=by
 obtain⟨h1,⟨bs,e,nd,hb⟩,h3,h4⟩:=h
 refine⟨h1,⟨bs,e,nd,fun b hm=>?_⟩,fun k hk=>(t.prov k hk).elim (h4 k) (h3 k),fun k hk=>h4 k (Nat.le_trans t.size hk)⟩
 obtain⟨k1,k2,k3,k4⟩:=hb b hm
 refine⟨k1,Nat.lt_of_lt_of_le k2 t.size,fun ho=>(t.prov b ho).elim (fun h=>absurd k2 (by omega)) k3,by rw [t.kept b k2 k3];exact k4⟩
def SX (r:Bool) (B:Nat→Prop) (Γ:Gm) (H:Hp) (w:World) (σ:Sg) (ds:List AD) (N:Nat) (a:Act):Prop:=∃ hd,SR hd Γ σ ds N a∧HX r B hd Γ H w
def Ent (n0 N:Nat) (σ:Sg) (ds:List AD) (H:Hp) (σ':Sg) (ds':List AD) (H':Hp):Prop:=
 ∀ (r:Bool) (B:Nat→Prop) (Γ:Gm) (w:World) (a:Act),n0≤H.next→R C Γ H w→SX r B Γ H w σ ds N a→∃ Γ',SX r B Γ' H' w σ' ds' N a∧Later C n0 Γ H w Γ' H' w
inductive OT where
 | fin
 | pure (i:Nat) (t:OT)
 | eff (i:Nat) (hs:List Nat) (t alt:OT)
 | nil
structure En where
 i:Nat
 o:Oper
 v:AV
 sy:Bool
def elemN:Nat→List Nat→Bool
 | _,[]=>false
 | n,m::r=>match Nat.beq n m with
  | true=>true
  | false=>elemN n r
def dps (o:Oper):List Nat:=(o.after.toList.filter (Region.binds .any)).map (·.on)
def tmpsOf:List Operand→List Nat
 | []=>[]
 | .tmp t::r=>t::tmpsOf r
 | _::r=>tmpsOf r
def gslot (all:List Oper) (o:Oper):List Nat:=
 match o.guard with
 | none=>[]
 | some (j,_)=>match onth all j with
  | some oj=>match oj.dst with
   | some d=>[d]
   | none=>[]
  | none=>[]
def looks (all:List Oper) (o:Oper):List Nat:=gslot all o++tmpsOf o.op.operands.toList
def rst (l:List Nat) (σ:Sg):Sg:=fun t=>match elemN t l with
 | true=>σ t
 | false=>.junk
def ap (σ0:Sg):List En→Sg
 | []=>σ0
 | e::L=>match e.o.dst with
  | none=>ap σ0 L
  | some d=>upd (ap σ0 L) d e.v
def dstsOf:List Oper→List Nat
 | []=>[]
 | o::r=>match o.dst with
  | none=>dstsOf r
  | some d=>d::dstsOf r
def unw (all:List Oper) (σ:Sg):Sg:=fun t=>match elemN t (dstsOf all) with
 | true=>.junk
 | false=>σ t
def rdHeap:Op→Bool
 | .load ..=>true
 | .call _=>true
 | .convert ..=>true
 | .lookup ..=>true
 | _=>false
def lkO (op:Op) (H:Hp):Nat→Option AObj:=match rdHeap op with
 | true=>lget H.l
 | false=>fun _=>none
def datA:AV→AV
 | .p v=>.p v
 | _=>.junk
def popB (t:TypeId) (len:Nat) (parts:List (Nat × Operand)) (ev:Operand→AV):PRes:=
 match C.P.underlying t with
 | some (.slice e)=>
  match szOf C.P e,zeroOf C.P e with
  | some s,some z=>
   match Nat.ble (len * s) 16777216 && Nat.beq (vCells (.p z)).length s && Nat.blt 0 s && parts.all (fun p=>known (datA (ev p.2))) with
   | true=>match bld (fun x=>datA (ev x)) (fun i=>some (i * s,s)) (mkz len (vCells (.p z))) parts with
    | some cs=>match cs.all pl,cnOf s len cs with
     | true,some (.pu xs)=>.val (.p (.lst xs))
     | true,some (.pus xss)=>.val (.p (.lsts s xss))
     | _,_=>.bad
    | none=>.bad
   | false=>.bad
  | _,_=>.bad
 | _=>.bad
def popX (op:Op) (ev:Operand→AV) (lk:Nat→Option AObj):PRes:=match op with
 | .buildSlice t n parts=>popB C t n parts.toList ev
 | op=>pop C.P op ev lk
def HeldAt (all:List Oper) (σ0:Sg) (H:Hp) (e:En) (L:List En):Prop:=
 match gd all e.o (rst (looks all e.o) (ap σ0 L)) with
 | some true=>(popX C e.o.op (evl C (rst (looks all e.o) (ap σ0 L))) (lkO e.o.op H)).Yld e.v
 | some false=>e.v=und
 | none=>False
def Held (all:List Oper) (σ0:Sg) (hs:List Nat) (H:Hp):List En→Prop
 | []=>True
 | e::L=>match elemN e.i hs with
  | true=>HeldAt C all σ0 H e L∧Held all σ0 hs H L
  | false=>Held all σ0 hs H L
noncomputable def vD (rd:Bool) (all:List Oper) (σ0:Sg) (K:Sg→List AD→Hp→Prop) (X:List AP→Sg→List AD→Hp→Prop) (ot:OT):List En→List AD→Hp→Prop:=
 OT.rec (motive:=fun _=>List En→List AD→Hp→Prop)
  (fun L ds H=>K (ap σ0 L) ds H)
  (fun i _ ih L ds H=>
   match onth all i with
   | none=>False
   | some o=>match gd all o (rst (looks all o) (ap σ0 L)) with
    | some true=>(popX C o.op (evl C (rst (looks all o) (ap σ0 L))) (lkO o.op H)).Then fun v=>ih (⟨i,o,v,false⟩::L) ds H
    | some false=>ih (⟨i,o,und,false⟩::L) ds H
    | none=>False)
  (fun i hs _ alt ih ihA L ds H=>
   match alt with
   | .nil=>(match onth all i with
    | none=>False
    | some o=>match gd all o (rst (looks all o) (ap σ0 L)) with
     | some true=>vOp C rd o (rst (looks all o) (ap σ0 L)) ds H
       (fun v ds' H'=>match hs with
        | []=>ih (⟨i,o,v,true⟩::L) ds' H'
        | hs=>Held C all σ0 hs H' L∧ih (⟨i,o,v,true⟩::L) ds' H')
       (fun ch H'=>X ch (unw all σ0) ds H')
     | some false=>ih (⟨i,o,und,true⟩::L) ds H
     | none=>False)
   | _=>(match onth all i with
    | none=>False
    | some o=>match gd all o (rst (looks all o) (ap σ0 L)) with
     | some true=>vOp C rd o (rst (looks all o) (ap σ0 L)) ds H
       (fun v ds' H'=>match hs with
        | []=>ih (⟨i,o,v,true⟩::L) ds' H'
        | hs=>Held C all σ0 hs H' L∧ih (⟨i,o,v,true⟩::L) ds' H')
       (fun ch H'=>X ch (unw all σ0) ds H')
     | some false=>ih (⟨i,o,und,true⟩::L) ds H
     | none=>False)∧ihA L ds H)
  (fun _ _ _=>True) ot
theorem vD_fin (rd:Bool) (all:List Oper) (σ0:Sg) (K:Sg→List AD→Hp→Prop) (X:List AP→Sg→List AD→Hp→Prop) (L:List En) (ds:List AD) (H:Hp):vD C rd all σ0 K X .fin L ds H=K (ap σ0 L) ds H:=rfl
theorem vD_pure (rd:Bool) (all:List Oper) (σ0:Sg) (K:Sg→List AD→Hp→Prop) (X:List AP→Sg→List AD→Hp→Prop) (i:Nat) (t:OT) (L:List En) (ds:List AD) (H:Hp):vD C rd all σ0 K X (.pure i t) L ds H=(match onth all i with
  | none=>False
  | some o=>match gd all o (rst (looks all o) (ap σ0 L)) with
   | some true=>(popX C o.op (evl C (rst (looks all o) (ap σ0 L))) (lkO o.op H)).Then fun v=>vD C rd all σ0 K X t (⟨i,o,v,false⟩::L) ds H
   | some false=>vD C rd all σ0 K X t (⟨i,o,und,false⟩::L) ds H
   | none=>False):=rfl
theorem vD_eff (rd:Bool) (all:List Oper) (σ0:Sg) (K:Sg→List AD→Hp→Prop) (X:List AP→Sg→List AD→Hp→Prop) (i:Nat) (hs:List Nat) (t alt:OT) (L:List En) (ds:List AD) (H:Hp):vD C rd all σ0 K X (.eff i hs t alt) L ds H=(
  let it:Prop:=match onth all i with
   | none=>False
   | some o=>match gd all o (rst (looks all o) (ap σ0 L)) with
    | some true=>vOp C rd o (rst (looks all o) (ap σ0 L)) ds H
      (fun v ds' H'=>match hs with
       | []=>vD C rd all σ0 K X t (⟨i,o,v,true⟩::L) ds' H'
       | hs=>Held C all σ0 hs H' L∧vD C rd all σ0 K X t (⟨i,o,v,true⟩::L) ds' H')
      (fun ch H'=>X ch (unw all σ0) ds H')
    | some false=>vD C rd all σ0 K X t (⟨i,o,und,true⟩::L) ds H
    | none=>False
  match alt with
  | .nil=>it
  | _=>it∧vD C rd all σ0 K X alt L ds H):=by cases alt <;> rfl
theorem vD_nil (rd:Bool) (all:List Oper) (σ0:Sg) (K:Sg→List AD→Hp→Prop) (X:List AP→Sg→List AD→Hp→Prop) (L:List En) (ds:List AD) (H:Hp):vD C rd all σ0 K X .nil L ds H=True:=rfl
def nthN:List Nat→Nat→Nat
 | [],_=>0
 | x::_,0=>x
 | _::l,n+1=>nthN l n
def maskOf (acc:List Nat):List Nat→Nat
 | []=>0
 | d::r=>2 ^ d ||| nthN acc d ||| maskOf acc r
def masks:List Oper→List Nat→List Nat
 | [],acc=>acc
 | o::r,acc=>masks r (acc++[maskOf acc (dps o)])
def allIx (f:Nat→Oper→Bool):Nat→List Oper→Bool
 | _,[]=>true
 | n,o::r=>f n o && allIx f (n+1) r
def slotsOK (N:Nat) (all:List Oper) (ms:List Nat):Bool:=
 allIx (fun j oj=>match oj.dst with
  | none=>true
  | some d=>Nat.blt d N && allIx (fun i oi=>Nat.beq i j || !(elemN d (looks all oi) || oi.dst == some d) || (nthN ms i).testBit j || (nthN ms j).testBit i) 0 all) 0 all
def subN (l dom:List Nat):Bool:=l.all fun d=>elemN d dom
def otOK (all:List Oper) (ms:List Nat):OT→List Nat→List Nat→List Nat→Bool
 | .fin,dom,_,_=>allIx (fun i _=>elemN i dom) 0 all
 | .pure i t,dom,pu,_=>!elemN i dom && (match onth all i with
  | some o=>subN (dps o) dom && otOK all ms t (i::dom) (match rdHeap o.op with
   | true=>i::pu
   | false=>pu) []
  | none=>false)
 | .eff i hs t alt,dom,pu,es=>!elemN i dom && (match onth all i with
  | some o=>subN (dps o) dom && pu.all (fun k=>elemN k hs || (nthN ms i).testBit k) && otOK all ms t (i::dom) pu [] && (match alt with
   | .eff ..=>otOK all ms alt dom pu (i::es)
   | .nil=>allIx (fun k ok=>elemN k dom || elemN k (i::es) || (dps ok).any (fun d=>!elemN d dom)) 0 all
   | _=>false)
  | none=>false)
 | .nil,_,_,_=>false
def VDraw (rd : Bool) (n0 N : Nat) (all : List Oper) (σ : Sg) (ds : List AD) (H : Hp) (K : Sg → List AD → Hp → Prop) (X : List AP → Sg → List AD → Hp → Prop) : Prop :=
  ∃ ot, (C.P.follows .mixedOrders && slotsOK N all (masks all []) && otOK all (masks all []) ot [] [] []) = true ∧
    ((vD C rd all σ K X ot [] ds H) ∨
     ∃ (α : Type) (sl : α → List (Nat × AV)) (hp : α → Hp) (pr : α → Prop),
      vD C rd all σ (fun σ' ds' H' => ∃ x, pr x ∧ Ent C n0 N σ' ds' H' (sets (fun _ => .junk) (sl x)) ds (hp x)) X ot [] ds H ∧
      ∀ x, pr x → K (sets (fun _ => .junk) (sl x)) ds (hp x))
def LoopOK (n0 N:Nat) (body:Sg→List AD→Hp→KQ→Prop) (σ:Sg) (ds:List AD) (H:Hp) (Q:KQ):Prop:=
 ∃ (α:Type) (sl:α→List (Nat × AV)) (hp:α→Hp) (pr:α→Prop) (μ:α→Nat),
  (∃ x,pr x∧Ent C n0 N σ ds H (sets (fun _=>.junk) (sl x)) ds (hp x)) ∧
  ∀ x,pr x→body (sets (fun _=>.junk) (sl x)) ds (hp x) fun e σ' ds' H'=>match e with
   | .normal=>∃ x',pr x'∧Ent C n0 N σ' ds' H' (sets (fun _=>.junk) (sl x')) ds (hp x')∧μ x'<μ x
   | e=>Q e σ' ds' H'
def loopRec (lim:Nat) (σ:Sg) (N:Nat) (params:Array Tmp) (asg bd:Code) (dn:Nat):AObj:=⟨0,false, .lp .ready none lim N σ params.toList asg bd dn⟩
def pendQ (pend:Option Code) (Q:KQ) (σ:Sg) (ds:List AD) (H:Hp):Prop:=
 match pend with
 | none=>Q .normal σ ds H
 | some .ret=>Q .ret σ ds H
 | some (.exit i)=>Q (.exit i) σ ds H
 | some (.goto i)=>Q (.goto i) σ ds H
 | _=>False
def RangeOK (_N:Nat) (g:FuncId) (first cap:List AV) (L:Nat) (σ:Sg) (ds:List AD) (H:Hp) (Q:KQ):Prop:=
 HoldsG C g (first++[.fn (.yield L) [] []]++cap) H fun e H'=>match e with
  | .returned _=>match lget H'.l L with
   | some o=>match o.c with
    | .lp st pend lim n a b c d dn=>match st with
     | .busy=>False
     | _=>pendQ pend Q σ ds { H' with l:=lset H'.l L { o with c:=.lp .exhausted pend lim n a b c d dn } }
    | _=>False
   | none=>False
  | .panicked ch=>Q (.panic ch) σ ds H'
noncomputable def vc (rn:Option Nat) (n0 N:Nat) (c:Code):Sg→List AD→Hp→KQ→Prop:=
 Code.rec (motive:=fun _=>Sg→List AD→Hp→KQ→Prop)
  (fun σ ds H Q=>Q .normal σ ds H)
  (fun _ ops draw σ ds H Q=>match draw with
   | false=>vOps C rn.isSome N ops.toList ops.toList σ ds H (Q .normal) (fun ch=>Q (.panic ch))
   | true=>VDraw C rn.isSome n0 N ops.toList σ ds H (Q .normal) (fun ch=>Q (.panic ch)))
  (fun _ _ iha ihb σ ds H Q=>iha σ ds H fun e σ' ds' H'=>match e with
   | .normal=>ihb σ' ds' H' Q
   | e=>Q e σ' ds' H')
  (fun c _ _ iha ihb σ ds H Q=>match evl C σ c with
   | .p (.bool true)=>iha σ ds H Q
   | .p (.bool false)=>ihb σ ds H Q
   | _=>False)
  (fun id _ ih σ ds H Q=>ih σ ds H fun e σ' ds' H'=>match e with
   | .exit j=>match Nat.beq j id with
    | true=>Q .normal σ' ds' H'
    | false=>Q (.exit j) σ' ds' H'
   | e=>Q e σ' ds' H')
  (fun _ ih σ ds H Q=>LoopOK C n0 N (fun σ' ds' H' Q'=>ih σ' ds' H' Q') σ ds H Q)
  (fun f params asg bd _ _ σ ds H Q=>match fnOf (evl C σ f) with
   | some (.func g,first,cap)=>match rn with
    | none=>RangeOK C N g first cap (H.next+1) σ (.col H.next::ds) ((H.push ⟨0,false, .df⟩).push (loopRec H.next σ N params asg bd H.next)) Q
    | some l=>match lget H.l l with
     | some o=>match o.c with
      | .lp _ _ _ _ _ _ _ _ dn=>RangeOK C N g first cap H.next σ ds (H.push (loopRec H.next σ N params asg bd dn)) Q
      | _=>False
     | none=>False
   | _=>False)
  (fun id σ ds H Q=>Q (.exit id) σ ds H)
  (fun _ ih σ ds H Q=>ih σ ds H fun e σ' ds' H'=>match e with
   | .goto _=>False
   | e=>Q e σ' ds' H')
  (fun _ σ ds H Q=>Q .normal σ ds H)
  (fun l σ ds H Q=>Q (.goto l) σ ds H)
  (fun σ ds H Q=>Q .ret σ ds H)
  (fun _ _ _ _ _=>False) c
section
variable (rn:Option Nat) (n0 N:Nat) (σ:Sg) (ds:List AD) (H:Hp) (Q:KQ)
theorem vc_region (i:Nat) (ops:Array Oper) (draw:Bool):vc C rn n0 N (.region i ops draw) σ ds H Q=(match draw with
  | false=>vOps C rn.isSome N ops.toList ops.toList σ ds H (Q .normal) (fun ch=>Q (.panic ch))
  | true=>VDraw C rn.isSome n0 N ops.toList σ ds H (Q .normal) (fun ch=>Q (.panic ch))):=rfl
theorem vc_seq (a b:Code):vc C rn n0 N (.seq a b) σ ds H Q=(vc C rn n0 N a σ ds H fun e σ' ds' H'=>match e with
  | .normal=>vc C rn n0 N b σ' ds' H' Q
  | e=>Q e σ' ds' H'):=rfl
theorem vc_cond (c:Operand) (a b:Code):vc C rn n0 N (.cond c a b) σ ds H Q=(match evl C σ c with
  | .p (.bool true)=>vc C rn n0 N a σ ds H Q
  | .p (.bool false)=>vc C rn n0 N b σ ds H Q
  | _=>False):=rfl
theorem vc_block (id:Nat) (b:Code):vc C rn n0 N (.block id b) σ ds H Q=(vc C rn n0 N b σ ds H fun e σ' ds' H'=>match e with
  | .exit j=>match Nat.beq j id with
   | true=>Q .normal σ' ds' H'
   | false=>Q (.exit j) σ' ds' H'
  | e=>Q e σ' ds' H'):=rfl
theorem vc_loop (b:Code):vc C rn n0 N (.loop b) σ ds H Q=LoopOK C n0 N (fun σ' ds' H' Q'=>vc C rn n0 N b σ' ds' H' Q') σ ds H Q:=rfl
theorem vc_rangeFunc (f:Operand) (params:Array Tmp) (asg bd:Code):vc C rn n0 N (.rangeFunc f params asg bd) σ ds H Q=(match fnOf (evl C σ f) with
  | some (.func g,first,cap)=>match rn with
   | none=>RangeOK C N g first cap (H.next+1) σ (.col H.next::ds) ((H.push ⟨0,false, .df⟩).push (loopRec H.next σ N params asg bd H.next)) Q
   | some l=>match lget H.l l with
    | some o=>match o.c with
     | .lp _ _ _ _ _ _ _ _ dn=>RangeOK C N g first cap H.next σ ds (H.push (loopRec H.next σ N params asg bd dn)) Q
     | _=>False
    | none=>False
  | _=>False):=rfl
theorem vc_scope (b:Code):vc C rn n0 N (.scope b) σ ds H Q=(vc C rn n0 N b σ ds H fun e σ' ds' H'=>match e with
  | .goto _=>False
  | e=>Q e σ' ds' H'):=rfl
end
end
end Go.Proofs.YtkegmchjobphdaaGreatDoor.Y
namespace Go.Proofs.YtkegmchjobphdaaGreatDoor.Y
open Go
section
variable {C:Cx} {Γ:Gm} {H:Hp} {w:World}
theorem pl_plain {v:AV} {v':Value} (h:VR Γ v v') (hp:pl v=true):plainV v'=true:=by
 cases v with
 | p v=>
  cases v <;> simp only [VR,VP] at h
  case lst=>rcases h with ⟨_,_,_,rfl⟩ | ⟨_,_,_,_,_,rfl,_⟩ <;> rfl
  case lsts=>rcases h with ⟨_,_,_,rfl⟩ | ⟨_,_,_,_,_,rfl,_⟩ <;> rfl
  all_goals first
   | (subst h;rfl)
   | (obtain⟨_,_,_,_,rfl,_⟩:=h;rfl)
   | (obtain⟨_,_,_,rfl,_⟩:=h;rfl)
   | (obtain⟨_,rfl,_⟩:=h;first | rfl | (simp [pl] at hp))
 | ptr=>simp only [VR,PtrR] at h;obtain⟨_,_,_,rfl⟩:=h;rfl
 | ptd=>simp only [VR,PtrR] at h;obtain⟨_,_,_,rfl⟩:=h;rfl
 | sl=>simp only [VR,SlR] at h;obtain⟨_,_,_,⟨_,_,_,rfl⟩ | ⟨_,_,_,rfl,_⟩⟩:=h <;> rfl
 | mp=>simp only [VR] at h;obtain⟨_,_,rfl⟩:=h;rfl
 | fn=>simp only [VR] at h;obtain⟨_,_,_,rfl,_⟩:=h;rfl
 | iface=>simp only [VR] at h;obtain⟨_,rfl,_⟩:=h;rfl
 | agg=>simp [pl] at hp
 | tup=>simp [pl] at hp
 | anyp=>simp only [VR] at h;obtain⟨_,rfl⟩:=h;rfl
 | junk=>simp [pl] at hp
theorem pl_all {vs:List AV} {vs':List Value} (h:VRL Γ vs vs') (hp:vs.all pl=true):∀ v∈vs',plainV v=true:=by
 induction vs generalizing vs' with
 | nil=>simp only [VRL] at h;subst h;simp
 | cons x xs ih=>
  simp only [VRL] at h
  obtain⟨u,us,rfl,h1,h2⟩:=h
  simp only [List.all_cons,Bool.and_eq_true] at hp
  intro v hv
  rcases List.mem_cons.1 hv with rfl | hv
  ·exact pl_plain h1 hp.1
  ·exact ih h2 hp.2 v hv
def NV (C:Cx) (Γ:Gm) (H:Hp) (w:World) (K:KH) (v':Value) (w':World):Prop:=
 ∃ v H' Γ',K v H'∧VR Γ' v v'∧Later C H.next Γ H w Γ' H' w'
theorem run_newVar {P:Program} (t:TypeId) (v:Value):(newVar t v).run P w=.ok ⟨w.heap.size,0,none⟩ (w.alloc (.cells v.cells t)):=by
 rfl
theorem run_newRow {P:Program} (t:TypeId) (cs:Array Value):(newRow t cs).run P w=.ok ⟨w.heap.size,0,none⟩ (w.alloc (.cells cs t)):=by
 rfl
theorem push_cells (h:R C Γ H w) {t:TypeId} {s tc:Nat} {c:Cn} {us rest:List Value} (hc:isCells c=true) (hs:szOf C.P t=some s) (h0:0<s) (hv:VRL Γ (flat c) us) (hpl:∀ u∈us,plainV u=true)
  (hl:(us++rest).length=tc * s) (hz:Sized s tc c) :
  Later C H.next Γ H w (Γ.put H.next ⟨w.heap.size,s,tc,false⟩) (H.push ⟨t,false,c⟩) (w.alloc (.cells ⟨us++rest⟩ t)):=by
 refine h.push rfl rfl rfl ((ObjR_cells hc).2 (.inr ⟨rfl,us,rest,(0,0),heap_alloc_new w _, .inl (Nat.le_refl _),hs,h0,hl,VRL_mono (Gm.le_put (h.fresh _ (Nat.le_refl _))) _ _ hv,hpl,hz,fun e=>by cases e⟩))
theorem VR_ptrNext (q:Pl) (n:Nat) (hn:q.nl=false):VR (Γ.put n q) (.ptr n 0 0) (.pointer (some ⟨q.blk,0,none⟩)):=by
 simp only [VR]
 exact⟨q,Gm.put_same _ _ _,hn,by simp⟩
theorem VR_slNext (q:Pl) (n len:Nat) (hn:q.nl=false) (hl:len≤q.tc):VR (Γ.put n q) (.sl n q.s 0 len) (.slice (some ⟨q.blk,0,none⟩) len q.tc):=by
 simp only [VR]
 exact⟨q,Gm.put_same _ _ _,rfl, .inr ⟨hn,by omega,0,rfl, .inl (by simp)⟩⟩
theorem boxC_sound (h:R C Γ H w) {t:TypeId} {cs:List AV} {cs':Array Value} (hv:VRL Γ cs cs'.toList) {K:KH} (hk:eBoxC C t cs H K):NV C Γ H w K (.pointer (some ⟨w.heap.size,0,none⟩)) (w.alloc (.cells cs' t)):=by
 unfold eBoxC at hk
 split at hk <;> try exact hk.elim
 rename_i s hs
 split at hk <;> try exact hk.elim
 rename_i hc
 simp only [Bool.and_eq_true] at hc
 obtain⟨⟨h1,h2⟩,h3⟩:=hc
 have h1:0<s:=by simpa using h1
 have h2:=Nat.eq_of_beq_eq_true h2
 have hlen:=VRL_length hv
 have hL:=push_cells (rest:=[]) (tc:=1) (c:=.bx cs) h rfl hs h1 hv (pl_all hv h3) (by simp;simp at hlen;omega) ⟨h2,rfl⟩
 refine⟨_,_,Γ.put H.next ⟨w.heap.size,s,1,false⟩,hk,VR_ptrNext ⟨w.heap.size,s,1,false⟩ _ rfl,?_⟩
 simpa using hL
theorem alloc_sound (h:R C Γ H w) {t:TypeId} {K:KH} (hv:eAlloc C t H K):∃ v' w',(Instr.alloc t true (.tuple #[])).run C.P w=.ok v' w'∧NV C Γ H w K v' w':=by
 unfold eAlloc at hv
 split at hv <;> try exact hv.elim
 rename_i z hz
 obtain⟨z',hzr,hvl⟩:=zero_cells (Γ:=Γ) hz w
 exact⟨_,_,by simp [Instr.alloc,hzr,run_newVar],boxC_sound h hvl hv⟩
theorem box_sound (h:R C Γ H w) {t:TypeId} {x:AV} {x':Value} (hx:VR Γ x x') {K:KH} (hv:eBox C t x H K):∃ v' w',(Instr.box t x').run C.P w=.ok v' w'∧NV C Γ H w K v' w':=by
 unfold eBox at hv
 split at hv <;> try exact hv.elim
 rename_i hk
 exact⟨_,w.alloc (.cells x'.cells t),by simp [Instr.box,run_newVar],boxC_sound h (by rw [rCells_eq];exact vCells_VR hx hk) hv⟩
theorem cellsOf (h:R C Γ H w) {n:Nat} {o:AObj} {q:Pl} (hn:lget H.l n=some o) (hc:isCells o.c=true) (hq:Γ.nm n=some q) (hnl:q.nl=false):CellsR C.P Γ w q o:=by
 obtain⟨q',hq',ho⟩:=h.objs n o hn
 rw [hq] at hq'
 injection hq' with e
 subst e
 rcases (ObjR_cells hc).1 ho with ⟨e,_⟩ | ⟨_,e⟩
 ·rw [hnl] at e;cases e
 ·exact e
theorem spl_append {α:Type} {a b vs:List α} {k:Nat} (h:k+vs.length≤a.length):spl (a++b) k vs=spl a k vs++b:=by
 rw [spl_eq h,spl_eq (by simp;omega),List.take_append_of_le_length (by omega),List.drop_append_of_le_length h]
 simp
theorem store_gen (h:R C Γ H w) {n:Nat} {o:AObj} {q:Pl} {k:Nat} {vs:List AV} {vs':List Value} {c':Cn} (hn:lget H.l n=some o) (hfr:o.fr=false) (hc:isCells o.c=true) (hq:Γ.nm n=some q) (hnl:q.nl=false)
  (hk:k+vs.length≤(flat o.c).length) (hv:VRL Γ vs vs') (hp:∀ v∈vs',plainV v=true) (hc':isCells c'=true) (hf:flat c'=spl (flat o.c) k vs) (hz:Sized q.s q.tc c') :
  ∃ w',(storeCells ⟨q.blk,k,none⟩ vs').run C.P w=.ok () w'∧Later C H.next Γ H w Γ { H with l:=lset H.l n { o with c:=c' } } w':=by
 obtain⟨us,rest,z,h1,h2,h3,h3',h4,h5,h6,h7,h8⟩:=cellsOf h hn hc hq hnl
 have hlv:=VRL_length hv
 have hlu:=VRL_length h5
 have hrun:=run_storeN (P:=C.P) q.blk o.t z vs' k 0 w ⟨us++rest⟩ h1 h2 (by simp;omega) hp
 rw [Nat.add_zero] at hrun
 have hsp:spl (us++rest) k vs'=spl us k vs'++rest:=spl_append (by omega)
 simp only [hsp] at hrun
 refine⟨_,hrun,h.repl hn hfr hq hnl (o':={ o with c:=c' }) hfr ((ObjR_cells (o:={ o with c:=c' }) hc').2 (.inr ⟨hnl,spl us k vs',rest,z,putBlk_same h1,?_,h3,h3',?_,?_,?_,hz,fun e=>?_⟩))⟩
 ·simpa [spl_length] using h2
 ·simpa [spl_length] using h4
 ·show VRL Γ (flat c') _
  rw [hf]
  exact VRL_spl _ h5 hv
 ·intro u hu
  obtain⟨i,hi⟩:=List.getElem?_of_mem hu
  rw [spl_get] at hi
  split at hi
  ·exact hp u (List.mem_of_getElem? hi)
  ·exact h6 u (List.mem_of_getElem? hi)
 ·simp only at e
  rw [hfr] at e
  cases e
theorem flatten_set {α:Type} {s:Nat}:∀ {xss:List (List α)},(∀ cs∈xss,cs.length=s)→∀ {i f:Nat} {cs ps:List α},xss[i]?=some cs→f+ps.length≤cs.length→(xss.set i (spl cs f ps)).flatten=spl xss.flatten (i * s+f) ps
 | [],_,i,f,cs,ps,h,_=>by simp at h
 | c::xss,hs,0,f,cs,ps,h,hl=>by
  simp only [List.getElem?_cons_zero,Option.some.injEq] at h
  subst h
  simp only [List.set_cons_zero,List.flatten_cons,Nat.zero_mul,Nat.zero_add]
  rw [spl_append hl]
 | c::xss,hs,i+1,f,cs,ps,h,hl=>by
  simp only [List.getElem?_cons_succ] at h
  have ih:=flatten_set (fun c hc=>hs c (by simp [hc])) h hl
  have hlc:=hs c (by simp)
  obtain⟨_,e2⟩:=flatten_get (fun c hc=>hs c (by simp [hc])) h
  have hcs:cs.length=s:=hs cs (by simp [List.mem_of_getElem? h])
  simp only [List.set_cons_succ,List.flatten_cons,ih]
  have e:(i+1) * s+f=c.length+(i * s+f):=by rw [hlc,Nat.succ_mul];omega
  rw [e,spl_eq (l:=xss.flatten) (by omega),spl_eq (l:=c++xss.flatten) (by rw [List.length_append];omega),List.take_append,List.drop_append]
  rw [List.take_of_length_le (l:=c) (by omega),show List.drop (c.length+(i * s+f)+ps.length) c=[] from List.drop_eq_nil_of_le (by omega)]
  have e1:c.length+(i * s+f) - c.length=i * s+f:=by omega
  have e2:c.length+(i * s+f)+ps.length - c.length=i * s+f+ps.length:=by omega
  rw [e1,e2]
  simp
theorem vCells_pl {v:AV} (h:pl v=true):vCells v=[v]:=by
 cases v with
 | p v=>cases v <;> first | rfl | (simp [pl] at h)
 | agg=>simp [pl] at h
 | _=>rfl
theorem mapsP_eq:∀ xss:List (List PV),mapsP xss=xss.map fun cs=>cs.map .p
 | []=>rfl
 | cs::r=>by rw [mapsP,mapsP_eq r];rfl
theorem mapsP_flat (xss:List (List PV)):(mapsP xss).flatten=xss.flatten.map .p:=by rw [mapsP_eq,List.map_flatten]
theorem mapsP_sized {xss:List (List PV)} {s:Nat} (h:∀ cs∈xss,cs.length=s):∀ cs∈mapsP xss,cs.length=s:=by
 rw [mapsP_eq]
 intro cs hc
 obtain⟨c,hc',rfl⟩:=List.mem_map.1 hc
 rw [List.length_map];exact h c hc'
theorem mapsP_get {xss:List (List PV)} {i:Nat} {cs:List PV} (h:xss[i]?=some cs):(mapsP xss)[i]?=some (cs.map .p):=by rw [mapsP_eq,List.getElem?_map,h];rfl
theorem mapsP_length (xss:List (List PV)):(mapsP xss).length=xss.length:=by rw [mapsP_eq,List.length_map]
theorem set_sized {α:Type} {xss:List (List α)} {s i:Nat} {x:List α} (h:∀ cs∈xss,cs.length=s) (hx:x.length=s):∀ cs∈xss.set i x,cs.length=s:=by
 intro c hc
 rcases List.mem_or_eq_of_mem_set hc with hc | rfl
 ·exact h c hc
 ·exact hx
theorem store_sound (h:R C Γ H w) {t:TypeId} {a x:AV} {a' x':Value} (ha:VR Γ a a') (hx:VR Γ x x') {K:KH} (hv:eStore C t a x H K) :
  ∃ w',(Instr.storeAt t a' x').run C.P w=.ok () w'∧NV C Γ H w K undef w':=by
 unfold eStore at hv
 split at hv <;> try exact hv.elim
 rename_i s hs
 split at hv <;> try exact hv.elim
 rename_i hk
 simp only [Bool.and_eq_true] at hk
 obtain⟨⟨h2,h3a⟩,h4⟩:=hk
 have h3:=Nat.eq_of_beq_eq_true h3a
 clear h3a
 have hvl:VRL Γ (vCells x) (rCells x'):=vCells_VR hx h2
 have hsz:x'.cells.size=s:=by
  rw [← Array.length_toList,rCells_eq,VRL_length hvl,h3]
 have hl:x'.cells.toList=rCells x':=rCells_eq x'
 have fin:∀ {n:Nat} {o:AObj} {q:Pl} {k:Nat} {c':Cn},lget H.l n=some o→o.fr=false→isCells o.c=true→Γ.nm n=some q→q.nl=false→k+(vCells x).length≤(flat o.c).length→isCells c'=true→flat c'=spl (flat o.c) k (vCells x)→Sized q.s q.tc c' →
   K und { H with l:=lset H.l n { o with c:=c' } }→a'=.pointer (some ⟨q.blk,k,none⟩)→∃ w',(Instr.storeAt t a' x').run C.P w=.ok () w'∧NV C Γ H w K undef w':=by
  intro n o q k c' hn hfr hc hq hnl hk hc' hf hz hK ha'
  obtain⟨w',hr,hL⟩:=store_gen h hn hfr hc hq hnl hk hvl (pl_all hvl h4) hc' hf hz
  refine⟨w',?_,und,_,Γ,hK,VR_undef Γ,hL⟩
  subst ha'
  simp [Instr.storeAt,Instr.sureAddr,storeVar,run_szOf hs,hsz,hl,hr]
 have szd:∀ {n:Nat} {o:AObj} {q:Pl},lget H.l n=some o→isCells o.c=true→Γ.nm n=some q→q.nl=false→Sized q.s q.tc o.c:=by
  intro n o q hn hc hq hnl
  obtain⟨us,rest,z,g1,g2,g3,g3',g4,g5,g6,g7,g8⟩:=cellsOf h hn hc hq hnl
  exact g7
 split at hv
 ·rename_i n i f
  simp only [VR] at ha
  obtain⟨q,hq,hnl,ha'⟩:=ha
  split at hv <;> try exact hv.elim
  rename_i o ho
  split at hv <;> try exact hv.elim
  rename_i hfr
  split at hv <;> try exact hv.elim
  ·rename_i cs hc
   split at hv <;> try exact hv.elim
   rename_i hcc
   simp only [Bool.and_eq_true] at hcc
   have hi:=Nat.eq_of_beq_eq_true hcc.1
   have hle:=Nat.le_of_ble_eq_true hcc.2
   subst hi
   have hS:=szd ho (by rw [hc];rfl) hq hnl
   rw [hc] at hS
   exact fin (k:=f) (c':=.bx (spl cs f (vCells x))) ho hfr (by rw [hc];rfl) hq hnl (by rw [hc,h3];exact hle) rfl (by rw [hc];rfl) ⟨by rw [spl_length];exact hS.1,hS.2⟩ hv (by rw [ha'];simp)
  ·rename_i xs hc
   split at hv <;> try exact hv.elim
   rename_i _ y hf0
   simp only [Bool.and_eq_true] at hf0
   have hcell:vCells (.p y)=[.p y]:=vCells_pl hf0.2
   have hf0:=Nat.eq_of_beq_eq_true hf0.1
   subst hf0
   have hS:=szd ho (by rw [hc];rfl) hq hnl
   rw [hc] at hS
   simp only [Sized] at hS
   refine fin (k:=i) ho hfr (by rw [hc];rfl) hq hnl ?_ (c':=.pu (xs.set i y)) rfl ?_ hS hv.2 (by rw [ha',hS];simp)
   ·rw [hc,hcell];simp only [flat,List.length_map,List.length_cons,List.length_nil];have:=hv.1;omega
   ·rw [hc,hcell];simp only [flat];rw [spl_one,List.map_set]
   rename_i y _ z hne hf0
   simp only [Bool.and_eq_true] at hf0
   have hcell:vCells y=[y]:=vCells_pl hf0.2
   have hf0:=Nat.eq_of_beq_eq_true hf0.1
   subst hf0
   have hS:=szd ho (by rw [hc];rfl) hq hnl
   rw [hc] at hS
   simp only [Sized] at hS
   refine fin (k:=i) ho hfr (by rw [hc];rfl) hq hnl ?_ (c':=.mx (spl (xs.map .p) i [y])) rfl ?_ hS hv.2 (by rw [ha',hS];simp)
   ·rw [hc,hcell];simp only [flat,List.length_map,List.length_cons,List.length_nil];have:=hv.1;omega
   ·rw [hc,hcell];rfl
  ·rename_i xss hc
   split at hv
   ·rename_i ps hps
    obtain⟨cs,hcs,hle,hK⟩:=hv
    have hS:=szd ho (by rw [hc];rfl) hq hnl
    rw [hc] at hS
    simp only [Sized] at hS
    have hpl:=allP_some hps
    have hlp:ps.length=s:=by rw [← h3,hpl];simp
    obtain⟨e1,e2⟩:=flatten_get hS hcs
    have hcl:cs.length=q.s:=hS cs (List.mem_of_getElem? hcs)
    refine fin (k:=i * q.s+f) ho hfr (by rw [hc];rfl) hq hnl ?_ (c':=.pus (xss.set i (spl cs f ps))) rfl ?_ ?_ hK ha'
    ·rw [hc,h3];simp only [flat,List.length_map];omega
    ·rw [hc];simp only [flat]
     rw [flatten_set hS hcs (by omega),hpl]
     have:∀ (l vs:List PV) (k:Nat),(spl l k vs).map AV.p=spl (l.map .p) k (vs.map .p):=by
      intro l vs k
      apply List.ext_getElem?
      intro j
      rw [List.getElem?_map,spl_get,spl_get]
      simp only [List.length_map,List.getElem?_map]
      split <;> rfl
     exact this _ _ _
    ·intro c hcm
     obtain⟨j,hj⟩:=List.getElem?_of_mem hcm
     rw [List.getElem?_set] at hj
     split at hj
     ·split at hj
      ·injection hj with hj;subst hj;rw [spl_length];exact hcl
      ·cases hj
     ·exact hS c (List.mem_of_getElem? hj)
   ·obtain⟨cs,hcs,hle,hK⟩:=hv
    have hS:=szd ho (by rw [hc];rfl) hq hnl
    rw [hc] at hS
    simp only [Sized] at hS
    obtain⟨e1,e2⟩:=flatten_get hS hcs
    have hcl:cs.length=q.s:=hS cs (List.mem_of_getElem? hcs)
    refine fin (k:=i * q.s+f) ho hfr (by rw [hc];rfl) hq hnl ?_ (c':=.mxs ((mapsP xss).set i (spl (cs.map .p) f (vCells x)))) rfl ?_ ?_ hK ha'
    ·rw [hc,h3];simp only [flat,List.length_map];omega
    ·rw [hc];simp only [flat]
     rw [flatten_set (mapsP_sized hS) (mapsP_get hcs) (by rw [List.length_map,h3];omega),mapsP_flat]
    ·exact set_sized (mapsP_sized hS) (by rw [spl_length,List.length_map];exact hcl)
  ·rename_i xs hc
   split at hv <;> try exact hv.elim
   rename_i hcc
   simp only [Bool.and_eq_true] at hcc
   have hf0:=Nat.eq_of_beq_eq_true hcc.1.1
   have hlt:i<xs.length:=by simpa using hcc.1.2
   have hcell:=vCells_pl hcc.2
   subst hf0
   have hS:=szd ho (by rw [hc];rfl) hq hnl
   rw [hc] at hS
   simp only [Sized] at hS
   refine fin (k:=i) ho hfr (by rw [hc];rfl) hq hnl ?_ (c':=.mx (spl xs i [x])) rfl ?_ hS hv (by rw [ha',hS];simp)
   ·rw [hc,hcell];simp only [flat,List.length_cons,List.length_nil];omega
   ·rw [hc,hcell];rfl
  ·rename_i xss hc
   obtain⟨cs,hcs,hle,hK⟩:=hv
   have hS:=szd ho (by rw [hc];rfl) hq hnl
   rw [hc] at hS
   simp only [Sized] at hS
   obtain⟨e1,e2⟩:=flatten_get hS hcs
   have hcl:cs.length=q.s:=hS cs (List.mem_of_getElem? hcs)
   refine fin (k:=i * q.s+f) ho hfr (by rw [hc];rfl) hq hnl ?_ (c':=.mxs (xss.set i (spl cs f (vCells x)))) rfl ?_ ?_ hK ha'
   ·rw [hc,h3];simp only [flat];omega
   ·rw [hc];simp only [flat]
    rw [flatten_set hS hcs (by omega)]
   ·exact set_sized hS (by rw [spl_length];exact hcl)
 ·rename_i n i f
  simp only [VR] at ha
  obtain⟨q,hq,hnl,ha'⟩:=ha
  split at hv <;> try exact hv.elim
  rename_i o ho
  split at hv <;> try exact hv.elim
  rename_i hfr
  split at hv <;> try exact hv.elim
  rename_i cs hc
  split at hv <;> try exact hv.elim
  rename_i hi
  have hi:=Nat.eq_of_beq_eq_true hi
  subst hi
  have hS:=szd ho (by rw [hc];rfl) hq hnl
  rw [hc] at hS
  exact fin (k:=f) (c':=.bx (spl cs f (vCells x))) ho hfr (by rw [hc];rfl) hq hnl (by rw [hc,h3];exact hv.1) rfl (by rw [hc];rfl) ⟨by rw [spl_length];exact hS.1,hS.2⟩ hv.2 (by rw [ha'];simp)
 ·exact hv.elim
end
end Go.Proofs.YtkegmchjobphdaaGreatDoor.Y
namespace Go.Proofs.YtkegmchjobphdaaGreatDoor.Y
open Go
section
variable {C:Cx} {Γ:Gm} {H:Hp} {w:World}
theorem mkz_length {α:Type} (n:Nat) (z:List α):(mkz n z).length=n * z.length:=by
 induction n with
 | zero=>simp [mkz]
 | succ n ih=>simp [mkz,ih,Nat.succ_mul,Nat.add_comm]
theorem mkz_get {α:Type} (n:Nat) (z:List α) (i:Nat) (h:i<n * z.length):(mkz n z)[i]?=z[i % z.length]?:=by
 induction n generalizing i with
 | zero=>simp at h
 | succ n ih=>
  simp only [mkz]
  by_cases hi:i<z.length
  ·rw [List.getElem?_append_left hi,Nat.mod_eq_of_lt hi]
  ·rw [List.getElem?_append_right (by omega),ih _ (by rw [Nat.succ_mul] at h;omega)]
   congr 1
   rw [Nat.mod_eq_sub_mod (a:=i) (by omega)]
theorem range_mkz (n:Nat) (z:Array Value):((Array.range (n * z.size)).map (z[· % z.size]!)).toList=mkz n z.toList:=by
 apply List.ext_getElem?
 intro i
 have hl:(mkz n z.toList).length=n * z.size:=by rw [mkz_length];simp
 by_cases hi:i<n * z.size
 ·rw [mkz_get n z.toList i (by simpa using hi)]
  have hp:0<z.size:=by
   rcases Nat.eq_zero_or_pos z.size with h0 | h0
   ·rw [h0] at hi;simp at hi
   ·exact h0
  have hm:i % z.size<z.size:=Nat.mod_lt _ hp
  simp [hi,hm]
 ·rw [List.getElem?_eq_none (by simp;omega),List.getElem?_eq_none (by omega)]
theorem VRL_mkz {z:List AV} {z':List Value} (h:VRL Γ z z') (n:Nat):VRL Γ (mkz n z) (mkz n z'):=by
 induction n with
 | zero=>rfl
 | succ n ih=>exact VRL_append h ih
theorem mkz_all {z:List AV} (h:z.all pl=true) (n:Nat):(mkz n z).all pl=true:=by
 induction n with
 | zero=>rfl
 | succ n ih=>simp [mkz,h,ih]
theorem mkz_take {α:Type} (z:List α):∀ (l c:Nat),l≤c→∃ r,mkz c z=mkz l z++r∧r.length=(c - l) * z.length
 | 0,c,_=>⟨mkz c z,by simp [mkz],by simp [mkz_length]⟩
 | l+1,0,h=>by omega
 | l+1,c+1,h=>by
  obtain⟨r,h1,h2⟩:=mkz_take z l c (by omega)
  exact⟨r,by simp [mkz,h1],by rw [h2];congr 1;omega⟩
theorem chunks_flat {α:Type} {s:Nat}:∀ (n:Nat) (l:List α),l.length=n * s→(chunks s n l).flatten=l∧∀ c∈chunks s n l,c.length=s
 | 0,l,h=>by simp at h;subst h;simp [chunks]
 | n+1,l,h=>by
  obtain⟨h1,h2⟩:=chunks_flat (s:=s) n (l.drop s) (by rw [List.length_drop,h,Nat.succ_mul];omega)
  simp only [chunks,List.flatten_cons,h1,List.take_append_drop,true_and]
  intro c hc
  rcases List.mem_cons.1 hc with rfl | hc
  ·rw [List.length_take,h,Nat.succ_mul];omega
  ·exact h2 c hc
theorem cnOf_spec {s len:Nat} {cs:List AV} {c:Cn} (h:cnOf s len cs=some c) (hl:cs.length=len * s):isCells c=true∧flat c=cs∧∀ tc,Sized s tc c:=by
 unfold cnOf at h
 split at h
 ·rename_i ps hps
  have e:=allP_some hps
  split at h
  ·rename_i hb
   injection h with h
   subst h
   exact⟨rfl,e.symm,fun _=>Nat.eq_of_beq_eq_true hb⟩
  ·injection h with h
   subst h
   obtain⟨h1,h2⟩:=chunks_flat (s:=s) len ps (by rw [← hl,e];simp)
   exact⟨rfl,by simp only [flat,h1,e],fun _=>h2⟩
 ·split at h
  ·rename_i hb
   injection h with h
   subst h
   exact⟨rfl,rfl,fun _=>Nat.eq_of_beq_eq_true hb⟩
  ·injection h with h
   subst h
   obtain⟨h1,h2⟩:=chunks_flat (s:=s) len cs hl
   exact⟨rfl,by simp only [flat,h1],fun _=>h2⟩
theorem bld_length {ev:Operand→AV} {place:Nat→Option (Nat × Nat)}:∀ {parts:List (Nat × Operand)} {cs r:List AV},bld ev place cs parts=some r→r.length=cs.length
 | [],cs,r,h=>by simp only [bld,Option.some.injEq] at h;rw [h]
 | (i,x)::rest,cs,r,h=>by
  simp only [bld] at h
  split at h
  ·cases h
  ·split at h
   ·rw [bld_length h,spl_length]
   ·cases h
theorem buildSlice_sound (h:R C Γ H w) {t:TypeId} {len:Nat} {parts:Array (Nat × Operand)} {ev:Operand→AV} {ev':Operand→Value} (hev:∀ x,VR Γ (ev x) (ev' x)) {K:KH} (hv:eBuild C t len parts.toList ev H K) :
  ∃ v' w',(Instr.buildSlice t len (parts.map fun p=>(p.1,ev' p.2))).run C.P w=.ok v' w'∧NV C Γ H w K v' w':=by
 unfold eBuild at hv
 split at hv <;> try exact hv.elim
 rename_i e hu
 split at hv <;> try exact hv.elim
 rename_i s z hs hz
 split at hv <;> try exact hv.elim
 rename_i hc
 simp only [Bool.and_eq_true] at hc
 obtain⟨⟨⟨h1,h2⟩,h3⟩,h4⟩:=hc
 have h1:=Nat.le_of_ble_eq_true h1
 have h2:=Nat.eq_of_beq_eq_true h2
 have h3:0<s:=by simpa using h3
 split at hv <;> try exact hv.elim
 rename_i cs hb
 split at hv <;> try exact hv.elim
 rename_i c hpl hcn
 obtain⟨z',hzr,hvz⟩:=zero_cells (Γ:=Γ) hz w
 have hzs:z'.cells.size=s:=by rw [← Array.length_toList,VRL_length hvz,h2]
 have hmk:VRL Γ (mkz len (vCells (.p z))) ((Array.range (len * s)).map (z'.cells[· % z'.cells.size]!)).toList:=by
  have:=range_mkz len z'.cells
  rw [hzs] at this
  rw [hzs,this]
  exact VRL_mkz hvz len
 obtain⟨r',h5,h6⟩:=bld_sound (Γ:=Γ) hev parts.toList (List.all_eq_true.1 h4) hmk hb
 have hcl:cs.length=len * s:=by rw [bld_length hb,mkz_length,h2]
 obtain⟨c1,c2,c3⟩:=cnOf_spec hcn hcl
 have hrl:=VRL_length h6
 have hL:=push_cells (rest:=[]) (tc:=len) (c:=c) (us:=r'.toList) h c1 hs h3 (by rw [c2];exact h6) (pl_all h6 hpl) (by simp;simp at hrl;omega) (c3 _)
 refine⟨.slice (some ⟨w.heap.size,0,none⟩) len len,w.alloc (.cells r' e),?_,_,_,_,hv,VR_slNext ⟨w.heap.size,s,len,false⟩ H.next len rfl (Nat.le_refl _),by simpa using hL⟩
 have hnot:¬ (len * s > 2 ^ 24):=by omega
 by_cases h0:len * s=0
 ·have h5':Instr.fill (fun i=>some (i * s,s)) #[] (parts.map fun p=>(p.1,ev' p.2)).toList=some r':=by
   rw [h0] at h5
   simpa [Array.range_zero'] using h5
  simp only [Array.toList_map] at h5'
  simp [Instr.buildSlice,run_underlying hu,run_szOf hs,h0,Array.range_zero',h5',run_newRow]
 ·have h5':Instr.fill (fun i=>some (i * s,s)) ((Array.range (len * s)).map (z'.cells[· % z'.cells.size]!)) (parts.map fun p=>(p.1,ev' p.2)).toList=some r':=by simpa using h5
  simp only [Array.toList_map] at h5'
  simp [Instr.buildSlice,run_underlying hu,run_szOf hs,hnot,hzr,h5',run_newRow]
  intro hc
  exact absurd hc h0
theorem info_of {t:TypeId} {s b:Nat} {z:PV} (hs:szOf C.P t=some s) (hz:zeroOf C.P t=some z) (hb:byOf C t=some b):∃ i z',C.P.info? t=some i∧i.size=s∧i.zero=some z'∧absV z'=some z∧i.bytes=b:=by
 obtain⟨i,h1,h2⟩:=szOf_info hs
 obtain⟨i',z',h3,h4,h5⟩:=zero_info hz
 rw [h1] at h3
 injection h3 with h3
 subst h3
 refine⟨i,z',h1,h2,h4,h5,?_⟩
 unfold byOf at hb
 rw [h1] at hb
 simpa using hb
theorem abs_cells {z:PV} {z':Value} (h:absV z'=some z):VRL Γ (vCells (.p z)) z'.cells.toList:=by
 rw [rCells_eq];exact vCells_VR (by simp only [VR];exact VP_abs _ _ _ h) rfl
theorem wrap_i64 {n:Int} (h0:-9223372036854775808≤n) (h1:n≤9223372036854775807):n=IntKind.i64.wrap n:=by
 rw [IntKind.wrap_i64]
 omega
theorem mkz_one {z:PV} (n:Nat):mkz n [AV.p z]=(List.replicate n z).map .p:=by
 induction n with
 | zero=>rfl
 | succ n ih=>simp [mkz,ih,List.replicate_succ]
theorem mkz_many {zs:List PV} (n:Nat):mkz n (zs.map AV.p)=((List.replicate n zs).flatten).map .p:=by
 induction n with
 | zero=>rfl
 | succ n ih=>simp [mkz,ih,List.replicate_succ]
theorem vCells_pCells (z:PV):vCells (.p z)=(pCells z).map .p:=by cases z <;> rfl
theorem makeSlice_sound (h:R C Γ H w) {t:TypeId} {l c:AV} {l' c':Value} (hl:VR Γ l l') (hc:VR Γ c c') {K:KH} (hv:eMake C t l c H K) :
  ∃ v' w',(Instr.makeSlice t l' c').run C.P w=.ok v' w'∧NV C Γ H w K v' w':=by
 unfold eMake at hv
 split at hv <;> try exact hv.elim
 rename_i e k l k' c hu
 simp only [VR,VP] at hl hc
 subst hl;subst hc
 split at hv <;> try exact hv.elim
 rename_i s z b hs hz hb
 split at hv <;> try exact hv.elim
 rename_i hcc
 simp only [Bool.and_eq_true] at hcc
 obtain⟨⟨h1,h2⟩,h3⟩:=hcc
 have h1:=Nat.eq_of_beq_eq_true h1
 have h2:0<s:=by simpa using h2
 obtain⟨⟨g0,g1,g2,g3⟩,hK⟩:=hv
 obtain⟨i,z',i1,i2,i3,iz,i4⟩:=info_of hs hz hb
 have hvz:VRL Γ (vCells (.p z)) z'.cells.toList:=abs_cells iz
 have hzs:z'.cells.size=s:=by rw [← Array.length_toList,VRL_length hvz,h1]
 obtain⟨r,hr1,hr2⟩:=mkz_take z'.cells.toList l.toNat c.toNat (by omega)
 have hr:=run_make (P:=C.P) w t e i z' hu i1 i3 k k' l c g0 g1 (by rw [i4,Int.mul_comm];exact g2) (by omega)
 rw [i2] at hr
 have harr:((Array.range (c.toNat * s)).map (z'.cells[· % z'.cells.size]!))=⟨mkz l.toNat z'.cells.toList++r⟩:=by
  apply Array.ext'
  have:=range_mkz c.toNat z'.cells
  rw [hzs] at this
  rw [hzs,this,hr1]
 have hlen:(mkz l.toNat z'.cells.toList++r).length=c.toNat * s:=by rw [← hr1,mkz_length];simp [hzs]
 have key:∀ (cn:Cn),isCells cn=true→flat cn=mkz l.toNat (vCells (.p z))→Sized s c.toNat cn→K (.sl H.next s 0 l.toNat) (H.push ⟨e,false,cn⟩)→∃ v' w',(Instr.makeSlice t (.int k l) (.int k' c)).run C.P w=.ok v' w'∧NV C Γ H w K v' w':=by
  intro cn c1 c2 c3 hK
  have hL:=push_cells (rest:=r) (tc:=c.toNat) (c:=cn) (us:=mkz l.toNat z'.cells.toList) h c1 hs h2 (by rw [c2];exact VRL_mkz hvz _) (pl_all (VRL_mkz hvz _) (mkz_all h3 _)) hlen c3
  refine⟨_,_,hr,_,_,_,hK,VR_slNext (Γ:=Γ) ⟨w.heap.size,s,c.toNat,false⟩ H.next l.toNat rfl (by show l.toNat≤c.toNat;omega),?_⟩
  rw [show madeCells z'.cells (c.toNat * s)=⟨mkz l.toNat z'.cells.toList++r⟩ from harr]
  exact hL
 split at hK
 ·rename_i hb1
  simp only [Bool.and_eq_true] at hb1
  have this:=vCells_pl hb1.2
  have hb1:=Nat.eq_of_beq_eq_true hb1.1
  subst hb1
  refine key (.pu (List.replicate l.toNat z)) rfl ?_ rfl hK
  rw [this,mkz_one];rfl
 ·refine key (.pus (List.replicate l.toNat (pCells z))) rfl ?_ ?_ hK
  ·rw [vCells_pCells,mkz_many];rfl
  ·intro cs hcs
   rw [List.mem_replicate] at hcs
   rw [hcs.2,← h1,vCells_pCells]
   simp
theorem R.mark:∀ {fs:List Nat} {Γ:Gm} {H:Hp},R C Γ H w→marksOK H.l fs=true→∃ Γ',Γ'.nm=Γ.nm∧Later C H.next Γ H w Γ' (H.mrk fs) w
 | [],Γ,H,h,_=>⟨Γ,rfl,Later.refl h _ (Nat.le_refl _)⟩
 | n::r,Γ,H,h,hm=>by
  simp only [marksOK] at hm
  split at hm
  ·rename_i o ho
   simp only [Bool.and_eq_true] at hm
   obtain⟨Γ1,e1,hL1⟩:=h.freeze ho hm.1
   obtain⟨Γ2,e2,hL2⟩:=R.mark (H:={ H with l:=lset H.l n { o with fr:=true } }) hL1.1 hm.2
   refine⟨Γ2,e2.trans e1,?_⟩
   have:=hL1.trans hL2
   simpa only [Hp.mrk,marks,ho] using this
  ·cases hm
theorem VPL_nil {fz:Fzn}:VPL fz [] []:=by simp only [VPL]
theorem ResL_sound {f:AV→PV→Prop} (hf:∀ v x v',f v x→VR Γ v v'→VP Γ.fz x v'):∀ {vs:List AV} {ys:List PV} {vs':List Value},ResL f vs ys→VRL Γ vs vs'→VPL Γ.fz ys vs'
 | [],ys,vs',h,hv=>by simp only [ResL] at h;simp only [VRL] at hv;subst h;subst hv;exact VPL_nil
 | v::vs,ys,vs',h,hv=>by
  simp only [ResL] at h
  simp only [VRL] at hv
  obtain⟨y,ys',rfl,h1,h2⟩:=h
  obtain⟨u,us,rfl,h3,h4⟩:=hv
  simp only [VPL]
  exact⟨u,us,rfl,hf v y u h1 h3,ResL_sound hf h2 h4⟩
theorem flatten_length {α:Type} {s:Nat} {xss:List (List α)} (h:∀ cs∈xss,cs.length=s):xss.flatten.length=xss.length * s:=by
 induction xss with
 | nil=>simp
 | cons c xss ih=>
  rw [List.flatten_cons,List.length_append,ih (fun c hc=>h c (by simp [hc])),h c (by simp),List.length_cons,Nat.succ_mul]
  omega
theorem seg_of {us rest vs:List Value} {k n:Nat} (hp:∀ u∈us,plainV u=true) (hv:vs=(us.drop k).take n) (hk:k≤us.length):Seg (us++rest) k vs:=by
 subst hv
 have:Seg (us++rest) 0 us:=⟨[],rest,rfl,rfl,hp⟩
 simpa using this.sub k n hk
theorem nilAs_sound {fz:Fzn} {y x:PV} {v:Value} (h:nilAs y x) (hv:VP fz y v):VP fz x v:=by
 by_cases hy:y=.nils
 ·subst hy
  simp only [nilAs] at h
  simp only [VP] at hv
  subst hv
  rcases h with rfl | rfl | ⟨s,rfl⟩
  ·simp only [VP]
  ·simp only [VP];exact .inl ⟨trivial,_,_,rfl⟩
  ·simp only [VP];exact .inl ⟨trivial,_,_,rfl⟩
 ·have:x=y:=by cases y <;> simp only [nilAs] at h <;> first | exact h | exact absurd rfl hy
  subst this
  exact hv
theorem nilAsL_sound {fz:Fzn}:∀ {ys xs:List PV} {vs:List Value},nilAsL ys xs→VPL fz ys vs→VPL fz xs vs
 | [],xs,vs,h,hv=>by simp only [nilAsL] at h;subst h;exact hv
 | y::ys,xs,vs,h,hv=>by
  simp only [nilAsL] at h
  obtain⟨z,zs,rfl,h1,h2⟩:=h
  simp only [VPL] at hv ⊢
  obtain⟨u,us,rfl,h3,h4⟩:=hv
  exact⟨u,us,rfl,nilAs_sound h1 h3,nilAsL_sound h2 h4⟩
theorem nilAsL_refl:∀ ys:List PV,nilAsL ys ys
 | []=>rfl
 | y::ys=>⟨y,ys,rfl,by cases y <;> first | exact .inl rfl | rfl,nilAsL_refl ys⟩
theorem ResL_len {f:AV→PV→Prop}:∀ {vs:List AV} {ys:List PV},ResL f vs ys→ys.length=vs.length
 | [],ys,h=>by simp only [ResL] at h;subst h;rfl
 | v::vs,ys,h=>by
  simp only [ResL] at h
  obtain⟨y,ys',rfl,_,h2⟩:=h
  simp [ResL_len h2]
theorem ResL_app {f:AV→PV→Prop}:∀ {a b:List AV} {x y:List PV},ResL f a x→ResL f b y→ResL f (a++b) (x++y)
 | [],b,x,y,h,k=>by simp only [ResL] at h;subst h;exact k
 | v::a,b,x,y,h,k=>by
  simp only [ResL] at h
  obtain⟨z,zs,rfl,h1,h2⟩:=h
  simp only [List.cons_append,ResL]
  exact⟨z,zs++y,rfl,h1,ResL_app h2 k⟩
theorem ResLL_flat {f:AV→PV→Prop}:∀ {vss:List (List AV)} {yss:List (List PV)},ResLL f vss yss→ResL f vss.flatten yss.flatten
 | [],yss,h=>by simp only [ResLL] at h;subst h;rfl
 | v::vss,yss,h=>by
  simp only [ResLL] at h
  obtain⟨y,ys,rfl,h1,h2⟩:=h
  simp only [List.flatten_cons]
  exact ResL_app h1 (ResLL_flat h2)
theorem ResLL_len {f:AV→PV→Prop}:∀ {vss:List (List AV)} {yss:List (List PV)},ResLL f vss yss→yss.length=vss.length∧∀ {s:Nat},(∀ cs∈vss,cs.length=s)→∀ ys∈yss,ys.length=s
 | [],yss,h=>by simp only [ResLL] at h;subst h;exact⟨rfl,fun _ _ h=>by simp at h⟩
 | v::vss,yss,h=>by
  simp only [ResLL] at h
  obtain⟨y,ys,rfl,h1,h2⟩:=h
  obtain⟨i1,i2⟩:=ResLL_len h2
  refine⟨by simp [i1],fun hs z hz=>?_⟩
  rcases List.mem_cons.1 hz with rfl | hz
  ·rw [ResL_len h1];exact hs v (by simp)
  ·exact i2 (fun cs hc=>hs cs (by simp [hc])) z hz
theorem Res_sound (h:R C Γ H w):∀ (d:Nat) (v:AV) (x:PV) (v':Value),Res H.l d v x→VR Γ v v'→VP Γ.fz x v'
 | 0,v,x,v',hr,hv=>by
  cases v <;> simp only [Res] at hr
  subst hr
  simpa only [VR] using hv
 | d+1,v,x,v',hr,hv=>by
  have ihL:∀ {vs:List AV} {ys:List PV} {vs':List Value},ResL (Res H.l d) vs ys→VRL Γ vs vs'→VPL Γ.fz ys vs':=fun a b=>ResL_sound (Res_sound h d) a b
  cases v with
  | p y=>
   simp only [VR] at hv
   by_cases hy:y=.nils
   ·subst hy
    simp only [Res] at hr
    simp only [VP] at hv
    subst hv
    rcases hr with rfl | rfl | ⟨s,rfl⟩
    ·simp only [VP]
    ·simp only [VP];exact .inl ⟨trivial,_,_,rfl⟩
    ·simp only [VP];exact .inl ⟨trivial,_,_,rfl⟩
   ·have:x=y∨∃ r zs,y=.agg r∧x=.agg zs∧nilAsL r zs:=by
     cases y with
     | nils=>exact absurd rfl hy
     | agg cs=>
      cases cs with
      | nil=>exact .inl hr
      | cons a r=>
       cases a with
       | nils=>obtain⟨zs,h1,h2⟩:=hr;exact .inr ⟨_,zs,rfl,h1,h2⟩
       | _=>exact .inl hr
     | _=>exact .inl hr
    rcases this with rfl | ⟨r,zs,rfl,rfl,h2⟩
    ·exact hv
    ·simp only [VP] at hv ⊢
     obtain⟨cs',rfl,h3⟩:=hv
     exact⟨cs',rfl,nilAsL_sound h2 h3⟩
  | sl n s off len=>
   simp only [Res] at hr
   simp only [VR] at hv
   obtain⟨q,hq,hqs,hsl⟩:=hv
   split at hr <;> try exact hr.elim
   rename_i o ho
   split at hr <;> try exact hr.elim
   rename_i hfr
   split at hr <;> try exact hr.elim
   ·rename_i xs hc
    obtain⟨ys,rfl,hle,hys⟩:=hr
    have hylen:ys.length=len:=by rw [hys];simp;omega
    simp only [VP]
    rcases hsl with ⟨hnl,rfl,rfl,rfl⟩ | ⟨hnl,htc,o',rfl,ho'⟩
    ·exact .inl ⟨List.eq_nil_of_length_eq_zero hylen,_,_,rfl⟩
    ·obtain⟨us,rest,z,h1,h2,h3,h3',h4,h5,h6,h7,h8⟩:=cellsOf h ho (by rw [hc];rfl) hq hnl
     rw [hc] at h5 h7
     simp only [Sized] at h7
     simp only [flat] at h5
     rcases Nat.eq_zero_or_pos len with hz | hz
     ·subst hz
      exact .inl ⟨List.eq_nil_of_length_eq_zero hylen,_,_,rfl⟩
     ·have ho2:o'=off:=by
       rcases ho' with e | e
       ·rw [e,h7];simp
       ·omega
      subst ho2
      have hul:=VRL_length h5
      rw [List.length_map] at hul
      refine .inr ⟨q.blk,o',_,us++rest,(us.drop o').take len,by rw [hylen],by omega,h8 hfr,?_,seg_of h6 rfl (by omega)⟩
      rw [hys]
      exact VPL_take _ (VPL_drop _ (VRL_p.1 h5))
   ·rename_i xss hc
    obtain⟨ys,rfl,hle,hys⟩:=hr
    have hylen:ys.length=len:=by rw [hys];simp;omega
    simp only [VP]
    rcases hsl with ⟨hnl,rfl,rfl,rfl⟩ | ⟨hnl,htc,o',rfl,ho'⟩
    ·exact .inl ⟨List.eq_nil_of_length_eq_zero hylen,_,_,rfl⟩
    ·obtain⟨us,rest,z,h1,h2,h3,h3',h4,h5,h6,h7,h8⟩:=cellsOf h ho (by rw [hc];rfl) hq hnl
     rw [hc] at h5 h7
     simp only [Sized] at h7
     simp only [flat] at h5
     rcases Nat.eq_zero_or_pos len with hz | hz
     ·subst hz
      exact .inl ⟨List.eq_nil_of_length_eq_zero hylen,_,_,rfl⟩
     ·have ho2:o'=off * q.s:=by
       rcases ho' with e | e
       ·exact e
       ·omega
      subst ho2
      have hul:=VRL_length h5
      rw [List.length_map,flatten_length h7] at hul
      have hmul:off * q.s≤xss.length * q.s:=Nat.mul_le_mul_right _ (by omega)
      refine .inr ⟨q.blk,off * q.s,_,us++rest,(us.drop (off * q.s)).take (len * q.s),by rw [hylen],by omega,h8 hfr,?_,seg_of h6 rfl (by omega)⟩
      subst hqs
      refine VPLL_flat.2 ⟨?_,fun cs hcs=>?_⟩
      ·rw [hys,flatten_sub h7 _ _ (by omega)]
       exact VPL_take _ (VPL_drop _ (VRL_p.1 h5))
      ·rw [hys] at hcs
       exact h7 cs (List.mem_of_mem_drop (List.mem_of_mem_take hcs))
   ·rename_i vs hc
    obtain⟨us0,ys,hg,rfl,hres⟩:=hr
    obtain⟨g1,g2,g3⟩:=getN_some hg
    simp only [VP]
    rcases hsl with ⟨hnl,rfl,rfl,rfl⟩ | ⟨hnl,htc,o',rfl,ho'⟩
    ·have:us0=[]:=List.eq_nil_of_length_eq_zero g2
     subst this
     simp only [ResL] at hres
     exact .inl ⟨hres,_,_,rfl⟩
    ·obtain⟨us,rest,z,h1,h2,h3,h3',h4,h5,h6,h7,h8⟩:=cellsOf h ho (by rw [hc];rfl) hq hnl
     rw [hc] at h5 h7
     simp only [Sized] at h7
     simp only [flat] at h5
     rcases Nat.eq_zero_or_pos len with hz | hz
     ·subst hz
      have:us0=[]:=List.eq_nil_of_length_eq_zero g2
      subst this
      simp only [ResL] at hres
      exact .inl ⟨hres,_,_,rfl⟩
     ·have ho2:o'=off:=by
       rcases ho' with e | e
       ·rw [e,h7];simp
       ·omega
      subst ho2
      have hul:=VRL_length h5
      have hv0:VRL Γ us0 ((us.drop o').take len):=by rw [g1];exact VRL_take _ (VRL_drop _ h5)
      have hy:=ihL hres hv0
      have hyl:ys.length=len:=by rw [← VPL_length hy,VRL_length hv0,g2]
      exact .inr ⟨q.blk,o',_,us++rest,(us.drop o').take len,by rw [hyl],by omega,h8 hfr,hy,seg_of h6 rfl (by have:=g3 hz;omega)⟩
   ·rename_i vss hc
    obtain⟨ys,rfl,hle,hres⟩:=hr
    obtain⟨hyl,hyf⟩:=ResLL_len hres
    have hylen:ys.length=len:=by rw [hyl];simp;omega
    simp only [VP]
    rcases hsl with ⟨hnl,rfl,rfl,rfl⟩ | ⟨hnl,htc,o',rfl,ho'⟩
    ·exact .inl ⟨List.eq_nil_of_length_eq_zero hylen,_,_,rfl⟩
    ·obtain⟨us,rest,z,h1,h2,h3,h3',h4,h5,h6,h7,h8⟩:=cellsOf h ho (by rw [hc];rfl) hq hnl
     rw [hc] at h5 h7
     simp only [Sized] at h7
     simp only [flat] at h5
     rcases Nat.eq_zero_or_pos len with hz | hz
     ·subst hz
      exact .inl ⟨List.eq_nil_of_length_eq_zero hylen,_,_,rfl⟩
     ·have ho2:o'=off * q.s:=by
       rcases ho' with e | e
       ·exact e
       ·omega
      subst ho2
      have hul:=VRL_length h5
      rw [flatten_length h7] at hul
      have hmul:off * q.s≤vss.length * q.s:=Nat.mul_le_mul_right _ (by omega)
      refine .inr ⟨q.blk,off * q.s,_,us++rest,(us.drop (off * q.s)).take (len * q.s),by rw [hylen],by omega,h8 hfr,?_,seg_of h6 rfl (by omega)⟩
      subst hqs
      have hvv:VRL Γ (((vss.drop off).take len).flatten) ((us.drop (off * q.s)).take (len * q.s)):=by
       rw [flatten_sub h7 _ _ (by omega)]
       exact VRL_take _ (VRL_drop _ h5)
      exact VPLL_flat.2 ⟨ihL (ResLL_flat hres) hvv,hyf fun cs hcs=>h7 cs (List.mem_of_mem_drop (List.mem_of_mem_take hcs))⟩
  | ptr n i f=>
   simp only [Res] at hr
   simp only [VR] at hv
   obtain⟨q,hq,hnl,rfl⟩:=hv
   split at hr <;> try exact hr.elim
   rename_i o ho hb
   simp only [Bool.and_eq_true] at hb
   have hi:=Nat.eq_of_beq_eq_true hb.1
   have hf:=Nat.eq_of_beq_eq_true hb.2
   subst hi;subst hf
   split at hr <;> try exact hr.elim
   rename_i hfr
   split at hr <;> try exact hr.elim
   rename_i cs hc
   obtain⟨ys,rfl,hres⟩:=hr
   obtain⟨us,rest,z,h1,h2,h3,h3',h4,h5,h6,h7,h8⟩:=cellsOf h ho (by rw [hc];rfl) hq hnl
   rw [hc] at h5
   simp only [VP]
   exact⟨q.blk,0,us++rest,us,by simp,h8 hfr,ihL hres h5,[],rest,rfl,rfl,h6⟩
  | fn f a b=>
   simp only [Res] at hr
   simp only [VR] at hv
   obtain⟨hok,a',b',rfl,ha,hb⟩:=hr
   obtain⟨f',fs',cs',rfl,hf,h1,h2⟩:=hv
   rw [FR_ok hok] at hf
   subst hf
   simp only [VP]
   exact⟨hok,fs',cs',rfl,ihL ha h1,ihL hb h2⟩
  | iface t y=>
   simp only [Res] at hr
   simp only [VR] at hv
   obtain⟨z,rfl,hz⟩:=hr
   obtain⟨u,rfl,hu⟩:=hv
   simp only [VP]
   exact⟨u,rfl,Res_sound h d _ _ _ hz hu⟩
  | agg cs=>
   simp only [Res] at hr
   simp only [VR] at hv
   obtain⟨ys,rfl,hys⟩:=hr
   obtain⟨cs',rfl,hcs⟩:=hv
   simp only [VP]
   exact⟨cs',rfl,ihL hys hcs⟩
  | _=>simp only [Res] at hr
end
end Go.Proofs.YtkegmchjobphdaaGreatDoor.Y

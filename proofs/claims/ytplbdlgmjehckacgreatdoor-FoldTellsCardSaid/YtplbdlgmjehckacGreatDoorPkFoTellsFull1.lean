/-
 Lemmas for the claims of this seat: the program's functions walked, and plain laws.
-/
import Derived.Lib.Index
namespace Go.Proofs.YtplbdlgmjehckacGreatDoor
set_option linter.unusedVariables false
set_option linter.unusedSimpArgs false
abbrev B:=List UInt8
def str(l:B):ByteArray:=⟨l.toArray⟩
@[go_sem,simp] theorem afo(l:B):(str l).toList=l:=ByteArray.toList_mk l
@[go_sem,simp] theorem qP(l:B):(str l).data.toList=l:=rfl
@[go_sem,simp] theorem lG(l:B):(str l).size=l.length:=rfl
theorem ZV(s:ByteArray):s=str s.data.toList:=rfl
theorem str_inj{a b:B}(h:str a=str b):a=b:=by
 have:=congrArg (λs:ByteArray=>s.data.toList) h;simpa using this
@[go_sem] theorem aeK(l:B)(a b:Nat):(str l).extract a b=str ((l.drop a).take (b-a)):=Lib.extract_eq (str l) a b
@[go_sem] theorem agZ(l:B)(a:Nat):(l.drop a).take (l.length-a)=l.drop a:=List.take_of_length_le (by simp)
theorem zx(a b:B):str a++str b=str (a++b):=by
 unfold str;apply ByteArray.ext;simp
@[go_sem] theorem acP(a b:B):str a++ByteArray.mk b.toArray=str (a++b):=zx a b
@[go_sem] theorem acQ(a b:B):ByteArray.mk a.toArray++str b=str (a++b):=zx a b
attribute [go_sem] zx
theorem afp{l:B}{k:Nat}(h:k<(str l).size):k<l.length:=h
@[go_sem] theorem ajZ(l:B)(k:Nat)(h:k<(str l).size):(str l)[k]=l[k]'(afp h):=rfl
def isLow(c:UInt8):Bool:=decide (97≤c.toNat)&&decide (c.toNat≤122)
def dK(c:UInt8):Bool:=isLow c||(decide (48≤c.toNat)&&decide (c.toNat≤57))||decide (c.toNat=45)
def aJ:B→Nat
 | []=>0
 | c::t=>if isLow c then 1+(t.takeWhile dK).length else 0
def named(s:B):Bool:=decide (1≤s.length)&&decide (s.length≤20)&&decide (aJ s=s.length)
def bg(sub:B):B→Option Nat
 | []=>if sub.isEmpty then some 0 else none
 | c::t=>if sub.isPrefixOf (c::t) then some 0 else (bg sub t).map (· + 1)
theorem yM(sub:B):∀s:B,Lib.index s sub=match bg sub s with | none => -1 | some k=>(k:Int)
 | []=>by
  simp only[Lib.index,bg];split<;>rfl
 | c::t=>by
  simp only[Lib.index,bg];split
  ·rfl
  rw[yM sub t];cases h:bg sub t with
  | none=>simp
  | some k=>
   have:¬((k:Int) == -1)=true:=by simp
   simp[this]
theorem gY(sub:B):∀(s:B) (k:Nat),bg sub s=some k→k+sub.length≤s.length
 | [],k,h=>by
  simp only[bg]at h;split at h
  ·rename_i he;cases h;simp at he;subst he;simp
  cases h
 | c::t,k,h=>by
  simp only[bg]at h;split at h
  ·rename_i he
   cases h;have:=(List.isPrefixOf_iff_prefix.1 he).length_le;omega
  cases hf:bg sub t with
  | none=>rw[hf]at h;cases h
  | some j=>
   rw[hf]at h;cases h;have:=gY sub t j hf;simp only[List.length_cons];omega
theorem fJ(p:UInt8→Bool)(l:B):(l.takeWhile p).length≤l.length:=(List.takeWhile_prefix p).length_le
theorem gZ(l:B):aJ l≤l.length:=by
 cases l with
 | nil=>simp[aJ]
 | cons c t=>
  simp only[aJ];split
  ·have:=fJ dK t;simp only[List.length_cons];omega
  omega
def gQ(j:Nat)(c:UInt8):Bool:=if j=0 then isLow c else dK c
theorem oL(l:B)(j:Nat)(h:j<aJ l):∃h':j<l.length,gQ j (l[j])=true:=by
 cases l with
 | nil=>simp[aJ]at h
 | cons c t=>
  simp only[aJ]at h;split at h
  ·rename_i hc
   cases j with
   | zero=>exact⟨by simp,by simpa [gQ] using hc⟩
   | succ j=>
    have h1:j<(t.takeWhile dK).length:=by omega
    have h2:=fJ dK t;refine⟨by simp only[List.length_cons];omega,?_⟩;have hp:=List.takeWhile_prefix dK (l:=t);have e:t[j]'(by omega)=(t.takeWhile dK)[j]:=(List.IsPrefix.getElem hp h1).symm;have hm:dK ((t.takeWhile dK)[j])=true:=by
     have:=List.all_takeWhile (p:=dK) (l:=t);rw[List.all_eq_true]at this;exact this _ (List.getElem_mem h1)
    simp only[gQ,List.getElem_cons_succ];rw[e];simpa using hm
  omega
theorem jE(p:UInt8→Bool):∀(l:B) (h:(l.takeWhile p).length<l.length),p (l[(l.takeWhile p).length])=false
 | [],h=>by simp at h
 | c::t,h=>by
  by_cases hc:p c=true
  ·simp only[List.takeWhile_cons,hc,if_true,List.length_cons]at h ⊢;simp only[List.getElem_cons_succ];exact jE p t (by omega)
  simp only[List.takeWhile_cons,hc]at h ⊢;simpa using hc
theorem pX(p:UInt8→Bool)(l:B)(j:Nat)(h:j<(l.takeWhile p).length):∃h':j<l.length,p (l[j])=true:=by
 have h2:=fJ p l;refine⟨by omega,?_⟩;have e:l[j]'(by omega)=(l.takeWhile p)[j]:=(List.IsPrefix.getElem (List.takeWhile_prefix p (l:=l)) h).symm;have:=List.all_takeWhile (p:=p) (l:=l);rw[List.all_eq_true]at this;rw[e];exact this _ (List.getElem_mem h)
theorem takeWhile_take(p:UInt8→Bool)(l:B):l.take (l.takeWhile p).length=l.takeWhile p:=(List.prefix_iff_eq_take.1 (List.takeWhile_prefix p)).symm
theorem nJ(l:B)(h:aJ l<l.length):gQ (aJ l) (l[aJ l])=false:=by
 cases l with
 | nil=>simp at h
 | cons c t=>
  by_cases hc:isLow c=true
  ·have e:aJ (c::t)=(t.takeWhile dK).length+1:=by simp[aJ,hc,Nat.add_comm]
   have h2:(t.takeWhile dK).length<t.length:=by rw[e]at h;simpa using h
   have:=jE dK t h2;have e2:(c::t)[aJ (c::t)]=t[(t.takeWhile dK).length]:=by simp[e]
   rw[e2,e];simpa [gQ] using this
  have e:aJ (c::t)=0:=by simp[aJ,hc]
  have e2:(c::t)[aJ (c::t)]=c:=by simp[e]
  rw[e2,e];simpa [gQ] using hc
theorem Fv{j:Nat}{c:UInt8}(h:gQ j c=true):
  (97≤(c.toNat:Int)∧(c.toNat:Int)≤122)∨(0<j∧(48≤(c.toNat:Int)∧(c.toNat:Int)≤57))∨(0<j∧(c.toNat:Int)=45):=by
 unfold gQ at h;split at h
 ·simp[isLow]at h;omega
 simp[dK,isLow]at h;omega
theorem JQ{j:Nat}{c:UInt8}(h:gQ j c=false):
  ((c.toNat:Int)<97∨122<(c.toNat:Int))∧(j=0∨(((c.toNat:Int)<48∨57<(c.toNat:Int))∧(c.toNat:Int)≠45)):=by
 unfold gQ at h;split at h
 ·simp[isLow]at h;omega
 simp[dK,isLow]at h;omega
structure bf where
 name:B
 val:B
 lo:Int
 hi:Int
 deriving DecidableEq
structure ak where
 name:B
 parent:Int
 attrs:List bf
 bG:Int
 qE:Int
 inT:Int
 deriving DecidableEq
structure iL where
 err:Nat
 pos:Nat
 deriving DecidableEq
inductive Ans(α:Type) where
 | bad (f:iL)
 | ok (a:α)
 deriving DecidableEq
def Ans.then{α β:Type}(a:Ans α)(k:α→Ans β):Ans β:=match a with | .bad f=>.bad f | .ok x=>k x
@[simp] theorem Ans.aht{α β:Type}(f:iL)(k:α→Ans β):(Ans.bad f).then k=.bad f:=rfl
@[simp] theorem Ans.aN{α β:Type}(x:α)(k:α→Ans β):(Ans.ok x).then k=k x:=rfl
def isVal(c:UInt8):Bool:=decide (32≤c.toNat)&&decide (c.toNat≤126) && !decide (c.toNat=34) && !decide (c.toNat=60) && !decide (c.toNat=38)
theorem Xy{c:UInt8}(h:isVal c=true):32≤(c.toNat:Int)∧(c.toNat:Int)≤126∧((c.toNat:Int) != 34)=true∧((c.toNat:Int) != 60)=true∧((c.toNat:Int) != 38)=true:=by
 simp[isVal]at h;simp;omega
theorem ZW{c:UInt8}(h:isVal c=false):(c.toNat:Int)<32∨(32≤(c.toNat:Int)∧126<(c.toNat:Int)) ∨
  (32≤(c.toNat:Int)∧(c.toNat:Int)≤126∧((c.toNat:Int) != 34)=false) ∨
  (32≤(c.toNat:Int)∧(c.toNat:Int)≤126∧((c.toNat:Int) != 34)=true∧((c.toNat:Int) != 60)=false) ∨
  (32≤(c.toNat:Int)∧(c.toNat:Int)≤126∧((c.toNat:Int) != 34)=true∧((c.toNat:Int) != 60)=true∧((c.toNat:Int) != 38)=false):=by
 simp[isVal]at h;simp;omega
def jO(l:B)(at_:Nat):Ans (B×B×Nat):=
 if aJ l=0 then .bad ⟨2,at_⟩ else if 20<aJ l then .bad ⟨7,at_⟩ else .ok (l.take (aJ l),l.drop (aJ l),at_+aJ l)
def aV(w l:B)(at_:Nat):Ans (B×Nat):=if w.isPrefixOf l then .ok (l.drop w.length,at_+w.length) else .bad ⟨2,at_⟩
def pVal(l:B):B:=l.takeWhile isVal
def pAttr(as:List bf)(l:B)(at_:Nat):Ans (bf×B×Nat):=
 (jO (l.drop 1) (at_+1)).then λ(nm,l2,at2)=>
 if (as.any λa=>a.name==nm)||as.length==8 then .bad ⟨if as.length=8 then 5 else 7,at_+1⟩ else
 (aV [61,34] l2 at2).then λ(l3,at3)=>
 (aV [34] (l3.drop (pVal l3).length) (at3+(pVal l3).length)).then λ(l5,at5)=>
 .ok (⟨nm,pVal l3,(at_:Int),(at5:Int)⟩,l5,at5)
def iW:Nat→List bf→B→Nat→Ans (List bf×B×Nat)
 | 0,as,l,at_=>.bad ⟨2,0⟩
 | fuel+1,as,l,at_=>
  if [32].isPrefixOf l then (pAttr as l at_).then λ(a,l',at')=>iW fuel (as++[a]) l' at'
  else .ok (as,l,at_)
def o9(parent:Int)(deep count:Nat)(l:B)(at_:Nat):Ans (ak×B×Nat):=
 if 20<deep then .bad ⟨4,at_⟩ else if count=120 then .bad ⟨4,at_⟩ else
 (aV [60] l at_).then λ(l1,ji)=>
 (jO l1 ji).then λ(nm,l2,at2)=>
 (iW (l2.length+1) [] l2 at2).then λ(as,l3,at3)=>
 (aV [62] l3 at3).then λ(l4,at4)=>
 .ok (⟨nm,parent,as,at2,0,0⟩,l4,at4)
def aj:B:=[115,116,121,108,101]
def jY:B:=[60,47,115,116,121,108,101,62]
def jq(items:Int→Nat→List ak→B→Nat→Ans (List ak×B×Nat))(deep:Nat)(ns:List ak)(n:ak)(l:B)(at_:Nat):Ans (List ak×B×Nat):=
 if n.name=aj then
  match bg jY l with
  | none=>.bad ⟨2,at_+l.length⟩
  | some e=>.ok (ns++[{ n with qE:=(at_:Int),inT:=((at_+e:Nat):Int) }],l.drop e,at_+e)
 else items (ns.length:Int) (deep+1) (ns++[n]) l at_
def kT(items:Int→Nat→List ak→B→Nat→Ans (List ak×B×Nat))(parent:Int)(deep:Nat)(ns:List ak)(l:B)(at_:Nat):Ans (List ak×B×Nat):=
 (o9 parent deep ns.length l at_).then λ(n,l1,ji)=>
 (jq items deep ns n l1 ji).then λ(ns2,l2,at2)=>
 (aV ([60,47]++n.name++[62]) l2 at2).then λ(l3,at3)=>.ok (ns2,l3,at3)
def pY(c:UInt8):Bool:=decide (c.toNat=10)||(decide (32≤c.toNat)&&decide (c.toNat≤126))
def cu:B:=[60,33,45,45]
def dS:B:=[45,45,62]
def dU:Nat→Int→Nat→List ak→B→Nat→Ans (List ak×B×Nat)
 | 0,_,_,_,_,_=>.bad ⟨2,0⟩
 | fuel+1,parent,deep,ns,l,at_=>
  match l with
  | []=>.ok (ns,[],at_)
  | c::t=>
   if [60,47].isPrefixOf (c::t) then .ok (ns,c::t,at_)
   else if cu.isPrefixOf (c::t) then
    match bg dS ((c::t).drop 4)with
    | none=>.bad ⟨2,at_+(c::t).length⟩
    | some e=>dU fuel parent deep ns ((c::t).drop (4+e+3)) (at_+(4+e+3))
   else if [60].isPrefixOf (c::t) then
    (kT (dU fuel) parent deep ns (c::t) at_).then λ(ns',l',at')=>dU fuel parent deep ns' l' at'
   else if pY c then dU fuel parent deep ns t (at_+1)
   else .bad ⟨2,at_⟩
def lq(s:B):Ans (List ak):=
 if 6000<s.length then .bad ⟨4,0⟩ else
 (dU (s.length+1) (-1) 1 [] s 0).then λ(ns,l,at_)=>if l=[] then .ok ns else .bad ⟨2,at_⟩
def gJ(as:List bf)(name:B):B×Bool:=
 match as.find? (λa=>a.name==name)with
 | some a=>(a.val,true)
 | none=>([],false)
def ig(l:List ak)(p:Int):Nat→Int
 | 0 => -1
 | i+1=>if (l[i]?).any (λx=>x.parent==p) then (i:Int) else ig l p i
def jJ(l:List ak)(k:Int):Int:=
 if k<0∨(l.length:Int)≤k then -1 else
 match l[k.toNat]? with
 | some n=>ig l n.parent k.toNat
 | none => -1
structure bQ where
 kind:Int
 name:B
 val:B
 deriving DecidableEq
structure eP where
 join:Int
 tests:List bQ
 deriving DecidableEq
abbrev dZ:=List eP
structure aC where
 name:B
 val:B
 strong:Bool
 deriving DecidableEq
structure au where
 ay:B
 aZ:List dZ
 decls:List aC
 lo:Int
 hi:Int
 deriving DecidableEq
def dV:B:=[47,42]
def dN:B:=[42,47]
def yN:Nat→B→Nat→Ans (B×Nat)
 | 0,_,_=>.bad ⟨2,0⟩
 | f+1,l,at_=>
  match l with
  | []=>.ok ([],at_)
  | c::t=>
   if c.toNat=32∨c.toNat=10 then yN f t (at_+1)
   else if dV.isPrefixOf (c::t) then
    match bg dN ((c::t).drop 2)with
    | none=>.bad ⟨2,at_⟩
    | some e=>yN f ((c::t).drop (2+e+2)) (at_+(2+e+2))
   else .ok (c::t,at_)
def cO(l:B)(at_:Nat):Ans (B×Nat):=yN (l.length+1) l at_
def dM(l:B)(at_:Nat):Ans (B×B×Nat):=
 if aJ l=0∨20<aJ l then .bad ⟨2,at_⟩ else .ok (l.take (aJ l),l.drop (aJ l),at_+aJ l)
def firstWord:B:=[58,102,105,114,115,116]
def iF(l:B)(at_:Nat):Ans (bQ×B×Nat):=
 (dM l at_).then λ(nm,l1,ji)=>
 if nm=aj then .bad ⟨1,ji⟩ else
 if [61].isPrefixOf l1 then
  (dM (l1.drop 1) (ji+1)).then λ(v,l2,at2)=>
  (aV [93] l2 at2).then λ(l3,at3)=>.ok (⟨5,nm,v⟩,l3,at3)
 else (aV [93] l1 ji).then λ(l3,at3)=>.ok (⟨4,nm,[]⟩,l3,at3)
def iI(l:B)(at_:Nat):Ans (Option bQ×B×Nat):=
 if [46].isPrefixOf l then (dM (l.drop 1) (at_+1)).then λ(nm,l1,ji)=>.ok (some ⟨2,nm,[]⟩,l1,ji)
 else if [35].isPrefixOf l then (dM (l.drop 1) (at_+1)).then λ(nm,l1,ji)=>.ok (some ⟨3,nm,[]⟩,l1,ji)
 else if firstWord.isPrefixOf l then .ok (some ⟨6,[],[]⟩,l.drop 6,at_+6)
 else if [91].isPrefixOf l then (iF (l.drop 1) (at_+1)).then λ(t,l1,ji)=>.ok (some t,l1,ji)
 else .ok (none,l,at_)
def dF:Nat→List bQ→Bool→B→Nat→Ans (List bQ×B×Nat)
 | 0,_,_,_,_=>.bad ⟨2,0⟩
 | f+1,ts,some_,l,at_=>
  (iI l at_).then λ(t,l1,ji)=>
  match t with
  | none=>if some_ then .ok (ts,l,at_) else .bad ⟨2,at_⟩
  | some t=>if ts.length=6 then .bad ⟨5,ji⟩ else dF f (ts++[t]) true l1 ji
def uw(l:B)(at_:Nat):Ans (List bQ×Bool×B×Nat):=
 if [42].isPrefixOf l then .ok ([],true,l.drop 1,at_+1)
 else if aJ l=0 then .ok ([],false,l,at_)
 else (dM l at_).then λ(nm,l1,ji)=>.ok ([⟨1,nm,[]⟩],true,l1,ji)
def eU(l:B)(at_:Nat):Ans (List bQ×B×Nat):=
 (uw l at_).then λ(ts,some_,l1,ji)=>dF (l1.length+1) ts some_ l1 ji
def kG(gap:Bool)(l:B):Bool := !gap||l.isEmpty||[44].isPrefixOf l||[123].isPrefixOf l
def lH(l:B)(at_:Nat):Ans (Option Int×B×Nat):=
 (cO l at_).then λ(l1,ji)=>
 if [62].isPrefixOf l1 then (cO (l1.drop 1) (ji+1)).then λ(l2,at2)=>.ok (some 2,l2,at2)
 else if [43].isPrefixOf l1 then (cO (l1.drop 1) (ji+1)).then λ(l2,at2)=>.ok (some 3,l2,at2)
 else if kG (decide (at_<ji)) l1 then .ok (none,l1,ji) else .ok (some 1,l1,ji)
def jZ:Nat→List eP→B→Nat→Ans (dZ×B×Nat)
 | 0,_,_,_=>.bad ⟨2,0⟩
 | f+1,ps,l,at_=>
  (lH l at_).then λ(j,l1,ji)=>
  match j with
  | none=>.ok (ps,l1,ji)
  | some j=>if ps.length=6 then .bad ⟨5,ji⟩ else
   (eU l1 ji).then λ(ts,l2,at2)=>jZ f (ps++[⟨j,ts⟩]) l2 at2
def pq(l:B)(at_:Nat):Ans (dZ×B×Nat):=
 (eU l at_).then λ(ts,l1,ji)=>jZ (l1.length+1) [⟨0,ts⟩] l1 ji
def isWord(c:UInt8):Bool:=isLow c||(decide (48≤c.toNat)&&decide (c.toNat≤57))||decide (c.toNat=35)||decide (c.toNat=46)||decide (c.toNat=37)||decide (c.toNat=45)
def gU:List B→B
 | []=>[]
 | [w]=>w
 | w::ws=>w++[32]++gU ws
def jI:Nat→List B→B→Nat→Ans (B×B×Nat)
 | 0,_,_,_=>.bad ⟨2,0⟩
 | f+1,ws,l,at_=>
  let w:=l.takeWhile isWord
  if w=[] then (if ws=[] then .bad ⟨2,at_⟩ else .ok (gU ws,l,at_))
  else if 60<(gU (ws++[w])).length then .bad ⟨4,at_⟩
  else (cO (l.drop w.length) (at_+w.length)).then λ(l1,ji)=>jI f (ws++[w]) l1 ji
def zy(l:B)(at_:Nat):Ans (B×B×Nat):=jI (l.length+1) [] l at_
def bM:B:=[105,109,112,111,114,116,97,110,116]
def fK(l:B)(at_:Nat):Ans (Bool×B×Nat):=
 if [33].isPrefixOf l then
  (aV bM (l.drop 1) (at_+1)).then λ(l1,ji)=>(cO l1 ji).then λ(l2,at2)=>.ok (true,l2,at2)
 else .ok (false,l,at_)
def qQ(l:B)(at_:Nat):Ans (aC×B×Nat):=
 (dM l at_).then λ(nm,l1,ji)=>
 (cO l1 ji).then λ(l2,at2)=>
 (aV [58] l2 at2).then λ(l3,at3)=>
 (cO l3 at3).then λ(l4,at4)=>
 (zy l4 at4).then λ(v,l5,at5)=>
 (fK l5 at5).then λ(st,l6,kS)=>.ok (⟨nm,v,st⟩,l6,kS)
def cZ:Nat→List aC→B→Nat→Ans (List aC×B×Nat)
 | 0,_,_,_=>.bad ⟨2,0⟩
 | f+1,ds,l,at_=>
  if l.isEmpty||[125].isPrefixOf l then .ok (ds,l,at_)
  else if ds.length=20 then .bad ⟨5,at_⟩
  else (qQ l at_).then λ(d,l1,ji)=>
   if [59].isPrefixOf l1 then (cO (l1.drop 1) (ji+1)).then λ(l2,at2)=>cZ f (ds++[d]) l2 at2
   else .ok (ds++[d],l1,ji)
def iY(l:B)(at_:Nat):Ans (List aC×B×Nat):=
 (cO l at_).then λ(l1,ji)=>cZ (l1.length+1) [] l1 ji
def gB:Nat→List dZ→B→Nat→Ans (List dZ×B×Nat)
 | 0,_,_,_=>.bad ⟨2,0⟩
 | f+1,ss,l,at_=>
  if ss.length=8 then .bad ⟨5,at_⟩ else
  (pq l at_).then λ(x,l1,ji)=>
  if [44].isPrefixOf l1 then (cO (l1.drop 1) (ji+1)).then λ(l2,at2)=>gB f (ss++[x]) l2 at2
  else .ok (ss++[x],l1,ji)
def kU(ay:B)(l:B)(at_:Nat):Ans (au×B×Nat):=
 (gB (l.length+1) [] l at_).then λ(ss,l1,ji)=>
 (aV [123] l1 ji).then λ(l2,at2)=>
 (iY l2 at2).then λ(ds,l3,at3)=>
 (aV [125] l3 at3).then λ(l4,at4)=>.ok (⟨ay,ss,ds,(at_:Int),(at4:Int)⟩,l4,at4)
def fF:B:=[64,109,101,100,105,97]
def fO(l:B)(at_:Nat):Ans (B×B×Nat):=
 (cO l at_).then λ(l1,ji)=>
 if ji=at_ then .bad ⟨2,ji⟩ else
 (dM l1 ji).then λ(nm,l2,at2)=>
 (cO l2 at2).then λ(l3,at3)=>
 (aV [123] l3 at3).then λ(l4,at4)=>.ok (nm,l4,at4)
def fC:Nat→B→List au→B→Nat→Ans (List au×B×Nat)
 | 0,_,_,_,_=>.bad ⟨2,0⟩
 | f+1,ay,rs,l,at_=>
  if l.isEmpty||[125].isPrefixOf l then .ok (rs,l,at_)
  else if ay.isEmpty&&fF.isPrefixOf l then
   (fO (l.drop 6) (at_+6)).then λ(nm,l1,ji)=>
   (cO l1 ji).then λ(l2,at2)=>
   (fC f nm rs l2 at2).then λ(rs',l3,at3)=>
   (aV [125] l3 at3).then λ(l4,at4)=>
   (cO l4 at4).then λ(l5,at5)=>fC f ay rs' l5 at5
  else if rs.length=60 then .bad ⟨5,at_⟩
  else (kU ay l at_).then λ(r,l1,ji)=>
   (cO l1 ji).then λ(l2,at2)=>fC f ay (rs++[r]) l2 at2
def iZ(s:B):Ans (List au):=
 if 4000<s.length then .bad ⟨4,0⟩ else
 (cO s 0).then λ(l,at_)=>
 (fC (s.length+1) [] [] l at_).then λ(rs,l1,ji)=>if l1=[] then .ok rs else .bad ⟨2,ji⟩
def dW(s:B):Ans (List aC):=
 if 4000<s.length then .bad ⟨4,0⟩ else
 (iY s 0).then λ(ds,l1,ji)=>if l1=[] then .ok ds else .bad ⟨2,ji⟩
def printOne(d:aC):B:=d.name++[58,32]++d.val++(if d.strong then [32,33]++bM else [])
def dH:List aC→B
 | []=>[]
 | [d]=>printOne d
 | d::ds=>printOne d++[59,32]++dH ds
theorem then_ok{α β:Type}{r:Ans α}{k:α→Ans β}{y:β}(h:r.then k=.ok y):∃x,r=.ok x∧k x=.ok y:=by
 cases r with
 | bad f=>cases h
 | ok x=>exact⟨x,rfl,h⟩
theorem bW{α β:Type}{r:Ans α}{k:α→Ans β}{x:α}(h:r=.ok x):r.then k=k x:=by rw[h];rfl
def MC(c:UInt8):Bool:=decide (c.toNat=125)||decide (c.toNat=123)||decide (c.toNat=59)||decide (c.toNat=44)
def free(w:B):Prop:=∀c∈w,MC c=false
structure Same(l m:B):Prop where
 head:l.head?=m.head?
 word:∀w,free w→w.isPrefixOf l=w.isPrefixOf m
theorem Same.refl(l:B):Same l l:=⟨rfl,λ_ _=>rfl⟩
theorem Same.cons{l m:B}(c:UInt8)(h:Same l m):Same (c::l) (c::m):=by
 refine⟨rfl,λw hw=>?_⟩;cases w with
 | nil=>rfl
 | cons x w=>
  simp only[List.isPrefixOf];rw[h.word w (λy hy=>hw y (by simp[hy]))]
theorem Same.pre{l m:B}(t:B)(h:Same l m):Same (t++l) (t++m):=by
 induction t with
 | nil=>exact h
 | cons c t ih=>exact ih.cons c
theorem Same.guard{c:UInt8}(hc:MC c=true)(l m:B):Same (c::l) (c::m):=by
 refine⟨rfl,λw hw=>?_⟩;cases w with
 | nil=>rfl
 | cons x w=>
  have hx:=hw x (by simp);have:(x==c)=false:=by
   rw[beq_eq_false_iff_ne];rintro rfl;rw[hc]at hx;cases hx
  simp[List.isPrefixOf,this]
theorem Same.nil{m:B}(h:Same [] m):m=[]:=by
 have:=h.head;cases m with
 | nil=>rfl
 | cons c m=>simp at this
theorem Same.symm{l m:B}(h:Same l m):Same m l:=⟨h.head.symm,λw hw=>(h.word w hw).symm⟩
theorem iq(c:UInt8)(l:B):[c].isPrefixOf l=(l.head?==some c):=by
 cases l with
 | nil=>rfl
 | cons x l=>simp[List.isPrefixOf,Bool.beq_comm]
theorem Same.one{l m:B}(h:Same l m)(c:UInt8):[c].isPrefixOf l=[c].isPrefixOf m:=by rw[iq,iq,h.head]
theorem Same.isEmpty{l m:B}(h:Same l m):l.isEmpty=m.isEmpty:=by
 have:=h.head;cases l<;>cases m<;>simp_all
theorem V9{w:B}(h:w.all (λc => !MC c)=true):free w:=by
 intro c hc;have:=List.all_eq_true.1 h c hc;simpa using this
theorem ZX:free dV:=V9 (by decide)
theorem TB:free firstWord:=V9 (by decide)
def Loc{α:Type}(P:B→Nat→Ans (α×B×Nat)):Prop:=
 ∀l a v l' a',P l a=.ok (v,l',a')→∃t,l=t++l'∧a'=a+t.length∧∀m b,Same l' m→P (t++m) b=.ok (v,m,b+t.length)
theorem qR{p:UInt8→Bool}(t:B){l m:B}(h:l.head?=m.head?)(ht:(t++l).takeWhile p=t):(t++m).takeWhile p=t:=by
 induction t with
 | nil=>
  cases m with
  | nil=>rfl
  | cons c m=>
   cases l with
   | nil=>simp at h
   | cons x l=>
    simp at h;subst h;simp only[List.nil_append,List.takeWhile_cons]at ht ⊢;split at ht
    ·cases ht
    rename_i hp;rw[if_neg hp]
 | cons c t ih=>
  simp only[List.cons_append,List.takeWhile_cons]at ht ⊢;split at ht
  ·rename_i hp
   simp only[hp,if_true];congr 1;exact ih (by simpa using ht)
  cases ht
theorem qU(c:UInt8)(t:B):aJ (c::t)=if isLow c then ((c::t).takeWhile dK).length else 0:=by
 simp only[aJ];split
 ·rename_i h
  have:dK c=true:=by simp[dK,h]
  simp[List.takeWhile_cons,this];omega
 rfl
theorem MF{t l m:B}(h:l.head?=m.head?)(hn:aJ (t++l)=t.length)(ht:t≠[]):aJ (t++m)=t.length:=by
 cases t with
 | nil=>exact absurd rfl ht
 | cons c t=>
  simp only[List.cons_append]at hn ⊢;rw[qU]at hn ⊢;split at hn
  ·rename_i hc
   simp only[hc,if_true];have h1:((c::(t++l)).takeWhile dK)=c::t:=by
    have hp:((c::(t++l)).takeWhile dK) <+: (c::(t++l)):=List.takeWhile_prefix _;have:=List.prefix_iff_eq_take.1 hp;rw[hn]at this;rw[this];simp
   rw[←List.cons_append]at h1 ⊢;rw[qR (c::t) h h1]
  simp at hn
theorem qV:Loc dM:=by
 intro l a v l' a' h;unfold dM at h;split at h
 ·cases h
 rename_i hn
 cases h;have hle:=gZ l;refine⟨l.take (aJ l),(List.take_append_drop _ _).symm,by simp;omega,λm b hs=>?_⟩;have hl:(l.take (aJ l)).length=aJ l:=by simp;omega
 have:aJ (l.take (aJ l)++m)=(l.take (aJ l)).length:=by
  refine MF hs.head (by rw[List.take_append_drop,hl]) ?_;intro h0;rw[h0]at hl;simp at hl;omega
 unfold dM;rw[this,hl,if_neg hn];simp[hl]
inductive uy:B→Prop
 | nil:uy []
 | one {c:UInt8} {t:B} (h:c.toNat=32∨c.toNat=10) (ht:uy t):uy (c::t)
 | note {x t:B} (h:bg dN (x++dN)=some x.length) (ht:uy t):uy (dV++(x++dN)++t)
theorem uy.app{g h:B}(hg:uy g)(hh:uy h):uy (g++h):=by
 induction hg with
 | nil=>exact hh
 | one hc _ ih=>exact .one hc ih
 | note hx _ ih=>rw[List.append_assoc];exact .note hx ih
theorem qg{w:B}(hw:w≠[]):∀ {l:B} {e:Nat} (r:B),bg w l=some e→bg w (l.take (e+w.length)++r)=some e
 | [],e,r,h=>by
  simp only[bg]at h;split at h
  ·rename_i he;simp at he;exact absurd he hw
  cases h
 | c::t,e,r,h=>by
  have hle:=gY w (c::t) e h;simp only[bg]at h;split at h
  ·rename_i hp
   cases h;have:(c::t).take (0+w.length)=w:=by
    rw[Nat.zero_add];exact(List.prefix_iff_eq_take.1 (List.isPrefixOf_iff_prefix.1 hp)).symm
   rw[this];cases w with
   | nil=>exact absurd rfl hw
   | cons x w=>
    have:(x::w).isPrefixOf (x::w++r)=true:=List.isPrefixOf_iff_prefix.2 (List.prefix_append _ _);simp only[List.cons_append,bg]at this ⊢;rw[if_pos this]
  rename_i hp
  cases hf:bg w t with
  | none=>rw[hf]at h;cases h
  | some j=>
   rw[hf]at h;cases h;have ih:=qg hw r hf;have e1:(c::t).take (j+1+w.length)=c::t.take (j+w.length):=by
    rw[show j+1+w.length=(j+w.length)+1 from by omega,List.take_succ_cons]
   rw[e1];simp only[List.cons_append,bg];rw[ih];have:¬w.isPrefixOf (c::(t.take (j+w.length)++r))=true:=by
    intro hq;apply hp;have hq':=List.isPrefixOf_iff_prefix.1 hq;rw[←List.cons_append,←e1]at hq';have h1:w <+: (c::t).take (j+1+w.length):=List.prefix_of_prefix_length_le hq' (List.prefix_append _ _) (by simp at hle ⊢;omega);exact List.isPrefixOf_iff_prefix.2 (h1.trans (List.take_prefix _ _))
   rw[if_neg this];rfl
theorem zA{w:B}:∀ {l:B} {e:Nat},bg w l=some e→∃r,l=l.take e++w++r
 | [],e,h=>by
  simp only[bg]at h;split at h
  ·rename_i he;cases h;simp at he;subst he;exact⟨[],rfl⟩
  cases h
 | c::t,e,h=>by
  simp only[bg]at h;split at h
  ·rename_i hp
   cases h;obtain⟨r,hr⟩:=List.isPrefixOf_iff_prefix.1 hp;exact⟨r,by simp[hr]⟩
  cases hf:bg w t with
  | none=>rw[hf]at h;cases h
  | some j=>
   rw[hf]at h;cases h;obtain⟨r,hr⟩:=zA hf;exact⟨r,by simp only[List.take_succ_cons,List.cons_append];rw[←hr]⟩
theorem TD{t:B}{e:Nat}(hp:dV.isPrefixOf t=true)(hf:bg dN (t.drop 2)=some e):
  ∃x,x.length=e∧t=dV++(x++dN)++t.drop (2+e+2)∧bg dN (x++dN)=some x.length:=by
 obtain⟨r,hr⟩:=List.isPrefixOf_iff_prefix.1 hp;subst hr;have h2:(dV++r).drop 2=r:=rfl;rw[h2]at hf;obtain⟨r2,hr2⟩:=zA hf;have hle:=gY _ _ _ hf;have hx:(r.take e).length=e:=by simp[dN]at hle ⊢;omega
 refine⟨r.take e,hx,?_,?_⟩
 ·have:(dV++r).drop (2+e+2)=r2:=by
   rw[show 2+e+2=2+(e+2) from by omega,←List.drop_drop,h2]
   conv=>lhs;rw[hr2]
   rw[List.drop_append];simp[hx,dN]
  rw[this,List.append_assoc,←hr2]
 have:=qg (w:=dN) (by simp[dN]) [] hf;rw[List.append_nil]at this;have e1:r.take (e+dN.length)=r.take e++dN:=by
  conv=>lhs;rw[hr2]
  rw[List.take_append_of_le_length (by simp[hx])];rw[List.take_of_length_le (by simp[hx])]
 rw[e1]at this;rw[hx];exact this
def stops(l:B):Bool := !(([32]:B).isPrefixOf l) && !(([10]:B).isPrefixOf l) && !(dV.isPrefixOf l)
theorem TF{l m:B}(h:Same l m)(hl:stops l=true):stops m=true:=by
 unfold stops at hl ⊢;rw[←h.one,←h.one,←h.word _ ZX];exact hl
theorem Xz:∀(n:Nat) (l:B) (a f g:Nat),l.length≤n→l.length<f→l.length<g→yN f l a=yN g l a:=by
 intro n
 induction n with
 | zero=>
  intro l a f g hn hf hg;obtain rfl:=List.length_eq_zero_iff.1 (Nat.le_zero.1 hn);cases f with
  | zero=>omega
  | succ f=>cases g with
   | zero=>omega
   | succ g=>rfl
 | succ n ih=>
  intro l a f g hn hf hg;cases f with
  | zero=>omega
  | succ f=>
   cases g with
   | zero=>omega
   | succ g=>
    cases l with
    | nil=>rfl
    | cons c t=>
     simp only[List.length_cons]at hn hf hg;simp only[yN];split
     ·exact ih t _ f g (by omega) (by omega) (by omega)
     split
     ·split
      ·rfl
      exact ih _ _ f g (by simp;omega) (by simp;omega) (by simp;omega)
     rfl
theorem OQ{l:B}{a f:Nat}(h:l.length<f):yN f l a=cO l a:=Xz l.length l a f _ (Nat.le_refl _) h (by omega)
theorem uz(c:UInt8)(t:B)(a:Nat):cO (c::t) a=if c.toNat=32∨c.toNat=10 then cO t (a+1) else if dV.isPrefixOf (c::t) then
  match bg dN ((c::t).drop 2)with
  | none=>.bad ⟨2,a⟩
  | some e=>cO ((c::t).drop (2+e+2)) (a+(2+e+2)) else .ok (c::t,a):=by
 conv=>lhs;unfold cO
 simp only[List.length_cons,yN];by_cases h1:c.toNat=32∨c.toNat=10
 ·rw[if_pos h1,if_pos h1];have:=@OQ t (a+1) (t.length+1) (by omega);exact this
 rw[if_neg h1,if_neg h1];by_cases h2:dV.isPrefixOf (c::t)=true
 ·rw[if_pos h2,if_pos h2];cases hf:bg dN ((c::t).drop 2)with
  | none=>rfl
  | some e=>have:=@OQ ((c::t).drop (2+e+2)) (a+(2+e+2)) (t.length+1) (by rw[List.length_drop,List.length_cons];omega);exact this
 rw[if_neg h2,if_neg h2]
theorem ZY{l:B}(a:Nat)(h:stops l=true):cO l a=.ok (l,a):=by
 cases l with
 | nil=>rfl
 | cons c t=>
  rw[uz];unfold stops at h;simp[iq]at h;rw[if_neg (by rintro(h1 | h1);exact h.1.1 (UInt8.toNat_inj.1 h1);exact h.1.2 (UInt8.toNat_inj.1 h1)),if_neg (by simp[h.2])]
theorem Z4{x:B}(hx:bg dN (x++dN)=some x.length)(l:B)(a:Nat):cO (dV++(x++dN)++l) a=cO l (a+(2+x.length+2)):=by
 have e:dV++(x++dN)++l=47::(42::((x++dN)++l)):=by simp[dV]
 have hd:(47::(42::((x++dN)++l))).drop 2=(x++dN)++l:=rfl;have hf:bg dN ((x++dN)++l)=some x.length:=by
  have:=qg (w:=dN) (by simp[dN]) l hx;rw[List.take_of_length_le (by simp)]at this;exact this
 have hdd:(47::(42::((x++dN)++l))).drop (2+x.length+2)=l:=by
  rw[show 2+x.length+2=2+(x.length+2) from by omega,←List.drop_drop,hd,List.append_assoc,List.drop_append];simp[dN]
 rw[e,uz,if_neg (by decide),if_pos (by simp[dV,List.isPrefixOf]),hd,hf];simp only;rw[hdd]
theorem afq{g:B}(hg:uy g):∀(l:B) (a:Nat),cO (g++l) a=cO l (a+g.length):=by
 induction hg with
 | nil=>intro l a;rfl
 | @one c t hc ht ih=>
  intro l a;rw[List.cons_append,uz,if_pos hc,ih];simp only[List.length_cons];congr 1;omega
 | @note x t hx ht ih=>
  intro l a;rw[List.append_assoc,Z4 hx,ih];congr 1;simp[dV,dN];omega
theorem MG:∀(n:Nat) (l:B) (a:Nat) (l':B) (a':Nat),l.length≤n→cO l a=.ok (l',a')→∃g,uy g∧l=g++l'∧a'=a+g.length∧stops l'=true:=by
 intro n
 induction n with
 | zero=>
  intro l a l' a' hn h;obtain rfl:=List.length_eq_zero_iff.1 (Nat.le_zero.1 hn);cases h;exact⟨[],.nil,rfl,rfl,by decide⟩
 | succ n ih=>
  intro l a l' a' hn h;cases l with
  | nil=>cases h;exact⟨[],.nil,rfl,rfl,by decide⟩
  | cons c t=>
   rw[uz]at h;split at h
   ·rename_i hc
    obtain⟨g,h1,h2,h3,h4⟩:=ih t (a+1) l' a' (by simp at hn;omega) h;exact⟨c::g,.one hc h1,by rw[h2];rfl,by simp[h3];omega,h4⟩
   rename_i hc
   split at h
   ·rename_i hp
    split at h
    ·cases h
    rename_i e hf
    obtain⟨x,hx,hsplit,hfx⟩:=TD hp hf;obtain⟨g,h1,h2,h3,h4⟩:=ih _ _ l' a' (by simp at hn ⊢;omega) h;refine⟨dV++(x++dN)++g,.note hfx h1,?_,?_,h4⟩
    ·conv=>lhs;rw[hsplit,h2]
     simp
    rw[h3];simp[dV,dN];omega
   rename_i hp
   cases h;refine⟨[],.nil,rfl,rfl,?_⟩;have h1:¬c=32:=λe=>hc (.inl (by rw[e];rfl))
   have h2:¬c=10:=λe=>hc (.inr (by rw[e];rfl))
   unfold stops;rw[Bool.and_eq_true,Bool.and_eq_true,iq,iq];refine⟨⟨by simp[h1],by simp[h2]⟩,by rw[Bool.not_eq_true]at hp;rw[hp];rfl⟩
theorem fA{l l':B}{a a':Nat}(h:cO l a=.ok (l',a')):∃g,uy g∧l=g++l'∧a'=a+g.length∧stops l'=true∧∀m b,Same l' m→cO (g++m) b=.ok (m,b+g.length):=by
 obtain⟨g,h1,h2,h3,h4⟩:=MG _ l a l' a' (Nat.le_refl _) h;exact⟨g,h1,h2,h3,h4,λm b hs=>by rw[afq h1,ZY _ (TF hs h4)]⟩
theorem iM{w l l':B}{a a':Nat}(h:aV w l a=.ok (l',a')):l=w++l'∧a'=a+w.length∧∀m b,aV w (w++m) b=.ok (m,b+w.length):=by
 unfold aV at h;split at h
 ·rename_i hp
  cases h;obtain⟨r,rfl⟩:=List.isPrefixOf_iff_prefix.1 hp;refine⟨by simp,rfl,λm b=>?_⟩;unfold aV;rw[if_pos (List.isPrefixOf_iff_prefix.2 (List.prefix_append _ _))];simp
 cases h
theorem fM{w l:B}(h:w.isPrefixOf l=true):∃r,l=w++r∧l.drop w.length=r:=by
 obtain⟨r,rfl⟩:=List.isPrefixOf_iff_prefix.1 h;exact⟨r,rfl,by simp⟩
theorem jF(w r:B):w.isPrefixOf (w++r)=true:=List.isPrefixOf_iff_prefix.2 (List.prefix_append _ _)
theorem mP{l l' v:B}{a a':Nat}(h:dM l a=.ok (v,l',a')):0<v.length∧l=v++l'∧a'=a+v.length∧v.length≤20∧aJ l=v.length:=by
 unfold dM at h;split at h
 ·cases h
 rename_i hn
 cases h;have hle:=gZ l;have:(l.take (aJ l)).length=aJ l:=by simp;omega
 exact⟨by omega,(List.take_append_drop _ _).symm,by omega,by omega,this.symm⟩
theorem MH:Loc iF:=by
 intro l a v l' a' h;unfold iF at h;obtain⟨⟨nm,l1,a1⟩,h1,h⟩:=then_ok h;obtain⟨t1,rfl,rfl,k1⟩:=qV _ _ _ _ _ h1;simp only at h;split at h
 ·cases h
 rename_i hns
 split at h
 ·rename_i hp
  obtain⟨r,rfl,hd⟩:=fM hp;rw[show([61]:B).length=1 from rfl]at hd;rw[hd]at h;obtain⟨⟨v2,l2,a2⟩,h2,h⟩:=then_ok h;obtain⟨t2,rfl,rfl,k2⟩:=qV _ _ _ _ _ h2;obtain⟨⟨l3,a3⟩,h3,h⟩:=then_ok h;obtain⟨rfl,rfl,k3⟩:=iM h3;cases h;refine⟨t1++([61]++(t2++[93])),by simp,by simp;omega,λm b hs=>?_⟩;unfold iF;have e1:=k1 ([61]++(t2++([93]++m))) b (((hs.pre [93]).pre t2).pre [61]);rw[show(t1++([61]++(t2++[93])))++m=t1++([61]++(t2++([93]++m))) from by simp];rw[bW e1];simp only;rw[if_neg hns,if_pos (jF _ _)];have e2:=k2 ([93]++m) (b+t1.length+1) (hs.pre [93]);have hd2:([61]++(t2++([93]++m))).drop 1=t2++([93]++m):=rfl;rw[hd2,bW e2];simp only;rw[bW (k3 m _)];simp;omega
 rename_i hp
 obtain⟨⟨l3,a3⟩,h3,h⟩:=then_ok h;obtain⟨rfl,rfl,k3⟩:=iM h3;cases h;refine⟨t1++[93],by simp,by simp;omega,λm b hs=>?_⟩;unfold iF;have e1:=k1 ([93]++m) b (hs.pre [93]);rw[show(t1++[93])++m=t1++([93]++m) from by simp,bW e1];simp only;rw[if_neg hns,if_neg (by simp[List.isPrefixOf]),bW (k3 m _)];simp;omega
theorem Aw{l:B}{a:Nat}{v:Option bQ}{l':B}{a':Nat}(h:iI l a=.ok (v,l',a')):
  ∃t,l=t++l'∧a'=a+t.length∧(v≠none→0<t.length)∧(v=none→t=[])∧∀m b,Same l' m→iI (t++m) b=.ok (v,m,b+t.length):=by
 unfold iI at h;split at h
 ·rename_i hp
  obtain⟨r,rfl,hd⟩:=fM hp;rw[show([46]:B).length=1 from rfl]at hd;rw[hd]at h;obtain⟨⟨nm,l1,a1⟩,h1,h⟩:=then_ok h;obtain⟨t1,rfl,rfl,k1⟩:=qV _ _ _ _ _ h1;cases h;refine⟨[46]++t1,by simp,by simp;omega,by simp,by simp,λm b hs=>?_⟩;unfold iI;rw[List.append_assoc,if_pos (jF _ _)];have hd2:([46]++(t1++m)).drop 1=t1++m:=rfl;rw[hd2,bW (k1 m _ hs)];simp;omega
 rename_i hp1
 split at h
 ·rename_i hp
  obtain⟨r,rfl,hd⟩:=fM hp;rw[show([35]:B).length=1 from rfl]at hd;rw[hd]at h;obtain⟨⟨nm,l1,a1⟩,h1,h⟩:=then_ok h;obtain⟨t1,rfl,rfl,k1⟩:=qV _ _ _ _ _ h1;cases h;refine⟨[35]++t1,by simp,by simp;omega,by simp,by simp,λm b hs=>?_⟩;unfold iI;rw[List.append_assoc,if_neg (by simp[List.isPrefixOf]),if_pos (jF _ _)];have hd2:([35]++(t1++m)).drop 1=t1++m:=rfl;rw[hd2,bW (k1 m _ hs)];simp;omega
 rename_i hp2
 split at h
 ·rename_i hp
  obtain⟨r,rfl,hd⟩:=fM hp;cases h;refine⟨firstWord,by simp[firstWord],by simp[firstWord],by simp[firstWord],by simp,λm b hs=>?_⟩;unfold iI;rw[if_neg (by simp[firstWord,List.isPrefixOf]),if_neg (by simp[firstWord,List.isPrefixOf]),if_pos (jF _ _)];simp[firstWord]
 rename_i hp3
 split at h
 ·rename_i hp
  obtain⟨r,rfl,hd⟩:=fM hp;rw[show([91]:B).length=1 from rfl]at hd;rw[hd]at h;obtain⟨⟨nm,l1,a1⟩,h1,h⟩:=then_ok h;obtain⟨t1,rfl,rfl,k1⟩:=MH _ _ _ _ _ h1;cases h;refine⟨[91]++t1,by simp,by simp;omega,by simp,by simp,λm b hs=>?_⟩;unfold iI;rw[List.append_assoc,if_neg (by simp[List.isPrefixOf]),if_neg (by simp[List.isPrefixOf]),if_neg (by simp[firstWord,List.isPrefixOf]),if_pos (jF _ _)];have hd2:([91]++(t1++m)).drop 1=t1++m:=rfl;rw[hd2,bW (k1 m _ hs)];simp;omega
 rename_i OD
 cases h;refine⟨[],rfl,rfl,by simp,by simp,λm b hs=>?_⟩;unfold iI;rw[List.nil_append,←hs.one,if_neg hp1,←hs.one,if_neg hp2,←hs.word _ TB,if_neg hp3,←hs.one,if_neg OD]
 rfl
theorem TG:∀(f:Nat) (ts:List bQ) (q:Bool) (l:B) (a:Nat) (v:List bQ) (l':B) (a':Nat),dF f ts q l a=.ok (v,l',a') →
  ∃t,l=t++l'∧a'=a+t.length∧(q=false→0<t.length)∧∀(g:Nat) (m:B) (b:Nat),t.length<g→Same l' m→dF g ts q (t++m) b=.ok (v,m,b+t.length):=by
 intro f
 induction f with
 | zero=>intro ts q l a v l' a' h;cases h
 | succ f ih=>
  intro ts q l a v l' a' h;rw[dF]at h;obtain⟨⟨x,l1,a1⟩,h1,h⟩:=then_ok h;obtain⟨t1,rfl,rfl,p1,z1,k1⟩:=Aw h1;cases x with
  | none=>
   obtain rfl:=z1 rfl;simp only at h;split at h
   ·rename_i hq
    cases h;refine⟨[],rfl,rfl,by simp[hq],λg m b hg hs=>?_⟩;cases g with
    | zero=>simp at hg
    | succ g=>
     rw[dF];rw[bW (k1 m b hs)];simp only;rw[if_pos hq];rfl
   cases h
  | some x=>
   simp only at h;split at h
   ·cases h
   rename_i hn
   have hpos:=p1 (by simp);obtain⟨t2,rfl,rfl,p2,k2⟩:=ih _ _ _ _ _ _ _ h;refine⟨t1++t2,by simp,by simp;omega,λ_=>by simp;omega,λg m b hg hs=>?_⟩;cases g with
   | zero=>simp at hg
   | succ g=>
    rw[dF,List.append_assoc,bW (k1 (t2++m) b (hs.pre t2))];simp only;rw[if_neg hn,k2 g m _ (by simp at hg;omega) hs];simp;omega
theorem oM:Loc eU∧∀l a v l' a',eU l a=.ok (v,l',a')→a<a':=by
 have main:∀l a v l' a',eU l a=.ok (v,l',a')→∃t,l=t++l'∧a'=a+t.length∧0<t.length∧∀m b,Same l' m→eU (t++m) b=.ok (v,m,b+t.length):=by
  intro l a v l' a' h;unfold eU at h;obtain⟨⟨ts,q,l1,a1⟩,h1,h⟩:=then_ok h;obtain⟨t2,hl1,rfl,p2,k2⟩:=TG _ _ _ _ _ _ _ _ h;unfold uw at h1;split at h1
  ·rename_i hp
   obtain⟨r,rfl,hd⟩:=fM hp;rw[show([42]:B).length=1 from rfl]at hd;rw[hd]at h1;cases h1;subst hl1;refine⟨[42]++t2,by simp,by simp;omega,by simp,λm b hs=>?_⟩;unfold eU uw;rw[List.append_assoc,if_pos (jF _ _)];have hd2:([42]++(t2++m)).drop 1=t2++m:=rfl;rw[hd2,Ans.aN];simp only;rw[k2 _ m _ (by simp;omega) hs];simp;omega
  rename_i hp
  split at h1
  ·rename_i hn0
   cases h1;subst hl1;have hpos:=p2 rfl;refine⟨t2,rfl,rfl,hpos,λm b hs=>?_⟩;have hsm:(t2++m).head?=(t2++l').head?:=by
    cases t2 with
    | nil=>simp at hpos
    | cons c t=>rfl
   unfold eU uw;rw[iq,hsm,←iq,if_neg hp];have:aJ (t2++m)=0:=by
    cases t2 with
    | nil=>simp at hpos
    | cons c t=>
     rw[List.cons_append,qU]at hn0 ⊢;split at hn0
     ·rename_i hc
      have hm:dK c=true:=by simp[dK,hc]
      rw[List.takeWhile_cons,if_pos hm]at hn0;simp at hn0
     rename_i hc;rw[if_neg hc]
   rw[if_pos this,Ans.aN];simp only;rw[k2 _ m _ (by simp;omega) hs]
  rename_i hn0
  obtain⟨⟨nm,l2,a2⟩,h2,h1⟩:=then_ok h1;cases h1;obtain⟨hnl,hnm,hna,_,hnn⟩:=mP h2;obtain⟨t1,rfl,hta,k1⟩:=qV _ _ _ _ _ h2;have ht1:t1.length=nm.length:=by omega
  subst hl1 hta;refine⟨t1++t2,by simp,by simp;omega,by simp;omega,λm b hs=>?_⟩;unfold eU uw;have e1:=k1 (t2++m) b (hs.pre t2);obtain⟨_,_,_,_,ao4⟩:=mP e1;have h42:¬([42]:B).isPrefixOf (t1++(t2++m))=true:=by
   cases t1 with
   | nil=>simp at ht1;omega
   | cons c t=>rw[iq]at hp ⊢;exact hp
  rw[List.append_assoc,if_neg h42,if_neg (by omega),bW e1];simp only[Ans.aN];rw[k2 _ m _ (by simp;omega) hs];simp;omega
 exact⟨λl a v l' a' h=>by obtain⟨t,h1,h2,_,h3⟩:=main l a v l' a' h;exact⟨t,h1,h2,h3⟩,
  λl a v l' a' h=>by obtain⟨t,h1,h2,h3,_⟩:=main l a v l' a' h;omega⟩
theorem Az{g:Bool}{l m:B}(h:Same l m):kG g l=kG g m:=by
 unfold kG;rw[h.isEmpty,h.one,h.one]
theorem OT:Loc lH:=by
 intro l a v l' a' h;unfold lH at h;obtain⟨⟨l1,a1⟩,h1,h⟩:=then_ok h;obtain⟨t1,g1,rfl,rfl,st1,k1⟩:=fA h1;simp only at h;split at h
 ·rename_i hp
  obtain⟨r,rfl,hd⟩:=fM hp;rw[show([62]:B).length=1 from rfl]at hd;rw[hd]at h;obtain⟨⟨l2,a2⟩,h2,h⟩:=then_ok h;obtain⟨t2,g2,rfl,rfl,st2,k2⟩:=fA h2;cases h;refine⟨t1++([62]++t2),by simp,by simp;omega,λm b hs=>?_⟩;unfold lH;rw[show(t1++([62]++t2))++m=t1++([62]++(t2++m)) from by simp,bW (k1 ([62]++(t2++m)) b ((hs.pre t2).pre [62]))];simp only;rw[if_pos (jF _ _)];have hd2:([62]++(t2++m)).drop 1=t2++m:=rfl;rw[hd2,bW (k2 m _ hs)];simp;omega
 rename_i hp1
 split at h
 ·rename_i hp
  obtain⟨r,rfl,hd⟩:=fM hp;rw[show([43]:B).length=1 from rfl]at hd;rw[hd]at h;obtain⟨⟨l2,a2⟩,h2,h⟩:=then_ok h;obtain⟨t2,g2,rfl,rfl,st2,k2⟩:=fA h2;cases h;refine⟨t1++([43]++t2),by simp,by simp;omega,λm b hs=>?_⟩;unfold lH;rw[show(t1++([43]++t2))++m=t1++([43]++(t2++m)) from by simp,bW (k1 ([43]++(t2++m)) b ((hs.pre t2).pre [43]))];simp only;rw[if_neg (by simp[List.isPrefixOf]),if_pos (jF _ _)];have hd2:([43]++(t2++m)).drop 1=t2++m:=rfl;rw[hd2,bW (k2 m _ hs)];simp;omega
 rename_i hp2
 have hdec:∀b:Nat,decide (b<b+t1.length)=decide (a<a+t1.length):=λb=>by
  rw[Bool.eq_iff_iff];simp
 split at h
 ·rename_i he
  cases h;refine⟨t1,rfl,rfl,λm b hs=>?_⟩;unfold lH;rw[bW (k1 m b hs)];simp only;rw[←hs.one,if_neg hp1,←hs.one,if_neg hp2,hdec,←Az hs,if_pos he]
 rename_i he
 cases h;refine⟨t1,rfl,rfl,λm b hs=>?_⟩;unfold lH;rw[bW (k1 m b hs)];simp only;rw[←hs.one,if_neg hp1,←hs.one,if_neg hp2,hdec,←Az hs,if_neg he]
theorem OU:∀(f:Nat) (ps:List eP) (l:B) (a:Nat) (v:dZ) (l':B) (a':Nat),jZ f ps l a=.ok (v,l',a') →
  ∃t,l=t++l'∧a'=a+t.length∧∀(g:Nat) (m:B) (b:Nat),t.length<g→Same l' m→jZ g ps (t++m) b=.ok (v,m,b+t.length):=by
 intro f
 induction f with
 | zero=>intro ps l a v l' a' h;cases h
 | succ f ih=>
  intro ps l a v l' a' h;rw[jZ]at h;obtain⟨⟨x,l1,a1⟩,h1,h⟩:=then_ok h;obtain⟨t1,rfl,rfl,k1⟩:=OT _ _ _ _ _ h1;cases x with
  | none=>
   cases h;refine⟨t1,rfl,rfl,λg m b hg hs=>?_⟩;cases g with
   | zero=>simp at hg
   | succ g=>rw[jZ,bW (k1 m b hs)]
  | some j=>
   simp only at h;split at h
   ·cases h
   rename_i hn
   obtain⟨⟨ts,l2,a2⟩,h2,h⟩:=then_ok h;have hlt:=oM.2 _ _ _ _ _ h2;obtain⟨t2,rfl,rfl,k2⟩:=oM.1 _ _ _ _ _ h2;obtain⟨t3,rfl,rfl,k3⟩:=ih _ _ _ _ _ _ h;refine⟨t1++(t2++t3),by simp,by simp;omega,λg m b hg hs=>?_⟩;cases g with
   | zero=>simp at hg
   | succ g=>
    rw[jZ,show(t1++(t2++t3))++m=t1++(t2++(t3++m)) from by simp,bW (k1 _ b ((hs.pre t3).pre t2))];simp only;rw[if_neg hn,bW (k2 _ _ (hs.pre t3))];simp only;rw[k3 g m _ (by simp at hg;omega) hs];simp;omega
theorem EY:Loc pq∧∀l a v l' a',pq l a=.ok (v,l',a')→a<a':=by
 refine⟨λl a v l' a' h=>?_,λl a v l' a' h=>?_⟩
 ·unfold pq at h;obtain⟨⟨ts,l1,a1⟩,h1,h⟩:=then_ok h;obtain⟨t1,rfl,rfl,k1⟩:=oM.1 _ _ _ _ _ h1;obtain⟨t2,rfl,rfl,k2⟩:=OU _ _ _ _ _ _ _ h;refine⟨t1++t2,by simp,by simp;omega,λm b hs=>?_⟩;unfold pq;rw[List.append_assoc,bW (k1 _ b (hs.pre t2))];simp only;rw[k2 _ m _ (by simp;omega) hs];simp;omega
 unfold pq at h;obtain⟨⟨ts,l1,a1⟩,h1,h⟩:=then_ok h;have:=oM.2 _ _ _ _ _ h1;obtain⟨t2,_,rfl,k2⟩:=OU _ _ _ _ _ _ _ h;omega
theorem XA:∀(f:Nat) (ss:List dZ) (l:B) (a:Nat) (v:List dZ) (l':B) (a':Nat),gB f ss l a=.ok (v,l',a') →
  ∃t,l=t++l'∧a'=a+t.length∧0<t.length∧∀(g:Nat) (m:B) (b:Nat),t.length<g→Same l' m→gB g ss (t++m) b=.ok (v,m,b+t.length):=by
 intro f
 induction f with
 | zero=>intro ps l a v l' a' h;cases h
 | succ f ih=>
  intro ps l a v l' a' h;rw[gB]at h;split at h
  ·cases h
  rename_i hn
  obtain⟨⟨x,l1,a1⟩,h1,h⟩:=then_ok h;have hlt:=EY.2 _ _ _ _ _ h1;obtain⟨t1,rfl,rfl,k1⟩:=EY.1 _ _ _ _ _ h1;simp only at h;split at h
  ·rename_i hp
   obtain⟨r,rfl,hd⟩:=fM hp;rw[show([44]:B).length=1 from rfl]at hd;rw[hd]at h;obtain⟨⟨l2,a2⟩,h2,h⟩:=then_ok h;obtain⟨t2,g2,rfl,rfl,st2,k2⟩:=fA h2;obtain⟨t3,rfl,rfl,p3,k3⟩:=ih _ _ _ _ _ _ h;refine⟨t1++([44]++(t2++t3)),by simp,by simp;omega,by simp;omega,λg m b hg hs=>?_⟩;cases g with
   | zero=>simp at hg
   | succ g=>
    rw[gB,if_neg hn,show(t1++([44]++(t2++t3)))++m=t1++([44]++(t2++(t3++m))) from by simp,bW (k1 _ b (((hs.pre t3).pre t2).pre [44]))];simp only;rw[if_pos (jF _ _)];have hd2:([44]++(t2++(t3++m))).drop 1=t2++(t3++m):=rfl;rw[hd2,bW (k2 _ _ (hs.pre t3))];simp only;rw[k3 g m _ (by simp at hg;omega) hs];simp;omega
  rename_i hp
  cases h;refine⟨t1,rfl,rfl,by omega,λg m b hg hs=>?_⟩;cases g with
  | zero=>simp at hg
  | succ g=>
   rw[gB,if_neg hn,bW (k1 m b hs)];simp only;rw[←hs.one,if_neg hp]
theorem Z5:∀(f:Nat) (ws:List B) (l:B) (a:Nat) (v:B) (l':B) (a':Nat),jI f ws l a=.ok (v,l',a') →
  ∃t,l=t++l'∧a'=a+t.length∧∀(g:Nat) (m:B) (b:Nat),t.length<g→Same l' m→jI g ws (t++m) b=.ok (v,m,b+t.length):=by
 intro f
 induction f with
 | zero=>intro ps l a v l' a' h;cases h
 | succ f ih=>
  intro ws l a v l' a' h;rw[jI]at h;simp only at h;split at h
  ·rename_i hw
   split at h
   ·cases h
   rename_i hws
   cases h;refine⟨[],rfl,rfl,λg m b hg hs=>?_⟩;cases g with
   | zero=>simp at hg
   | succ g=>
    rw[jI];simp only;have:([]++m).takeWhile isWord=[]:=qR [] hs.head (by simpa using hw);rw[this,if_pos rfl,if_neg hws];rfl
  rename_i hw
  split at h
  ·cases h
  rename_i hlen
  obtain⟨⟨l1,a1⟩,h1,h⟩:=then_ok h;obtain⟨t1,g1,hl1,rfl,st1,k1⟩:=fA h1;obtain⟨t2,rfl,rfl,k2⟩:=ih _ _ _ _ _ _ h;have hsplit:l=l.takeWhile isWord++(t1++(t2++l')):=by
   have hp:l=l.takeWhile isWord++l.drop (l.takeWhile isWord).length:=by
    conv=>lhs;rw[←List.take_append_drop (l.takeWhile isWord).length l]
    rw[takeWhile_take]
   rw[hl1]at hp;exact hp
  obtain⟨w,hwd⟩:∃w,w=l.takeWhile isWord:=⟨_,rfl⟩;rw[←hwd]at hsplit hw hlen h h1 k2 ⊢;subst hsplit;have hpos:0<w.length:=List.length_pos_iff.2 hw;refine⟨w++(t1++t2),by simp,by simp;omega,λg m b hg hs=>?_⟩;cases g with
  | zero=>simp at hg
  | succ g=>
   rw[jI];simp only;have hsame:Same (t1++(t2++l')) (t1++(t2++m)):=(hs.pre t2).pre t1;have e0:(w++(t1++t2))++m=w++(t1++(t2++m)):=by simp
   have:(w++(t1++(t2++m))).takeWhile isWord=w:=qR w hsame.head hwd.symm;rw[e0,this,if_neg hw,if_neg hlen];have hd:(w++(t1++(t2++m))).drop w.length=t1++(t2++m):=by simp
   rw[hd,bW (k1 _ _ (hs.pre t2))];simp only;rw[k2 g m _ (by simp at hg;omega) hs];simp;omega
theorem Wh:Loc zy:=by
 intro l a v l' a' h;unfold zy at h;obtain⟨t,h1,h2,k⟩:=Z5 _ _ _ _ _ _ _ h;exact⟨t,h1,h2,λm b hs=>by unfold zy;exact k _ m b (by simp;omega) hs⟩
theorem Fz:Loc fK:=by
 intro l a v l' a' h;unfold fK at h;split at h
 ·rename_i hp
  obtain⟨r,rfl,hd⟩:=fM hp;rw[show([33]:B).length=1 from rfl]at hd;rw[hd]at h;obtain⟨⟨l1,a1⟩,h1,h⟩:=then_ok h;obtain⟨rfl,rfl,k1⟩:=iM h1;obtain⟨⟨l2,a2⟩,h2,h⟩:=then_ok h;obtain⟨t2,g2,rfl,rfl,st2,k2⟩:=fA h2;cases h;refine⟨[33]++(bM++t2),by simp,by simp;omega,λm b hs=>?_⟩;unfold fK;rw[show([33]++(bM++t2))++m=[33]++(bM++(t2++m)) from by simp,if_pos (jF _ _)];have hd2:([33]++(bM++(t2++m))).drop 1=bM++(t2++m):=rfl;rw[hd2,bW (k1 _ _)];simp only;rw[bW (k2 _ _ hs)];simp;omega
 rename_i hp
 cases h;refine⟨[],rfl,rfl,λm b hs=>?_⟩;unfold fK;rw[List.nil_append,←hs.one,if_neg hp];rfl
theorem FB:Loc qQ∧∀l a v l' a',qQ l a=.ok (v,l',a')→a<a':=by
 have main:∀l a v l' a',qQ l a=.ok (v,l',a')→∃t,l=t++l'∧a'=a+t.length∧0<t.length∧∀m b,Same l' m→qQ (t++m) b=.ok (v,m,b+t.length):=by
  intro l a v l' a' h;unfold qQ at h;obtain⟨⟨nm,l1,a1⟩,h1,h⟩:=then_ok h;obtain⟨hpos,_,hna,_,_⟩:=mP h1;obtain⟨t1,rfl,hta,k1⟩:=qV _ _ _ _ _ h1;have ht1:t1.length=nm.length:=by omega
  subst hta;obtain⟨⟨l2,a2⟩,h2,h⟩:=then_ok h;obtain⟨t2,g2,rfl,rfl,st2,k2⟩:=fA h2;obtain⟨⟨l3,a3⟩,h3,h⟩:=then_ok h;obtain⟨rfl,rfl,k3⟩:=iM h3;obtain⟨⟨l4,a4⟩,h4,h⟩:=then_ok h;obtain⟨t4,g4,rfl,rfl,st4,k4⟩:=fA h4;obtain⟨⟨v5,l5,a5⟩,h5,h⟩:=then_ok h;obtain⟨t5,rfl,rfl,k5⟩:=Wh _ _ _ _ _ h5;obtain⟨⟨v6,l6,a6⟩,h6,h⟩:=then_ok h;obtain⟨t6,rfl,rfl,k6⟩:=Fz _ _ _ _ _ h6;cases h;refine⟨t1++(t2++([58]++(t4++(t5++t6)))),by simp,by simp;omega,by simp;omega,λm b hs=>?_⟩;unfold qQ;rw[show(t1++(t2++([58]++(t4++(t5++t6)))))++m=t1++(t2++([58]++(t4++(t5++(t6++m))))) from by simp];rw[bW (k1 _ b (((((hs.pre t6).pre t5).pre t4).pre [58]).pre t2))];simp only;rw[bW (k2 _ _ ((((hs.pre t6).pre t5).pre t4).pre [58]))];simp only;rw[bW (k3 _ _)];simp only;rw[bW (k4 _ _ ((hs.pre t6).pre t5))];simp only;rw[bW (k5 _ _ (hs.pre t6))];simp only;rw[bW (k6 _ _ hs)];simp;omega
 exact⟨λl a v l' a' h=>by obtain⟨t,h1,h2,_,h3⟩:=main l a v l' a' h;exact⟨t,h1,h2,h3⟩,
  λl a v l' a' h=>by obtain⟨t,h1,h2,h3,_⟩:=main l a v l' a' h;omega⟩
theorem TI:∀(f:Nat) (ds:List aC) (l:B) (a:Nat) (v:List aC) (l':B) (a':Nat),cZ f ds l a=.ok (v,l',a') →
  ∃t,l=t++l'∧a'=a+t.length∧∀(g:Nat) (m:B) (b:Nat),t.length<g→Same l' m→cZ g ds (t++m) b=.ok (v,m,b+t.length):=by
 intro f
 induction f with
 | zero=>intro ps l a v l' a' h;cases h
 | succ f ih=>
  intro ds l a v l' a' h;rw[cZ]at h;split at h
  ·rename_i he
   cases h;refine⟨[],rfl,rfl,λg m b hg hs=>?_⟩;cases g with
   | zero=>simp at hg
   | succ g=>rw[cZ,List.nil_append,←hs.isEmpty,←hs.one,if_pos he];rfl
  rename_i he
  split at h
  ·cases h
  rename_i hn
  obtain⟨⟨d,l1,a1⟩,h1,h⟩:=then_ok h;have hlt:=FB.2 _ _ _ _ _ h1;obtain⟨t1,rfl,rfl,k1⟩:=FB.1 _ _ _ _ _ h1;have he2:∀m:B,¬((t1++m).isEmpty||([125]:B).isPrefixOf (t1++m))=true:=by
   intro m;cases t1 with
   | nil=>simp at hlt
   | cons c t=>rw[iq]at he ⊢;exact he
  simp only at h;split at h
  ·rename_i hp
   obtain⟨r,rfl,hd⟩:=fM hp;rw[show([59]:B).length=1 from rfl]at hd;rw[hd]at h;obtain⟨⟨l2,a2⟩,h2,h⟩:=then_ok h;obtain⟨t2,g2,rfl,rfl,st2,k2⟩:=fA h2;obtain⟨t3,rfl,rfl,k3⟩:=ih _ _ _ _ _ _ h;refine⟨t1++([59]++(t2++t3)),by simp,by simp;omega,λg m b hg hs=>?_⟩;cases g with
   | zero=>simp at hg
   | succ g=>
    rw[cZ,show(t1++([59]++(t2++t3)))++m=t1++([59]++(t2++(t3++m))) from by simp,if_neg (he2 _),if_neg hn,bW (k1 _ b (((hs.pre t3).pre t2).pre [59]))];simp only;rw[if_pos (jF _ _)];have hd2:([59]++(t2++(t3++m))).drop 1=t2++(t3++m):=rfl;rw[hd2,bW (k2 _ _ (hs.pre t3))];simp only;rw[k3 g m _ (by simp at hg;omega) hs];simp;omega
  rename_i hp
  cases h;refine⟨t1,rfl,rfl,λg m b hg hs=>?_⟩;cases g with
  | zero=>simp at hg
  | succ g=>
   rw[cZ,if_neg (he2 _),if_neg hn,bW (k1 m b hs)];simp only;rw[←hs.one,if_neg hp]
theorem XB:Loc iY:=by
 intro l a v l' a' h;unfold iY at h;obtain⟨⟨l1,a1⟩,h1,h⟩:=then_ok h;obtain⟨t1,g1,rfl,rfl,st1,k1⟩:=fA h1;obtain⟨t2,rfl,rfl,k2⟩:=TI _ _ _ _ _ _ _ h;refine⟨t1++t2,by simp,by simp;omega,λm b hs=>?_⟩;unfold iY;rw[List.append_assoc,bW (k1 _ b (hs.pre t2))];simp only;rw[k2 _ m _ (by simp;omega) hs];simp;omega
theorem AA{ay l:B}{a:Nat}{r:au}{l':B}{a':Nat}(h:kU ay l a=.ok (r,l',a')):
  ∃t,l=t++l'∧a'=a+t.length∧r.ay=ay∧r.lo=(a:Int)∧r.hi=((a+t.length:Nat):Int)∧0<t.length ∧
   ∀(md m:B) (b:Nat),kU md (t++m) b=.ok (⟨md,r.aZ,r.decls,(b:Int),((b+t.length:Nat):Int)⟩,m,b+t.length):=by
 unfold kU at h;obtain⟨⟨ss,l1,a1⟩,h1,h⟩:=then_ok h;obtain⟨t1,rfl,rfl,p1,k1⟩:=XA _ _ _ _ _ _ _ h1;obtain⟨⟨l2,a2⟩,h2,h⟩:=then_ok h;obtain⟨rfl,rfl,k2⟩:=iM h2;obtain⟨⟨ds,l3,a3⟩,h3,h⟩:=then_ok h;obtain⟨t3,rfl,rfl,k3⟩:=XB _ _ _ _ _ h3;obtain⟨⟨l4,a4⟩,h4,h⟩:=then_ok h;obtain⟨rfl,rfl,k4⟩:=iM h4;cases h;refine⟨t1++([123]++(t3++[125])),by simp,by simp;omega,rfl,rfl,by simp;omega,by simp;omega,λmd m b=>?_⟩;have hs:Same ([125]++l') ([125]++m):=Same.guard (by decide) _ _;unfold kU;rw[show(t1++([123]++(t3++[125])))++m=t1++([123]++(t3++([125]++m))) from by simp];rw[bW (k1 _ _ b (by simp;omega) ((hs.pre t3).pre [123]))];simp only;rw[bW (k2 _ _)];simp only;rw[bW (k3 _ _ hs)];simp only;rw[bW (k4 _ _)];simp;omega
theorem Ju{l nm:B}{a:Nat}{l':B}{a':Nat}(h:fO l a=.ok (nm,l',a')):
  ∃t,l=t++l'∧a'=a+t.length∧nm≠[]∧∀(m:B) (b:Nat),fO (t++m) b=.ok (nm,m,b+t.length):=by
 unfold fO at h;obtain⟨⟨l1,a1⟩,h1,h⟩:=then_ok h;obtain⟨t1,g1,rfl,rfl,st1,k1⟩:=fA h1;simp only at h;split at h
 ·cases h
 rename_i hne
 obtain⟨⟨nm2,l2,a2⟩,h2,h⟩:=then_ok h;obtain⟨hpos,_⟩:=mP h2;obtain⟨t2,rfl,rfl,k2⟩:=qV _ _ _ _ _ h2;obtain⟨⟨l3,a3⟩,h3,h⟩:=then_ok h;obtain⟨t3,g3,rfl,rfl,st3,k3⟩:=fA h3;obtain⟨⟨l4,a4⟩,h4,h⟩:=then_ok h;obtain⟨rfl,rfl,k4⟩:=iM h4;cases h;refine⟨t1++(t2++(t3++[123])),by simp,by simp;omega,by rintro rfl;simp at hpos,λm b=>?_⟩;have hs:Same ([123]++l4) ([123]++m):=Same.guard (by decide) _ _;unfold fO;rw[show(t1++(t2++(t3++[123])))++m=t1++(t2++(t3++([123]++m))) from by simp];rw[bW (k1 _ b ((hs.pre t3).pre t2))];simp only;rw[if_neg (by omega),bW (k2 _ _ (hs.pre t3))];simp only;rw[bW (k3 _ _ hs)];simp only;rw[bW (k4 _ _)];simp;omega
end Go.Proofs.YtplbdlgmjehckacGreatDoor


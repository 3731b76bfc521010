/-
 Lemmas for the claims of this seat: the program's functions walked, and plain laws.
-/
import Derived.Test.YtplbdlgmjehckacGreatDoorSort
import Derived.Shelf.SlSortCmp.NoneTotal
import Derived.Test.YtplbdlgmjehckacGreatDoorPkFoTellsFull12
set_option maxRecDepth 100000
set_option maxHeartbeats 6400000
namespace Go.Proofs.YtplbdlgmjehckacGreatDoor
open Go.Lib (hid)
open Go.RowKit Go.ChangeShapes Go.WideShapes Go.Deep
set_option linter.unusedVariables false
set_option linter.unusedSimpArgs false
def afG(a:bf):Nat:=a.name.length+a.val.length+1
def akU(n:ak):Nat:=(n.attrs.map afG).sum+n.name.length+1
def afH(t:bQ):Nat:=t.name.length+t.val.length+1
def afI(p:eP):Nat:=(p.tests.map afH).sum+1
def ahF(s:dZ):Nat:=(s.map afI).sum+1
def akV(r:au):Nat:=(r.aZ.map ahF).sum+(r.decls.map afJ).sum+1
section
variable {H:Type} {enc:TypeId×Value→H} {w:World} {spare:Nat→Bool} {held:Bool}
end
end Go.Proofs.YtplbdlgmjehckacGreatDoor

namespace Go.Proofs.YtplbdlgmjehckacGreatDoor
open Go.Lib (hid)
open Go.RowKit
set_option linter.unusedVariables false
set_option linter.unusedSimpArgs false
theorem Nb{l:List MapEntry}(h:(l.map (·.born)).Nodup):∀ {i:Nat} {e:MapEntry},l[i]?=some e→l.filter (λx => !(x.born==e.born))=l.eraseIdx i:=by
 induction l with
 | nil=>intro i e hi;simp at hi
 | cons a l ih=>
  intro i e hi;rw[List.map_cons,List.nodup_cons]at h;cases i with
  | zero=>
   simp only[List.getElem?_cons_zero,Option.some.injEq]at hi;subst hi;simp only[List.filter_cons,beq_self_eq_true,Bool.not_true,Bool.false_eq_true,if_false,List.eraseIdx_cons_zero];rw[List.filter_eq_self];intro x hx;have:x.born≠a.born:=λe=>h.1 (by rw[←e];exact List.mem_map.2 ⟨x,hx,rfl⟩)
   simp[this]
  | succ i=>
   simp only[List.getElem?_cons_succ]at hi;have hne:a.born≠e.born:=λe'=>h.1 (by rw[e'];exact List.mem_map.2 ⟨e,List.mem_of_getElem? hi,rfl⟩)
   have hb:(a.born==e.born)=false:=by simpa using hne
   simp only[List.filter_cons,hb,Bool.not_false,if_true,List.eraseIdx_cons_succ,ih h.2 hi]
theorem X3{es:Array MapEntry}{seen:Array Nat}{i:Nat}{e:MapEntry}(hn:(es.toList.map (·.born)).Nodup)(hi:(leftOf es seen).toList[i]?=some e):(leftOf es (seen.push e.born)).toList=(leftOf es seen).toList.eraseIdx i:=by
 have h1:(leftOf es (seen.push e.born)).toList=(leftOf es seen).toList.filter (λx => !(x.born==e.born)):=by
  unfold leftOf;simp only[Array.toList_filter,List.filter_filter];apply List.filter_congr;intro x _;simp only[Array.contains_push];cases seen.contains x.born<;>cases h:x.born==e.born<;>simp_all
 rw[h1];refine Nb ?_ hi;unfold leftOf;rw[Array.toList_filter];exact(List.filter_sublist.map _).nodup hn
structure lu{α:Type}(enc:α→Value×Value)(w:World)(b r:Nat)(L:List α):Prop where
 ex:∃es clock since seen c0,w.heap[b]?=some (.map es clock)∧MapKept.Stamped es clock∧w.heap[r]?=some (.mapIter (some b) since seen c0)∧(∀x∈es.toList,x.born<since)∧since≤c0∧since≤clock∧(leftOf es seen).toList.map (λe=>(e.key,e.val))=L.map enc
theorem lu.kept{α:Type}{enc:α→Value×Value}{S:Nat→Prop}{w w':World}{b r:Nat}{L:List α}(h:lu enc w b r L)(hk:Kept S w w')(hb:¬S b)(hr:¬S r):lu enc w' b r L:=by
 obtain⟨es,clock,since,seen,c0,h1,h2,h3,h4⟩:=h.ex;exact⟨⟨es,clock,since,seen,c0,hk.heap hb h1,h2,hk.heap hr h3,h4⟩⟩
theorem lu.Bd{α:Type}{enc:α→Value×Value}{w:World}{b r:Nat}{L:List α}(h:lu enc w b r L):w.rangeLeft b r=L.length:=by
 obtain⟨es,clock,since,seen,c0,h1,h2,h3,h4,h5,h6,h7⟩:=h.ex;simp only[World.rangeLeft,h1,h3];have:=congrArg List.length h7;simpa using this
theorem vJ{α β:Type}(f:α→β):∀(l:List α) (j:Nat),(l.eraseIdx j).map f=(l.map f).eraseIdx j
 | [],_=>by simp
 | _::_,0=>by simp
 | a::l,j+1=>by simp[vJ f l j]
theorem Gf{α:Type}:∀ {l:List α} {j:Nat} {x:α},l[j]?=some x→l.Perm (x::l.eraseIdx j)
 | [],_,_,h=>by simp at h
 | a::l,0,x,h=>by simp at h;subst h;simp
 | a::l,j+1,x,h=>by
  simp only[List.getElem?_cons_succ]at h;simp only[List.eraseIdx_cons_succ];exact((Gf h).cons a).trans (.swap x a _)
section
variable {P:Program} {mty kt et:TypeId} {kind:TypeDesc} {α:Type} {enc:α→Value×Value}
theorem lu.start{w:World}{b:Nat}{f:Value→Option Value}(h:dL kind w b f)(hm:P.underlying mty=some (.map kt et))(L0:List (Value×Value)→List α)(hL:∀es:Array MapEntry,(∀x∈es.toList,MapKept.IsKey kind x.key∧f x.key=some x.val)→(L0 (es.toList.map λe=>(e.key,e.val))).map enc=es.toList.map λe=>(e.key,e.val)):
  ∃w' l,(Instr.range mty (.map (some b))).run P w=.ok (.pointer (some ⟨w.heap.size,0,none⟩)) w'∧lu enc w' b w.heap.size (L0 l)∧(L0 l).map enc=l∧(l.map (·.1)).Nodup∧(∀k v,MapKept.IsKey kind k→(f k=some v↔(k,v)∈l))∧(∀x∈l,MapKept.IsKey kind x.1)∧Kept (λ_=>False) w w'∧w'.heap.size=w.heap.size+1:=by
 obtain⟨es,c,h1,h2,h3,h4⟩:=h.ex;have hl:=hL es (λx hx=>⟨h2 x hx,(h4 x.key (h2 x hx) x.val).2 ⟨x,hx,rfl,rfl⟩⟩);refine⟨_,es.toList.map λe=>(e.key,e.val),run_range_map w mty kt et b es c hm h1,⟨es,c,c, #[],c,(heap_alloc_old w _ (gW h1)).trans h1,h3,aI w _,h3.1,Nat.le_refl _,Nat.le_refl _,?_⟩,hl,?_,?_,?_,(Kept.refl _ w).alloc _,by simp⟩
 ·rw[hl];unfold leftOf;rw[Array.toList_filter,List.filter_eq_self.2 (by simp)]
 ·have:=h3.2.2;rw[List.map_map];exact this
 ·intro k v hk;rw[h4 k hk v,List.mem_map];constructor
  ·rintro⟨x,hx,rfl,rfl⟩;exact⟨x,hx,rfl⟩
  rintro⟨x,hx,e⟩;cases e;exact⟨x,hx,rfl,rfl⟩
 intro x hx;obtain⟨y,hy,rfl⟩:=List.mem_map.1 hx;exact h2 y hy
theorem lu.next{w:World}{b r:Nat}{L:List α}(h:lu enc w b r L)(ty:TypeId):
  (L=[]∧(Instr.next (.pointer (some ⟨r,0,none⟩)) false ty).run P w=.ok (.tuple #[.bool false]) w) ∨
  ∃x L' w',L.Perm (x::L')∧(Instr.next (.pointer (some ⟨r,0,none⟩)) false ty).run P w=.ok (.tuple #[.bool true,(enc x).1,(enc x).2]) w'∧lu enc w' b r L'∧Kept (· = r) w w'∧w'.heap.size=w.heap.size ∧
   (Instr.entry (.pointer (some ⟨r,0,none⟩))).run P w'=.ok (.tuple #[(enc x).1,(enc x).2]) w':=by
 obtain⟨es,clock,since,seen,c0,h1,h2,h3,h4,h5,h6,h7⟩:=h.ex;have hrb:r≠b:=by intro e;rw[e,h1]at h3;cases h3
 rcases run_next_at (P:=P) w ty r b since c0 seen es clock h3 h1 h4 h5 with⟨g1,g2⟩ | ⟨e,he,w1,hw1,g2⟩
 ·left;have:(leftOf es seen).toList=[]:=by
   have:(leftOf es seen)=#[]:=Array.eq_empty_of_size_eq_zero g1;rw[this]
  rw[this]at h7;exact⟨by simpa using h7.symm,g2⟩
 right;obtain⟨i,hi⟩:=List.mem_iff_getElem?.1 he;have hli:((leftOf es seen).toList.map (λe=>(e.key,e.val)))[i]?=some (e.key,e.val):=by rw[List.getElem?_map,hi];rfl
 rw[h7,List.getElem?_map,Option.map_eq_some_iff]at hli;obtain⟨x,hx,hxe⟩:=hli;have h1':w1.heap[b]?=some (.map es clock):=by rcases hw1 with rfl | rfl<;>exact h1
 have h3':w1.heap[r]?=some (.mapIter (some b) since seen c0):=by rcases hw1 with rfl | rfl<;>exact h3
 have hkw:Kept (λ_=>False) w w1:=by
  rcases hw1 with rfl | rfl
  ·exact Kept.refl _ _
  exact(Kept.refl _ w).drew
 have hb2:(Go.ChangeMaps.setBlock w1 r (.mapIter (some b) since (seen.push e.born) clock)).heap[b]?=some (.map es clock):=by
  show(w1.heap.setIfInBounds r _)[b]?=_
  rw[(MapKept.heap_set h3').2 b (λh=>hrb h.symm)];exact h1'
 have hr2:(Go.ChangeMaps.setBlock w1 r (.mapIter (some b) since (seen.push e.born) clock)).heap[r]?=some (.mapIter (some b) since (seen.push e.born) clock):=(MapKept.heap_set h3').1;have hmem:e∈es.toList:=by
  unfold leftOf at he;rw[Array.toList_filter]at he;exact(List.mem_filter.1 he).1
 refine⟨x,L.eraseIdx i,_,Gf hx,by rw[hxe];exact g2,⟨es,clock,since,seen.push e.born,clock,hb2,h2,hr2,h4,h6,h6,?_⟩,(hkw.mono (λ_ _ h=>h.elim)).trans (qh _),?_,?_⟩
 ·rw[X3 h2.2.1 hi,vJ,vJ,h7]
 ·show(w1.heap.setIfInBounds r _).size=_
  rw[Array.size_setIfInBounds];rcases hw1 with rfl | rfl<;>rfl
 rw[hxe];exact run_entry_at _ r b since seen es clock e hr2 hb2 hmem h2.2.1
end
end Go.Proofs.YtplbdlgmjehckacGreatDoor
namespace Go.Proofs.YtplbdlgmjehckacGreatDoor
open Go.Lib (hid)
open Go.RowKit
set_option linter.unusedVariables false
set_option linter.unusedSimpArgs false
def Bf(x y:B):Int:=if wC x y=true then -1 else if wC y x=true then 1 else 0
theorem Nc(x:B)(w:World):Calls Tryz.prog 98 #[.string (str x)] w λe w'=>e=.returned (.bool false)∧w'=w:=by
 go_enter Tryz.func98,Tryz.ntmps98
 go_wp2_with fail
 go_ret
 exact⟨rfl,rfl⟩
theorem Bg:∀x y:B,Op.bytesLess x y=wC x y
 | [],[]=>rfl
 | [],_::_=>rfl
 | _::_,[]=>rfl
 | a::x,b::y=>by
  have ih:=Bg x y;simp only[Op.bytesLess,wC,ih];by_cases h:a.toNat<b.toNat
  ·have h':a<b:=by rw[UInt8.lt_iff_toNat_lt];exact h
   simp[h,h']
  have h':¬a<b:=by rw[UInt8.lt_iff_toNat_lt];exact h
  by_cases e:a=b
  ·subst e;simp
  have e':¬a.toNat=b.toNat:=λh=>e (UInt8.toNat_inj.1 h)
  simp[h,h',e,e']
theorem adl(x y:B):Bf x y=if Op.bytesLess x y=true then -1 else if (x==y)=true then 0 else 1:=by
 unfold Bf;rw[Bg];split
 ·rfl
 rename_i h
 by_cases e:x=y
 ·subst e;simp[oN]
 have:wC y x=true:=by
  cases hh:wC y x with
  | true=>rfl
  | false=>exact absurd (qG (by simpa using h) hh) e
 simp[this,e]
theorem PN(x y:B)(w:World):Calls Tryz.prog 60 #[.string (str x),.string (str y)] w λe w'=>e=.returned (.int .i64 (Bf x y))∧w'=w:=by
 obtain⟨r,HR⟩:∃r,Hid (Bf x y=r):=⟨_,rfl⟩;have HE:=hid (adl x y);rw[HR.out];cases h1:Op.bytesLess x y with
 | true=>
  have hr:Hid (-1=r):=hid (by rw[←HR.out,HE.out,h1];rfl);go_enter Tryz.func60,Tryz.ntmps60
  go_wp2_with (go_at_call 98;refine(Nc _ _).mono ?_;rintro e w' ⟨rfl,rfl⟩)
  go_ret
  exact⟨yB hr.out,rfl⟩
 | false=>
  cases h2:(x==y)with
  | true=>
   have hr:Hid (0=r):=hid (by rw[←HR.out,HE.out,h1,h2];rfl);go_enter Tryz.func60,Tryz.ntmps60
   go_wp2_with (go_at_call 98;refine(Nc _ _).mono ?_;rintro e w' ⟨rfl,rfl⟩)
   go_ret
   exact⟨yB hr.out,rfl⟩
  | false=>
   have hr:Hid (1=r):=hid (by rw[←HR.out,HE.out,h1,h2];rfl);go_enter Tryz.func60,Tryz.ntmps60
   go_wp2_with (go_at_call 98;refine(Nc _ _).mono ?_;rintro e w' ⟨rfl,rfl⟩)
   go_ret
   exact⟨yB hr.out,rfl⟩
section
open Go.Shelf Go.Lib Go.Sort
theorem PO(x y:aC)(w:World):Calls Tryz.prog 59 #[.agg (aA x).toArray,.agg (aA y).toArray] w λe w'=>e=.returned (.int .i64 (Bf x.name y.name))∧∃q os',w'=grow (w.drewN q) os':=by
 have hcon:=λW'=>PN x.name y.name W'
 show Calls Tryz.prog 59 #[.agg #[.string (str x.name),.string (str x.val),.bool x.strong],.agg #[.string (str y.name),.string (str y.val),.bool y.strong]] w _
 generalize Bf x.name y.name=r at hcon ⊢;go_enter Tryz.func59,Tryz.ntmps59
 go_wp2_with (go_at_call 60;refine(hcon _).mono ?_;rintro e w' ⟨rfl,rfl⟩)
 go_ret
 exact⟨rfl,0,_,by rw[alloc_eq_grow,alloc_eq_grow,grow_grow];rfl⟩
theorem Nh(x y:aC):ltOf (λx y:aC=>Bf x.name y.name) x y=wC x.name y.name:=by
 unfold ltOf Bf;by_cases h:wC x.name y.name=true
 ·simp[h]
 have h':wC x.name y.name=false:=by simpa using h
 by_cases g:wC y.name x.name=true<;>simp[h',g]
theorem WI:SWO (ltOf λx y:aC=>Bf x.name y.name) where
 irrefl x:=by rw[Nh];exact oN _
 trans x y z h1 h2:=by rw[Nh]at *;exact qH h1 h2
 ntrans x y z h1 h2:=by
  rw[Nh]at *;cases h:wC x.name z.name with
  | false=>rfl
  | true=>
   exfalso;cases g:wC y.name x.name with
   | true=>
    have:=qH g h;rw[h2]at this;cases this
   | false=>
    have:=qG h1 g;rw[this,h2]at h;cases h
instance:Inhabited aC:=⟨⟨[],[],false⟩⟩
theorem aap(blk off size:Nat)(w:World):CmpLays Tryz.prog 59 #[] aA 3 (λx y:aC=>Bf x.name y.name) blk off size w:=λ_ _ _ _ x y=>PO x y _
theorem Nj(blk off cap:Nat)(d:Array aC)(w:World)(hH:HoldsK aA 3 w blk off d)(hblk:blk<w.heap.size)(hsz:d.size<4611686018427387904):
  Calls Tryz.prog 58 #[.slice (some ⟨blk,off,none⟩) d.size cap,.func (.func 59) #[] #[]] w λe w'=>e=.returned (.tuple #[]) ∧
   ∃d' n os,PermIn 0 d.size d d'∧SortedIn (ltOf λx y:aC=>Bf x.name y.name) 0 d.size d'∧w'=sortWorldK aA 3 w blk off n d' os:=by
 have eg:∀args w,(callFunc 59 args).run Tryz.prog w=.ok (.enter 59 args) w:=enters_of Tryz.func59 (by kernel_rfl) rfl;have hlim:Lib.bitLen d.size<4611686018427387904:=Nat.lt_of_le_of_lt (Lib.bitLen_le d.size 62 (by omega) (by omega)) (by omega);have hp:=AnyQ.pdqsortCmpFunc_all Tryz.pdq97 3 Tryz.isAgg53 Tryz.sizeOf53 aA (λx y:aC=>Bf x.name y.name) 59 #[] WI blk off cap d w eg (aap blk off d.size w)
  ⟨λ_=>rfl,λx v hv=>by simp[aA]at hv;rcases hv with rfl | rfl | rfl<;>rfl,hH,hblk⟩ (d.size+1) 0 d.size (Lib.bitLen d.size) d w (by omega) rfl (SWK.start hH) (Nat.zero_le _) (Nat.le_refl _) hsz hlim (Or.inl rfl)
 have hs:=pdq_sorts (ltOf λx y:aC=>Bf x.name y.name) WI d 0 d.size (Lib.bitLen d.size) true true (Nat.zero_le _) (Nat.le_refl _) (Or.inl rfl);change Calls Tryz.prog 97 _ _ _ at hp;rw[show(((0:Nat)):Int)=0 from rfl]at hp;have hl:=Tryz.bits_Len (d.size:Int) w (by omega) (by omega);rw[Int.toNat_natCast]at hl;have wr:IntKind.u64.wrap (d.size:Int)=d.size:=by simp[IntKind.wrap,IntKind.bits,IntKind.signed];omega
 generalize pdq (ltOf λx y:aC=>Bf x.name y.name) d 0 d.size (Lib.bitLen d.size) true true=dz at *;clear hH;have HS:=hid hs;clear hs;go_enter Tryz.func58,Tryz.ntmps58
 go_wp2_with (first | (go_at_call 88;refine hl.mono ?_;rintro e w' ⟨rfl,rfl⟩) | (go_at_call 97;refine hp.mono ?_;rintro e w' ⟨rfl,n,os,rfl⟩))
 go_end0
 exact⟨rfl,dz,n,os,HS.out.1,HS.out.2,rfl⟩
theorem Nk(p:Option Addr)(cap:Nat)(w:World):
  Calls Tryz.prog 58 #[.slice p 0 cap,.func (.func 59) #[] #[]] w λe w'=>e=.returned (.tuple #[])∧w'=w:=by
 have hp:=λlim W=>AnyF.pdqsortCmpFunc_none Tryz.pdq97 p cap lim (.func (.func 59) #[] #[]) W
 change ∀lim W,Calls Tryz.prog 97 _ _ _ at hp;have hl:=Tryz.bits_Len 0 w (by omega) (by omega);go_enter Tryz.func58,Tryz.ntmps58
 go_wp2_with (first | (go_at_call 88;refine hl.mono ?_;rintro e w' ⟨rfl,rfl⟩) | (go_at_call 97;refine(hp _ _).mono ?_;rintro e w' ⟨rfl,rfl⟩))
 go_end0
 exact⟨rfl,rfl⟩
end
end Go.Proofs.YtplbdlgmjehckacGreatDoor
namespace Go.Proofs.YtplbdlgmjehckacGreatDoor
open Go.Lib (hid)
open Go.RowKit
set_option linter.unusedVariables false
set_option linter.unusedSimpArgs false
def lM(cs:List aB)(n:B):Nat→Option Nat
 | 0=>none
 | i+1=>match cs[i]? with
  | none=>lM cs n i
  | some c=>if c.d.name=n then (match (lM cs n i).bind (cs[·]?)with
    | none=>some i
    | some a=>if gV c a=true then some i else lM cs n i) else lM cs n i
theorem qI(cs:List aB)(n:B){i:Nat}{c:aB}(hc:cs[i]?=some c):lM cs n (i+1)=if c.d.name=n then (match (lM cs n i).bind (cs[·]?)with
        | none=>some i
        | some a=>if gV c a=true then some i else lM cs n i) else lM cs n i:=by
 conv=>lhs;unfold lM
 rw[hc]
theorem pG(cs:List aB)(n:B):∀i,i≤cs.length→(lM cs n i).bind (cs[·]?)=jl (cs.take i) n
 | 0,_=>rfl
 | i+1,h=>by
  have ih:=pG cs n i (by omega);have hc:cs[i]?=some cs[i]:=List.getElem?_eq_getElem (by omega);rw[List.take_add_one,hc,Option.toList_some];have hw:jl (cs.take i++[cs[i]]) n=vK n (jl (cs.take i) n) cs[i]:=by
   unfold jl;rw[List.foldl_append];rfl
  rw[hw,←ih];rw[qI cs n hc];unfold vK;split
  ·cases hx:(lM cs n i).bind (cs[·]?)with
   | none=>simp only[comb,Option.bind_some];exact hc
   | some a=>
    simp only[comb];split
    ·simp only[Option.bind_some];exact hc
    exact hx
  rfl
theorem sU(cs:List aB)(n:B):∀i j,i≤cs.length→lM cs n i=some j→j<i∧(cs[j]?).map (·.d.name)=some n
 | 0,j,_,h=>by cases h
 | i+1,j,hi,h=>by
  have hc:cs[i]?=some cs[i]:=List.getElem?_eq_getElem (by omega);have ih:=sU cs n i j (by omega);rw[qI cs n hc]at h;split at h
  ·rename_i hn
   have hi':some i=some j→j<i+1∧(cs[j]?).map (·.d.name)=some n:=by
    intro e;cases e;exact⟨by omega,by rw[hc];simp[hn]⟩
   split at h
   ·exact hi' h
   split at h
   ·exact hi' h
   have:=ih h;exact⟨by omega,this.2⟩
  have:=ih h;exact⟨by omega,this.2⟩
theorem Ub{cs:List aB}{n:B}{i:Nat}(hi:i≤cs.length)(h:(lM cs n i).bind (cs[·]?)=none):lM cs n i=none:=by
 cases hx:lM cs n i with
 | none=>rfl
 | some j=>
  have:=sU cs n i j hi hx;rw[hx,Option.bind_some]at h;rw[h]at this;simp at this
def kV(cs:List aB)(g off i:Nat):Value→Option Value
 | .string s=>(lM cs s.data.toList i).map λj=>.pointer (some ⟨g,off+j*7,none⟩)
 | _=>none
theorem Uc(cs:List aB)(g off:Nat):kV cs g off 0=λ_=>none:=by
 funext v;cases v<;>rfl
theorem Ud{cs:List aB}{g off i:Nat}{c:aB}{j:Nat}{a:aB}(hc:cs[i]?=some c)(hj:lM cs c.d.name i=some j)(ha:cs[j]?=some a)(hb:gV c a=false):kV cs g off (i+1)=kV cs g off i:=by
 funext v;cases v with
 | string s=>
  simp only[kV];congr 1;rw[qI _ _ hc];split
  ·rename_i hn
   rw[←hn,hj,Option.bind_some,ha];simp[hb]
  rfl
 | _=>rfl
theorem X4{cs:List aB}{g off i:Nat}{c:aB}(hc:cs[i]?=some c)(h:lM cs c.d.name i=none∨∃j a,lM cs c.d.name i=some j∧cs[j]?=some a∧gV c a=true):
  kV cs g off (i+1) (.string (str c.d.name))=some (.pointer (some ⟨g,off+i*7,none⟩)):=by
 simp only[kV,qP];rw[qI _ _ hc,if_pos rfl];rcases h with h | ⟨j,a,h1,h2,h3⟩
 ·rw[h];rfl
 rw[h1,Option.bind_some,h2];simp[h3]
theorem PS{cs:List aB}{g off i:Nat}{c:aB}(hc:cs[i]?=some c):∀x,MapKept.IsKey .string x→x≠.string (str c.d.name)→kV cs g off (i+1) x=kV cs g off i x:=by
 intro x hx hne;cases x with
 | string s=>
  simp only[kV];congr 1;rw[qI _ _ hc];rw[if_neg];intro e;exact hne (by rw[e];rfl)
 | _=>rfl
def Df(cs:List aB)(j:Nat):B:=((cs[j]?).map (·.d.name)).getD []
def ZK(cs:List aB)(j:Nat):aC:=((cs[j]?).map (·.d)).getD ⟨[],[],false⟩
theorem PU(cs:List aB)(j:Nat):Df cs j=(ZK cs j).name:=by
 unfold Df ZK;cases cs[j]?<;>rfl
def PV(cs:List aB)(g off:Nat)(j:Nat):Value×Value:=(.string (str (Df cs j)),.pointer (some ⟨g,off+j*7,none⟩))
def aaq(off:Nat):Value×Value→Nat
 | (_,.pointer (some a))=>(a.off-off) / 7
 | _=>0
theorem adn{cs:List aB}{g off:Nat}{k v:Value}(h:kV cs g off cs.length k=some v):PV cs g off (aaq off (k,v))=(k,v):=by
 cases k with
 | string s=>
  simp only[kV,Option.map_eq_some_iff]at h;obtain⟨j,hj,rfl⟩:=h;have h2:=(sU cs _ _ j (Nat.le_refl _) hj).2;have:aaq off (.string s,.pointer (some ⟨g,off+j*7,none⟩))=j:=by
   simp only[aaq];omega
  rw[this];unfold PV Df;rw[h2];simp only[Option.getD_some,Prod.mk.injEq,and_true];rw[←ZV]
 | _=>cases h
theorem Kr:∀(n:Nat) (L:List Nat),L.Nodup→(∀j∈L,j<n)→L.length≤n
 | 0,L,_,h=>by
  cases L with
  | nil=>simp
  | cons a L=>have:=h a (by simp);omega
 | n+1,L,hn,h=>by
  have h1:=Kr n (L.erase n) (hn.erase n) (λj hj=>by
   have h2:=List.mem_of_mem_erase hj;have h3:=h j h2;have:j≠n:=λe=>by
    subst e;exact absurd hj (by rw[hn.mem_erase_iff];simp)
   omega)
  by_cases hm:n∈L
  ·rw[List.length_erase_of_mem hm]at h1;omega
  rw[List.erase_of_not_mem hm]at h1;omega
structure X5(cs:List aB)(L:List Nat):Prop where
 lt:∀j∈L,j<cs.length
 names:(L.map (Df cs)).Nodup
 mem:∀n j,lM cs n cs.length=some j↔j∈L∧Df cs j=n
theorem X5.few{cs:List aB}{L:List Nat}(h:X5 cs L):L.length≤cs.length:=by
 refine Kr _ _ ?_ h.lt;have:=h.names;rw[List.Nodup,List.pairwise_map]at this;exact this.imp λh e=>h (by rw[e])
theorem X5.look{cs:List aB}{L:List Nat}(h:X5 cs L)(d:aC):d∈L.map (ZK cs)↔d∈nM cs:=by
 rw[Gg,List.mem_map];have hw:=λn=>pG cs n cs.length (Nat.le_refl _)
 simp only[List.take_length]at hw;constructor
 ·rintro⟨j,hj,rfl⟩;have hlt:=h.lt j hj;have hc:cs[j]?=some cs[j]:=List.getElem?_eq_getElem hlt;have hi:=(h.mem (Df cs j) j).2 ⟨hj,rfl⟩;refine⟨cs[j],?_,by unfold ZK;rw[hc];rfl⟩;rw[←PU,←hw,hi,Option.bind_some,hc]
 rintro⟨c,hc,rfl⟩;rw[←hw]at hc;cases hi:lM cs c.d.name cs.length with
 | none=>rw[hi]at hc;cases hc
 | some j=>
  rw[hi,Option.bind_some]at hc;exact⟨j,((h.mem _ _).1 hi).1,by unfold ZK;rw[hc];rfl⟩
theorem ado{cs:List aB}{g off:Nat}{l:List (Value×Value)}{L:List Nat}(hL:L.map (PV cs g off)=l)(hn:(l.map (·.1)).Nodup)(hm:∀k v,MapKept.IsKey .string k→(kV cs g off cs.length k=some v↔(k,v)∈l))(hk:∀x∈l,MapKept.IsKey .string x.1):X5 cs L:=by
 have hmem:∀j,j∈L→kV cs g off cs.length (.string (str (Df cs j)))=some (.pointer (some ⟨g,off+j*7,none⟩)):=by
  intro j hj;refine(hm (.string (str (Df cs j))) _ (by trivial)).2 ?_;rw[←hL];exact List.mem_map.2 ⟨j,hj,rfl⟩
 have hwi:∀j,j∈L→lM cs (Df cs j) cs.length=some j:=by
  intro j hj;have:=hmem j hj;simp only[kV,qP,Option.map_eq_some_iff]at this;obtain⟨i,hi,he⟩:=this;simp only[Value.pointer.injEq,Option.some.injEq,Addr.mk.injEq,true_and,and_true]at he;rw[hi,show i=j from by omega]
 refine⟨λj hj=>(sU _ _ _ _ (Nat.le_refl _) (hwi j hj)).1,?_,λn j=>⟨λh=>?_,λh=>by rw[←h.2];exact hwi j h.1⟩⟩
 ·rw[←hL,List.map_map]at hn;rw[List.Nodup,List.pairwise_map]at hn ⊢;refine hn.imp λh e=>h ?_
  simp only[Function.comp_apply,PV,e]
 have h2:=(sU _ _ _ _ (Nat.le_refl _) h).2;have hnm:Df cs j=n:=by unfold Df;rw[h2];rfl
 refine⟨?_,hnm⟩;have h3:kV cs g off cs.length (.string (str n))=some (.pointer (some ⟨g,off+j*7,none⟩)):=by
  simp only[kV,qP,h,Option.map_some]
 have h4:=(hm _ _ (by trivial)).1 h3;rw[←hL]at h4;obtain⟨i,hi,he⟩:=List.mem_map.1 h4;simp only[PV,Prod.mk.injEq,Value.pointer.injEq,Option.some.injEq,Addr.mk.injEq,true_and,and_true]at he;rw[show j=i from by omega];exact hi
theorem tV:∀ {xs ys:List aC},nZ (xs.map (·.name))→nZ (ys.map (·.name))→(∀d,d∈xs↔d∈ys)→xs=ys
 | [],[],_,_,_=>rfl
 | [],y::ys,_,_,h=>by have:=(h y).2 (by simp);cases this
 | x::xs,[],_,_,h=>by have:=(h x).1 (by simp);cases this
 | x::xs,y::ys,.cons h1 h2,.cons g1 g2,h=>by
  have hlt:∀ {a b:aC} {l:List aC},(∀n∈l.map (·.name),wC a.name n=true)→b∈l→wC a.name b.name=true:=λhh hb=>hh _ (List.mem_map.2 ⟨_,hb,rfl⟩)
  have hxy:x=y:=by
   rcases List.mem_cons.1 ((h x).1 (by simp))with e | e
   ·exact e
   rcases List.mem_cons.1 ((h y).2 (by simp))with e' | e'
   ·exact e'.symm
   have:=qH (hlt h1 e') (hlt g1 e);rw[oN]at this;cases this
  subst hxy;congr 1;refine tV h2 g2 λn=>?_
  have hn:=h n;simp only[List.mem_cons]at hn;constructor
  ·intro hx;rcases hn.1 (.inr hx)with e | e
   ·subst e;have:=hlt h1 hx;rw[oN]at this;cases this
   exact e
  intro hx;rcases hn.2 (.inr hx)with e | e
  ·subst e;have:=hlt g1 hx;rw[oN]at this;cases this
  exact e
theorem Ej:∀ {xs:List B},xs.Pairwise (λx y=>wC y x=false)→xs.Nodup→nZ xs
 | [],_,_=>.nil
 | x::xs,h,hn=>by
  rw[List.pairwise_cons]at h;rw[List.nodup_cons]at hn;refine .cons (λy hy=>?_) (Ej h.2 hn.2);cases hb:wC x y with
  | true=>rfl
  | false=>
   have:=qG hb (h.1 y hy);subst this;exact absurd hy hn.1
theorem PW{cs:List aB}{L:List Nat}{D:List aC}(h:X5 cs L)(hp:D.Perm (L.map (ZK cs)))(hs:D.Pairwise (λx y=>wC y.name x.name=false)):D=nM cs:=by
 refine tV (Ej ?_ ?_) (by rw[Gh];exact Bh cs) λd=>by rw[hp.mem_iff,h.look]
 ·rw[List.pairwise_map];exact hs
 have:=(hp.map (·.name)).nodup_iff.2 (by
  have:=h.names;rw[List.map_map];rw[show((λx:aC=>x.name) ∘ ZK cs)=Df cs from by funext j;exact(PU cs j).symm];exact this)
 exact this
section
open Go.Shelf Go.Lib Go.Sort
theorem tX(d:aC):(aA d).length=3:=rfl
theorem yR{w:World}{g cap:Nat}{D:List aC}{cur:Array Value}{t:TypeId}(hh:w.heap[g]?=some (.cells cur t (0,0)))(hr:aH w 3 (.slice (some ⟨g,0,none⟩) D.length cap) (D.map aA)):HoldsK aA 3 w g 0 D.toArray:=by
 intro q hq;rw[size_flatK]at hq;refine⟨?_,aF hh _⟩;have hq':q<D.length*3:=by simpa using hq
 rw[get_flatK _ _ _ q hq];have hd:D[q / 3]?=some (D[q / 3]'(by omega)):=List.getElem?_eq_getElem _;obtain⟨b,o,he,hc⟩:=aH.at hr (k:=q / 3) (r:=aA (D[q / 3]'(by omega))) (by simp[hd]);cases he;have hge:D.toArray[q / 3]! = D[q / 3]'(by omega):=by
  rw[getElem!_pos D.toArray (q / 3) (by simp;omega)];simp
 rw[hge];have hm:q % 3<3:=Nat.mod_lt _ (by omega);have hx:(aA (D[q / 3]'(by omega)))[q % 3]?=some ((aA (D[q / 3]'(by omega)))[q % 3]!):=by
  rw[getElem!_pos _ (q % 3) (by rw[tX];exact hm)];exact List.getElem?_eq_getElem _
 have:=hc (q % 3) _ hx;rw[show 0+q / 3*3+q % 3=0+q from by omega]at this;exact this
theorem Jy{w:World}{g cap:Nat}{d:Array aC}(h1:d.size≤cap)(h2:cap≤maxLen)(hH:HoldsK aA 3 w g 0 d):aH w 3 (.slice (some ⟨g,0,none⟩) d.size cap) (d.toList.map aA):=by
 refine⟨some ⟨g,0,none⟩,cap,by simp,by simpa using h1,h2,λ_=>⟨g,0,rfl,λi r hr j c hc=>?_⟩⟩;rw[List.getElem?_map,Option.map_eq_some_iff]at hr;obtain⟨x,hx,rfl⟩:=hr;have hj:j<3:=by have:=(List.getElem?_eq_some_iff.1 hc).1;rw[tX]at this;exact this
 have hi:i<d.size:=by have:=(List.getElem?_eq_some_iff.1 hx).1;simpa using this
 have:=(hH (i*3+j) (by rw[size_flatK];omega)).1;rw[get_flatK _ _ _ _ (by omega),show(i*3+j) / 3=i from by omega,show(i*3+j) % 3=j from by omega]at this;have hge:d[i]! = x:=by
  rw[getElem!_pos d i hi];have:=(List.getElem?_eq_some_iff.1 hx).2;simpa using this
 rw[hge]at this;have hcj:(aA x)[j]! = c:=by
  rw[getElem!_pos _ j (by rw[tX];exact hj)];exact(List.getElem?_eq_some_iff.1 hc).2
 rw[hcj]at this;rw[show 0+i*3+j=0+(i*3+j) from by omega];exact this
theorem ER(enc:aC→List Value)(k:Nat)(w:World)(g off n:Nat)(d:Array aC)(os:Array Obj):Kept (· = g) w (sortWorldK enc k w g off n d os):=by
 refine⟨rfl,rfl,rfl,size_sortWorldK_c enc k w g off n d os,λi hi hs=>?_⟩;have hsz:(putRowK enc k (Sort.ahead w n) g off d).heap.size=w.heap.size:=size_putRowK enc k _ g off d;unfold sortWorldK;rw[heap_grow_old _ _ (by rw[hsz];exact hi)];show(w.heap.modify g _)[i]?=_
 rw[Array.getElem?_modify,if_neg (λe=>hs e.symm)]
theorem adp{w:World}{base n:Nat}{v:Value}{D:List aC}(hn:n=D.length)(ho:w.ownsRow base 53 3 v n (D.map aA).flatten)(hf:D.length≤1099600000000):
  Calls Tryz.prog 58 #[v,.func (.func 59) #[] #[]] w λe w'=>e=.returned (.tuple #[]) ∧
   ∃D':List aC,D'.Perm D∧D'.Pairwise (λx y=>wC y.name x.name=false)∧aH w' 3 v (D'.map aA)∧Kept (λq=>v.ownBlock=some q) w w':=by
 subst hn;have hrows:=aS (by intro r hr;obtain⟨x,_,rfl⟩:=List.mem_map.1 hr;rfl) (by simp) ho;rcases ho.2 with⟨rfl,h0⟩ | ⟨g,cap,cur,rfl,hg,hh,hnc,hcm,hcs,htake⟩
 ·have hD:D=[]:=List.length_eq_zero_iff.1 h0;subst hD;refine(Nk none 0 w).mono ?_;rintro e w' ⟨rfl,rfl⟩;exact⟨rfl,[],.refl _,.nil,hrows,Kept.refl _ _⟩
 have hs:=Nj g 0 cap D.toArray w (yR hh hrows) (gW hh) (by simp;omega);simp only[List.size_toArray]at hs;refine hs.mono ?_;rintro e w' ⟨rfl,d',n,os,hp,hso,rfl⟩;have hsz:d'.size=D.length:=by have:=hp.1;simpa using this
 refine⟨rfl,d'.toList,?_,?_,?_,(ER aA 3 w g 0 n d' os).mono (λq _ hq=>by subst hq;rfl)⟩
 ·have:=hp.2.2;rw[Array.extract_eq_self_of_le (by omega),Array.extract_eq_self_of_le (by simp)]at this;simpa using this
 ·rw[List.pairwise_iff_getElem];intro i j hi hj hij;have hi':i<d'.size:=by simpa using hi
  have hj':j<d'.size:=by simpa using hj
  have:=hso i j (Nat.zero_le _) hij (by omega);rw[Nh,getElem!_pos d' i hi',getElem!_pos d' j hj']at this;simpa using this
 have:=Jy (g:=g) (cap:=cap) (by omega) hcm (holdsK_sortWorldK_c aA 3 w g 0 D.toArray d' n os (yR hh hrows) (gW hh) (by simp;omega));rw[hsz]at this;exact this
end
end Go.Proofs.YtplbdlgmjehckacGreatDoor
namespace Go.Proofs.YtplbdlgmjehckacGreatDoor
open Go.Lib (hid)
open Go.RowKit
set_option linter.unusedVariables false
set_option linter.unusedSimpArgs false
theorem rE{w:World}{b size:Nat}{rows:List (List Value)}{cs:Array Value}{t:TypeId}{fz:Nat×Nat}(h:w.heap[b]?=some (.cells cs t fz))(hc:cs=rows.flatten.toArray)(hl:∀r∈rows,r.length=size){n:Nat}(hn:n=rows.length)(hm:rows.length≤maxLen):
  aH w size (.slice (some ⟨b,0,none⟩) n n) rows:=by
 subst hn;refine⟨_,_,rfl,Nat.le_refl _,hm,λ_=>⟨_,_,rfl,λi r hr j c hj=>?_⟩⟩;subst hc;rw[show 0+i*size+j=i*size+j by omega];exact ah h _ (by rw[List.getElem?_toArray];exact sV size rows hl i r hr j c hj)
section
variable {P:Program}
theorem ng{ops:Array Oper}{o:Oper}{a:Act}{w:World}{K:Act→World→Prop}{Q:Exit→Act→World→Prop}{E:Prop}(hgd:o.guard=none)(s x:Operand)(t:TypeId)
  (ho:o.op=.call { callee:=.builtin .append,args:=#[s,x],argTypes:=#[t,t] }) (sv xv v:Value) (hs:a.eval s=sv) (hx:a.eval x=xv) (w':World)
  (hr:(Builtin.append_ #[t,t] o.type #[sv,xv]).run P w=.ok v w') (h:K (a.put o.dst v) w'):if Region.wanted o (yielded ops a.tmps)=true then Oper.wp P o a w K Q else E:=by
 have hw:Region.wanted o (yielded ops a.tmps)=true:=by simp[Region.wanted,hgd]
 rw[if_pos hw];unfold Oper.wp execOp;simp only[ho,resolve,invoke,builtin,Sem.run_bind,Sem.run_pure,Result.andThen_ok,List.map_toArray,List.map_cons,List.map_nil,hs,hx,hr];exact h
end
section
variable {ops:Array Oper} {o:Oper} {a:Act} {K:Act→World→Prop} {Q:Exit→Act→World→Prop} {E:Prop}
theorem PX:(Tryz.prog.info? 53).map (λi=>(i.zero,i.size,i.bytes))=some (some (.agg #[.string ⟨#[]⟩,.string ⟨#[]⟩,.bool false]),3,40):=by kernel_rfl
theorem WJ{wa wc:World}{b g off i:Nat}{cs:List aB}{c:aB}(hc:cs[i]?=some c)(hn:lM cs c.d.name i=none∨∃j a,lM cs c.d.name i=some j∧cs[j]?=some a∧gV c a=true)(hM:dL .string wa b (kV cs g off i))(hK:Kept (λ_=>False) wa wc)
  (h:∀w',dL .string w' b (kV cs g off (i+1))→Kept (· = b) wa w'→K (a.put o.dst undef) w') :
  Oper.upon Tryz.prog o a K Q ((Sem.run Tryz.prog (Instr.mapUpdate 115 (.map (some b)) (.string (str c.d.name)) (.pointer (some ⟨g,off+i*7,none⟩))) wc).andThen λ_ w'=>.ok .skip w'):=
 pz (P:=Tryz.prog) (mty:=115) (kt:=9) (et:=116) (kind:=.string) Tryz.underlying115 Tryz.underlying9 (kV cs g off (i+1)) (hM.kept hK id) (by trivial) (X4 hc hn) (PS hc)
  λw' h1 h2 _=>h w' h1 ((hK.mono (λ_ _ h=>h.elim)).trans h2)
theorem adq{w2 wa wc:World}{i0:TypeInfo}(hi0:Tryz.prog.info? 53=some i0)(hz0:i0.zero=some (.agg #[.string ⟨#[]⟩,.string ⟨#[]⟩,.bool false]))(hz1:i0.size=3)(hz2:i0.bytes=40)
  (hgd:o.guard=none) (s x:Operand) (t:TypeId) (ht:Tryz.prog.underlying t=some (.slice 53)) (ho:o.op=.call { callee:=.builtin .append,args:=#[s,x],argTypes:=#[t,t] })
  (ao:Option Addr) (ac n Bk:Nat) (D:List aC) (d:aC) (hs:a.eval s=.slice ao n ac) (hx:a.eval x=.slice (some ⟨Bk,0,none⟩) 1 1) (CG:wa.ownsRow w2.heap.size 53 3 (.slice ao n ac) n (D.map aA).flatten)
  (hB:wc.heap[Bk]?=some (.cells #[.string (str d.name),.string (str d.val),.bool d.strong] 53 (0,0))) (hK:Kept (λ_=>False) wa wc) (hn2:n≤1099600000000) (hsz:w2.heap.size≤wa.heap.size)
  (h:∀a7 c7 w7,w7.ownsRow w2.heap.size 53 3 (.slice a7 (n+1) c7) (n+1) ((D++[d]).map aA).flatten→Kept (λq=>w2.heap.size≤q) wa w7→K (a.put o.dst (.slice a7 (n+1) c7)) w7) :
  if Region.wanted o (yielded ops a.tmps)=true then Oper.wp Tryz.prog o a wc K Q else E:=by
 have Ue:=aK CG hK (λ_ _=>id);obtain⟨a7,c7,w7,PY,OG,k7,_⟩:=kH (P:=Tryz.prog) wc t o.type w2.heap.size 53 i0 _ 3 40 ht hi0 hz0 hz1 hz2 rfl (by omega) ao n ac _ Ue (some ⟨Bk,0,none⟩) 1 1 [aA d] (rE hB rfl (by simp[aA]) rfl (by simp[maxLen])) (by simp[aA]) (by simp[aA,Value.oneCell']) (by unfold maxLen;omega) (by omega) (by have:=hK.size;omega);refine ng hgd s x _ ho _ _ _ hs hx w7 PY (h a7 c7 w7 (by simpa using OG) ((hK.mono (λ_ _ h=>h.elim)).trans' k7 (λi hi hx=>?_)));exact(Ue.lt i hx).1
end
end Go.Proofs.YtplbdlgmjehckacGreatDoor
namespace Go.Proofs.YtplbdlgmjehckacGreatDoor
open Go.Lib (hid)
open Go.RowKit
set_option linter.unusedVariables false
set_option linter.unusedSimpArgs false
theorem rF{ns:List ak}{k:Int}{ay:List B}:∀ {rs:List au} {f:iL},gG ns k ay rs=.bad f→f=⟨5,0⟩
 | [],f,h=>by cases h
 | r::rs,f,h=>by
  unfold gG at h;split at h
  ·split at h
   ·cases h;rfl
   cases hr:gG ns k ay rs with
   | bad g=>rw[hr]at h;cases h;exact rF hr
   | ok a=>rw[hr]at h;cases h
  exact rF h
theorem Uf{ns:List ak}{k:Int}{n:ak}{rs:List au}{ay:List B}{f:iL}(h:nX ns k n rs ay=.bad f):f.err≠0:=by
 unfold nX at h;cases hr:gG ns k ay rs with
 | bad g=>rw[hr]at h;cases h;rw[rF hr];simp
 | ok a=>
  rw[hr,Ans.aN]at h;cases ho:iC n with
  | ok b=>rw[ho]at h;cases h
  | bad g=>
   rw[ho]at h;cases h;unfold iC at ho;cases hs:dW (gJ n.attrs aj).1 with
   | bad g=>
    rw[hs]at ho;cases ho;exact(kK hs).1
   | ok ds=>
    rw[hs]at ho;simp only at ho;split at ho
    ·cases ho;simp
    cases ho
def Ug(w:World)(r:Ans (List aC))(e:Ending)(w':World):Prop:=
 match r with
 | .bad f=>e=.returned (.tuple #[.slice none 0 0,.int .i64 (f.err:Int)])∧Kept (λ_=>False) w w'∧f.err≠0
 | .ok look=>∃v,e=.returned (.tuple #[v,.int .i64 0])∧Kept (λ_=>False) w w'∧bC w' v look∧look.length≤1099600000000
structure DLp(w1 wr:World)(bm:Nat)(cs:List aB)(g off i:Nat):Prop where
 map:dL .string wr bm (kV cs g off i)
 kept:Kept (· = bm) w1 wr
structure MLp(w2 wr:World)(bm rr:Nat)(cs:List aB)(g off:Nat)(L0:List Nat)(v:Value)(D:List aC)(L:List Nat):Prop where
 rng:lu (PV cs g off) wr bm rr L
 own:wr.ownsRow w2.heap.size 53 3 v D.length (D.map aA).flatten
 kept:Kept (· = rr) w2 wr
 perm:(D++L.map (ZK cs)).Perm (L0.map (ZK cs))
 sub:∀j∈L,j∈L0
theorem X6{w:World}{base n:Nat}{v:Value}{cs:List aB}(hn:n=cs.length)(h:w.ownsRow base 121 7 v n (cs.map aY).flatten):∃g off ao cap,v=.slice ao n cap∧n≤cap∧cap≤maxLen∧(cs≠[]→ao=some ⟨g,off,none⟩∧base≤g∧g<w.heap.size)∧∀j c,cs[j]?=some c→sO w g (off+j*7) c:=by
 subst hn;have hr:=aS (by intro r hr;obtain⟨x,_,rfl⟩:=List.mem_map.1 hr;rfl) (by simp) h;by_cases hc:cs=[]
 ·subst hc;obtain⟨vo,vc,rfl⟩:=dw h;obtain⟨a,cap,he,h1,h2,_⟩:=hr;cases he;exact⟨0,0,vo,vc,rfl,h1,h2,λh=>absurd rfl h,by simp⟩
 obtain⟨a,cap,he,h1,h2,h3⟩:=hr;obtain⟨b,off,rfl,h4⟩:=h3 (by simpa using hc);simp only[List.length_map]at he h1;refine⟨b,off,_,cap,he,h1,h2,λ_=>⟨rfl,h.lt b (by rw[he];rfl)⟩,λj c hj i u hu=>?_⟩;exact h4 j _ (by rw[List.getElem?_map,hj];rfl) i u hu
theorem Uh(w:World):(zeroValue 116).run Tryz.prog w=.ok (.pointer none) w:=by kernel_rfl
theorem Nl(ns:List ak)(rs:List au)(hc:Ef ns rs)(ay:List B)(k:Int)(hk : -9223372036854775808≤k∧k≤9223372036854775807)(m:Int)(w:World)(v rv mv:Value)(hv:aX w v ns)(hr:gy w rv rs)(hmv:jR w mv ay)(hm:w.cell? ⟨0,0,none⟩=some (.int .i64 m)):
  Calls Tryz.prog 22 #[v,.int .i64 k,rv,mv] w (Ug w (dO ns k rs ay)):=by
 obtain⟨R,HR⟩:∃R,Hid (dO ns k rs ay=R):=⟨_,rfl⟩;rw[HR.out];obtain⟨na,qj,rfl,EM,pJ⟩:=hv.form;obtain⟨ra,adh,rfl,XW,C9⟩:=bH.form hr;obtain⟨ma,afA,rfl,hmc1,aan⟩:=jR.form hmv;unfold maxLen at pJ C9 aan;by_cases h0:k<0
 ·have hrr:Hid (R=.bad ⟨6,0⟩):=hid (by rw[←HR.out];unfold dO;rw[if_neg];simp[vW];omega);clear hc hv hr hmv;go_enter Tryz.func22,Tryz.ntmps22
  go_wp2_with fail
  refine bodyPost_ret (v:=.tuple #[.slice none 0 0,.int .i64 6]) (by simp[results,Tryz.results22,go_sem]) rfl ?_;rw[hrr.out];exact⟨rfl,Kept.refl _ _,by simp⟩
 by_cases h1:(ns.length:Int)≤k
 ·have hrr:Hid (R=.bad ⟨6,0⟩):=hid (by rw[←HR.out];unfold dO;rw[if_neg];simp[vW];omega);clear hc hv hr hmv;go_enter Tryz.func22,Tryz.ntmps22
  go_wp2_with fail
  refine bodyPost_ret (v:=.tuple #[.slice none 0 0,.int .i64 6]) (by simp[results,Tryz.results22,go_sem]) rfl ?_;rw[hrr.out];exact⟨rfl,Kept.refl _ _,by simp⟩
 obtain⟨kn,rfl⟩:∃kn:Nat,k=kn:=⟨k.toNat,by omega⟩;have hkl:kn<ns.length:=by omega
 have hx:=List.getElem?_eq_getElem hkl;generalize hgx:ns[kn]=n at hx;clear hgx;have HCL:=TV ns rs hc ay kn n hx m w _ _ _ hv hr hmv hm;obtain⟨C,HC⟩:∃C,Hid (nX ns (kn:Int) n rs ay=C):=⟨_,rfl⟩;rw[HC.out]at HCL;replace HCL:=hid HCL;have hRC:Hid (C.then (λcs=>Ans.ok (nM cs))=R):=hid (by
  rw[←HR.out,←HC.out];unfold dO;rw[if_pos (by simp[vW];omega),Int.toNat_natCast,hx])
 clear hc hv hr hmv hx;go_enter Tryz.func22,Tryz.ntmps22
 go_wp2_with fail
 refine HCL.out.mono ?_;intro e w1 he1;cases C with
 | bad f=>
  obtain⟨rfl,hk1⟩:=he1;have hne:=Uf HC.out;have ahD:((f.err:Int) != 0)=true:=by simp;omega
  have hrr:Hid (R=.bad f):=hid hRC.out.symm;have PZ:=hid hne;clear hne;go_wp2_with fail
  refine bodyPost_ret (v:=.tuple #[.slice none 0 0,.int .i64 (f.err:Int)]) (by simp[results,Tryz.results22,go_sem]) rfl ?_;rw[hrr.out];exact⟨rfl,hk1,PZ.out⟩
 | ok cs=>
  obtain⟨cv,rfl,hk1,hown,hlow,hfew⟩:=he1;obtain⟨g,off,ao,cap,rfl,hcap1,hcap2,hao,hcl⟩:=X6 rfl hown;unfold maxLen at hcap2;have hrr:Hid (R=.ok (nM cs)):=hid hRC.out.symm;have Ui:=hid hlow;have HAO:=hid hao;have Fb:=hid hcl;have uZ:=hid hk1;obtain⟨wm,Tj⟩:∃x,Hid (w1.alloc (.map #[] 0)=x):=⟨_,rfl⟩;have hmap:dL .string wm w1.heap.size (kV cs g off 0):=by rw[←Tj.out,Uc];exact dL.made _ w1
  have HKM:Hid (Kept (λ_=>False) w1 wm):=hid (by rw[←Tj.out];exact(Kept.refl _ w1).alloc _);have hbm:=hmap.lt;have HMP:=hid hmap;have e0:=qW (P:=Tryz.prog) w1 115;obtain⟨bm,HBM⟩:∃x,Hid (w1.heap.size=x):=⟨_,rfl⟩;rw[Tj.out]at e0;rw[HBM.out]at e0 HMP hbm;clear hown hlow hao hcl hk1 hmap;go_wp2_with fail
  go_loopw [41] (λc wr=>∃i:Nat,i≤cs.length∧c=.int .i64 (i:Int)∧Hid (DLp wm wr bm cs g off i)) (λc _=>cs.length-(intOf c).toNat)
  case atStart=>exact⟨0,by omega,rfl,hid ⟨HMP.out,Kept.refl _ _⟩⟩
  case round=>
   obtain⟨i,hi,rfl,HL⟩:=hrel;obtain⟨bU,hwr0⟩:∃x,x=wr:=⟨_,rfl⟩;subst hwr0;by_cases hlt:i<cs.length
   ·have hx:=List.getElem?_eq_getElem hlt;generalize hgx:cs[i]=c at hx;clear hgx;obtain⟨rfl,hg1,hg2⟩:=HAO.out (by intro e;rw[e]at hlt;simp at hlt);have hgb:¬g=bm:=by have:=HBM.out;omega
    have hat:∀j c,cs[j]?=some c→sO bU g (off+j*7) c:=λj c hj=>((Fb.out j c hj).kept HKM.out id).kept HL.out.kept hgb
    have HAT:=hid hat;have c0:bU.cell? ⟨g,off+i*7,none⟩=some (.string (str c.d.name)):=hat i c hx 0 _ rfl;clear hat;have HX:=hid hx;clear hx;cases hw:lM cs c.d.name i with
    | none=>
     have HW:=hid hw;have hlk:=HL.out.map.miss (P:=Tryz.prog) (mty:=115) Tryz.underlying115 Tryz.underlying9 (k:=.string (str c.d.name)) (by trivial) (by simp only[kV,qP,hw,Option.map_none]) (Uh bU) true;rw[if_pos rfl]at hlk;clear hw;go_upto_region 12 with fail
     go_region_held3 (λw'=>w'.cell? ⟨g,off+i*7,none⟩=some (.string (str c.d.name))) (first | exact hk9.cell hgb c0 | go_keep)
      (first
       | (with_reducible refine WJ (wa:=bU) HX.out (.inl HW.out) HL.out.map (by first | exact Kept.refl _ bU | exact(Kept.refl _ bU).drew) ?_;intro w9 P5 hk9))
     all_goals
      go_wp2_with fail
      go_roundw
      case measure=>simp[intOf];omega
      case rel=>exact⟨i+1,by omega,by go_num,hid ⟨P5,HL.out.kept.trans hk9⟩⟩
    | some j=>
     have hjl:=sU cs _ i j (by omega) hw;have ha:=List.getElem?_eq_getElem (show j<cs.length by omega);generalize hga:cs[j]=a at ha;clear hga;have hlk:=HL.out.map.hit (P:=Tryz.prog) (mty:=115) Tryz.underlying115 Tryz.underlying9 (k:=.string (str c.d.name)) (v:=.pointer (some ⟨g,off+j*7,none⟩)) (by trivial) (by simp only[kV,qP,hw,Option.map_some]) true;rw[if_pos rfl]at hlk;have HO:=XP bU g (off+i*7) g (off+j*7) c a (HAT.out i c HX.out) (HAT.out j a ha) (Ui.out c (List.mem_of_getElem? HX.out)) (Ui.out a (List.mem_of_getElem? ha));have hbt:=XO c a;have HJ:=hid (And.intro hw (And.intro ha hjl.1));generalize aag c a=r at HO hbt;replace HO:=hid HO;clear hw ha hjl;cases hb:gV c a with
     | true=>
      have e1:decide (0≤r)=true:=by simp;exact hbt.2 hb
      have e2:(0≤r)=True:=by simp;exact hbt.2 hb
      have ZL:Hid (lM cs c.d.name i=none∨∃j a,lM cs c.d.name i=some j∧cs[j]?=some a∧gV c a=true):=hid (.inr ⟨j,a,HJ.out.1,HJ.out.2.1,hb⟩);clear hb hbt;go_upto_region 12 with(go_at_call 57;refine HO.out.mono ?_;rintro e w5 ⟨rfl,hk5⟩)
      have c5:=hk5.cell id c0;have Dh:=hid (HL.out.map.kept hk5 id);have zF:=hid ((HL.out.kept).trans (hk5.mono (λ_ _ h=>h.elim)));clear hk5;go_region_held3 (λw'=>w'.cell? ⟨g,off+i*7,none⟩=some (.string (str c.d.name))) (first | exact hk9.cell hgb c5 | go_keep)
       (first
        | (with_reducible refine WJ (wa:=w5) HX.out ZL.out Dh.out (by first | exact Kept.refl _ w5 | exact(Kept.refl _ w5).drew) ?_;intro w9 P5 hk9))
      all_goals
       go_wp2_with fail
       go_roundw
       case measure=>simp[intOf];omega
       case rel=>exact⟨i+1,by omega,by go_num,hid ⟨P5,zF.out.trans hk9⟩⟩
     | false=>
      have hn0:¬0≤r:=λh=>by have:=hbt.1 h;rw[hb]at this;cases this
      have e1:decide (0≤r)=false:=by simp;omega
      have e2:(0≤r)=False:=by simp;omega
      have ZL:Hid (kV cs g off (i+1)=kV cs g off i):=hid (Ud HX.out HJ.out.1 HJ.out.2.1 hb);clear hb hbt hn0;go_wp2_with (go_at_call 57;refine HO.out.mono ?_;rintro e w5 ⟨rfl,hk5⟩)
      go_roundw
      case measure=>simp[intOf];omega
      case rel=>exact⟨i+1,by omega,by go_num,hid ⟨by rw[ZL.out];exact HL.out.map.kept hk5 id,(HL.out.kept).trans (hk5.mono (λ_ _ h=>h.elim))⟩⟩
   obtain rfl:i=cs.length:=by omega
   obtain⟨w2,l,hrg,hst,hLl,hnd,hmm,hkk,hk2,hs2⟩:=lu.start (P:=Tryz.prog) (mty:=115) (enc:=PV cs g off) HL.out.map Tryz.underlying115 (λl=>l.map (aaq off)) (λes hes=>by
    rw[List.map_map,List.map_map];refine List.map_congr_left λx hx=>?_
    simp only[Function.comp_apply];exact adn (hes x hx).2)
   obtain⟨L0,TM⟩:∃x,Hid (l.map (aaq off)=x):=⟨_,rfl⟩;rw[TM.out]at hst hLl;have hall:=ado hLl hnd hmm hkk;have vw:=hid hall;have hl0:L0.length≤1099600000000:=by have:=hall.few;omega
   have hbw:=HL.out.map.lt;obtain⟨rr,HRR⟩:∃x,Hid (bU.heap.size=x):=⟨_,rfl⟩;rw[HRR.out]at hrg hst;have hw2:w2.heap.size=rr+1:=by rw[←HRR.out];exact hs2
   have iO:Hid (Kept (· = bm) wm w2):=hid (HL.out.kept.trans (hk2.mono (λ_ _ h=>h.elim)));have HS2:Hid (MLp w2 w2 bm rr cs g off L0 (.slice none 0 0) [] L0):=hid ⟨hst,World.ownsRow_nil _ _ _ _,Kept.refl _ _,.refl _,λ_ h=>h⟩;have hbr:bm<rr:=by rw[←HRR.out];exact hbw
   clear hst hLl hnd hmm hkk hk2 hs2 hall;go_wp2_with fail
   go_loopw [16] (λv wx=>∃(D:List aC) (L:List Nat),Hid (MLp w2 wx bm rr cs g off L0 v D L)) (λ_ wx=>wx.rangeLeft bm rr)
   case atStart=>exact⟨[],L0,HS2⟩
   case round=>
    obtain⟨D,L,HM⟩:=hrel;obtain⟨jk,nD⟩:∃x,x=wr:=⟨_,rfl⟩;subst nD;obtain⟨vo,vc,rfl⟩:=dw HM.out.own;have hlen:D.length+L.length≤1099600000000:=by have:=HM.out.perm.length_eq;simp at this;omega
    rcases HM.out.rng.next (P:=Tryz.prog) 0 with⟨hL,hnx⟩ | ⟨j,L',w3,hp,hnx,aas,hk3,hs3,hen⟩
    ·subst hL;have HS:=hid (adp rfl HM.out.own (by omega));go_wp2_with (go_at_call 58;refine HS.out.mono ?_;rintro e w5 ⟨rfl,D',hp',hs',hr',hk'⟩)
     refine bodyPost_ret (v:=.tuple #[.slice vo D.length vc,.int .i64 0]) (by simp[results,Tryz.results22,go_sem]) rfl ?_;rw[hrr.out];have hpm:=HM.out.perm;rw[List.map_nil,List.append_nil]at hpm;have hlk:=PW vw.out (hp'.trans hpm) hs';have hb1:=uZ.out.size;have hb2:=HBM.out;refine⟨_,rfl,((((uZ.out.trans HKM.out).trans' iO.out (λq hq hx=>by omega)).trans' HM.out.kept (λq hq hx=>by omega)).trans' hk' (λq hq hx=>by have:=(HM.out.own.lt q hx).1;omega)),by rw[←hlk];exact hr',by rw[←hlk];have:=hp'.length_eq;omega⟩
    have hjm:j∈L:=hp.mem_iff.2 (by simp);have hjlt:=vw.out.lt j (HM.out.sub j hjm);have hx:=List.getElem?_eq_getElem hjlt;generalize hgx:cs[j]=c at hx;clear hgx;obtain⟨rfl,hg1,hg2⟩:=HAO.out (by intro e;rw[e]at hjlt;simp at hjlt);have hgb:¬g=bm:=by have:=HBM.out;omega
    have hgr:¬g=rr:=by have:=HBM.out;omega
    have hgw:¬w2.heap.size≤g:=by have:=HBM.out;omega
    have hat:sO w3 g (off+j*7) c:=(((((Fb.out j c hx).kept HKM.out id).kept iO.out hgb).kept HM.out.kept hgr).kept hk3 hgr);have c0:w3.cell? ⟨g,off+j*7,none⟩=some (.string (str c.d.name)):=hat 0 _ rfl;have c1:w3.cell? ⟨g,off+j*7+1,none⟩=some (.string (str c.d.val)):=hat 1 _ rfl;have c2:w3.cell? ⟨g,off+j*7+2,none⟩=some (.bool c.d.strong):=hat 2 _ rfl;have hda:Hid (ZK cs j=c.d):=hid (by unfold ZK;rw[hx];rfl);have HO3:Hid (w3.ownsRow w2.heap.size 53 3 (.slice vo D.length vc) D.length (D.map aA).flatten):=hid (aK HM.out.own hk3 (λq hq hx=>by have:=(HM.out.own.lt q hq).1;omega));have HRN:=hid aas;have oJ:=hid (HM.out.kept.trans hk3);have HP:=hid hp;have hll:Hid (L'.length<L.length):=hid (by have:=hp.length_eq;simp at this;omega);have hz3:Hid (w2.heap.size≤w3.heap.size):=hid oJ.out.size;have hdl:D.length≤1099600000000:=by omega
    obtain⟨i0,hi0,hz0,hz1,hz2⟩:=info_parts PX;simp only[PV]at hnx hen;clear hat hk3 aas hp hjm hx hs3;go_upto_region 18 with fail
    go_region_held3 (λw'=>w'.cell? ⟨g,off+j*7,none⟩=some (.string (str c.d.name))∧w'.cell? ⟨g,off+j*7+1,none⟩=some (.string (str c.d.val))∧w'.cell? ⟨g,off+j*7+2,none⟩=some (.bool c.d.strong)) (first | exact⟨hk9.cell hgw c0,hk9.cell hgw c1,hk9.cell hgw c2⟩ | go_keep)
     (first
      | (refine adq (w2:=w2) (wa:=w3) hi0 hz0 hz1 hz2 (by rfl) (.tmp 82) (.tmp 99) 49 Tryz.underlying49 (by rfl) vo vc D.length _ D c.d (by rfl) (by rfl) HO3.out (aI _ _) (by first | exact(Kept.refl _ w3).alloc _ | exact((Kept.refl _ w3).drew).alloc _) hdl hz3.out ?_;intro a9 c9 w9 ho9 hk9))
    all_goals
     go_wp2_with fail
     go_roundw
     case measure=>rw[HM.out.rng.Bd,(HRN.out.kept hk9 (by omega) (by omega)).Bd];exact hll.out
     case rel=>
      refine⟨D++[c.d],L',hid ⟨HRN.out.kept hk9 (by omega) (by omega),by rw[List.length_append];exact ho9,oJ.out.trans' hk9 (λq hq hx=>by omega),?_,λq hq=>HM.out.sub q (HP.out.mem_iff.2 (List.mem_cons_of_mem _ hq))⟩⟩;have h1:=(HP.out.map (ZK cs)).append_left D;rw[List.map_cons,hda.out]at h1;rw[List.append_assoc];exact h1.symm.trans HM.out.perm
end Go.Proofs.YtplbdlgmjehckacGreatDoor
namespace Go.Proofs.YtplbdlgmjehckacGreatDoor
open Go.Lib (hid)
open Go.RowKit
set_option linter.unusedVariables false
set_option linter.unusedSimpArgs false
def aph(look:List aC)(n:B)(r:Int):Prop:=(∃(i:Nat) (d:aC),r=(i:Int)∧look[i]?=some d∧Gi look n=some d)∨(r = -1∧Gi look n=none)
def akW(w:World)(r:Ans B)(e:Ending)(w':World):Prop:=
 match r with
 | .bad f=>e=.returned (.tuple #[.string ⟨#[]⟩,.int .i64 (f.err:Int)])∧Kept (λ_=>False) w w'∧f.err≠0
 | .ok s=>e=.returned (.tuple #[.string (str s),.int .i64 0])∧Kept (λ_=>False) w w'
def VAt(ns:List ak)(rs:List au)(ay:List B)(name:B)(k:Int)(R:Ans B):Prop:=
 if k<0 then Ans.ok (P6 name)=R else k<(ns.length:Int)∧Np (k.toNat+1) ns k rs ay name=R
end Go.Proofs.YtplbdlgmjehckacGreatDoor
namespace Go.Proofs.YtplbdlgmjehckacGreatDoor
open Go.Lib (hid)
open Go.RowKit
set_option linter.unusedVariables false
set_option linter.unusedSimpArgs false
end Go.Proofs.YtplbdlgmjehckacGreatDoor
namespace Go.Proofs.YtplbdlgmjehckacGreatDoor
open Go.Lib (hid)
open Go.RowKit Go.ChangeShapes Go.WideShapes Go.Deep
set_option linter.unusedVariables false
set_option linter.unusedSimpArgs false
section
variable {H:Type} {enc:TypeId×Value→H} {P:Program} {w:World} {base:Nat} {spare:Nat→Bool} {held:Bool}
end
section
variable {H:Type} {enc:TypeId×Value→H} {w:World} {spare:Nat→Bool} {held:Bool}
end
end Go.Proofs.YtplbdlgmjehckacGreatDoor


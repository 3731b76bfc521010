/-
 Lemmas for the claims of this seat: the program's functions walked, and plain laws.
-/
import Derived.WalkSpells
import Derived.WalkLawsBesides
import Derived.BigQuiet
import Derived.Lib.Hide
import Derived.Handy
import Derived.Test.YtplbdlgmjehckacGreatDoorPkFoTellsFull1
import Derived.Deep.Strs
import Derived.Test.YtplbdlgmjehckacGreatDoorTie
import Derived.Test.YtplbdlgmjehckacGreatDoorCards
import Derived.HandedShaped
import Derived.Deep.DeepWitnessRowRef
import Derived.Test.YtplbdlgmjehckacGreatDoorShelf
import Derived.Deep.DeepCutAuto
import Derived.Deep.Light
set_option maxRecDepth 100000
set_option maxHeartbeats 1600000
namespace Go.Proofs.YtplbdlgmjehckacGreatDoor
open Go.Lib (hid)
open Go.RowKit Go.ChangeShapes Go.WideShapes Go.ChangeAt
theorem zo{H:Type}{enc:TypeId×Value→H}{P:Program}(hl:laidOutB P=true){W W':World}(hb:Below W.heap.size W W'):
  ∀(ts:List TypeId) (vs:List Value) (ds:List (DataW H)) (ps:List MemPlace),(∀t∈ts,P.readableRec t=true∧t<P.types.size)→(∀x∈ps,x.block<W.heap.size) →
   DataW.TrodAll enc P W 0 (λ_=>true) true ts vs ds ps→DataW.TrodAll enc P W' 0 (λb=>decide (b<W.heap.size)) true ts vs ds ps
 | [],[],[],_,_,_,h=>h
 | t::ts,v::vs,d::ds,ps,hr,hlt,h=>by
  obtain⟨p,q,h1,h2,rfl⟩:=h;exact⟨p,q,h1 |> λh1=>hb |> λhb=>Below.trod hl (hr t (by simp)).1 (hr t (by simp)).2 h1 hb (λx hx=>hlt x (by simp[hx])),
   zo hl hb ts vs ds q (λt ht=>hr t (by simp[ht])) (λx hx=>hlt x (by simp[hx])) h2,rfl⟩
theorem acA{H:Type}{enc:TypeId×Value→H}{P:Program}{f:Func}{s:ChangeSpec}{apart handsOn:Bool}{W W':World}{args:Array Value}{ds gs:List (DataW H)}{before:List MemPlace}{tb:TypeId}
  (hl:laidOutB P=true) (htb:P.underlying tb=some .bool) (hrt:f.resultTypes=#[tb]) (hr:∀t∈f.params.toList,P.readableRec t=true∧t<P.types.size) (hsv:s.vars=[])
  (hW:DataW.Whole enc P f.params.toList s.vars apart W args.toList ds gs before)
  (hres:(s.fn H (ds++gs)).results=[.lit (.bool true)]) (harg:(s.fn H (ds++gs)).args=ds) (hvar:(s.fn H (ds++gs)).vars=[])
  (hb:Below W.heap.size W W'):s.post enc P f apart true handsOn false W args (.bool true) W':=by
 have hlt:=hW.lt;obtain⟨p,q,hA,hV,hpq,hfz,hnd⟩:=hW;have hgs:gs=[]∧q=[]:=by
  rw[hsv]at hV;cases gs with
  | nil=>exact⟨rfl,hV⟩
  | cons g gs=>exact hV.elim
 refine⟨ds,gs,before,[],p,[],⟨p,q,hA,hV,hpq,hfz,hnd⟩,?_,?_,?_,hb.frame _,λh=>by cases h⟩
 ·rw[hrt,hres];exact trodAll_cons_mk (shut_bool htb _) trodAll_mk0
 ·rw[harg];exact zo hl hb _ _ _ _ hr (λx hx=>hlt x (by rw[hpq];simp[hx])) hA
 rw[hsv,hvar];rfl
end Go.Proofs.YtplbdlgmjehckacGreatDoor

namespace Go.Proofs.YtplbdlgmjehckacGreatDoor
open Go.Lib (hid)
open Go.RowKit
set_option linter.unusedVariables false
set_option linter.unusedSimpArgs false
structure Kept(S:Nat→Prop)(w w':World):Prop where
 os:w'.os=w.os
 tape:w'.tape=w.tape
 output:w'.output=w.output
 size:w.heap.size≤w'.heap.size
 block:∀k,k<w.heap.size→¬S k→w'.heap[k]?=w.heap[k]?
theorem Kept.refl(S:Nat→Prop)(w:World):Kept S w w:=⟨rfl,rfl,rfl,Nat.le_refl _,λ_ _ _=>rfl⟩
theorem Kept.trans{S:Nat→Prop}{a b c:World}(h:Kept S a b)(k:Kept S b c):Kept S a c:=
 ⟨k.os.trans h.os,k.tape.trans h.tape,k.output.trans h.output,Nat.le_trans h.size k.size,
  λi hi hs=>(k.block i (Nat.lt_of_lt_of_le hi h.size) hs).trans (h.block i hi hs)⟩
theorem Kept.trans'{S T:Nat→Prop}{a b c:World}(h:Kept S a b)(k:Kept T b c)(hT:∀i,i<a.heap.size→T i→S i):Kept S a c:=
 ⟨k.os.trans h.os,k.tape.trans h.tape,k.output.trans h.output,Nat.le_trans h.size k.size,
  λi hi hs=>(k.block i (Nat.lt_of_lt_of_le hi h.size) (λht=>hs (hT i hi ht))).trans (h.block i hi hs)⟩
theorem Kept.mono{S T:Nat→Prop}{a b:World}(h:Kept S a b)(hs:∀k,k<a.heap.size→S k→T k):Kept T a b:=
 ⟨h.os,h.tape,h.output,h.size,λi hi ht=>h.block i hi (λx=>ht (hs i hi x))⟩
theorem Kept.drewN{S:Nat→Prop}{a b:World}(h:Kept S a b)(n:Nat):Kept S a (b.drewN n):=⟨h.os,h.tape,h.output,h.size,h.block⟩
theorem Kept.drew{S:Nat→Prop}{a b:World}(h:Kept S a b):Kept S a b.drew:=⟨h.os,h.tape,h.output,h.size,h.block⟩
theorem Kept.alloc{S:Nat→Prop}{a b:World}(h:Kept S a b)(o:Obj):Kept S a (b.alloc o):=
 h.trans ⟨rfl,rfl,rfl,by simp,λk hk _=>Below.heap_alloc _ _ _ hk⟩
theorem Kept.setCell{S:Nat→Prop}{a b:World}(h:Kept S a b){p:Addr}(hp:S p.block∨a.heap.size≤p.block)(u:Value):Kept S a (b.setCell p u):=
 ⟨h.os,h.tape,h.output,by simpa [World.setCell] using h.size,λi hi hs=>(Below.heap_setCell b p u i (by
  rintro rfl;rcases hp with hp | hp
  ·exact hs hp
  omega)).trans (h.block i hi hs)⟩
theorem Kept.grown{S:Nat→Prop}{a b c:World}{row:Option Nat}(h:Kept S a b)(hg:b.grownBy c row)(hr:∀k,row=some k→S k∨a.heap.size≤k):Kept S a c:=
 ⟨hg.os.trans h.os,hg.tape.trans h.tape,hg.output.trans h.output,Nat.le_trans h.size hg.size,
  λi hi hs=>(hg.block i (Nat.lt_of_lt_of_le hi h.size) (λe=>by
   rcases hr i e.symm with x | x
   ·exact hs x
   omega)).trans (h.block i hi hs)⟩
theorem Kept.below{a b:World}(h:Kept (λ_=>False) a b):Below a.heap.size a b:=⟨h.os,h.tape,h.output,h.size,λk hk=>h.block k hk id⟩
theorem Kept.of_below{S:Nat→Prop}{a b:World}(h:Below a.heap.size a b):Kept S a b:=⟨h.os,h.tape,h.output,h.size,λk hk _=>h.block k hk⟩
theorem Kept.cell{S:Nat→Prop}{a b:World}(h:Kept S a b){p:Addr}{v:Value}(hs:¬S p.block)(hc:a.cell? p=some v):b.cell? p=some v:=
 (World.cell?_of_block (h.block p.block (World.block_lt_of_cell? a p hc) hs)).trans hc
theorem Kept.frozen{S:Nat→Prop}{a b:World}(h:Kept S a b){p:Addr}(hs:¬S p.block)(hl:p.block<a.heap.size){x:Bool}(hc:a.frozen? p=x):b.frozen? p=x:=
 (World.frozen?_of_block (h.block p.block hl hs)).trans hc
theorem Kept.heap{S:Nat→Prop}{a b:World}(h:Kept S a b){k:Nat}{o:Obj}(hs:¬S k)(hc:a.heap[k]?=some o):b.heap[k]?=some o:=
 (h.block k (Array.getElem?_eq_some_iff.1 hc).1 hs).trans hc
def Qt(w w':World):Prop:=∃n,w'=w.drewN n
theorem Qt.refl(w:World):Qt w w:=⟨0,rfl⟩
theorem Qt.kept{w w':World}(h:Qt w w')(S:Nat→Prop):Kept S w w':=by obtain⟨n,rfl⟩:=h;exact(Kept.refl S w).drewN n
theorem Qt.trans{a b c:World}(h:Qt a b)(k:Qt b c):Qt a c:=by
 obtain⟨n,rfl⟩:=h;obtain⟨m,rfl⟩:=k;exact⟨n+m,by rw[World.drewN_drewN]⟩
theorem Qt.heap{w w':World}(h:Qt w w'):w'.heap=w.heap:=by obtain⟨n,rfl⟩:=h;rfl
theorem ah{w:World}{b:Nat}{cs:Array Value}{t:TypeId}{fz:Nat×Nat}(h:w.heap[b]?=some (.cells cs t fz))(k:Nat){v:Value}(hv:cs[k]?=some v):
  w.cell? ⟨b,k,none⟩=some v:=(cell_of_row w b k cs t fz h).trans hv
theorem aF{w:World}{b:Nat}{cs:Array Value}{t:TypeId}(h:w.heap[b]?=some (.cells cs t (0,0)))(k:Nat):w.frozen? ⟨b,k,none⟩=false:=by
 simp[World.frozen?,h]
theorem gW{w:World}{b:Nat}{o:Obj}(h:w.heap[b]?=some o):b<w.heap.size:=(Array.getElem?_eq_some_iff.1 h).1
theorem aW{w:World}{b:Nat}{cs:Array Value}{t:TypeId}{fz:Nat×Nat}(h:w.heap[b]?=some (.cells cs t fz))(k:Nat)(v:Value):
  (w.setCell ⟨b,k,none⟩ v).heap[b]?=some (.cells (cs.setIfInBounds k v) t fz):=by
 simp[World.setCell,Array.getElem?_modify,h]
theorem aI(w:World)(o:Obj):(w.alloc o).heap[w.heap.size]?=some o:=heap_alloc_new w o
theorem iw{w:World}{b:Nat}{o:Obj}(h:w.heap[b]?=some o)(o':Obj):(w.alloc o').heap[b]?=some o:=(heap_alloc_old w o' (gW h)).trans h
theorem dX{w:World}{a:Addr}{v:Value}(h:w.cell? a=some v)(o:Obj):(w.alloc o).cell? a=some v:=(World.cell?_alloc_lt w o a (World.block_lt_of_cell? w a h)).trans h
theorem jC{w:World}{a:Addr}{x:Bool}(hl:a.block<w.heap.size)(h:w.frozen? a=x)(o:Obj):(w.alloc o).frozen? a=x:=(World.frozen?_alloc_old w o a (Nat.ne_of_lt hl)).trans h
theorem eF{w:World}{b:Nat}{o:Obj}(h:w.heap[b]?=some o)(p:Addr)(v:Value)(hp:b≠p.block):(w.setCell p v).heap[b]?=some o:=(Below.heap_setCell w p v b hp).trans h
def aH(w:World)(size:Nat)(v:Value)(rows:List (List Value)):Prop:=
 ∃a cap,v=.slice a rows.length cap∧rows.length≤cap∧cap≤maxLen∧(rows≠[]→∃b off,a=some ⟨b,off,none⟩ ∧
  ∀i r,rows[i]?=some r→∀j c,r[j]?=some c→w.cell? ⟨b,off+i*size+j,none⟩=some c)
theorem aH.kept{w w':World}{size:Nat}{v:Value}{rows:List (List Value)}{S:Nat→Prop}(h:aH w size v rows)(hk:Kept S w w')
  (hs:∀k,v.ownBlock=some k→¬S k):aH w' size v rows:=by
 obtain⟨a,cap,rfl,h1,h2,h3⟩:=h;refine⟨a,cap,rfl,h1,h2,λhne=>?_⟩;obtain⟨b,off,rfl,h4⟩:=h3 hne;exact⟨b,off,rfl,λi r hr j c hc=>hk.cell (hs b rfl) (h4 i r hr j c hc)⟩
theorem aH.below{w w':World}{size:Nat}{v:Value}{rows:List (List Value)}(h:aH w size v rows)(hb:Below w.heap.size w w'):aH w' size v rows:=
 h.kept (S:=λ_=>False) (Kept.of_below hb) (λ_ _=>id)
theorem aH.quiet{w w':World}{size:Nat}{v:Value}{rows:List (List Value)}(h:aH w size v rows)(hk:Qt w w'):aH w' size v rows:=
 h.kept (S:=λ_=>False) (hk.kept _) (λ_ _=>id)
theorem aH.alloc{w:World}{size:Nat}{v:Value}{rows:List (List Value)}(h:aH w size v rows)(o:Obj):aH (w.alloc o) size v rows:=
 h.kept (S:=λ_=>False) ((Kept.refl _ w).alloc o) (λ_ _=>id)
theorem aH.nil(w:World)(size:Nat):aH w size (.slice none 0 0) []:=⟨none,0,rfl,Nat.le_refl _,by simp[maxLen],λh=>absurd rfl h⟩
theorem sV(size:Nat):∀(rows:List (List Value)),(∀r∈rows,r.length=size)→∀i r,rows[i]?=some r→∀j c,r[j]?=some c→rows.flatten[i*size+j]?=some c
 | [],_,i,r,h,_,_,_=>by simp at h
 | r0::rows,hl,i,r,h,j,c,hc=>by
  have h0:=hl r0 (by simp);cases i with
  | zero=>
   simp at h;subst h;have:j<r0.length:=(List.getElem?_eq_some_iff.1 hc).1;simp only[Nat.zero_mul,Nat.zero_add,List.flatten_cons];rw[List.getElem?_append_left this];exact hc
  | succ i=>
   simp only[List.getElem?_cons_succ]at h;have:=sV size rows (λr hr=>hl r (by simp[hr])) i r h j c hc;simp only[List.flatten_cons];rw[List.getElem?_append_right (by rw[h0,Nat.succ_mul];omega),h0];rw[show(i+1)*size+j-size=i*size+j from by rw[Nat.succ_mul];omega];exact this
theorem aK{w w':World}{S:Nat→Prop}{base e size n:Nat}{v:Value}{xs:List Value}(h:w.ownsRow base e size v n xs)(hk:Kept S w w')(hs:∀k,v.ownBlock=some k→¬S k):
  w'.ownsRow base e size v n xs:=by
 refine⟨h.1,?_⟩;rcases h.2 with x | ⟨g,cap,cur,hv,hg,hh,rest⟩
 ·exact .inl x
 exact .inr ⟨g,cap,cur,hv,hg,hk.heap (hs g (by rw[hv];rfl)) hh,rest⟩
theorem aS{w:World}{base e size n:Nat}{v:Value}{rows:List (List Value)}(hl:∀r∈rows,r.length=size)(hn:n=rows.length)
  (h:w.ownsRow base e size v n rows.flatten):aH w size v rows:=by
 subst hn;rcases h.2 with⟨rfl,hn⟩ | ⟨g,cap,cur,rfl,hb,hg,hnc,hcm,hcs,htake⟩
 ·have:rows=[]:=List.length_eq_zero_iff.1 hn;subst this;exact aH.nil w size
 refine⟨_,cap,rfl,hnc,hcm,λ_=>⟨g,0,rfl,λi r hr j c hc=>?_⟩⟩;have:=sV size rows hl i r hr j c hc;rw[←htake]at this;have hlt:i*size+j<rows.length*size:=by
  have:=(List.getElem?_eq_some_iff.1 this).1;simp only[List.length_take]at this;omega
 rw[List.getElem?_take,if_pos hlt]at this;rw[cell_of_row w g _ cur e (0,0) hg,Nat.zero_add];simpa using this
def dA(t:bQ):List Value:=[.int .i64 t.kind,.string (str t.name),.string (str t.val)]
def jy(w:World)(X:Nat→Prop)(v:Value)(ts:List bQ):Prop:=aH w 3 v (ts.map dA)∧∀k,v.ownBlock=some k→¬X k∧k<w.heap.size
theorem jy.kept{w w':World}{X X' S:Nat→Prop}{v:Value}{ts:List bQ}(h:jy w X v ts)(hk:Kept S w w')(hS:∀k,k<w.heap.size→S k→X k)(hX:∀k,k<w.heap.size→X' k→X k):jy w' X' v ts:=
 ⟨h.1.kept hk (λk hk' hs=>(h.2 k hk').1 (hS k (h.2 k hk').2 hs)),λk hk'=>⟨λhx=>(h.2 k hk').1 (hX k (h.2 k hk').2 hx),Nat.lt_of_lt_of_le (h.2 k hk').2 hk.size⟩⟩
theorem Lj:(Tryz.prog.info? 158).map (λi=>(i.zero,i.size,i.bytes))=some (some (.agg #[.int .i64 0,.string ⟨#[]⟩,.string ⟨#[]⟩]),3,40):=by kernel_rfl
theorem Lm{ts:List bQ}:∀r∈ts.map dA,r.length=3:=by
 intro r hr;obtain⟨a,_,rfl⟩:=List.mem_map.1 hr
 rfl
theorem AQ{α:Type}{f:α→Value→List Value}{size:Nat}(hf:∀a v,(f a v).length=size){xs:List α}{vs:List Value}:∀r∈List.zipWith f xs vs,r.length=size:=by
 intro r hr;obtain⟨i,hi,rfl⟩:=List.mem_iff_getElem.1 hr;simp[hf]
def kJ{α:Type}(f:α→Value→List Value)(size:Nat)(Q:World→(Nat→Prop)→Value→α→Prop)(w:World)(X:Nat→Prop)(v:Value)(xs:List α):Prop:=
 ∃vs:List Value,vs.length=xs.length∧aH w size v (List.zipWith f xs vs)∧(∀k,v.ownBlock=some k→¬X k∧k<w.heap.size)∧∀(i:Nat) (x:α) (u:Value),xs[i]?=some x→vs[i]?=some u→Q w X u x
def pV{α:Type}(Q:World→(Nat→Prop)→Value→α→Prop):Prop:=
 ∀(w w':World) (X X' S:Nat→Prop) (v:Value) (x:α),Q w X v x→Kept S w w'→(∀k,k<w.heap.size→S k→X k)→(∀k,k<w.heap.size→X' k→X k)→Q w' X' v x
theorem SN:pV jy:=λ_ _ _ _ _ _ _ h hk hS hX=>h.kept hk hS hX
theorem vV{α:Type}{f:α→Value→List Value}{size:Nat}{Q:World→(Nat→Prop)→Value→α→Prop}(hQ:pV Q):pV (kJ f size Q):=by
 intro w w' X X' S v xs ⟨vs,h1,h2,h3,h4⟩ hk hS hX;exact⟨vs,h1,h2.kept hk (λk hk' hs=>(h3 k hk').1 (hS k (h3 k hk').2 hs)),λk hk'=>⟨λhx=>(h3 k hk').1 (hX k (h3 k hk').2 hx),Nat.lt_of_lt_of_le (h3 k hk').2 hk.size⟩,
  λi x u hx hu=>hQ _ _ _ _ _ _ _ (h4 i x u hx hu) hk hS hX⟩
structure dB{α:Type}(f:α→Value→List Value)(size e:Nat)(Q:World→(Nat→Prop)→Value→α→Prop)(w:World)(base:Nat)(v:Value)(xs:List α)(vs:List Value):Prop where
 len:vs.length=xs.length
 own:w.ownsRow base e size v xs.length (List.zipWith f xs vs).flatten
 nest:∀(i:Nat) (x:α) (u:Value),xs[i]?=some x→vs[i]?=some u→Q w (λk=>k<base∨v.ownBlock=some k) u x
section
variable {α:Type} {f:α→Value→List Value} {size e:Nat} {Q:World→(Nat→Prop)→Value→α→Prop} {w w':World} {base b:Nat} {v v':Value} {xs:List α} {vs:List Value}
theorem dB.kept(h:dB f size e Q w base v xs vs)(hQ:pV Q)(hb:b<base)(hk:Kept (· = b) w w'):dB f size e Q w' base v xs vs:=
 ⟨h.len,aK h.own hk (λk hk=>by have:=(h.own.lt k hk).1;omega),λi x u hx hu=>hQ _ _ _ _ _ _ _ (h.nest i x u hx hu) hk (λk _ hs=>.inl (by have:k=b:=hs;omega)) (λk _ hx=>hx)⟩
theorem dB.alloc(h:dB f size e Q w base v xs vs)(hQ:pV Q)(o:Obj):dB f size e Q (w.alloc o) base v xs vs:=
 ⟨h.len,h.own.alloc _,λi x u hx hu=>hQ _ _ _ _ (λ_=>False) _ _ (h.nest i x u hx hu) ((Kept.refl _ _).alloc _) (λk _ hs=>hs.elim) (λk _ hx=>hx)⟩
theorem dB.other(h:dB f size e Q w base v xs vs)(hQ:∀(u:Value) (x:α),u∈vs→Q w (λk=>k<base∨v.ownBlock=some k) u x→Q w' (λk=>k<base∨v.ownBlock=some k) u x){S:Nat→Prop}(hk:Kept S w w')(hs:∀k,v.ownBlock=some k→¬S k):dB f size e Q w' base v xs vs:=
 ⟨h.len,aK h.own hk hs,λi x u hx hu=>hQ u x (List.mem_of_getElem? hu) (h.nest i x u hx hu)⟩
theorem dB.nil(w:World)(base:Nat):dB f size e Q w base (.slice none 0 0) [] []:=⟨rfl,World.ownsRow_nil _ _ _ _,λi x u hx=>by simp at hx⟩
theorem dB.form(h:dB f size e Q w base v xs vs):∃vo vc,v=.slice vo xs.length vc:=by
 rcases h.own.2 with⟨h,hn⟩ | ⟨g,cap,cur,h,_⟩
 ·exact⟨none,0,by rw[h,hn]⟩
 exact⟨_,cap,h⟩
theorem dB.push{gg cap:Nat}{x:α}{u:Value}{o:Obj}(h:dB f size e Q w base v xs vs)(hQ:pV Q)(hu:Q w (λk=>k<base∨v.ownBlock=some k) u x)
  (hown:w'.ownsRow base e size (.slice (some ⟨gg,0,none⟩) (xs.length+1) cap) (xs.length+1) ((List.zipWith f xs vs).flatten++f x u)) (hg:(w.alloc o).grownBy w' v.ownBlock) (hat:v.ownBlock=some gg∨w.heap.size≤gg) :
  dB f size e Q w' base (.slice (some ⟨gg,0,none⟩) (xs.length+1) cap) (xs++[x]) (vs++[u]):=by
 have hk:Kept (λk=>v.ownBlock=some k) w w':=((Kept.refl _ w).alloc o).grown hg (λk hk=>.inl hk);have new:∀ {y:α} {z:Value},Q w (λk=>k<base∨v.ownBlock=some k) z y→Q w' (λk=>k<base∨(Value.slice (some ⟨gg,0,none⟩) (xs.length+1) cap).ownBlock=some k) z y:=λhq=>
  hQ _ _ _ _ _ _ _ hq hk (λk _ hs=>.inr hs) (λk hlt hx=>by
   rcases hx with hx | hx
   ·exact .inl hx
   simp only[Value.ownBlock,Option.some.injEq]at hx;subst hx;rcases hat with h1 | h1
   ·exact .inr h1
   omega)
 refine⟨by simp[h.len],?_,λi y z hy hz=>?_⟩
 ·rw[List.zipWith_append (by rw[h.len])];simpa using hown
 by_cases hi:i<xs.length
 ·rw[List.getElem?_append_left hi]at hy;rw[List.getElem?_append_left (by rw[h.len];exact hi)]at hz;exact new (h.nest i y z hy hz)
 have hi2:=(List.getElem?_eq_some_iff.1 hy).1;simp at hi2;have:i=xs.length:=by omega
 subst this;simp at hy;rw[←h.len]at hz;simp at hz;subst hy;subst hz;exact new hu
theorem dB.done(h:dB f size e Q w base v xs vs)(hf:∀a v,(f a v).length=size)(hQ:pV Q):kJ f size Q w (λk=>k<base) v xs:=
 ⟨vs,h.len,aS (AQ hf) (by simp[h.len]) h.own,λk hk=>⟨λhx=>by have:=(h.own.lt k hk).1;omega,(h.own.lt k hk).2⟩,
  λi x u hx hu=>hQ _ _ _ _ (λ_=>False) _ _ (h.nest i x u hx hu) (Kept.refl _ _) (λk _ hs=>hs.elim) (λk _ hx=>.inl hx)⟩
end
def kZ(p:eP)(v:Value):List Value:=[.int .i64 p.join,v]
def tC(w:World)(X:Nat→Prop)(v:Value)(ps:List eP):Prop:=kJ kZ 2 (λw X u (p:eP)=>jy w X u p.tests) w X v ps
theorem kN:pV (λw X u (p:eP)=>jy w X u p.tests):=λ_ _ _ _ _ _ _ h hk hS hX=>jy.kept h hk hS hX
theorem dR:pV tC:=vV kN
def uQ(s:dZ)(v:Value):List Value:=[v]
def vO(w:World)(X:Nat→Prop)(v:Value)(ss:List dZ):Prop:=kJ uQ 1 tC w X v ss
theorem lU:pV vO:=vV dR
def aA(d:aC):List Value:=[.string (str d.name),.string (str d.val),.bool d.strong]
def dD(w:World)(X:Nat→Prop)(v:Value)(ds:List aC):Prop:=aH w 3 v (ds.map aA)∧∀k,v.ownBlock=some k→¬X k∧k<w.heap.size
theorem jB:pV dD:=λw w' X X' S v ds h hk hS hX=>
 ⟨h.1.kept hk (λk hk' hs=>(h.2 k hk').1 (hS k (h.2 k hk').2 hs)),λk hk'=>⟨λhx=>(h.2 k hk').1 (hX k (h.2 k hk').2 hx),Nat.lt_of_lt_of_le (h.2 k hk').2 hk.size⟩⟩
def XE:Value→Value
 | .tuple a=>a.getD 0 (.bool false)
 | v=>v
def XF:Value→Value
 | .tuple a=>a.getD 1 (.bool false)
 | v=>v
def bI(r:au)(u:Value):List Value:=[.string (str r.ay),XE u,XF u,.int .i64 r.lo,.int .i64 r.hi]
def CO(w:World)(X:Nat→Prop)(u:Value)(r:au):Prop:=∃sv dv,u=.tuple #[sv,dv]∧vO w X sv r.aZ∧dD w X dv r.decls
theorem bn:pV CO:=λw w' X X' S u r ⟨sv,dv,h1,h2,h3⟩ hk hS hX=>⟨sv,dv,h1,lU _ _ _ _ _ _ _ h2 hk hS hX,jB _ _ _ _ _ _ _ h3 hk hS hX⟩
def BM(w:World)(X:Nat→Prop)(v:Value)(rs:List au):Prop:=kJ bI 5 CO w X v rs
theorem ED:pV BM:=vV bn
theorem fU(r:au)(u:Value):(bI r u).length=5:=rfl
theorem y7(p:eP)(u:Value):(kZ p u).length=2:=rfl
theorem vP(p:dZ)(u:Value):(uQ p u).length=1:=rfl
theorem ku{ds:List aC}:∀r∈ds.map aA,r.length=3:=by
 intro r hr;obtain⟨a,_,rfl⟩:=List.mem_map.1 hr
 rfl
theorem Lp:(Tryz.prog.info? 156).map (λi=>(i.zero,i.size,i.bytes))=some (some (.agg #[.int .i64 0,.slice none 0 0]),2,32):=by kernel_rfl
theorem qF:(Tryz.prog.info? 59).map (λi=>(i.zero,i.size,i.bytes))=some (some (.agg #[.string ⟨#[]⟩,.string ⟨#[]⟩,.bool false]),3,40):=by kernel_rfl
theorem uF:(Tryz.prog.info? 42).map (λi=>(i.zero,i.size,i.bytes))=some (some (.agg #[.string ⟨#[]⟩,.slice none 0 0,.slice none 0 0,.int .i64 0,.int .i64 0]),5,80):=by kernel_rfl
theorem AX:(Tryz.prog.info? 78).map (λi=>(i.zero,i.size,i.bytes))=some (some (.slice none 0 0),1,24):=by kernel_rfl
theorem GI:(Tryz.prog.info? 9).map (λi=>(i.zero,i.size,i.bytes))=some (some (.string ⟨#[]⟩),1,16):=by kernel_rfl
theorem aH.at{w:World}{size:Nat}{a:Option Addr}{n cap:Nat}{rows:List (List Value)}(h:aH w size (.slice a n cap) rows){k:Nat}{r:List Value}(hx:rows[k]?=some r):
  ∃b off,a=some ⟨b,off,none⟩∧∀j c,r[j]?=some c→w.cell? ⟨b,off+k*size+j,none⟩=some c:=by
 obtain⟨a',cap',hv,h1,h2,h3⟩:=h;simp only[Value.slice.injEq]at hv;obtain⟨rfl,_,_⟩:=hv;obtain⟨b,off,ha,h4⟩:=h3 (by intro hn;subst hn;simp at hx);exact⟨b,off,ha,h4 k r hx⟩
theorem dD.form{w:World}{X:Nat→Prop}{v:Value}{ds:List aC}(h:dD w X v ds):∃a cap,v=.slice a ds.length cap∧ds.length≤cap∧cap≤maxLen:=by
 obtain⟨a,cap,e,h1,h2,_⟩:=h.1;exact⟨a,cap,by rw[e,List.length_map],by simpa using h1,h2⟩
theorem dD.at{w:World}{X:Nat→Prop}{a:Option Addr}{n cap:Nat}{ds:List aC}(h:dD w X (.slice a n cap) ds){k:Nat}{x:aC}(hx:ds[k]?=some x):
  ∃b off,a=some ⟨b,off,none⟩∧w.cell? ⟨b,off+k*3,none⟩=some (.string (str x.name))∧w.cell? ⟨b,off+k*3+1,none⟩=some (.string (str x.val))∧w.cell? ⟨b,off+k*3+2,none⟩=some (.bool x.strong):=by
 obtain⟨b,off,ha,h4⟩:=aH.at h.1 (k:=k) (r:=aA x) (by simp[hx]);exact⟨b,off,ha,h4 0 _ rfl,h4 1 _ rfl,h4 2 _ rfl⟩
theorem dD.quiet{w w':World}{X:Nat→Prop}{v:Value}{ds:List aC}(h:dD w X v ds)(hq:Qt w w'):dD w' X v ds:=
 jB _ _ _ _ _ _ _ h (hq.kept (λ_=>False)) (λ_ _ h=>h.elim) (λ_ _ h=>h)
theorem jy.form{w:World}{X:Nat→Prop}{v:Value}{ds:List bQ}(h:jy w X v ds):∃a cap,v=.slice a ds.length cap∧ds.length≤cap∧cap≤maxLen:=by
 obtain⟨a,cap,e,h1,h2,_⟩:=h.1;exact⟨a,cap,by rw[e,List.length_map],by simpa using h1,h2⟩
theorem jy.at{w:World}{X:Nat→Prop}{a:Option Addr}{n cap:Nat}{ds:List bQ}(h:jy w X (.slice a n cap) ds){k:Nat}{x:bQ}(hx:ds[k]?=some x):
  ∃b off,a=some ⟨b,off,none⟩∧∀j c,(dA x)[j]?=some c→w.cell? ⟨b,off+k*3+j,none⟩=some c:=
 aH.at h.1 (k:=k) (r:=dA x) (by simp[hx])
theorem jy.quiet{w w':World}{X:Nat→Prop}{v:Value}{ds:List bQ}(h:jy w X v ds)(hq:Qt w w'):jy w' X v ds:=
 SN _ _ _ _ _ _ _ h (hq.kept (λ_=>False)) (λ_ _ h=>h.elim) (λ_ _ h=>h)
section
variable {α:Type} {f:α→Value→List Value} {size:Nat} {Q:World→(Nat→Prop)→Value→α→Prop} {w w':World} {X:Nat→Prop} {v:Value} {xs:List α}
theorem kJ.form(h:kJ f size Q w X v xs):∃a cap,v=.slice a xs.length cap∧xs.length≤cap∧cap≤maxLen:=by
 obtain⟨vs,h0,⟨a,cap,e,h1,h2,_⟩,_⟩:=h;exact⟨a,cap,by rw[e];simp[h0],by simpa [h0] using h1,h2⟩
theorem kJ.at{a:Option Addr}{n cap:Nat}(h:kJ f size Q w X (.slice a n cap) xs){k:Nat}{x:α}(hx:xs[k]?=some x):
  ∃b off u,a=some ⟨b,off,none⟩∧(∀j c,(f x u)[j]?=some c→w.cell? ⟨b,off+k*size+j,none⟩=some c)∧Q w X u x:=by
 obtain⟨vs,h0,h1,_,h4⟩:=h;have hk:=(List.getElem?_eq_some_iff.1 hx).1;have hu:vs[k]?=some (vs[k]'(by omega)):=List.getElem?_eq_getElem _;obtain⟨b,off,ha,h5⟩:=aH.at h1 (k:=k) (r:=f x (vs[k]'(by omega))) (by simp[List.getElem?_zipWith,hx,hu]);exact⟨b,off,_,ha,h5,h4 k x _ hx hu⟩
theorem kJ.quiet(hQ:pV Q)(h:kJ f size Q w X v xs)(hq:Qt w w'):kJ f size Q w' X v xs:=
 vV hQ _ _ _ _ _ _ _ h (hq.kept (λ_=>False)) (λ_ _ h=>h.elim) (λ_ _ h=>h)
end
def jg(a:bf):List Value:=[.string (str a.name),.string (str a.val),.int .i64 a.lo,.int .i64 a.hi]
def bZ(w:World)(v:Value)(al:List bf):Prop:=aH w 4 v (al.map jg)
theorem bZ.form{w:World}{v:Value}{al:List bf}(h:bZ w v al):∃a cap,v=.slice a al.length cap∧al.length≤cap∧cap≤maxLen:=by
 obtain⟨a,cap,hv,h1,h2,h3⟩:=h;simp only[List.length_map]at hv h1;exact⟨a,cap,hv,h1,h2⟩
theorem bZ.at{w:World}{a:Option Addr}{n cap:Nat}{al:List bf}(h:bZ w (.slice a n cap) al){k:Nat}{x:bf}(hx:al[k]?=some x):
  ∃b off,a=some ⟨b,off,none⟩∧w.cell? ⟨b,off+k*4,none⟩=some (.string (str x.name))∧w.cell? ⟨b,off+k*4+1,none⟩=some (.string (str x.val)) ∧
   w.cell? ⟨b,off+k*4+2,none⟩=some (.int .i64 x.lo)∧w.cell? ⟨b,off+k*4+3,none⟩=some (.int .i64 x.hi):=by
 obtain⟨a',cap',hv,h1,h2,h3⟩:=h;simp only[Value.slice.injEq]at hv;obtain⟨rfl,_,_⟩:=hv;obtain⟨b,off,ha,h4⟩:=h3 (by intro hn;rw[List.map_eq_nil_iff]at hn;subst hn;simp at hx);have:=h4 k (jg x) (by simp[hx]);exact⟨b,off,ha,this 0 _ rfl,this 1 _ rfl,this 2 _ rfl,this 3 _ rfl⟩
theorem bZ.qt{w w':World}{v:Value}{al:List bf}(h:bZ w v al)(hq:Qt w w'):bZ w' v al:=aH.quiet h hq
def bV(n:ak)(av:Value):List Value:=[.string (str n.name),.int .i64 n.parent,av,.int .i64 n.bG,.int .i64 n.qE,.int .i64 n.inT]
theorem Hl{ns:List ak}{mO:List Value}:∀r∈List.zipWith bV ns mO,r.length=6:=by
 intro r hr;obtain⟨i,hi,rfl⟩:=List.mem_iff_getElem.1 hr;simp[bV]
def aX(w:World)(v:Value)(ns:List ak):Prop:=
 ∃mO:List Value,mO.length=ns.length∧aH w 6 v (List.zipWith bV ns mO)∧∀(i:Nat) (n:ak) (av:Value),ns[i]?=some n→mO[i]?=some av→bZ w av n.attrs
theorem aX.kept{w w':World}{v:Value}{ns:List ak}(h:aX w v ns)(hb:Below w.heap.size w w'):aX w' v ns:=by
 obtain⟨mO,h1,h2,h3⟩:=h;exact⟨mO,h1,h2.below hb,λi n av hn ha=>(h3 i n av hn ha).below hb⟩
theorem aX.form{w:World}{v:Value}{ns:List ak}(h:aX w v ns):∃a cap,v=.slice a ns.length cap∧ns.length≤cap∧cap≤maxLen:=by
 obtain⟨mO,h1,⟨a,cap,hv,h2,h3,_⟩,_⟩:=h;have e:(List.zipWith bV ns mO).length=ns.length:=by simp[h1]
 rw[e]at hv h2;exact⟨a,cap,hv,h2,h3⟩
theorem aX.at{w:World}{a:Option Addr}{n cap:Nat}{ns:List ak}(h:aX w (.slice a n cap) ns){k:Nat}{x:ak}(hx:ns[k]?=some x):
  ∃b off av,a=some ⟨b,off,none⟩∧w.cell? ⟨b,off+k*6,none⟩=some (.string (str x.name))∧w.cell? ⟨b,off+k*6+1,none⟩=some (.int .i64 x.parent) ∧
   w.cell? ⟨b,off+k*6+2,none⟩=some av∧w.cell? ⟨b,off+k*6+3,none⟩=some (.int .i64 x.bG)∧w.cell? ⟨b,off+k*6+4,none⟩=some (.int .i64 x.qE) ∧
   w.cell? ⟨b,off+k*6+5,none⟩=some (.int .i64 x.inT)∧bZ w av x.attrs:=by
 obtain⟨mO,h1,⟨a',cap',hv,h2,h3,h4⟩,h5⟩:=h;simp only[Value.slice.injEq]at hv;obtain⟨rfl,_,_⟩:=hv;have hk:=(List.getElem?_eq_some_iff.1 hx).1;have ha:mO[k]?=some (mO[k]'(by omega)):=List.getElem?_eq_getElem _;have hz:(List.zipWith bV ns mO)[k]?=some (bV x (mO[k]'(by omega))):=by simp[List.getElem?_zipWith,hx,ha]
 obtain⟨b,off,rfl,h6⟩:=h4 (by intro hn;rw[hn]at hz;simp at hz);have:=h6 k _ hz;exact⟨b,off,_,rfl,this 0 _ rfl,this 1 _ rfl,this 2 _ rfl,this 3 _ rfl,this 4 _ rfl,this 5 _ rfl,h5 k x _ hx ha⟩
theorem aX.quiet{w w':World}{v:Value}{ns:List ak}(h:aX w v ns)(hq:Qt w w'):aX w' v ns:=h.kept ((hq.kept (λ_=>False)).below)
def bH{α:Type}(f:α→Value→List Value)(size:Nat)(Q:World→Value→α→Prop)(w:World)(v:Value)(xs:List α):Prop:=
 ∃vs:List Value,vs.length=xs.length∧aH w size v (List.zipWith f xs vs)∧∀(i:Nat) (x:α) (u:Value),xs[i]?=some x→vs[i]?=some u→Q w u x
def Ap{α:Type}(Q:World→Value→α→Prop):Prop:=∀(w w':World) (u:Value) (x:α),Q w u x→Below w.heap.size w w'→Q w' u x
theorem DZ{α:Type}{f:α→Value→List Value}{size:Nat}{Q:World→Value→α→Prop}(hQ:Ap Q):Ap (bH f size Q):=by
 intro w w' v xs ⟨vs,h1,h2,h3⟩ hb;exact⟨vs,h1,h2.below hb,λi x u hx hu=>hQ _ _ _ _ (h3 i x u hx hu) hb⟩
theorem Ap.quiet{α:Type}{Q:World→Value→α→Prop}(hQ:Ap Q){w w':World}{u:Value}{x:α}(h:Q w u x)(hq:Qt w w'):Q w' u x:=hQ _ _ _ _ h ((hq.kept (λ_=>False)).below)
theorem Ap.kept{α:Type}{Q:World→Value→α→Prop}(hQ:Ap Q){w w':World}{u:Value}{x:α}(h:Q w u x)(hq:Kept (λ_=>False) w w'):Q w' u x:=hQ _ _ _ _ h hq.below
section
variable {α:Type} {f:α→Value→List Value} {size:Nat} {Q:World→Value→α→Prop} {w w':World} {v:Value} {xs:List α}
theorem bH.form(h:bH f size Q w v xs):∃a cap,v=.slice a xs.length cap∧xs.length≤cap∧cap≤maxLen:=by
 obtain⟨vs,h0,⟨a,cap,e,h1,h2,_⟩,_⟩:=h;exact⟨a,cap,by rw[e];simp[h0],by simpa [h0] using h1,h2⟩
theorem bH.at{a:Option Addr}{n cap:Nat}(h:bH f size Q w (.slice a n cap) xs){k:Nat}{x:α}(hx:xs[k]?=some x):
  ∃b off u,a=some ⟨b,off,none⟩∧(∀j c,(f x u)[j]?=some c→w.cell? ⟨b,off+k*size+j,none⟩=some c)∧Q w u x:=by
 obtain⟨vs,h0,h1,h4⟩:=h;have hk:=(List.getElem?_eq_some_iff.1 hx).1;have hu:vs[k]?=some (vs[k]'(by omega)):=List.getElem?_eq_getElem _;obtain⟨b,off,ha,h5⟩:=aH.at h1 (k:=k) (r:=f x (vs[k]'(by omega))) (by simp[List.getElem?_zipWith,hx,hu]);exact⟨b,off,_,ha,h5,h4 k x _ hx hu⟩
end
def bC(w:World)(v:Value)(ds:List aC):Prop:=aH w 3 v (ds.map aA)
def jf(w:World)(v:Value)(ts:List bQ):Prop:=aH w 3 v (ts.map dA)
def PartsAt(w:World)(v:Value)(ps:List eP):Prop:=bH kZ 2 (λw u (p:eP)=>jf w u p.tests) w v ps
def VX(w:World)(v:Value)(ss:List dZ):Prop:=bH uQ 1 PartsAt w v ss
def rC(w:World)(u:Value)(r:au):Prop:=∃sv dv,u=.tuple #[sv,dv]∧VX w sv r.aZ∧bC w dv r.decls
def gy(w:World)(v:Value)(rs:List au):Prop:=bH bI 5 rC w v rs
def jR(w:World)(v:Value)(ss:List B):Prop:=aH w 1 v (ss.map λx=>[Value.string (str x)])
theorem iy:Ap bC:=λ_ _ _ _ h hb=>aH.below h hb
theorem lJ:Ap jf:=λ_ _ _ _ h hb=>aH.below h hb
theorem Y6:Ap jR:=λ_ _ _ _ h hb=>aH.below h hb
theorem Zw:Ap (λw u (p:eP)=>jf w u p.tests):=λ_ _ _ _ h hb=>aH.below h hb
theorem fP:Ap PartsAt:=DZ Zw
theorem qJ:Ap VX:=DZ fP
theorem xX:Ap rC:=λ_ _ _ _ ⟨sv,dv,h1,h2,h3⟩ hb=>⟨sv,dv,h1,qJ _ _ _ _ h2 hb,iy _ _ _ _ h3 hb⟩
theorem eG:Ap gy:=DZ xX
theorem aO:Ap aX:=λ_ _ _ _ h hb=>h.kept hb
theorem kJ.reads{α:Type}{f:α→Value→List Value}{size:Nat}{Q:World→(Nat→Prop)→Value→α→Prop}{Q':World→Value→α→Prop}(hQ:∀w X u x,Q w X u x→Q' w u x){w:World}{X:Nat→Prop}{v:Value}{xs:List α}(h:kJ f size Q w X v xs):bH f size Q' w v xs:=by
 obtain⟨vs,h0,h1,_,h4⟩:=h;exact⟨vs,h0,h1,λi x u hx hu=>hQ _ _ _ _ (h4 i x u hx hu)⟩
theorem SQ{w:World}{X:Nat→Prop}{v:Value}{ps:List eP}(h:tC w X v ps):PartsAt w v ps:=h.reads (λ_ _ _ _ h=>h.1)
theorem VY{w:World}{X:Nat→Prop}{v:Value}{ss:List dZ}(h:vO w X v ss):VX w v ss:=h.reads (λ_ _ _ _ h=>SQ h)
theorem VZ{w:World}{X:Nat→Prop}{u:Value}{r:au}(h:CO w X u r):rC w u r:=by
 obtain⟨sv,dv,h1,h2,h3⟩:=h;exact⟨sv,dv,h1,VY h2,h3.1⟩
theorem sZ{w:World}{X:Nat→Prop}{v:Value}{rs:List au}(h:BM w X v rs):gy w v rs:=h.reads (λ_ _ _ _ h=>VZ h)
section
variable {w w':World} {v:Value} {ds:List aC} {ts:List bQ} {ss:List B}
theorem bC.form(h:bC w v ds):∃a cap,v=.slice a ds.length cap∧ds.length≤cap∧cap≤maxLen:=by
 obtain⟨a,cap,e,h1,h2,_⟩:=h;exact⟨a,cap,by rw[e,List.length_map],by simpa using h1,h2⟩
theorem bC.at{a:Option Addr}{n cap:Nat}(h:bC w (.slice a n cap) ds){k:Nat}{x:aC}(hx:ds[k]?=some x):
  ∃b off,a=some ⟨b,off,none⟩∧w.cell? ⟨b,off+k*3,none⟩=some (.string (str x.name))∧w.cell? ⟨b,off+k*3+1,none⟩=some (.string (str x.val))∧w.cell? ⟨b,off+k*3+2,none⟩=some (.bool x.strong):=by
 obtain⟨b,off,ha,h4⟩:=aH.at h (k:=k) (r:=aA x) (by simp[hx]);exact⟨b,off,ha,h4 0 _ rfl,h4 1 _ rfl,h4 2 _ rfl⟩
theorem jf.form(h:jf w v ts):∃a cap,v=.slice a ts.length cap∧ts.length≤cap∧cap≤maxLen:=by
 obtain⟨a,cap,e,h1,h2,_⟩:=h;exact⟨a,cap,by rw[e,List.length_map],by simpa using h1,h2⟩
theorem jf.at{a:Option Addr}{n cap:Nat}(h:jf w (.slice a n cap) ts){k:Nat}{x:bQ}(hx:ts[k]?=some x):
  ∃b off,a=some ⟨b,off,none⟩∧w.cell? ⟨b,off+k*3,none⟩=some (.int .i64 x.kind)∧w.cell? ⟨b,off+k*3+1,none⟩=some (.string (str x.name))∧w.cell? ⟨b,off+k*3+2,none⟩=some (.string (str x.val)):=by
 obtain⟨b,off,ha,h4⟩:=aH.at h (k:=k) (r:=dA x) (by simp[hx]);exact⟨b,off,ha,h4 0 _ rfl,h4 1 _ rfl,h4 2 _ rfl⟩
theorem jR.form(h:jR w v ss):∃a cap,v=.slice a ss.length cap∧ss.length≤cap∧cap≤maxLen:=by
 obtain⟨a,cap,e,h1,h2,_⟩:=h;exact⟨a,cap,by rw[e,List.length_map],by simpa using h1,h2⟩
theorem jR.at{a:Option Addr}{n cap:Nat}(h:jR w (.slice a n cap) ss){k:Nat}{x:B}(hx:ss[k]?=some x):
  ∃b off,a=some ⟨b,off,none⟩∧w.cell? ⟨b,off+k,none⟩=some (.string (str x)):=by
 obtain⟨b,off,ha,h4⟩:=aH.at h (k:=k) (r:=[Value.string (str x)]) (by simp[hx]);exact⟨b,off,ha,by simpa using h4 0 _ rfl⟩
end
open Go.ChangeShapes Go.Deep Go.WideShapes
abbrev bulk{H:Type}(d:DataW H):Nat:=Rows.uptoBulk d
section
variable {H:Type} {enc:TypeId×Value→H} {P:Program} {w:World} {spare:Nat→Bool} {held:Bool}
end
def I64(n:Int):Prop := -9223372036854775808≤n∧n≤9223372036854775807
section
variable {α:Type}
end
def aoN(s:B):Nat:=s.length+1
def afJ(d:aC):Nat:=d.name.length+d.val.length+4
section
variable {H:Type} {enc:TypeId×Value→H} {w:World} {spare:Nat→Bool} {held:Bool}
end
end Go.Proofs.YtplbdlgmjehckacGreatDoor

namespace Go.Proofs.YtplbdlgmjehckacGreatDoor
open Go.Lib (hid)
open Go.RowKit Go.ChangeShapes Go.WideShapes Go.ChangeAt Go.ChangeMaps
theorem own:ownKnob Tryz.prog.godebug=none:=by kernel_rfl
theorem laidOut:laidOutB Tryz.prog=true:=by kernel_rfl
theorem SS(W:World)(hsh:W.ShapedOpen Tryz.prog):∃m,W.cell? ⟨0,0,none⟩=some (.int .i64 m):=
 cell_of_shapedOpen_int (zero:=#[.int .i64 0]) (t:=3) hsh (of_decide_eq_true (by kernel_rfl)) (by kernel_rfl) rfl (by kernel_rfl) (by kernel_rfl) Tryz.underlying3
def acB(n:Nat):Value:=.int .u8 (n:Int)
def SV:Array Value:=(List.map acB [128,191,160,191,128,159,144,191,128,143,0,0,0,0,0,0,0,0,0,0,0,0,0,0,0,0,0,0,0,0,0,0]).toArray
def firstCells:Array Value:=(List.map acB Go.Pinned.utf8FirstZ).toArray
def acC(cs:Array Value):Obj→Obj
 | .cells _ t frozen=>.cells cs t frozen
 | o=>o
noncomputable def laidWorld(os:Os):World:=
 { World.holding Tryz.prog os ⟨#[], #[],[]⟩with heap:=((World.holding Tryz.prog os ⟨#[], #[],[]⟩).heap.modify 1 (acC firstCells)).modify 2 (acC SV) }
end Go.Proofs.YtplbdlgmjehckacGreatDoor

namespace Go.Proofs.YtplbdlgmjehckacGreatDoor
open Go.Lib (hid)
open Go.RowKit
set_option linter.unusedVariables false
set_option linter.unusedSimpArgs false
theorem eu{a b:Bool}(h:a=b):Ending.returned (.bool a)=.returned (.bool b):=by rw[h]
theorem yB{k:IntKind}{a b:Int}(h:a=b):Ending.returned (.int k a)=.returned (.int k b):=by rw[h]
theorem Uz{a b:ByteArray}(h:a=b):Ending.returned (.string a)=.returned (.string b):=by rw[h]
def idx:Option Nat→Int
 | none => -1
 | some k=>(k:Int)
theorem yU(l p:B)(w:World):
  Calls Tryz.prog 148 #[.string (str l),.string (str p)] w λe w'=>e=.returned (.bool (p.isPrefixOf l))∧w'=w:=
 Tryz.strings_HasPrefix (str l) (str p) w
theorem Md(l sub:B)(m:Int)(w:World)(hl:l.length<4294967281)(hm:w.cell? ⟨0,0,none⟩=some (.int .i64 m)):
  Calls Tryz.prog 102 #[.string (str l),.string (str sub)] w λe w'=>e=.returned (.int .i64 (idx (bg sub l)))∧w'=w:=
 (Tryz.strings_Index (str l) (str sub) m w hl hm).mono λe w' ⟨he,hw⟩=>⟨by rw[he,qP,qP,yM];rfl,hw⟩
theorem index_none(l sub:B)(m:Int)(w:World)(hl:l.length<4294967281)(hm:w.cell? ⟨0,0,none⟩=some (.int .i64 m))(hf:bg sub l=none):
  Calls Tryz.prog 102 #[.string (str l),.string (str sub)] w λe w'=>e=.returned (.int .i64 (-1))∧w'=w:=by
 have:=Md l sub m w hl hm;rw[hf]at this;exact this
theorem zL{k:Nat}(l sub:B)(m:Int)(w:World)(hl:l.length<4294967281)(hm:w.cell? ⟨0,0,none⟩=some (.int .i64 m))(hf:bg sub l=some k):
  Calls Tryz.prog 102 #[.string (str l),.string (str sub)] w λe w'=>e=.returned (.int .i64 (k:Int))∧w'=w:=by
 have:=Md l sub m w hl hm;rw[hf]at this;exact this
def dn(w:World)(b:Nat)(s:B)(at_:Nat):Prop:=
 w.heap[b]?=some (.cells #[.string (str s),.int .i64 (at_:Int)] 143 (0,0))∧at_≤s.length∧s.length≤4000
def Xt(f:iL):Value:=.iface 178 (.agg #[.int .i64 (f.err:Int),.int .i64 (f.pos:Int)])
@[reducible] def tK(f:iL):Ending:=.panicked [{ v:=Xt f,recovered:=false }]
section
variable {w w':World} {b:Nat} {s:B} {a:Nat}
theorem dn.kept{S:Nat→Prop}(h:dn w b s a)(hk:Kept S w w')(hs:¬S b):dn w' b s a:=⟨hk.heap hs h.1,h.2⟩
theorem dn.quiet(h:dn w b s a)(hk:Qt w w'):dn w' b s a:=h.kept (S:=λ_=>False) (hk.kept _) id
theorem dn.drewN(h:dn w b s a)(n:Nat):dn (w.drewN n) b s a:=h
theorem dn.drew(h:dn w b s a):dn w.drew b s a:=h
theorem dn.alloc(h:dn w b s a)(o:Obj):dn (w.alloc o) b s a:=⟨iw h.1 o,h.2⟩
theorem dn.set(h:dn w b s a){x:Int}{a':Nat}(hx:x=(a':Int))(hl:a'≤s.length):dn (w.setCell ⟨b,1,none⟩ (.int .i64 x)) b s a':=by
 refine⟨?_,hl,h.2.2⟩;subst hx;have:=aW h.1 1 (.int .i64 (a':Int));simpa using this
theorem dn.other(h:dn w b s a){p:Addr}{x:Value}(hp:b≠p.block):dn (w.setCell p x) b s a:=⟨eF h.1 p x hp,h.2⟩
theorem dn.c0(h:dn w b s a):w.cell? ⟨b,0,none⟩=some (.string (str s)):=ah h.1 0 rfl
theorem dn.c1(h:dn w b s a):w.cell? ⟨b,1,none⟩=some (.int .i64 (a:Int)):=ah h.1 1 rfl
theorem dn.free(h:dn w b s a)(k:Nat):w.frozen? ⟨b,k,none⟩=false:=aF h.1 k
theorem dn.lt(h:dn w b s a):b<w.heap.size:=gW h.1
end
def CY{α:Type}(X:Ans (α×B×Nat))(w:World)(b:Nat)(s:B)(R:World→α→Ending→Prop)(e:Ending)(w':World):Prop:=
 (∃f,e=tK f∧Kept (· = b) w w'∧Hid (X=.bad f))∨(∃v at',R w' v e∧Kept (· = b) w w'∧dn w' b s at'∧Hid (X=.ok (v,s.drop at',at')))
theorem iG(err:Nat)(w:World)(b:Nat)(s:B)(at_:Nat)(h:dn w b s at_):
  Calls Tryz.prog 74 #[.pointer (some ⟨b,0,none⟩),.int .i64 (err:Int)] w λe w'=>e=tK ⟨err,at_⟩∧Qt w w':=by
 have h1:=h.c1;clear h;go_enter Tryz.func74,Tryz.ntmps74
 go_wp2
 exact⟨rfl,rfl,0,rfl⟩
theorem aey(word:B)(w:World)(b:Nat)(s:B)(at_:Nat)(h:dn w b s at_):
  Calls Tryz.prog 153 #[.pointer (some ⟨b,0,none⟩),.string (str word)] w λe w'=>e=.returned (.bool (word.isPrefixOf (s.drop at_)))∧∃n,w'=w.drewN n:=by
 have h0:=h.c0;have h1:=h.c1;have hl:=h.2.1;have hm:=h.2.2;clear h;go_enter Tryz.func153,Tryz.ntmps153
 go_wp2
 go_quiet ((go_at_call 148;refine Calls.quiet_of_same (yU _ _ _)))
 go_wp2
 go_ret
 exact⟨rfl,_,rfl⟩
theorem Ot(r:Bool)(word:B)(w:World)(b:Nat)(s:B)(at_:Nat)(h:dn w b s at_)(hr:word.isPrefixOf (s.drop at_)=r):
  Calls Tryz.prog 153 #[.pointer (some ⟨b,0,none⟩),.string (str word)] w λe w'=>e=.returned (.bool r)∧∃n,w'=w.drewN n:=by
 have:=aey word w b s at_ h;rw[hr]at this;exact this
theorem qB(word:B)(w:World)(b:Nat)(s:B)(at_:Nat)(h:dn w b s at_)(hp:word.isPrefixOf (s.drop at_)=false):
  Calls Tryz.prog 105 #[.pointer (some ⟨b,0,none⟩),.string (str word)] w λe w'=>e=.returned (.bool false)∧∃n,w'=w.drewN n:=by
 have H:=hid h;have HP:=hid hp;clear h hp;go_enter Tryz.func105,Tryz.ntmps105
 go_wp2_with fail
 refine(Ot false word _ _ _ _ H.out HP.out).mono ?_;rintro e w1 ⟨rfl,n1,rfl⟩;go_wp2_with fail
 go_ret
 exact⟨rfl,_,rfl⟩
theorem SX(word:B)(w:World)(b:Nat)(s:B)(at_:Nat)(h:dn w b s at_)(hp:word.isPrefixOf (s.drop at_)=true):
  Calls Tryz.prog 105 #[.pointer (some ⟨b,0,none⟩),.string (str word)] w λe w'=>e=.returned (.bool true)∧Kept (· = b) w w'∧dn w' b s (at_+word.length):=by
 have H:=hid h;have HP:=hid hp;have hl:at_+word.length≤s.length:=by
  have:=(List.isPrefixOf_iff_prefix.1 hp).length_le;simp only[List.length_drop]at this;have:=h.2.1;by_cases hw:word=[]
  ·subst hw;simpa using h.2.1
  have:0<word.length:=List.length_pos_iff.2 hw;omega
 have hm:=h.2.2;clear h hp;go_enter Tryz.func105,Tryz.ntmps105
 go_wp2_with fail
 refine(Ot true word _ _ _ _ H.out HP.out).mono ?_;rintro e w1 ⟨rfl,n1,rfl⟩;have H1:=hid (H.out.drewN n1);have c1:=(H.out.drewN n1).c1;have f1:=(H.out.drewN n1).free 1;go_wp2_with fail
 go_ret
 exact⟨rfl,((Kept.refl (· = b) w).drewN n1).setCell (p:=⟨b,1,none⟩) (.inl rfl) _,H1.out.set (by omega) hl⟩
theorem Zx(word:B)(w:World)(b:Nat)(s:B)(at_:Nat)(h:dn w b s at_)(hp:word.isPrefixOf (s.drop at_)=false):
  Calls Tryz.prog 107 #[.pointer (some ⟨b,0,none⟩),.string (str word)] w λe w'=>e=tK ⟨2,at_⟩∧Qt w w':=by
 have H:=hid h;have HP:=hid hp;clear h hp;go_enter Tryz.func107,Tryz.ntmps107
 go_wp2_with fail
 refine(qB word _ _ _ _ H.out HP.out).mono ?_;rintro e w1 ⟨rfl,n1,rfl⟩;have H1:=hid (H.out.drewN n1);go_wp2_with fail
 refine(iG 2 _ _ _ _ H1.out).mono ?_;rintro e w2 ⟨rfl,hq2⟩;have HQ:=hid (Qt.trans ⟨n1,rfl⟩ hq2);clear hq2;go_wp2_with fail
 exact⟨rfl,rfl,HQ.out⟩
theorem acD(word:B)(w:World)(b:Nat)(s:B)(at_:Nat)(h:dn w b s at_)(hp:word.isPrefixOf (s.drop at_)=true):
  Calls Tryz.prog 107 #[.pointer (some ⟨b,0,none⟩),.string (str word)] w λe w'=>e=.returned (.tuple #[])∧Kept (· = b) w w'∧dn w' b s (at_+word.length):=by
 have H:=hid h;have HP:=hid hp;clear h hp;go_enter Tryz.func107,Tryz.ntmps107
 go_wp2_with fail
 refine(SX word _ _ _ _ H.out HP.out).mono ?_;rintro e w1 ⟨rfl,hk,hr⟩;have HK:=hid hk;have HR:=hid hr;clear hk hr;go_wp2_with fail
 go_end0
 exact⟨rfl,HK.out,HR.out⟩
theorem nO(word:B)(w:World)(b:Nat)(s:B)(at_:Nat)(h:dn w b s at_):
  Calls Tryz.prog 107 #[.pointer (some ⟨b,0,none⟩),.string (str word)] w λe w'=>
   (∃f,e=tK f∧Kept (· = b) w w'∧Hid (aV word (s.drop at_) at_=.bad f))∨(∃at',e=.returned (.tuple #[])∧Kept (· = b) w w'∧dn w' b s at'∧Hid (aV word (s.drop at_) at_=.ok (s.drop at',at'))):=by
 cases hp:word.isPrefixOf (s.drop at_)with
 | false=>exact(Zx word w b s at_ h hp).mono λe w' ⟨h1,h2⟩=>.inl ⟨_,h1,h2.kept _,hid (by unfold aV;rw[hp];rfl)⟩
 | true=>exact(acD word w b s at_ h hp).mono λe w' ⟨h1,h2,h3⟩=>.inr ⟨_,h1,h2,h3,hid (by unfold aV;rw[if_pos hp,List.drop_drop])⟩
theorem gI(w:World)(b:Nat)(s:B)(at_:Nat)(m:Int)(h:dn w b s at_)(hm:w.cell? ⟨0,0,none⟩=some (.int .i64 m))(hb0:0<b):
  Calls Tryz.prog 104 #[.pointer (some ⟨b,0,none⟩)] w λe w'=>
   (∃f,e=tK f∧Kept (· = b) w w'∧Hid (cO (s.drop at_) at_=.bad f))∨(∃at',e=.returned (.bool (decide (at_<at')))∧Kept (· = b) w w'∧dn w' b s at'∧Hid (cO (s.drop at_) at_=.ok (s.drop at',at'))):=by
 obtain⟨r,HR⟩:∃r,Hid (cO (s.drop at_) at_=r):=⟨_,rfl⟩;rw[HR.out];have H:=hid h;have HM:=hid hm;have c1:=h.c1;have hl:=h.2.1;have hmx:=h.2.2;clear h hm;go_enter Tryz.func104,Tryz.ntmps104
 go_wp2_with fail
 clear c1;go_loopg [] (s.length-at_) (λk wr=>∃at',dn wr b s at'∧at_≤at'∧Hid (Kept (· = b) w wr)∧Hid (cO (s.drop at') at'=r)∧k=s.length-at')
 case atStart=>exact⟨at_,H.out,Nat.le_refl _,hid (Kept.refl _ _),HR,rfl⟩
 case round=>
  obtain⟨at',hsd,hle,HK,HG,hk⟩:=hrel;have HS:=hid hsd;have c0:=hsd.c0;have c1:=hsd.c1;have f1:=hsd.free 1;have hl':=hsd.2.1;clear hsd;have hk0:Hid (Kept (· = b) w wr.drew):=hid HK.out.drew;by_cases hlt:at'<s.length
  ·have hd:=List.drop_eq_getElem_cons hlt;have hG:=HG.out;rw[hd,uz,←hd]at hG;have HD:=hid hd;clear hd;cases e1:(((s[at']'hlt).toNat:Int)==32)with
   | true=>
    rw[if_pos (.inl (by simp at e1;omega))]at hG;have YQ:=hid hG;clear hG;have e2:∀x:Bool,((((s[at']'hlt).toNat:Int)==32)||x)=true:=λx=>by rw[e1];rfl
    go_wp2_with fail
    go_quiet (fail)
    go_wp2_with fail
    go_quiet (fail)
    go_wp2_with fail
    go_roundg (s.length-(at'+1))
    case measure=>omega
    case rel=>exact⟨at'+1,((HS.out.drewN _).set (by omega) (by omega)),by omega,hid ((HK.out.drewN _).setCell (p:=⟨b,1,none⟩) (.inl rfl) _),YQ,rfl⟩
   | false=>
    cases e2:(((s[at']'hlt).toNat:Int)==10)with
    | true=>
     rw[if_pos (.inr (by simp at e2;omega))]at hG;have YQ:=hid hG;clear hG;go_wp2_with fail
     go_quiet (fail)
     go_wp2_with fail
     go_quiet (fail)
     go_wp2_with fail
     go_roundg (s.length-(at'+1))
     case measure=>omega
     case rel=>exact⟨at'+1,((HS.out.drewN _).set (by omega) (by omega)),by omega,hid ((HK.out.drewN _).setCell (p:=⟨b,1,none⟩) (.inl rfl) _),YQ,rfl⟩
    | false=>
     rw[if_neg (by simp at e1 e2;omega)]at hG;have YQ:=hid hG;clear hG;go_wp2_with fail
     go_quiet (fail)
     go_wp2_with fail
     go_quiet (fail)
     go_wp2_with fail
     cases hp:dV.isPrefixOf (s.drop at')with
     | false=>
      refine(Ot false dV _ _ _ _ (HS.out.drewN _) hp).mono ?_;rintro e w1 ⟨rfl,n1,rfl⟩;have hgt:decide ((at_:Int)<(at':Int))=decide (at_<at'):=by rw[Bool.eq_iff_iff];simp
      have hR:Hid (r=.ok (s.drop at',at')):=hid (by have:=YQ.out;rw[hp]at this;exact this.symm);clear hp;go_wp2_with fail
      go_ret
      exact .inr ⟨at',rfl,HK.out.drewN _,HS.out.drewN _,hR⟩
     | true=>
      have HP:=hid hp;have hp2:at'+2≤s.length:=by
       have:=(List.isPrefixOf_iff_prefix.1 hp).length_le;rw[List.length_drop]at this;simp only[dV,List.length_cons,List.length_nil]at this;omega
      have hG:=YQ.out;rw[hp,if_pos rfl,List.drop_drop]at hG;have HGM:=hid hG;refine(Ot true dV _ _ _ _ (HS.out.drewN _) hp).mono ?_;rintro e w1 ⟨rfl,hw1⟩;have hq1:Qt wr w1:=Qt.trans ⟨_,rfl⟩ hw1;have OI:=hid (HS.out.quiet hq1);have uZ:=hid (HK.out.trans (hq1.kept _));clear c0 c1 f1 hw1;have c0:=OI.out.c0;have c1:=OI.out.c1;have f1:=OI.out.free 1;have hlen:(s.drop (at'+2)).length<4294967281:=by rw[List.length_drop];omega
      have hmr:w1.cell? ⟨0,0,none⟩=some (.int .i64 m):=uZ.out.cell (by show ¬(0=b);omega) HM.out;have HMR:=hid hmr;clear hp hmr hG hq1;cases hf:bg dN (s.drop (at'+2))with
      | none=>
       have hR:Hid (r=.bad ⟨2,at'⟩):=hid (by have:=HGM.out;rw[hf]at this;exact this.symm);go_wp2_with fail
       go_quiet ((go_at_call 102;exact Calls.quiet_of_same (index_none _ dN m _ hlen HMR.out hf)))
       clear hf;go_wp2_with fail
       refine(iG 2 _ _ _ _ (OI.out.drewN _)).mono ?_;rintro e w2 ⟨rfl,hq2⟩;go_wp2_with fail
       exact⟨rfl,.inl ⟨_,rfl,(uZ.out.drewN _).trans (hq2.kept _),hR⟩⟩
      | some e=>
       have hfl:=gY _ _ _ hf;rw[List.length_drop]at hfl;have hsl:dN.length=2:=rfl;rw[hsl]at hfl;have hGE:Hid (cO (s.drop (at'+(2+e+2))) (at'+(2+e+2))=r):=hid (by have:=HGM.out;rw[hf]at this;simp only[List.drop_drop]at this;exact this);go_wp2_with fail
       go_quiet ((go_at_call 102;exact Calls.quiet_of_same (zL _ dN m _ hlen HMR.out hf)))
       clear hf;go_wp2_with fail
       go_roundg (s.length-(at'+(2+e+2)))
       case measure=>omega
       case rel=>exact⟨at'+(2+e+2),(OI.out.drewN _).set (by omega) (by omega),by omega,hid ((uZ.out.drewN _).setCell (p:=⟨b,1,none⟩) (.inl rfl) _),hGE,rfl⟩
  have e3:decide ((at':Int)<(s.length:Int))=false:=by simp;omega
  have hnil:Hid (s.drop at'=[]):=hid (List.drop_eq_nil_of_le (by omega));have hG:=HG.out;rw[hnil.out]at hG;have hR:Hid (r=.ok (s.drop at',at')):=hid (by rw[hnil.out];exact hG.symm);have hgt:decide ((at_:Int)<(at':Int))=decide (at_<at'):=by rw[Bool.eq_iff_iff];simp
  clear hG;go_wp2_with fail
  go_quiet (fail)
  go_wp2_with fail
  go_ret
  exact .inr ⟨at',rfl,HK.out.drewN _,HS.out.drewN _,hR⟩
theorem Me{s:B}(h1:1≤s.length)(h2:s.length≤20)(h:∀j (h:j<s.length),gQ j s[j]=true):named s=true:=by
 unfold named;have:aJ s=s.length:=by
  have h3:=gZ s;rcases Nat.lt_or_ge (aJ s) s.length with h4 | h4
  ·have:=nJ s h4;rw[h _ h4]at this;cases this
  omega
 simp[h1,h2,this]
theorem SY{s:B}{k:Nat}(hk:k<s.length)(h:gQ k s[k]=false):named s=false:=by
 unfold named;have:aJ s≠s.length:=by
  intro e;obtain⟨_,h2⟩:=oL s k (by omega);rw[h]at h2;cases h2
 simp[this]
def Zy(w:World)(r:Bool)(e:Ending)(w':World):Prop:=e=.returned (.bool r)∧w'=w
theorem Zz(w:World)(s:B):Calls Tryz.prog 154 #[.string (str s)] w (Zy w (named s)):=by
 by_cases hl0:s.length<1
 ·have hsz:(s.length:Int)<1:=by omega
  go_enter Tryz.func154,Tryz.ntmps154
  go_wp2
  go_ret
  exact⟨eu (by
   unfold named;have:¬1≤s.length:=by omega
   simp[this]),rfl⟩
 by_cases arf:20<s.length
 ·have hsz:¬(s.length:Int)<1:=by omega
  have hsz2:20<(s.length:Int):=by omega
  go_enter Tryz.func154,Tryz.ntmps154
  go_wp2
  go_ret
  exact⟨eu (by
   unfold named;have:¬s.length≤20:=by omega
   simp[this]),rfl⟩
 have hsz:¬(s.length:Int)<1:=by omega
 have hsz2:¬20<(s.length:Int):=by omega
 go_enter Tryz.func154,Tryz.ntmps154
 go_wp2
 go_loop [15] (λk=>∃j:Nat,j≤s.length∧k=.int .i64 j∧Hid (∀i (h:i<s.length),i<j→gQ i s[i]=true)) (λk=>s.length-(intOf k).toNat)
 case atStart=>exact⟨0,by omega,rfl,λi h hi=>by omega⟩
 case round=>
  obtain⟨j,hj,rfl,HH⟩:=hrel;by_cases hlt:j<s.length
  ·cases hin:gQ j s[j]with
   | true=>
    have hnext:Hid (∀i (h:i<s.length),i<j+1→gQ i s[i]=true):=hid λi h hi=>by
     by_cases e:i=j
     ·subst e;exact hin
     exact HH.out i h (by omega)
    have h4:=Fv hin;clear hin;rcases h4 with⟨h5,h6⟩ | ⟨h5,h6,h7⟩ | ⟨h5,h6⟩
    ·go_wp2
     go_round
     case rel=>exact⟨j+1,by omega,by go_num,hnext⟩
     case measure=>simp[intOf];omega
    ·have e1:((j:Int)==0)=false:=by simp;omega
     have e2:(((s[j]'hlt).toNat:Int) != 45)=true:=by simp;omega
     go_wp2
     go_round
     case rel=>exact⟨j+1,by omega,by go_num,hnext⟩
     case measure=>simp[intOf];omega
    have e1:((j:Int)==0)=false:=by simp;omega
    have e2:(((s[j]'hlt).toNat:Int) != 45)=false:=by simp;omega
    have e3:((s[j]'hlt).toNat:Int)<48:=by omega
    clear h6;go_wp2
    go_round
    case rel=>exact⟨j+1,by omega,by go_num,hnext⟩
    case measure=>simp[intOf];omega
   | false=>
    have hno:=SY hlt hin;have Tq:=hid hno;obtain⟨h5,h6⟩:=JQ hin;clear hno hin;by_cases hj0:j=0
    ·subst hj0;clear h6;rcases h5 with h5 | h5
     all_goals
      go_wp2
      all_goals first
       | (go_ret;exact⟨eu Tq.out.symm,rfl⟩)
       | (exfalso;omega)
    have h7:=h6.resolve_left hj0;obtain⟨h8,h9⟩:=h7;have e1:((j:Int)==0)=false:=by simp;omega
    have e2:(((s[j]'hlt).toNat:Int) != 45)=true:=by simpa using h9
    clear h6 h9;rcases h5 with h5 | h5<;>rcases h8 with h8 | h8<;>(try (exfalso;omega))
    all_goals
     go_wp2
     go_ret
     exact⟨eu Tq.out.symm,rfl⟩
  go_wp2
  go_ret
  exact⟨eu (Me (by omega) (by omega) (λi h=>HH.out i h (by omega))).symm,rfl⟩
theorem Jg{l:B}{j:Nat}(h1:j+1≤aJ l)(h2:j+1≤20):named (l.take (j+1))=true:=by
 have hle:=gZ l;refine Me (by simp;omega) (by simp;omega) (λi hi=>?_);have hi':i<j+1:=by simp at hi;omega
 obtain⟨h3,h4⟩:=oL l i (by omega);rw[List.getElem_take];exact h4
theorem zq{l:B}(h:min (aJ l) 20<l.length):named (l.take (min (aJ l) 20+1))=false:=by
 have hle:=gZ l;by_cases h20:20≤aJ l
 ·have:min (aJ l) 20=20:=by omega
  rw[this];unfold named;have:(l.take (20+1)).length=21:=by simp;omega
  rw[this];simp
 have:min (aJ l) 20=aJ l:=by omega
 rw[this]at h ⊢;have ho:=nJ l h;refine SY (k:=aJ l) (by simp;omega) ?_;rw[List.getElem_take];exact ho
theorem acE(c:UInt8):named [97,c]=dK c:=by
 unfold named;have:aJ [97,c]=if dK c then 2 else 1:=by
  simp only[aJ];rw[if_pos (by decide)];simp only[List.takeWhile_cons,List.takeWhile_nil];split<;>rfl
 rw[this];cases dK c<;>rfl
theorem aez{l:B}(h:20<l.length)(hn:20≤aJ l):dK (l[20]'h)=decide (20<aJ l):=by
 by_cases h2:20<aJ l
 ·obtain⟨h3,h4⟩:=oL l 20 h2;simpa [gQ,h2] using h4
 have e:aJ l=20:=by omega
 have:=nJ l (by omega);simp only[e]at this;simpa [gQ,h2] using this
theorem named_is(r:Bool)(l:B)(w:World)(h:named l=r):
  Calls Tryz.prog 154 #[.string (str l)] w λe w'=>e=.returned (.bool r)∧w'=w:=by
 subst h;exact Zz w l
theorem oZ(w:World)(b:Nat)(s:B)(at_:Nat)(h:dn w b s at_):
  Calls Tryz.prog 106 #[.pointer (some ⟨b,0,none⟩)] w (CY (dM (s.drop at_) at_) w b s (λ_ nm e=>e=.returned (.string (str nm)))):=by
 obtain⟨r,HR⟩:∃r,Hid (dM (s.drop at_) at_=r):=⟨_,rfl⟩;rw[HR.out];have H:=hid h;have c0:=h.c0;have c1:=h.c1;have f1:=h.free 1;have hl:=h.2.1;have hmx:=h.2.2;clear h;have hnl:=gZ (s.drop at_);rw[List.length_drop]at hnl;obtain⟨n,HN⟩:∃n,Hid (min (aJ (s.drop at_)) 20=n):=⟨_,rfl⟩;have hn:at_+n≤s.length:=by have:=HN.out;omega
 have arh:n≤20:=by have:=HN.out;omega
 clear hnl;go_enter Tryz.func106,Tryz.ntmps106
 go_upto_block 0 with fail
 go_cut [3] (λk wx=>k=.int .i64 ((at_+n:Nat):Int)∧Qt w wx)
 case first=>
  go_wp2_with fail
  go_loopw [3] (λk wr=>∃j:Nat,j≤n∧k=.int .i64 ((at_+j:Nat):Int)∧Hid (Qt w wr)) (λk _=>s.length-(intOf k).toNat)
  case atStart=>exact⟨0,by omega,rfl,hid (Qt.refl w)⟩
  case round=>
   obtain⟨j,hj,rfl,HQ⟩:=hrel;have c0':=(H.out.quiet HQ.out).c0;have c1':=(H.out.quiet HQ.out).c1;by_cases hlt:at_+j<s.length
   ·have e5:IntKind.i64.wrap ((at_:Int)+(j:Int)+1)=(at_:Int)+(j:Int)+1:=IntWalk.i64_in _ (by omega);have e6:(0:Int)≤(at_:Int)+(j:Int)+1:=by omega
    have e7:((at_:Int)+(j:Int)+1).toNat=at_+(j+1):=by omega
    have e0:decide ((at_:Int)+(j:Int)<(s.length:Int))=true:=by simp;omega
    have e8:(at_:Int)+(j:Int)+1≤(s.length:Int):=by omega
    have e9:(at_:Int)≤(at_:Int)+(j:Int)+1:=by omega
    by_cases hjn:j<n
    ·have HT:Hid (∀x,x=j+1→named ((s.drop at_).take x)=true):=hid (λx hx=>by rw[hx];exact Jg (by have:=HN.out;omega) (by omega));go_wp2_with fail
     go_quiet ((go_at_call 154;exact Calls.quiet_of_same (named_is true _ _ (HT.out _ (by omega)))))
     go_wp2_with fail
     go_roundw
     case rel=>exact⟨j+1,by omega,by go_num,hid (HQ.out.trans ⟨nq,rfl⟩)⟩
     case measure=>simp[intOf];omega
    have hje:j=n:=by omega
    subst hje;have HT:Hid (∀x,x=j+1→named ((s.drop at_).take x)=false):=hid (λx hx=>by
     rw[hx];have:=zq (l:=s.drop at_) (by rw[HN.out,List.length_drop];omega);rw[HN.out]at this;exact this)
    go_wp2_with fail
    go_quiet ((go_at_call 154;exact Calls.quiet_of_same (named_is false _ _ (HT.out _ (by omega)))))
    go_wp2_with fail
    go_meet
    case rel=>exact⟨rfl,HQ.out.trans ⟨nq,rfl⟩⟩
   obtain rfl:j=n:=by omega
   have e0:decide ((at_:Int)+(j:Int)<(s.length:Int))=false:=by simp;omega
   go_wp2_with fail
   go_quiet (fail)
   go_wp2_with fail
   go_meet
   case rel=>exact⟨rfl,HQ.out.trans ⟨nq,rfl⟩⟩
 case rest=>
  obtain⟨rfl,hq⟩:=hcut;have HS:=hid (H.out.quiet hq);have HK:=hid (hq.kept (· = b));clear c0 c1 f1 hq;have c0:=HS.out.c0;have c1:=HS.out.c1;have f1:=HS.out.free 1;by_cases h0:n=0
  ·subst h0;have hR:Hid (r=.bad ⟨2,at_⟩):=hid (by rw[←HR.out];unfold dM;rw[if_pos (.inl (by have:=HN.out;omega))]);have e1:(((at_+0:Nat):Int)==(at_:Int))=true:=by simp
   go_wp2_with fail
   refine(iG 2 _ _ _ _ HS.out).mono ?_;rintro e w2 ⟨rfl,hq2⟩;go_wp2_with fail
   exact⟨rfl,.inl ⟨_,rfl,HK.out.trans (hq2.kept _),hR⟩⟩
  have e1:(((at_:Int)+(n:Int))==(at_:Int))=false:=by simp;omega
  have good:∀nq,aJ (s.drop at_)=n→CY r w b s (λ_ nm e=>e=.returned (.string (str nm))) (.returned (.string (str ((s.drop at_).take (at_+n-at_))))) ((wc.drewN nq).setCell ⟨b,1,none⟩ (.int .i64 ((at_:Int)+(n:Int)))):=λnq hnn=>
   .inr ⟨(s.drop at_).take n,at_+n,by rw[Nat.add_sub_cancel_left],(HK.out.drewN _).setCell (p:=⟨b,1,none⟩) (.inl rfl) _,(HS.out.drewN _).set (by omega) hn,hid (by
    rw[←HR.out];unfold dM;rw[hnn,if_neg (by omega),List.drop_drop])⟩
  have GOOD:=hid good;clear good;by_cases hlt:at_+n<s.length
  ·have e2:decide ((at_:Int)+(n:Int)<(s.length:Int))=true:=by simp;omega
   by_cases h20:n=20
   ·have am2:=hid (aez (l:=s.drop at_) (by rw[List.length_drop];omega) (by have:=HN.out;omega));subst h20;have HC:=hid (List.drop_eq_getElem_cons hlt);have HT:Hid (named (97::(s.drop (at_+20)).take 1)=dK (s[at_+20]'hlt)):=hid (by rw[HC.out];exact acE _);have HMM:Hid (dK (s[at_+20]'hlt)=decide (20<aJ (s.drop at_))):=hid (by rw[←am2.out];simp);cases hm:dK (s[at_+20]'hlt)with
    | true=>
     have hR:Hid (r=.bad ⟨2,at_⟩):=hid (by rw[←HR.out];unfold dM;rw[if_pos (.inr (by have:=HMM.out;rw[hm]at this;simpa using this.symm))]);have HM:=hid hm;clear hm;go_wp2_with fail
     refine(named_is true _ _ (HT.out.trans HM.out)).mono ?_;rintro e w2 ⟨rfl,rfl⟩;go_wp2_with fail
     refine(iG 2 _ _ _ _ HS.out).mono ?_;rintro e w2 ⟨rfl,hq2⟩;go_wp2_with fail
     exact⟨rfl,.inl ⟨_,rfl,HK.out.trans (hq2.kept _),hR⟩⟩
    | false=>
     have Jo:Hid (aJ (s.drop at_)=20):=hid (by have h1:=HMM.out;rw[hm]at h1;have:=HN.out;simp at h1;omega);have HM:=hid hm;clear hm;go_wp2_with fail
     refine(named_is false _ _ (HT.out.trans HM.out)).mono ?_;rintro e w2 ⟨rfl,rfl⟩;go_wp2_with fail
     go_quiet (fail)
     go_wp2_with fail
     go_ret
     exact GOOD.out _ Jo.out
   have e3:(((at_:Int)+(n:Int)-(at_:Int))==20)=false:=by simp;omega
   have e4:((n:Int)==20)=false:=by simp;omega
   have Jo:Hid (aJ (s.drop at_)=n):=hid (by have:=HN.out;omega);go_wp2_with fail
   go_quiet (fail)
   go_wp2_with fail
   go_ret
   exact GOOD.out _ Jo.out
  have e2:decide ((at_:Int)+(n:Int)<(s.length:Int))=false:=by simp;omega
  have Jo:Hid (aJ (s.drop at_)=n):=hid (by
   have h1:=HN.out;by_cases h3:n<aJ (s.drop at_)
   ·have:=gZ (s.drop at_);rw[List.length_drop]at this;omega
   omega)
  go_wp2_with fail
  go_quiet (fail)
  go_wp2_with fail
  go_ret
  exact GOOD.out _ Jo.out
end Go.Proofs.YtplbdlgmjehckacGreatDoor


/-
 Lemmas for the claims of this seat: the program's functions walked, and plain laws.
-/
import Derived.Test.YtplbdlgmjehckacGreatDoorPkFoTellsFull18
import Derived.Deep.RegionHeld2
import Derived.Deep.RegionHeld3
import Derived.Deep.AppendLies
set_option maxRecDepth 100000
set_option maxHeartbeats 3200000
namespace Go.Proofs.YtplbdlgmjehckacGreatDoor
open Go.Lib (hid)
open Go.RowKit
set_option linter.unusedVariables false
set_option linter.unusedSimpArgs false
def og(w:World)(base b:Nat)(v:Value)(ns:List ak):Prop:=
 ∃mO:List Value,mO.length=ns.length∧w.ownsRow base 45 6 v ns.length (List.zipWith bV ns mO).flatten ∧
  ∀(i:Nat) (n:ak) (av:Value),ns[i]?=some n→mO[i]?=some av→bZ w av n.attrs∧∀k,av.ownBlock=some k→k≠b∧v.ownBlock≠some k∧k<w.heap.size
def oh(b:Nat)(v:Value):Nat→Prop:=λk=>k=b∨v.ownBlock=some k
structure Es(w:World)(base b:Nat)(s:B)(at_:Nat)(v:Value)(ns:List ak):Prop where
 rd:iR w b s at_ v
 nodes:og w base b v ns
 hb:b<base
 hbase:base≤w.heap.size
 few:ns.length≤120
 room:∃m,w.cell? ⟨0,0,none⟩=some (.int .i64 m)
 hb0:0<b
theorem og.kept{w w':World}{base b:Nat}{v:Value}{ns:List ak}(h:og w base b v ns)(hk:Kept (· = b) w w')(hb:b<base):og w' base b v ns:=by
 obtain⟨mO,h1,h2,h3⟩:=h;refine⟨mO,h1,?_,λi n av hn ha=>?_⟩
 ·refine⟨h2.1,?_⟩;rcases h2.2 with x | ⟨g,cap,cur,hv,hg,hh,rest⟩
  ·exact .inl x
  exact .inr ⟨g,cap,cur,hv,hg,hk.heap (by omega) hh,rest⟩
 obtain⟨h4,h5⟩:=h3 i n av hn ha;exact⟨aH.kept h4 hk (λk hk=>(h5 k hk).1),λk hk'=>⟨(h5 k hk').1,(h5 k hk').2.1,Nat.lt_of_lt_of_le (h5 k hk').2.2 hk.size⟩⟩
theorem Es.kept{w w':World}{base b:Nat}{s:B}{a a':Nat}{v:Value}{ns:List ak}(h:Es w base b s a v ns)(hk:Kept (· = b) w w')(hr:iR w' b s a' v):Es w' base b s a' v ns:=
 ⟨hr,h.nodes.kept hk h.hb,h.hb,Nat.le_trans h.hbase hk.size,h.few,h.room.imp λm hm=>hk.cell (by have:=h.hb0;show ¬(0=b);omega) hm,h.hb0⟩
def uN(w:World)(base b:Nat)(s:B)(v:Value)(r:Ans (List ak×B×Nat))(e:Ending)(w':World):Prop:=
 match r with
 | .bad f=>e=thrown f∧Kept (oh b v) w w'
 | .ok (ns',l',at')=>∃v',e=.returned (.tuple #[])∧Kept (oh b v) w w'∧Es w' base b s at' v' ns'∧l'=s.drop at'∧∀k,v'.ownBlock=some k→v.ownBlock=some k∨w.heap.size≤k
theorem Es.quiet{w w':World}{base b:Nat}{s:B}{a:Nat}{v:Value}{ns:List ak}(h:Es w base b s a v ns)(hq:Qt w w'):Es w' base b s a v ns:=by
 obtain⟨n,rfl⟩:=hq;exact⟨h.rd,h.nodes,h.hb,h.hbase,h.few,h.room,h.hb0⟩
theorem Es.set{w:World}{base b:Nat}{s:B}{a a':Nat}{v:Value}{ns:List ak}(h:Es w base b s a v ns){x:Int}(hx:x=(a':Int))(hl:a'≤s.length):
  Es (w.setCell ⟨b,1,none⟩ (.int .i64 x)) base b s a' v ns:=h.kept ((Kept.refl (· = b) w).setCell (p:=⟨b,1,none⟩) (.inl rfl) _) (h.rd.set hx hl)
theorem Es.c0{w:World}{base b:Nat}{s:B}{a:Nat}{v:Value}{ns:List ak}(h:Es w base b s a v ns):w.cell? ⟨b,0,none⟩=some (.string (str s)):=h.rd.c0
theorem Yu{w w7:World}{base b gg cap:Nat}{s:B}{a:Nat}{v av:Value}{ns:List ak}{n:ak}{mO:List Value}{o:Obj}(h:Es w base b s a v ns)(h119:ns.length+1≤120)
  (hav:mO.length=ns.length) (hat:∀(i:Nat) (n:ak) (av:Value),ns[i]?=some n→mO[i]?=some av→bZ w av n.attrs∧∀k,av.ownBlock=some k→k≠b∧v.ownBlock≠some k∧k<w.heap.size)
  (ha:bZ w av n.attrs) (hao:∀k,av.ownBlock=some k→k≠b∧v.ownBlock≠some k∧k<w.heap.size)
  (hown:w7.ownsRow base 45 6 (.slice (some ⟨gg,0,none⟩) (ns.length+1) cap) (ns.length+1) ((List.zipWith bV ns mO).flatten++bV n av))
  (hgrow:(w.alloc o).grownBy w7 v.ownBlock) (hvb:∀k,v.ownBlock=some k→k≠b) (hg:v.ownBlock=some gg∨w.heap.size≤gg) :
  Es (w7.setCell ⟨b,2,none⟩ (.slice (some ⟨gg,0,none⟩) (ns.length+1) cap)) base b s a (.slice (some ⟨gg,0,none⟩) (ns.length+1) cap) (ns++[n]) ∧
  Kept (oh b v) w (w7.setCell ⟨b,2,none⟩ (.slice (some ⟨gg,0,none⟩) (ns.length+1) cap)):=by
 have hb:=h.hb;have hbs:=h.hbase;have jD:Kept (λk=>v.ownBlock=some k) w w7:=((Kept.refl _ w).alloc o).grown hgrow (λk hk=>.inl hk);have PY:=h.rd.kept jD (λhh=>hvb b hh rfl);have hk:Kept (oh b v) w (w7.setCell ⟨b,2,none⟩ (.slice (some ⟨gg,0,none⟩) (ns.length+1) cap)):=
  (jD.mono (λk _ hk=>.inr hk)).setCell (p:=⟨b,2,none⟩) (.inl (.inl rfl)) _
 have yX:=ownsRow_setCell_below hown (a:=⟨b,2,none⟩) (by show b<base;omega) (.slice (some ⟨gg,0,none⟩) (ns.length+1) cap);have new:∀ {x:Value} {al:List bf},bZ w x al→(∀k,x.ownBlock=some k→k≠b∧v.ownBlock≠some k∧k<w.heap.size) →
   bZ (w7.setCell ⟨b,2,none⟩ (.slice (some ⟨gg,0,none⟩) (ns.length+1) cap)) x al∧∀k,x.ownBlock=some k→k≠b∧(Value.slice (some ⟨gg,0,none⟩) (ns.length+1) cap).ownBlock≠some k ∧
    k<(w7.setCell ⟨b,2,none⟩ (.slice (some ⟨gg,0,none⟩) (ns.length+1) cap)).heap.size:=by
  intro x al h1 h2;refine⟨aH.kept h1 hk (λk hk hs=>?_),λk hk'=>⟨(h2 k hk').1,?_,Nat.lt_of_lt_of_le (h2 k hk').2.2 hk.size⟩⟩
  ·rcases hs with hs | hs
   ·exact(h2 k hk).1 hs
   exact(h2 k hk).2.1 hs
  intro he;simp only[Value.ownBlock,Option.some.injEq]at he;subst he;rcases hg with hg | hg
  ·exact(h2 _ hk').2.1 hg
  have:=(h2 _ hk').2.2;omega
 refine⟨⟨⟨?_,PY.2⟩,⟨mO++[av],by simp[hav],?_,?_⟩,hb,Nat.le_trans hbs hk.size,by simpa using h119,?_,h.hb0⟩,hk⟩
 ·have:=aW PY.1 2 (.slice (some ⟨gg,0,none⟩) (ns.length+1) cap);simpa using this
 ·have e:(List.zipWith bV (ns++[n]) (mO++[av])).flatten=(List.zipWith bV ns mO).flatten++bV n av:=by
   rw[List.zipWith_append (by rw[hav])];simp
  rw[e];simpa using yX
 ·intro i m x hm hx;by_cases hi:i<ns.length
  ·rw[List.getElem?_append_left hi]at hm;rw[List.getElem?_append_left (by rw[hav];exact hi)]at hx;exact new (hat i m x hm hx).1 (hat i m x hm hx).2
  have hi2:=(List.getElem?_eq_some_iff.1 hm).1;simp at hi2;have:i=ns.length:=by omega
  subst this;simp at hm;rw[←hav]at hx;simp at hx;subst hm;subst hx;exact new ha hao
 exact h.room.imp λm hm=>hk.cell (λhs=>by
  rcases hs with hs | hs
  ·have:=h.hb0;have:(0:Nat)=b:=hs;omega
  obtain⟨_,_,how,_⟩:=h.nodes;have:=(how.lt 0 hs).1;omega) hm
theorem WV{ns:List ak}{mO:List Value}(h:mO.length=ns.length):(List.zipWith bV ns mO).flatten.length=ns.length*6:=by
 induction ns generalizing mO with
 | nil=>simp
 | cons n ns ih=>
  cases mO with
  | nil=>simp at h
  | cons a mO=>
   simp only[List.length_cons,Nat.succ.injEq,Nat.add_right_cancel_iff]at h;have:=ih h;simp only[List.zipWith_cons_cons,List.flatten_cons,List.length_append,this,List.length_cons];simp[bV];omega
theorem Yv{w:World}{base b gg cap:Nat}{s:B}{a:Nat}{ns:List ak}{nd:ak}(h:Es w base b s a (.slice (some ⟨gg,0,none⟩) (ns.length+1) cap) (ns++[nd]))(x y:Int):
  (∃u,w.cell? ⟨gg,ns.length*6+4,none⟩=some u)∧(∃u,w.cell? ⟨gg,ns.length*6+5,none⟩=some u)∧w.frozen? ⟨gg,ns.length*6+4,none⟩=false∧w.frozen? ⟨gg,ns.length*6+5,none⟩=false ∧
  Es ((w.setCell ⟨gg,ns.length*6+4,none⟩ (.int .i64 x)).setCell ⟨gg,ns.length*6+5,none⟩ (.int .i64 y)) base b s a (.slice (some ⟨gg,0,none⟩) (ns.length+1) cap) (ns++[{ nd with qE:=x,inT:=y }]):=by
 obtain⟨NH,CP,how',hat'⟩:=h.nodes;have hn1:(ns++[nd]).length=ns.length+1:=by simp
 rw[hn1]at CP how';obtain⟨mO,av,rfl⟩:∃mO av,NH=mO++[av]:=by
  have hne:NH≠[]:=by intro hh;rw[hh]at CP;simp at CP
  exact⟨NH.dropLast,NH.getLast hne,(List.dropLast_concat_getLast hne).symm⟩
 have hav:mO.length=ns.length:=by simpa using CP
 have e:∀m:ak,(List.zipWith bV (ns++[m]) (mO++[av])).flatten=(List.zipWith bV ns mO).flatten++bV m av:=λm=>by
  rw[List.zipWith_append (by rw[hav])];simp
 rw[e]at how';have hl:=WV hav;have hgb:=(how'.lt gg rfl).1;have hb:=h.hb;have hb0:=h.hb0;have c4:=how'.cellAt (ns.length*6+4) (by omega);have c5:=how'.cellAt (ns.length*6+5) (by omega);rw[List.getElem?_append_right (by omega),hl,Nat.add_sub_cancel_left]at c4 c5;have s1:=(how'.stored (ns.length*6+4) (.int .i64 x)).1;have s2:=(s1.stored (ns.length*6+5) (.int .i64 y)).1;have hk:Kept (· = gg) w ((w.setCell ⟨gg,ns.length*6+4,none⟩ (.int .i64 x)).setCell ⟨gg,ns.length*6+5,none⟩ (.int .i64 y)):=
  ((Kept.refl (· = gg) w).setCell (p:=⟨gg,_,none⟩) (.inl rfl) _).setCell (p:=⟨gg,_,none⟩) (.inl rfl) _
 rw[List.set_append_right _ _ (by omega),hl,Nat.add_sub_cancel_left,List.set_append_right _ _ (by omega),hl,Nat.add_sub_cancel_left]at s2;refine⟨⟨_,c4⟩,⟨_,c5⟩,how'.frozenAt _,how'.frozenAt _,⟨h.rd.kept hk (by omega),⟨mO++[av],by simp[hav],?_,?_⟩,hb,Nat.le_trans h.hbase hk.size,?_,?_,hb0⟩⟩
 ·rw[e];simpa [bV] using s2
 ·intro i m z hm hz;have old:∀m':ak,(ns++[nd])[i]?=some m'→m'.attrs=m.attrs→_:=λm' hm' ha=>hat' i m' z hm' hz
  have:∃m':ak,(ns++[nd])[i]?=some m'∧m'.attrs=m.attrs:=by
   by_cases hi:i<ns.length
   ·rw[List.getElem?_append_left hi]at hm ⊢;exact⟨m,hm,rfl⟩
   have hi2:=(List.getElem?_eq_some_iff.1 hm).1;simp at hi2;have:i=ns.length:=by omega
   subst this;simp at hm ⊢;subst hm;rfl
  obtain⟨m',hm',ha⟩:=this;obtain⟨h1,h2⟩:=hat' i m' z hm' hz;rw[ha]at h1;refine⟨aH.kept h1 hk (λk hk' hs=>?_),λk hk'=>⟨(h2 k hk').1,(h2 k hk').2.1,Nat.lt_of_lt_of_le (h2 k hk').2.2 hk.size⟩⟩;exact(h2 k hk').2.1 (by rw[hs];rfl)
 ·have:=h.few;simpa using this
 exact h.room.imp λm hm=>hk.cell (by show ¬(0=gg);omega) hm
theorem aa1(items:Int→Nat→List ak→B→Nat→Ans (List ak×B×Nat))(parent:Int)(deep:Nat)(ns:List ak)(s:B)(at_:Nat)(hd:deep≤20)(hn:ns.length≠120):
  kT items parent deep ns (s.drop at_) at_ =
  (if ([60]:B).isPrefixOf (s.drop at_) then (jO (s.drop (at_+1)) (at_+1)).then λ(nm,l2,at2)=>
   (iW (l2.length+1) [] l2 at2).then λ(al,l3,at3)=>
   (aV [62] l3 at3).then λ(l4,at4)=>
   (jq items deep ns ⟨nm,parent,al,at2,0,0⟩ l4 at4).then λ(ns2,l5,at5)=>
   (aV ([60,47]++nm++[62]) l5 at5).then λ(l6,kS)=>.ok (ns2,l6,kS)
  else .bad ⟨2,at_⟩):=by
 unfold kT o9;rw[if_neg (by omega),if_neg hn];unfold aV;split
 ·simp only[Ans.aN,List.length_singleton,List.drop_drop];cases jO (s.drop (at_+1)) (at_+1)with
  | bad f=>rfl
  | ok x=>
   obtain⟨nm,l2,at2⟩:=x;simp only[Ans.aN];cases iW (l2.length+1) [] l2 at2 with
   | bad f=>rfl
   | ok y=>
    obtain⟨al,l3,at3⟩:=y;simp only[Ans.aN];split<;>rfl
 rfl
structure rJ(w2 wr:World)(b nb:Nat)(s:B)(v:Value)(nm:B)(parent:Int)(at2:Nat)(R:Ans (List bf×B×Nat))(k:Nat)(al:List bf)(at':Nat)(av:Value):Prop where
 rd:iR wr b s at' v
 node:wr.heap[nb]?=some (.cells #[.string (str nm),.int .i64 parent,av,.int .i64 (at2:Int),.int .i64 0,.int .i64 0] 45 (0,0))
 own:wr.ownsRow (nb+1) 47 4 av al.length (al.map jg).flatten
 few:al.length≤8
 kept:Kept (· = b) w2 wr
 rest:∃f,(s.drop at').length<f∧iW f al (s.drop at') at'=R
 num:k=s.length-at'
 le:at2≤at'
theorem rJ.quiet{w2 wr w':World}{b nb:Nat}{s:B}{v:Value}{nm:B}{parent:Int}{at2:Nat}{R:Ans (List bf×B×Nat)}{k:Nat}{al:List bf}{at':Nat}{av:Value}
  (h:rJ w2 wr b nb s v nm parent at2 R k al at' av) (hq:Qt wr w'):rJ w2 w' b nb s v nm parent at2 R k al at' av:=by
 obtain⟨n,rfl⟩:=hq;exact⟨h.rd,h.node,h.own,h.few,h.kept.drewN n,h.rest,h.num,h.le⟩
theorem aa2(w:World)(b:Nat)(s:B)(at_:Nat)(v vl:Value)(al:List bf)(h:iR w b s at_ v)(hal:bZ w vl al)(hvb:∀k,vl.ownBlock=some k→k≠b)
  (hlt:at_<s.length) (h8:al.length≤8) :
  Calls Tryz.prog 152 #[.pointer (some ⟨b,0,none⟩),vl] w λe w'=>(∃g,e=thrown g∧Kept (· = b) w w'∧Hid (pAttr al (s.drop at_) at_=.bad g)) ∨
   (∃a l' at',e=.returned (.agg #[.string (str a.name),.string (str a.val),.int .i64 a.lo,.int .i64 a.hi])∧Kept (· = b) w w'∧iR w' b s at' v∧l'=s.drop at'∧Hid (pAttr al (s.drop at_) at_=.ok (a,l',at'))):=by
 have:=aaZ w b s at_ v vl al h hal hvb hlt h8;cases hp:pAttr al (s.drop at_) at_ with
 | bad g=>rw[hp]at this;exact this.mono λe w' hh=>.inl ⟨g,hh.1,hh.2,rfl⟩
 | ok x=>
  obtain⟨a,l',at'⟩:=x;rw[hp]at this;exact this.mono λe w' hh=>.inr ⟨a,l',at',hh.1,hh.2.1,hh.2.2.1,hh.2.2.2,rfl⟩
theorem Yw{al:List bf}:∀r∈al.map jg,r.length=4:=by
 intro r hr;obtain⟨a,_,rfl⟩:=List.mem_map.1 hr
 rfl
theorem ny{w:World}{base:Nat}{v:Value}{al:List bf}(h:w.ownsRow base 47 4 v al.length (al.map jg).flatten):bZ w v al:=
 aS Yw (by simp) h
theorem Bl{l nm l':B}{at_ at':Nat}(h:jO l at_=.ok (nm,l',at')):nm.length≤20∧nm=l.take nm.length∧at'=at_+nm.length∧nm≠[]∧l'=l.drop nm.length:=by
 unfold jO at h;have hn:=gZ l;split at h
 ·cases h
 split at h
 ·cases h
 cases h;have hl:(l.take (aJ l)).length=aJ l:=by simp;omega
 refine⟨by omega,by rw[hl],by rw[hl],?_,by rw[hl]⟩;intro he;rw[he]at hl;simp at hl;omega
theorem Qp{al:List bf}{l l':B}{at_ at':Nat}{a:bf}(h:pAttr al l at_=.ok (a,l',at')):at_<at'∧al.length≠8:=by
 unfold pAttr at h;cases h1:jO (l.drop 1) (at_+1)with
 | bad f=>rw[h1]at h;cases h
 | ok x=>
  obtain⟨nm,l2,at2⟩:=x;rw[h1]at h;simp only[Ans.aN]at h;have hn:at_+1≤at2:=by
   unfold jO at h1;split at h1
   ·cases h1
   split at h1
   ·cases h1
   cases h1;omega
  split at h
  ·cases h
  rename_i h8
  simp only[Bool.or_eq_true,not_or,beq_iff_eq]at h8;refine⟨?_,h8.2⟩;unfold aV at h;split at h
  ·simp only[Ans.aN]at h;split at h
   ·simp only[Ans.aN,Ans.ok.injEq,Prod.mk.injEq]at h;obtain⟨_,_,rfl⟩:=h;omega
   cases h
  cases h
theorem yj{al:List bf}{l l':B}{at_ at':Nat}{a:bf}(h:pAttr al l at_=.ok (a,l',at')):at_<at':=(Qp h).1
theorem UA{w2 w3 w4 w5:World}{b nb:Nat}{s:B}{v:Value}{nm:B}{parent:Int}{at2:Nat}{R:Ans (List bf×B×Nat)}{gk:Nat}{al:List bf}{at' at4:Nat}{av:Value}{a:bf}{f gg cap:Nat}{o:Obj}
  (hL:rJ w2 w3 b nb s v nm parent at2 R gk al at' av) (hk4:Kept (· = b) w3.drew w4) (hr4:iR w4 b s at4 v) (hp2:pAttr al (s.drop at') at'=.ok (a,s.drop at4,at4))
  (hR:((pAttr al (s.drop at') at').then λx=>iW f (al++[x.1]) x.2.1 x.2.2)=R) (hf:(s.drop at').length<f+1)
  (hown5:w5.ownsRow (nb+1) 47 4 (.slice (some ⟨gg,0,none⟩) (al.length+1) cap) (al.length+1) ((al.map jg).flatten++[.string (str a.name),.string (str a.val),.int .i64 a.lo,.int .i64 a.hi]))
  (hgrow:(w4.alloc o).grownBy w5 av.ownBlock) (hV:∀k,av.ownBlock=some k→k≠b) (hnb:w2.heap.size=nb) (hbn:¬b=nb) :
  rJ w2 (w5.setCell ⟨nb,2,none⟩ (.slice (some ⟨gg,0,none⟩) (al.length+1) cap)) b nb s v nm parent at2 R (s.length-at4) (al++[a]) at4 (.slice (some ⟨gg,0,none⟩) (al.length+1) cap):=by
 have hlt:=hL.own.lt;have hno:¬av.ownBlock=some nb:=λh=>by have:=(hlt nb h).1;omega
 have hk5:Kept (λk=>av.ownBlock=some k) w4 w5:=((Kept.refl _ w4).alloc o).grown hgrow (λk hk=>.inl hk);have h8:=(Qp hp2).2;have hpos:=yj hp2;have hn4:w4.heap[nb]?=_:=hk4.heap (a:=w3.drew) (λh=>hbn h.symm) hL.node;refine⟨(hr4.kept hk5 (λh=>hV b h rfl)).other hbn,?_,?_,?_,?_,?_,rfl,by have:=hL.le;omega⟩
 ·have:=aW (hk5.heap hno hn4) 2 (.slice (some ⟨gg,0,none⟩) (al.length+1) cap);simpa using this
 ·have:=ownsRow_setCell_below hown5 (a:=⟨nb,2,none⟩) (by show nb<nb+1;omega) (.slice (some ⟨gg,0,none⟩) (al.length+1) cap);simpa [jg] using this
 ·have:=hL.few;simp only[List.length_append,List.length_singleton];omega
 ·refine Kept.setCell (((hL.kept.drew.trans hk4).alloc o).grown hgrow (λk hk=>.inr ?_)) (.inr ?_) _
  ·have:=(hlt k hk).1;omega
  show w2.heap.size≤nb;omega
 refine⟨f,?_,?_⟩
 ·rw[List.length_drop]at hf ⊢;have:=hr4.2.1;omega
 rw[←hR,hp2];rfl
theorem A.aa3:(Tryz.prog.info? 47).map (λi=>(i.zero,i.size,i.bytes))=some (some (.agg #[.string ⟨#[]⟩,.string ⟨#[]⟩,.int .i64 0,.int .i64 0]),4,48):=by kernel_rfl
theorem A.aa4:(Tryz.prog.info? 45).map (λi=>(i.zero,i.size,i.bytes))=some (some (.agg #[.string ⟨#[]⟩,.int .i64 0,.slice none 0 0,.int .i64 0,.int .i64 0,.int .i64 0]),6,72):=by kernel_rfl
theorem aa5(items:Int→Nat→List ak→B→Nat→Ans (List ak×B×Nat))(s:B)(base b F:Nat)
  (IH:∀(parent:Int) (deep:Nat) (ns:List ak) (at_:Nat) (v:Value) (w:World),s.length-at_<F→deep≤21→Es w base b s at_ v ns →
   Calls Tryz.prog 63 #[.pointer (some ⟨b,0,none⟩),.int .i64 parent,.int .i64 (deep:Int)] w (uN w base b s v (items parent deep ns (s.drop at_) at_)))
  (parent:Int) (deep:Nat) (ns:List ak) (at_:Nat) (v:Value) (w:World) (hF:s.length-at_≤F) (Qq:deep≤21) (h:Es w base b s at_ v ns) :
  Calls Tryz.prog 103 #[.pointer (some ⟨b,0,none⟩),.int .i64 parent,.int .i64 (deep:Int)] w (uN w base b s v (kT items parent deep ns (s.drop at_) at_)):=by
 obtain⟨r,HR⟩:∃r,Hid (kT items parent deep ns (s.drop at_) at_=r):=⟨_,rfl⟩;rw[HR.out];have HI:=hid IH;have H:=hid h;have c2:=h.rd.c2;have c1:=h.rd.c1;have hfew:=h.few;have hb:=h.hb;have hbase:=h.hbase;obtain⟨mO,hav,how,_⟩:=h.nodes;obtain⟨vo,vc,hv⟩:∃vo vc,v=.slice vo ns.length vc:=by
  rcases how.2 with⟨rfl,hn⟩ | ⟨g,cap,cur,rfl,_⟩
  ·exact⟨none,0,by rw[hn]⟩
  exact⟨_,cap,rfl⟩
 subst hv;clear h IH hav how;by_cases hd:20<deep
 ·go_enter Tryz.func103,Tryz.ntmps103
  go_wp2_with (go_at_call 64;refine(kW 4 _ b s at_ _ H.out.rd).mono ?_;rintro e w4 ⟨rfl,hq4⟩)
  obtain rfl:r=.bad ⟨4,at_⟩:=by rw[←HR.out];unfold kT o9;rw[if_pos hd];rfl
  exact⟨rfl,rfl,hq4.kept _⟩
 by_cases hn:ns.length=120
 ·go_enter Tryz.func103,Tryz.ntmps103
  have e8:((ns.length:Int)==120)=true:=by simp;omega
  have HN:=hid hn;clear hn;go_wp2_with (go_at_call 64;refine(kW 4 _ b s at_ _ H.out.rd).mono ?_;rintro e w4 ⟨rfl,hq4⟩)
  obtain rfl:r=.bad ⟨4,at_⟩:=by rw[←HR.out];unfold kT o9;rw[if_neg hd,if_pos HN.out];rfl
  exact⟨rfl,rfl,hq4.kept _⟩
 have e8:((ns.length:Int)==120)=false:=by simp;omega
 have hdd:decide ((20:Int)<(deep:Int))=false:=by simp;omega
 have hE:=HR.out;rw[aa1 _ _ _ _ _ _ (by omega) hn]at hE;have HE:=hid hE;clear hn hE;go_enter Tryz.func103,Tryz.ntmps103
 go_wp2_with fail
 cases hm1:([60]:B).isPrefixOf (s.drop at_)with
 | false=>
  refine(uK [60] _ b s at_ _ H.out.rd hm1).mono ?_;rintro e w1 ⟨rfl,hq1⟩;obtain rfl:r=.bad ⟨2,at_⟩:=by rw[←HE.out,hm1];rfl
  have HQ:=hid hq1;clear hq1 hm1;go_wp2_with fail
  exact⟨rfl,rfl,HQ.out.kept _⟩
 | true=>
  refine(yg [60] _ b s at_ _ H.out.rd hm1).mono ?_;rintro e w1 ⟨rfl,hk1,hr1⟩;have hE:=HE.out;rw[hm1,if_pos rfl]at hE;have h1:=H.out.kept hk1 hr1;have c1':=hr1.c1;have c2':=hr1.c2;have H1:=hid h1;have uZ:=hid hk1;have OM:=hid hE;clear hm1 hE hk1 hr1 h1 c1 c2 HE;go_wp2_with fail
  cases hp1:jO (s.drop (at_+1)) (at_+1)with
  | bad f=>
   refine(Qm _ b s (at_+1) _ H1.out.rd hp1).mono ?_;rintro e w2 ⟨rfl,hq⟩;obtain rfl:r=.bad f:=by rw[←OM.out,hp1];rfl
   have HQ:=hid hq;clear hq hp1;go_wp2_with fail
   exact⟨rfl,rfl,(uZ.out.trans (HQ.out.kept _)).mono (λk _ hk=>.inl hk)⟩
  | ok x=>
   obtain⟨nm,l2,at2⟩:=x;refine(WU _ b s (at_+1) _ H1.out.rd hp1).mono ?_;rintro e w2 ⟨rfl,hk2,hr2,rfl⟩;have hE:=OM.out;rw[hp1]at hE;simp only[Ans.aN]at hE;have h2:=H1.out.kept hk2 hr2;have HE2:=hid hE;have ah2:=hr2.c1;have H2:=hid h2;have iO:=hid (uZ.out.trans hk2);have HP1:=hid hp1;clear hp1 hE hk2 hr2 h2 c1' c2' OM;have hbw:=H2.out.rd.lt;obtain⟨R,HRR⟩:∃R,Hid (iW ((s.drop at2).length+1) [] (s.drop at2) at2=R):=⟨_,rfl⟩;obtain⟨nb,oO⟩:∃nb,Hid (w2.heap.size=nb):=⟨_,rfl⟩;have hstart:rJ w2 (w2.alloc (.cells #[.string (str nm),.int .i64 parent,.slice none 0 0,.int .i64 (at2:Int),.int .i64 0,.int .i64 0] 45)) b nb s
     (.slice vo ns.length vc) nm parent at2 R (s.length-at2) [] at2 (.slice none 0 0):=
    ⟨H2.out.rd.alloc _,by rw[←oO.out];exact aI _ _,World.ownsRow_nil _ _ _ _,by simp,(Kept.refl _ _).alloc _,⟨_,by omega,HRR.out⟩,rfl,Nat.le_refl _⟩
   have HS:=hid hstart;clear hstart;go_wp2
   have hnb:=oO.out;rw[hnb]at hbw ⊢;clear hnb;go_loopg [] (s.length-at2) (λk wr=>∃al at' av,rJ w2 wr b nb s (.slice vo ns.length vc) nm parent at2 R k al at' av)
   case atStart=>exact⟨_,_,_,HS.out⟩
   case round=>
    obtain⟨al,at',av,hL⟩:=hrel;have HL:=hid hL;have c1:=hL.rd.c1;have x2:=ah hL.node 2 rfl;have y2:=aF hL.node 2;clear hL;go_wp2_with fail
    refine(NC [32] _ b s at' _ HL.out.rd).mono ?_;rintro e w3 ⟨rfl,hq3⟩;have hL3:=HL.out.quiet hq3;clear c1 x2 y2 hq3 HL;have vg:=hid hL3;have x2:=ah hL3.node 2 rfl;have y2:=aF hL3.node 2;have hbn:¬b=nb:=by omega
    have uh:¬nb=b:=by omega
    have hnlt:=gW hL3.node;clear hL3;cases hm2:([32]:B).isPrefixOf (s.drop at')with
    | true=>
     have hlt:at'<s.length:=by
      have:=(List.isPrefixOf_iff_prefix.1 hm2).length_le;rw[List.length_drop]at this;simp at this;omega
     have hvb:∀k,av.ownBlock=some k→k≠b:=λk hk=>by
      have:=(vg.out.own.lt k hk).1;omega
     obtain⟨f,hf,hR⟩:=vg.out.rest;cases f with
     | zero=>omega
     | succ f=>
      unfold iW at hR;rw[hm2,if_pos rfl]at hR;have HR3:=hid hR;have Wq:=hid hvb;have h8:=vg.out.few;clear hm2 hR hvb;have HC:=hid (aa2 w3.drew b s at' (.slice vo ns.length vc) av al vg.out.rd (ny vg.out.own) Wq.out hlt h8);have HB:Hid (∀(g:iL) (w4:World),pAttr al (s.drop at') at'=.bad g→Kept (· = b) w3.drew w4→uN w base b s (.slice vo ns.length vc) r (thrown g) w4):=hid λg w4 hp2 hk4=>by
       have hrb:r=.bad g:=by
        rw[←HE2.out,HRR.out,←HR3.out,hp2];rfl
       rw[hrb];exact⟨rfl,((iO.out.trans vg.out.kept.drew).trans hk4).mono (λk _ hk=>.inl hk)⟩
      obtain⟨i0,hi0,hz0,hz1,hz2⟩:=info_parts A.aa3;have h63:al.length+1≤maxLen:=by unfold maxLen;omega
      have Tq:Hid (some nb≠av.ownBlock):=hid λhx=>by
       have:=(vg.out.own.lt nb hx.symm).1;omega
      go_wp2_with fail
      go_region_law
       (first
        | (go_simp;go_at_call 152;go_loud (refine HC.out.mono ?_;rintro e w4 (⟨g,rfl,hk4,hp2⟩ | ⟨a,l4,at4,rfl,hk4,hr4,rfl,hp2⟩); (exact⟨rfl,HB.out g w4 hp2.out hk4⟩);have aa6:=aK (w:=w3.drew) vg.out.own hk4 Wq.out;have hz4:w3.heap.size≤w4.heap.size:=hk4.size;have x4:w4.cell? ⟨nb,2,none⟩=some av:=hk4.cell (a:=w3.drew) uh x2;have y4:w4.frozen? ⟨nb,2,none⟩=false:=hk4.frozen (a:=w3.drew) uh hnlt y2;have x4a:∀o,(w4.alloc o).cell? ⟨nb,2,none⟩=some av:=λo=>dX x4 o;have y4a:∀o,(w4.alloc o).frozen? ⟨nb,2,none⟩=false:=λo=>jC (by show nb<_;omega) y4 o))
        | (refine step_append_lies _ (by rfl) _ _ _ (by rfl) (nb+1) 47 i0 _ 4 48 Tryz.underlying43 hi0 hz0 hz1 hz2 rfl (by omega) av al.length _ (by rfl) (aa6.alloc _) ⟨w4.heap.size,0,none⟩ 1 1 [.string (str a.name),.string (str a.val),.int .i64 a.lo,.int .i64 a.hi] (by rfl) (by rfl) (World.news_of_block (cs:=#[.string (str a.name),.string (str a.val),.int .i64 a.lo,.int .i64 a.hi]) (t:=47) (fr:=(0,0)) (heap_alloc_new w4 _)) (by simp[Value.oneCell']) (by omega) h63 (by omega) (by simp;omega) (w4.heap.size+1) (by simp) ?_;intro gg cap w5 hown5 hgrow hat MW;have x5:w5.cell? ⟨nb,2,none⟩=some av:=(hgrow.cell_far _ (by simp;omega) Tq.out).trans (x4a _);have y5:w5.frozen? ⟨nb,2,none⟩=false:=(hgrow.frozen_far _ (by simp;omega) Tq.out).trans (y4a _)))
      all_goals
       go_wp2_with fail
       have hpos:=yj hp2.out;have hl4:=hr4.2.1;have hnum:=vg.out.num;go_roundg (s.length-at4)
       case measure=>omega
       case rel=>exact⟨al++[a],at4,_,UA vg.out hk4 hr4 hp2.out HR3.out hf hown5 hgrow Wq.out oO.out hbn⟩
    | false=>
     obtain⟨f,hf,hR⟩:=vg.out.rest;cases f with
     | zero=>omega
     | succ f=>
      unfold iW at hR;rw[hm2,if_neg (by simp)]at hR;subst hR;have hE:=HE2.out;rw[HRR.out]at hE;simp only[Ans.aN]at hE;have h3:Es w3 base b s at' (.slice vo ns.length vc) ns:=H2.out.kept vg.out.kept vg.out.rd;have H3:=hid h3;have WW:=hid hE;clear hE h3 hm2 x2 y2 hf;go_wp2_with fail
      cases Gz:([62]:B).isPrefixOf (s.drop at')with
      | false=>
       refine(uK [62] _ b s at' _ H3.out.rd Gz).mono ?_;rintro e w6 ⟨rfl,hq6⟩;obtain rfl:r=.bad ⟨2,at'⟩:=by rw[←WW.out];unfold aV;rw[Gz];rfl
       have HQ:=hid hq6;clear hq6 Gz;go_wp2_with fail
       exact⟨rfl,rfl,((iO.out.trans vg.out.kept).trans (HQ.out.kept _)).mono (λk _ hk=>.inl hk)⟩
      | true=>
       refine(yg [62] _ b s at' _ H3.out.rd Gz).mono ?_;rintro e w6 ⟨rfl,hk6,OL⟩;have hE:=WW.out;unfold aV at hE;rw[Gz,if_pos rfl]at hE;simp only[Ans.aN,List.drop_drop]at hE;obtain⟨kS,HA6⟩:∃kS,Hid (at'+([62]:B).length=kS):=⟨_,rfl⟩;rw[HA6.out]at OL hE;have h6:=H3.out.kept hk6 OL;have yV:=hk6.heap uh vg.out.node;have CG:=aK vg.out.own hk6 (λk hk=>by have:=(vg.out.own.lt k hk).1;omega);have c2:=h6.rd.c2;have f2:=h6.rd.free 2;have z0:=ah yV 0 rfl;have z1:=ah yV 1 rfl;have z2:=ah yV 2 rfl;have z3:=ah yV 3 rfl;have z4:=ah yV 4 rfl;have z5:=ah yV 5 rfl;obtain⟨ali,aa7,zJ,ES⟩:=h6.nodes;have alj:=h6.hbase;have H6:=hid h6;have Yx:=hid hE;have HN6:=hid yV;have HO6:=hid CG;have Ec:=hid aa7;have HAT:=hid ES;have Fh:=hid ((iO.out.trans vg.out.kept).trans hk6);clear h6 hE yV CG hk6 OL aa7 ES Gz;obtain⟨j0,hj0,hy0,hy1,hy2⟩:=info_parts A.aa4;have aa8:ns.length+1≤120:=by
        have:ns.length≠120:=by intro hh;rw[hh]at e8;simp at e8
        omega
       have h63:ns.length+1≤maxLen:=by unfold maxLen;omega
       have aa9:av.oneCell'=true:=by
        rcases HO6.out.2 with⟨rfl,_⟩ | ⟨g,cap,cur,rfl,_⟩<;>rfl
       have hone:∀u∈bV ⟨nm,parent,al,at2,0,0⟩ av,u.oneCell'=true:=by
        intro u hu;simp only[bV,List.mem_cons,List.not_mem_nil,or_false]at hu;rcases hu with rfl | rfl | rfl | rfl | rfl | rfl<;>first | exact aa9 | rfl
       have hvb:∀k,(Value.slice vo ns.length vc).ownBlock=some k→k≠b:=λk hk=>by
        have:=(zJ.lt k hk).1;omega
       have aa':some b≠(Value.slice vo ns.length vc).ownBlock:=λhx=>hvb b hx.symm rfl
       have HVB:=hid hvb;have abb:=hid aa';have Qr:=H6.out.rd.lt;clear hvb aa';have UC:∀k,(Value.slice vo ns.length vc).ownBlock=some k→k<nb:=λk hk=>by
        obtain⟨_,_,Na,_⟩:=H2.out.nodes;have:=(Na.lt k hk).2;rw[oO.out]at this;exact this
       have hao:∀k,av.ownBlock=some k→k≠b∧(Value.slice vo ns.length vc).ownBlock≠some k∧k<w6.heap.size:=λk hk=>by
        have hl:=HO6.out.lt k hk;refine⟨by omega,λhe=>?_,hl.2⟩;have:=UC k he;omega
       have HAO:=hid hao;have HVN:=hid UC;clear hao UC;go_upto_region 11 with fail
       go_cut [] (λwx=>∃gg cap,Es wx base b s kS (.slice (some ⟨gg,0,none⟩) (ns.length+1) cap) (ns++[⟨nm,parent,al,at2,0,0⟩])∧Kept (oh b (.slice vo ns.length vc)) w6 wx ∧
        ((Value.slice vo ns.length vc).ownBlock=some gg∨w6.heap.size≤gg))
       case first=>
        go_region_law (refine step_append_lies _ (by rfl) _ _ _ (by rfl) base 45 j0 _ 6 72 Tryz.underlying22 hj0 hy0 hy1 hy2 rfl (by omega) (.slice vo ns.length vc) ns.length _ (by rfl) ((zJ.alloc _).drew) ⟨w6.heap.size,0,none⟩ 1 1 (bV ⟨nm,parent,al,at2,0,0⟩ av) (by rfl) (by rfl) (World.news_of_block (cs:=#[.string (str nm),.int .i64 parent,av,.int .i64 (at2:Int),.int .i64 0,.int .i64 0]) (t:=45) (fr:=(0,0)) (heap_alloc_new w6 _)) hone (by omega) h63 (by omega) (by simp;omega) (w6.heap.size+1) (by simp) ?_;intro gg cap w7 abd nH abe ah1;have d2:=(nH.cell_far ⟨b,2,none⟩ (by simp;omega) abb.out).trans (dX c2 _);have g2:=(nH.frozen_far ⟨b,2,none⟩ (by simp;omega) abb.out).trans (jC (by show b<_;omega) f2 _))
        all_goals
         go_wp2_with fail
         go_meet
         case rel=>
          obtain⟨h8,hk8⟩:=Yu (n:=⟨nm,parent,al,at2,0,0⟩) (av:=av) H6.out aa8 Ec.out HAT.out (ny HO6.out) HAO.out abd ⟨nH.os,nH.tape,nH.output,nH.size,nH.block⟩ HVB.out
           (abe.imp id (λh=>by omega))
          exact⟨gg,cap,h8,hk8,abe.imp id (λh=>by omega)⟩
       case rest=>
       obtain⟨gg,cap,h8,hk8,hgg⟩:=hcut;have hnr:¬oh b (.slice vo ns.length vc) nb:=λhs=>by
        rcases hs with hs | hs
        ·exact uh hs
        have:=HVN.out nb hs;omega
       have Jq:=hk8.heap hnr HN6.out;have hgv:∀k,(Value.slice (some ⟨gg,0,none⟩) (ns.length+1) cap).ownBlock=some k→(Value.slice vo ns.length vc).ownBlock=some k∨w.heap.size≤k:=λk hk=>by
        simp only[Value.ownBlock,Option.some.injEq]at hk;subst hk;rcases hgg with h | h
        ·exact .inl h
        have:=Fh.out.size;exact .inr (by omega)
       have q0:=ah Jq 0 rfl;have H8:=hid h8;have HN8:=hid Jq;have Au:=hid ((Fh.out.mono (T:=oh b (.slice vo ns.length vc)) (λk _ hk=>.inl hk)).trans hk8);have UD:=hid hgv;clear h8 Jq hk8 z0 z1 z2 z3 z4 z5 c2 f2 hgv zJ hone aa9;obtain⟨w8,rfl⟩:∃w8:World,w8=wc:=⟨_,rfl⟩;have alk:nm.length≤6000:=by
        have:=(Bl HP1.out).1;omega
       by_cases hst:nm=aj
       ·have e1:(nm==[115,116,121,108,101])=true:=by rw[hst];rfl
        have HST:=hid hst;obtain⟨mr,hmr⟩:=H8.out.room;have c0:=H8.out.rd.c0;have c1:=H8.out.rd.c1;have f1:=H8.out.rd.free 1;have Jp:=H8.out.rd.2.1;have hm8:=H8.out.rd.2.2;have hlen:(s.drop kS).length<4294967281:=by rw[List.length_drop];omega
        clear hst ah2;go_wp2_with fail
        cases hf:bg jY (s.drop kS)with
        | none=>
         go_quiet ((go_at_call 102;exact Calls.quiet_of_same (index_none _ jY mr _ hlen hmr hf)))
         have hr0:r=.bad ⟨2,s.length⟩:=by
          rw[←Yx.out];unfold jq;rw[if_pos HST.out,hf,List.length_drop];show Ans.bad _=_
          rw[show kS+(s.length-kS)=s.length from by omega]
         subst hr0;clear hf;go_wp2_with (go_at_call 64;refine(kW 2 _ b s s.length _ ((H8.out.quiet ⟨nq,rfl⟩).rd.set rfl (Nat.le_refl _))).mono ?_;rintro e w9 ⟨rfl,zK⟩)
         exact⟨rfl,rfl,(((Au.out).drewN nq).setCell (p:=⟨b,1,none⟩) (.inl (.inl rfl)) _).trans (zK.kept _)⟩
        | some e=>
         have hfl:=gY _ _ _ hf;rw[List.length_drop]at hfl;have hsl:jY.length=8:=rfl;rw[hsl]at hfl;go_quiet ((go_at_call 102;exact Calls.quiet_of_same (zL _ jY mr _ hlen hmr hf)))
         have h8q:=H8.out.quiet ⟨nq,rfl⟩;have adF:=Au.out.drewN nq;have adG:(w8.drewN nq).heap[nb]?=_:=HN8.out;have HF:=hid hf;clear hf hmr c0 c1 f1 q0
         revert h8q adF adG
         generalize w8.drewN nq=w8q;intro h8q adF adG;have c1:=h8q.rd.c1;have c2:=h8q.rd.c2;have f1:=h8q.rd.free 1;obtain⟨⟨i4,hi4⟩,⟨i5,hi5⟩,g4,g5,hset⟩:=Yv h8q (kS:Int) ((kS+e:Nat):Int);have hbg:¬b=gg:=by
          obtain⟨_,_,how,_⟩:=h8q.nodes;have:=(how.lt gg rfl).1;omega
         have alm:¬gg=b:=λh=>hbg h.symm
         have hb1:(ns.length:Int)<((ns.length+1:Nat):Int):=by omega
         have afX:=hid hset;have H8Q:=hid h8q;have aln:=hid adF;have alo:=hid adG;have adH:¬nb=gg:=by
          rcases hgg with h | h
          ·have:=HVN.out _ h;omega
          have:=gW HN6.out;omega
         have q0:=ah alo.out 0 rfl;clear hset h8q adF adG;go_wp2_with fail
         go_region
         go_wp2_with fail
         have vY:Es (((w8q.setCell ⟨gg,ns.length*6+4,none⟩ (.int .i64 (kS:Int))).setCell ⟨gg,ns.length*6+4+1,none⟩ (.int .i64 ((kS:Int)+(e:Int)))).setCell ⟨b,1,none⟩ (.int .i64 ((kS:Int)+(e:Int)))).drew base b s (kS+e)
           (.slice (some ⟨gg,0,none⟩) (ns.length+1) cap) (ns++[{ (⟨nm,parent,al,at2,0,0⟩:ak)with qE:=(kS:Int),inT:=((kS+e:Nat):Int) }]):=
          (Es.set afX.out (a':=kS+e) (by simp) (by omega)).quiet ⟨1,rfl⟩
         have hkk:Kept (oh b (.slice vo ns.length vc)) w (((w8q.setCell ⟨gg,ns.length*6+4,none⟩ (.int .i64 (kS:Int))).setCell ⟨gg,ns.length*6+4+1,none⟩ (.int .i64 ((kS:Int)+(e:Int)))).setCell ⟨b,1,none⟩ (.int .i64 ((kS:Int)+(e:Int)))).drew:=by
          have Tt:oh b (.slice vo ns.length vc) gg∨w.heap.size≤gg:=by
           rcases UD.out gg rfl with h | h
           ·exact .inl (.inr h)
           exact .inr h
          exact(((aln.out.setCell (p:=⟨gg,_,none⟩) Tt _).setCell (p:=⟨gg,_,none⟩) Tt _).setCell (p:=⟨b,1,none⟩) (.inl (.inl rfl)) _).drew
         have hE:=Yx.out;unfold jq at hE;rw[if_pos HST.out,HF.out]at hE;simp only[Ans.aN,List.drop_drop]at hE
         revert vY hkk
         generalize World.drew (World.setCell _ _ _)=w9;intro vY hkk;obtain⟨at9,ah5⟩:∃at9,kS+e=at9:=⟨_,rfl⟩;rw[ah5]at vY hE;obtain⟨Qs,ah6⟩:∃Qs,ns++[{ (⟨nm,parent,al,at2,0,0⟩:ak)with qE:=(kS:Int),inT:=((at9:Nat):Int) }]=Qs:=⟨_,rfl⟩;rw[ah6]at vY hE;have H9:=hid vY;have Qu:=hid hkk;have HE9:=hid hE;have afY:=UD;clear hkk vY hE ah5 ah6;go_wp2_with fail
         cases P5:([60,47]++nm++[62]:B).isPrefixOf (s.drop at9)with
         | false=>
          refine(uK ([60,47]++nm++[62]) _ b s at9 _ H9.out.rd P5).mono ?_;rintro e w10 ⟨rfl,hq10⟩;obtain rfl:r=.bad ⟨2,at9⟩:=by rw[←HE9.out,P5];rfl
          have HQ:=hid hq10;clear hq10 P5;go_wp2_with fail
          exact⟨rfl,rfl,Qu.out.trans (HQ.out.kept _)⟩
         | true=>
          refine(yg ([60,47]++nm++[62]) _ b s at9 _ H9.out.rd P5).mono ?_;rintro e w10 ⟨rfl,hk10,JE⟩;obtain rfl:r=.ok (Qs,s.drop (at9+([60,47]++nm++[62]:B).length),at9+([60,47]++nm++[62]:B).length):=by
           rw[←HE9.out,P5,if_pos rfl];simp only[Ans.aN,List.drop_drop]
          have h10:=H9.out.kept hk10 JE;have H10:=hid h10;have UE:=hid (Qu.out.trans (hk10.mono (T:=oh b (.slice vo ns.length vc)) (λk _ hk=>.inl hk)));clear hk10 JE h10 P5 HE9;go_wp2_with fail
          go_end0
          exact⟨_,rfl,UE.out,H10.out,rfl,afY.out⟩
       have e1:(nm==[115,116,121,108,101])=false:=by
        rw[beq_eq_false_iff_ne];exact hst
       have HNS:=hid hst;clear hst ah2;go_wp2_with fail
       have hIC:=HI.out (ns.length:Int) (deep+1) (ns++[⟨nm,parent,al,at2,0,0⟩]) kS _ w8 (by
        have h1:=(Bl HP1.out).2.2.1;have h2:=vg.out.le;have h3:=HA6.out;have h4:=H8.out.rd.2.1;simp only[List.length_singleton]at h3;omega) (by omega) H8.out
       rw[show(((deep+1:Nat)):Int)=(deep:Int)+1 from by omega]at hIC;have hE:=Yx.out;unfold jq at hE;rw[if_neg HNS.out]at hE;obtain⟨ans,hans⟩:∃ans,items (ns.length:Int) (deep+1) (ns++[⟨nm,parent,al,at2,0,0⟩]) (s.drop kS) kS=ans:=⟨_,rfl⟩;rw[hans]at hE hIC;have HE7:=hid hE;clear hE q0 hans;refine hIC.mono ?_;clear hIC;cases ans with
       | bad f0=>
        rintro e w9 ⟨rfl,hk9⟩;obtain rfl:r=.bad f0:=by rw[←HE7.out];rfl
        have Qu:=hid (Au.out.trans' hk9 (λi hi hs=>by
         rcases hs with hs | hs
         ·exact .inl hs
         rcases UD.out i hs with h | h
         ·exact .inr h
         omega))
        clear hk9;go_wp2_with fail
        exact⟨rfl,rfl,Qu.out⟩
       | ok y=>
        obtain⟨Qs,l9,at9⟩:=y;rintro e w9 ⟨v9,rfl,hk9,vY,rfl,GL⟩;have hkk:=Au.out.trans' hk9 (λi hi hs=>by
         rcases hs with hs | hs
         ·exact .inl hs
         rcases UD.out i hs with h | h
         ·exact .inr h
         omega)
        have hn9:=hk9.heap (λhs=>by
         rcases hs with hs | hs
         ·exact uh hs
         simp only[Value.ownBlock,Option.some.injEq]at hs;rcases hgg with h | h
         ·have:=HVN.out _ h;omega
         have:=gW HN6.out;omega) HN8.out
        have q0:=ah hn9 0 rfl;have H9:=hid vY;have Qu:=hid hkk;have HE9:=HE7;simp only[Ans.aN]at HE9;have afY:Hid (∀k,v9.ownBlock=some k→(Value.slice vo ns.length vc).ownBlock=some k∨w.heap.size≤k):=hid λk hk=>by
         rcases GL k hk with h | h
         ·exact UD.out k h
         have:=Au.out.size;exact .inr (by omega)
        clear hkk hn9 vY hk9 GL;go_wp2_with fail
        cases P5:([60,47]++nm++[62]:B).isPrefixOf (s.drop at9)with
        | false=>
         refine(uK ([60,47]++nm++[62]) _ b s at9 _ H9.out.rd P5).mono ?_;rintro e w10 ⟨rfl,hq10⟩;obtain rfl:r=.bad ⟨2,at9⟩:=by rw[←HE9.out,P5];rfl
         have HQ:=hid hq10;clear hq10 P5;go_wp2_with fail
         exact⟨rfl,rfl,Qu.out.trans (HQ.out.kept _)⟩
        | true=>
         refine(yg ([60,47]++nm++[62]) _ b s at9 _ H9.out.rd P5).mono ?_;rintro e w10 ⟨rfl,hk10,JE⟩;obtain rfl:r=.ok (Qs,s.drop (at9+([60,47]++nm++[62]:B).length),at9+([60,47]++nm++[62]:B).length):=by
          rw[←HE9.out,P5,if_pos rfl];simp only[Ans.aN,List.drop_drop]
         have h10:=H9.out.kept hk10 JE;have H10:=hid h10;have UE:=hid (Qu.out.trans (hk10.mono (T:=oh b (.slice vo ns.length vc)) (λk _ hk=>.inl hk)));clear hk10 JE h10 P5 HE9;go_wp2_with fail
         go_end0
         exact⟨_,rfl,UE.out,H10.out,rfl,afY.out⟩
theorem KE(f:Nat)(parent:Int)(deep:Nat)(ns:List ak)(s:B)(a:Nat)(ha:a<s.length):dU (f+1) parent deep ns (s.drop a) a =
  (if ([60,47]:B).isPrefixOf (s.drop a) then .ok (ns,s.drop a,a)
  else if cu.isPrefixOf (s.drop a) then
   match bg dS (s.drop (a+4))with
   | none=>.bad ⟨2,s.length⟩
   | some e=>dU f parent deep ns (s.drop (a+(4+e+3))) (a+(4+e+3))
  else if ([60]:B).isPrefixOf (s.drop a) then (kT (dU f) parent deep ns (s.drop a) a).then λ(ns',l',at')=>dU f parent deep ns' l' at'
  else if pY (s[a]'ha) then dU f parent deep ns (s.drop (a+1)) (a+1)
  else .bad ⟨2,a⟩):=by
 have e:=List.drop_eq_getElem_cons ha;have el:(s[a]::s.drop (a+1)).length=s.length-a:=by rw[←e];exact List.length_drop
 have ed:∀k,(s[a]::s.drop (a+1)).drop k=s.drop (a+k):=λk=>by rw[←e,List.drop_drop]
 rw[e,dU,el,show a+(s.length-a)=s.length from by omega];simp only[ed]
 rfl
theorem GN(f:Nat)(parent:Int)(deep:Nat)(ns:List ak)(s:B)(a:Nat)(ha:s.length≤a):dU (f+1) parent deep ns (s.drop a) a=.ok (ns,s.drop a,a):=by
 rw[List.drop_of_length_le ha];rfl
theorem zM:∀(f:Nat) (al al':List bf) (l l':B) (a a':Nat),iW f al l a=.ok (al',l',a')→a≤a'
 | 0,_,_,_,_,_,_,h=>by cases h
 | f+1,al,al',l,l',a,a',h=>by
  unfold iW at h;split at h
  ·cases h1:pAttr al l a with
   | bad g=>rw[h1]at h;cases h
   | ok x=>
    obtain⟨b,l2,a2⟩:=x;rw[h1]at h;have:=yj h1;have:=zM f _ _ _ _ _ _ h;omega
  cases h;exact Nat.le_refl _
theorem KF{parent:Int}{deep count:Nat}{l l':B}{a a':Nat}{n:ak}(h:o9 parent deep count l a=.ok (n,l',a')):a<a':=by
 unfold o9 at h;split at h
 ·cases h
 split at h
 ·cases h
 unfold aV at h;split at h
 ·simp only[Ans.aN]at h;cases h1:jO (l.drop ([60]:B).length) (a+([60]:B).length)with
  | bad g=>rw[h1]at h;cases h
  | ok x=>
   obtain⟨nm,l2,a2⟩:=x;rw[h1]at h;simp only[Ans.aN]at h;cases h2:iW (l2.length+1) [] l2 a2 with
   | bad g=>rw[h2]at h;cases h
   | ok y=>
    obtain⟨al,l3,a3⟩:=y;rw[h2]at h;simp only[Ans.aN]at h;have h3:=(Bl h1).2.2.1;have h4:=zM _ _ _ _ _ _ _ h2;split at h
    ·simp only[Ans.aN,Ans.ok.injEq,Prod.mk.injEq]at h;obtain⟨_,_,rfl⟩:=h;simp only[List.length_singleton]at h3;omega
    cases h
 cases h
theorem rM:∀(f:Nat) (parent:Int) (deep:Nat) (ns ns':List ak) (l l':B) (a a':Nat),dU f parent deep ns l a=.ok (ns',l',a')→a≤a'
 | 0,_,_,_,_,_,_,_,_,h=>by cases h
 | f+1,parent,deep,ns,ns',l,l',a,a',h=>by
  cases l with
  | nil=>rw[dU]at h;cases h;exact Nat.le_refl _
  | cons c t=>
   rw[dU]at h;split at h
   ·cases h;exact Nat.le_refl _
   split at h
   ·split at h
    ·cases h
    have:=rM f _ _ _ _ _ _ _ _ h;omega
   split at h
   ·cases h1:kT (dU f) parent deep ns (c::t) a with
    | bad g=>rw[h1]at h;cases h
    | ok x=>
     obtain⟨n2,l2,a2⟩:=x;rw[h1]at h;have h3:=rM f _ _ _ _ _ _ _ _ h;have:a<a2:=by
      unfold kT at h1;cases h4:o9 parent deep ns.length (c::t) a with
      | bad g=>rw[h4]at h1;cases h1
      | ok y=>
       obtain⟨n,l5,a5⟩:=y;rw[h4]at h1;simp only[Ans.aN]at h1;have h6:=KF h4;cases h7:jq (dU f) deep ns n l5 a5 with
       | bad g=>rw[h7]at h1;cases h1
       | ok z=>
        obtain⟨n8,l8,a8⟩:=z;rw[h7]at h1;simp only[Ans.aN]at h1;have h9:a5≤a8:=by
         unfold jq at h7;split at h7
         ·split at h7
          ·cases h7
          cases h7;omega
         exact rM f _ _ _ _ _ _ _ _ h7
        unfold aV at h1;split at h1
        ·simp only[Ans.aN,Ans.ok.injEq,Prod.mk.injEq]at h1;obtain⟨_,_,rfl⟩:=h1;omega
        cases h1
     omega
   split at h
   ·have:=rM f _ _ _ _ _ _ _ _ h;omega
   cases h
theorem KG{f:Nat}{parent:Int}{deep:Nat}{ns ns':List ak}{l l':B}{a a':Nat}(h1:kT (dU f) parent deep ns l a=.ok (ns',l',a')):a<a':=by
 unfold kT at h1;cases h4:o9 parent deep ns.length l a with
 | bad g=>rw[h4]at h1;cases h1
 | ok y=>
  obtain⟨n,l5,a5⟩:=y;rw[h4]at h1;simp only[Ans.aN]at h1;have h6:=KF h4;cases h7:jq (dU f) deep ns n l5 a5 with
  | bad g=>rw[h7]at h1;cases h1
  | ok z=>
   obtain⟨n8,l8,a8⟩:=z;rw[h7]at h1;simp only[Ans.aN]at h1;have h9:a5≤a8:=by
    unfold jq at h7;split at h7
    ·split at h7
     ·cases h7
     cases h7;omega
    exact rM f _ _ _ _ _ _ _ _ h7
   unfold aV at h1;split at h1
   ·simp only[Ans.aN,Ans.ok.injEq,Prod.mk.injEq]at h1;obtain⟨_,_,rfl⟩:=h1;omega
   cases h1
theorem Bo(word:B)(x:Bool)(w:World)(b:Nat)(s:B)(at_:Nat)(v:Value)(h:iR w b s at_ v)(hx:word.isPrefixOf (s.drop at_)=x):
  Calls Tryz.prog 101 #[.pointer (some ⟨b,0,none⟩),.string (str word)] w λe w'=>e=.returned (.bool x)∧∃n,w'=w.drewN n:=by
 have:=NC word w b s at_ v h;rw[hx]at this;exact this
structure KH(w wr:World)(base b:Nat)(s:B)(v:Value)(parent:Int)(deep fuel:Nat)(r:Ans (List ak×B×Nat))(k:Nat)(at':Nat)(v':Value)(ns':List ak):Prop where
 rdr:Es wr base b s at' v' ns'
 kept:Kept (oh b v) w wr
 own:∀k,v'.ownBlock=some k→v.ownBlock=some k∨w.heap.size≤k
 rest:∃f,f+1≤fuel∧s.length-at'≤f∧dU (f+1) parent deep ns' (s.drop at') at'=r
 num:k=s.length-at'
theorem GR{c:UInt8}(h:pY c=true):(((c.toNat:Int) != 10)=false∧10≤(c.toNat:Int)∧(c.toNat:Int)≤10)∨(((c.toNat:Int) != 10)=true∧32≤(c.toNat:Int)∧(c.toNat:Int)≤126):=by
 simp[pY]at h;simp;omega
theorem KI{c:UInt8}(h:pY c=false):((c.toNat:Int) != 10)=true∧¬(c.toNat:Int)=10∧((c.toNat:Int)<32∨(32≤(c.toNat:Int)∧126<(c.toNat:Int))):=by
 simp[pY]at h;simp;omega
theorem Yy(s:B)(base b:Nat)(fuel:Nat):∀(parent:Int) (deep:Nat) (ns:List ak) (at_:Nat) (v:Value) (w:World),s.length-at_<fuel→deep≤21→Es w base b s at_ v ns →
  Calls Tryz.prog 63 #[.pointer (some ⟨b,0,none⟩),.int .i64 parent,.int .i64 (deep:Int)] w (uN w base b s v (dU fuel parent deep ns (s.drop at_) at_)):=by
 induction fuel using Nat.strongRecOn with
 | _ fuel ih=>
 intro parent deep ns at_ v w hF Qq h;obtain⟨r,HR⟩:∃r,Hid (dU fuel parent deep ns (s.drop at_) at_=r):=⟨_,rfl⟩;rw[HR.out];have IH:=hid ih;have hstart:KH w w base b s v parent deep fuel r (s.length-at_) at_ v ns:=by
  cases fuel with
  | zero=>omega
  | succ f=>exact⟨h,Kept.refl _ _,λk hk=>.inl hk,⟨f,by omega,by omega,HR.out⟩,rfl⟩
 have HS:=hid hstart;clear ih hstart h;go_enter Tryz.func63,Tryz.ntmps63
 go_wp2_with fail
 go_loopg [] (s.length-at_) (λk wr=>∃at' v' ns',KH w wr base b s v parent deep fuel r k at' v' ns')
 case atStart=>exact⟨_,_,_,HS.out⟩
 case round=>
  obtain⟨at',v',ns',hL⟩:=hrel;have HL:=hid hL;have hr:=hL.rdr.rd;have c0:=hr.c0;have c1:=hr.c1;have f1:=hr.free 1;have hl:=hr.2.1;have hm:=hr.2.2;obtain⟨f,hf1,hf2,hR⟩:=hL.rest;have hnum:=hL.num;clear hL;by_cases hlt:at'<s.length
  ·rw[KE _ _ _ _ _ _ hlt]at hR;have H1:=hid hr;clear hr;cases hm1:([60,47]:B).isPrefixOf (s.drop at')with
   | true=>
    rw[hm1,if_pos rfl]at hR;subst hR;have xP:=hid hm1;clear hm1;go_wp2_with fail
    go_quiet ((go_at_call 101;exact Calls.quiet_of (Bo [60,47] true _ b s at' v' H1.out xP.out)))
    go_wp2_with fail
    go_end0
    exact⟨v',rfl,HL.out.kept.drewN _,HL.out.rdr.quiet ⟨nq,rfl⟩,rfl,HL.out.own⟩
   | false=>
    rw[hm1,if_neg (by simp)]at hR;have xP:=hid hm1;clear hm1;cases hm2:cu.isPrefixOf (s.drop at')with
    | true=>
     rw[hm2,if_pos rfl]at hR;have OD:at'+4≤s.length:=by
      have:=(List.isPrefixOf_iff_prefix.1 hm2).length_le;rw[List.length_drop]at this;simp only[cu,List.length_cons,List.length_nil]at this;omega
     have Cm:=hid hm2;have HR2:=hid hR;clear hm2 hR;obtain⟨mr,hmr⟩:=HL.out.rdr.room;have hlen:(s.drop (at'+4)).length<4294967281:=by rw[List.length_drop];omega
     go_wp2_with fail
     go_quiet ((go_at_call 101;exact Calls.quiet_of (Bo [60,47] false _ b s at' v' H1.out xP.out)))
     go_wp2_with fail
     refine(Bo cu true _ b s at' v' (H1.out.drewN nq) Cm.out).mono ?_;rintro e w1 ⟨rfl,hq1⟩;have hqq:Qt wr w1:=Qt.trans ⟨nq,rfl⟩ hq1;have h1:=HL.out.rdr.quiet hqq;have hk1:=HL.out.kept.trans (hqq.kept _);clear c0 c1 f1 hq1 hqq;have c0:=h1.rd.c0;have c1:=h1.rd.c1;have f1:=h1.rd.free 1;have HR1:=hid h1;have uZ:=hid hk1;clear h1 hk1;obtain⟨mr,hmr⟩:=HR1.out.room;cases hf:bg dS (s.drop (at'+4))with
     | none=>
      go_wp2_with fail
      go_quiet ((go_at_call 102;exact Calls.quiet_of_same (index_none _ dS mr _ hlen hmr hf)))
      have hr0:r=.bad ⟨2,s.length⟩:=by rw[←HR2.out,hf]
      subst hr0;clear hf;go_wp2_with (go_at_call 64;refine(kW 2 _ b s s.length _ ((HR1.out.quiet ⟨nq,rfl⟩).rd.set rfl (Nat.le_refl _))).mono ?_;rintro e w9 ⟨rfl,zK⟩)
      exact⟨rfl,rfl,(((uZ.out).drewN nq).setCell (p:=⟨b,1,none⟩) (.inl (.inl rfl)) _).trans (zK.kept _)⟩
     | some e=>
      have hfl:=gY _ _ _ hf;rw[List.length_drop]at hfl;have hsl:dS.length=3:=rfl;rw[hsl]at hfl;have hRR:=HR2.out;rw[hf]at hRR;have HRR:=hid hRR;go_wp2_with fail
      go_quiet ((go_at_call 102;exact Calls.quiet_of_same (zL _ dS mr _ hlen hmr hf)))
      clear hf hRR;go_wp2_with fail
      go_roundg (s.length-(at'+(4+e+3)))
      case measure=>omega
      case rel=>
       cases f with
       | zero=>omega
       | succ f=>
        exact⟨at'+(4+e+3),v',ns',⟨(HR1.out.quiet ⟨nq,rfl⟩).set (by omega) (by omega),((uZ.out).drewN nq).setCell (p:=⟨b,1,none⟩) (.inl (.inl rfl)) _,HL.out.own,
         ⟨f,by omega,by omega,HRR.out⟩,rfl⟩⟩
    | false=>
     rw[hm2,if_neg (by simp)]at hR;have Cm:=hid hm2;clear hm2;cases Gz:([60]:B).isPrefixOf (s.drop at')with
     | true=>
      rw[Gz,if_pos rfl]at hR;have Ar:=hid Gz;have HR2:=hid hR;clear Gz hR;go_wp2_with fail
      go_quiet ((go_at_call 101;exact Calls.quiet_of (Bo [60,47] false _ b s at' v' H1.out xP.out)))
      go_wp2_with fail
      refine(Bo cu false _ b s at' v' (H1.out.drewN nq) Cm.out).mono ?_;rintro e w1 ⟨rfl,hq1⟩;have hqq:Qt wr w1:=Qt.trans ⟨nq,rfl⟩ hq1;have h1:=HL.out.rdr.quiet hqq;have hk1:=HL.out.kept.trans (hqq.kept _);clear c0 c1 f1 hq1 hqq;have c0:=h1.rd.c0;have c1:=h1.rd.c1;have f1:=h1.rd.free 1;have HR1:=hid h1;have uZ:=hid hk1;clear h1 hk1;go_wp2_with fail
      refine(Bo [60] true _ b s at' v' HR1.out.rd Ar.out).mono ?_;rintro e w2 ⟨rfl,hq2⟩;have H2:=hid (HR1.out.quiet hq2);have iO:=hid (uZ.out.trans (Qt.kept hq2 _));clear hq2 c0 c1 f1;go_wp2_with fail
      have hel:=aa5 (dU f) s base b f (λparent deep ns a v w x1 x2 x3=>IH.out f (by omega) parent deep ns a v w x1 x2 x3) parent deep ns' at' v' w2 hf2 Qq H2.out;have hRR:=HR2.out;obtain⟨ans,hans⟩:∃ans,kT (dU f) parent deep ns' (s.drop at') at'=ans:=⟨_,rfl⟩;have JF:=hid hans;rw[hans]at hel hRR;have HRR:=hid hRR;clear hans hRR;refine hel.mono ?_;clear hel;have Qv:∀w3:World,Kept (oh b v') w2 w3→Kept (oh b v) w w3:=λw3 hk=>iO.out.trans' hk (λi hi hs=>by
       rcases hs with hs | hs
       ·exact .inl hs
       rcases HL.out.own i hs with h | h
       ·exact .inr h
       omega)
      have oJ:=hid Qv;clear Qv;cases ans with
      | bad f0=>
       rintro e w3 ⟨rfl,hk3⟩;obtain rfl:r=.bad f0:=by rw[←HRR.out];rfl
       have HKK:=hid (oJ.out _ hk3);clear hk3;go_wp2_with fail
       exact⟨rfl,rfl,HKK.out⟩
      | ok y=>
       obtain⟨Qs,l9,at9⟩:=y;rintro e w3 ⟨v9,rfl,hk9,vY,rfl,GL⟩;have HKK:=hid (oJ.out _ hk9);have H9:=hid vY;have hpos:=KG (JF.out);have hl9:=vY.rd.2.1;have UD:Hid (∀k,v9.ownBlock=some k→v.ownBlock=some k∨w.heap.size≤k):=hid λk hk=>by
        rcases GL k hk with h | h
        ·exact HL.out.own k h
        have:=iO.out.size;exact .inr (by omega)
       have hRR:=HRR.out;simp only[Ans.aN]at hRR;have UF:=hid hRR;clear hRR hk9 vY GL;go_wp2_with fail
       go_roundg (s.length-at9)
       case measure=>omega
       case rel=>
        cases f with
        | zero=>omega
        | succ f=>exact⟨at9,v9,Qs,⟨H9.out,HKK.out,UD.out,⟨f,by omega,by omega,UF.out⟩,rfl⟩⟩
     | false=>
      rw[Gz,if_neg (by simp)]at hR;have Ar:=hid Gz;have HR2:=hid hR;clear Gz hR;go_wp2_with fail
      go_quiet ((go_at_call 101;exact Calls.quiet_of (Bo [60,47] false _ b s at' v' H1.out xP.out)))
      go_wp2_with fail
      refine(Bo cu false _ b s at' v' (H1.out.drewN nq) Cm.out).mono ?_;rintro e w1 ⟨rfl,hq1⟩;have hqq:Qt wr w1:=Qt.trans ⟨nq,rfl⟩ hq1;have h1:=HL.out.rdr.quiet hqq;have hk1:=HL.out.kept.trans (hqq.kept _);clear c0 c1 f1 hq1 hqq;have c0:=h1.rd.c0;have c1:=h1.rd.c1;have f1:=h1.rd.free 1;have HR1:=hid h1;have uZ:=hid hk1;clear h1 hk1;go_wp2_with fail
      refine(Bo [60] false _ b s at' v' HR1.out.rd Ar.out).mono ?_;rintro e w2 ⟨rfl,hq2⟩;have h2:=HR1.out.quiet hq2;have hk2:=uZ.out.trans (Qt.kept hq2 _);clear hq2 c0 c1 f1;have c0:=h2.rd.c0;have c1:=h2.rd.c1;have f1:=h2.rd.free 1;have H2:=hid h2;have iO:=hid hk2;clear h2 hk2;have hi0:(0:Int)≤(at':Int):=by omega
      have hi1:(at':Int)<(s.length:Int):=by omega
      go_wp2_with fail
      go_quiet (fail)
      have h2q:=H2.out.quiet ⟨nq,rfl⟩;have abh:=iO.out.drewN nq;cases ht:pY (s[at']'hlt)with
      | true=>
       have hRR:=HR2.out;rw[ht,if_pos rfl]at hRR;have HRR:=hid hRR;clear hRR;rcases GR ht with⟨e1,e2,e3⟩ | ⟨e1,e2,e3⟩
       all_goals
        clear ht;go_wp2
        go_roundg (s.length-(at'+1))
        case measure=>omega
        case rel=>
         cases f with
         | zero=>omega
         | succ f=>exact⟨at'+1,v',ns',⟨h2q.set (by omega) (by omega),abh.setCell (p:=⟨b,1,none⟩) (.inl (.inl rfl)) _,HL.out.own,⟨f,by omega,by omega,HRR.out⟩,rfl⟩⟩
      | false=>
       obtain rfl:r=.bad ⟨2,at'⟩:=by rw[←HR2.out,ht];rfl
       obtain⟨e1,en,e2⟩:=KI ht;rcases e2 with e2 | ⟨e2,e3⟩
       all_goals
        clear ht;go_wp2_with (go_at_call 64;refine(kW 2 _ b s at' _ h2q.rd).mono ?_;rintro e w9 ⟨rfl,zK⟩)
        all_goals first
         | exact⟨rfl,rfl,abh.trans (zK.kept _)⟩
         | (exfalso;rename_i hx;rcases hx with hx | hx; (rw[e1]at hx;cases hx);omega)
  rw[GN _ _ _ _ _ _ (by omega)]at hR;subst hR;have hd:decide (at'<s.length)=false:=by simpa using hlt
  go_wp2_with fail
  go_quiet (fail)
  go_wp2_with fail
  go_end0
  exact⟨v',rfl,HL.out.kept.drewN _,HL.out.rdr.quiet ⟨nq,rfl⟩,rfl,HL.out.own⟩
end Go.Proofs.YtplbdlgmjehckacGreatDoor


/-
 Lemmas for the claims of this seat: the program's functions walked, and plain laws.
-/
import Derived.Test.YtplbdlgmjehckacGreatDoorPkFoTellsFull1
namespace Go.Proofs.YtplbdlgmjehckacGreatDoor
set_option linter.unusedVariables false
set_option linter.unusedSimpArgs false
def GU(c:UInt8):Bool:=isLow c||decide (c.toNat=42)||decide (c.toNat=46)||decide (c.toNat=35)||decide (c.toNat=58)||decide (c.toNat=91)
theorem lS{x c:UInt8}{w t:B}(h:(x::w).isPrefixOf (c::t)=true):x=c:=by
 simp[List.isPrefixOf]at h;exact h.1
theorem Qw{l:B}(h:aJ l≠0):∃c t,l=c::t∧isLow c=true:=by
 cases l with
 | nil=>exact absurd rfl h
 | cons c t=>
  refine⟨c,t,rfl,?_⟩;rw[qU]at h;split at h
  ·assumption
  exact absurd rfl h
theorem Yz{l:B}{a:Nat}{v:bQ}{l':B}{a':Nat}(h:iI l a=.ok (some v,l',a')):∃c t,l=c::t∧GU c=true:=by
 unfold iI at h;cases l with
 | nil=>simp[List.isPrefixOf,firstWord]at h
 | cons c t=>
  refine⟨c,t,rfl,?_⟩;split at h
  ·rename_i hp;have:=lS hp;subst this;decide
  split at h
  ·rename_i hp;have:=lS hp;subst this;decide
  split at h
  ·rename_i hp;have:=lS hp;subst this;decide
  split at h
  ·rename_i hp;have:=lS hp;subst this;decide
  cases h
theorem UG{l:B}{a:Nat}{v:List bQ}{l':B}{a':Nat}(h:eU l a=.ok (v,l',a')):∃c t,l=c::t∧GU c=true:=by
 unfold eU at h;obtain⟨⟨ts,q,l1,a1⟩,h1,h⟩:=then_ok h;unfold uw at h1;split at h1
 ·rename_i hp
  cases l with
  | nil=>simp[List.isPrefixOf]at hp
  | cons c t=>have:=lS hp;subst this;exact⟨_,_,rfl,by decide⟩
 split at h1
 ·cases h1;simp only at h;rw[dF]at h;obtain⟨⟨x,l2,a2⟩,h2,h⟩:=then_ok h;cases x with
  | none=>simp at h
  | some x=>exact Yz h2
 rename_i hn
 obtain⟨c,t,rfl,hc⟩:=Qw hn;exact⟨c,t,rfl,by simp[GU,hc]⟩
theorem KJ{ay l:B}{a:Nat}{r:au}{l':B}{a':Nat}(h:kU ay l a=.ok (r,l',a')):∃c t,l=c::t∧GU c=true:=by
 unfold kU at h;obtain⟨⟨ss,l1,a1⟩,h1,h⟩:=then_ok h;rw[gB]at h1;split at h1
 ·cases h1
 obtain⟨⟨x,l2,a2⟩,h2,h1⟩:=then_ok h1;unfold pq at h2;obtain⟨⟨ts,l3,a3⟩,h3,h2⟩:=then_ok h2;exact UG h3
theorem UH{c:UInt8}(t:B)(h:c.toNat≠32∧c.toNat≠10∧c.toNat≠47):stops (c::t)=true:=by
 have h1:¬c=32:=λe=>h.1 (by rw[e];rfl)
 have h2:¬c=10:=λe=>h.2.1 (by rw[e];rfl)
 have h3:¬c=47:=λe=>h.2.2 (by rw[e];rfl)
 unfold stops;rw[iq,iq];have:dV.isPrefixOf (c::t)=false:=by
  rw[←Bool.not_eq_true];intro hp;exact h3 (lS hp).symm
 rw[this];simp[h1,h2]
structure GV(t:B)(ss:List dZ)(ds:List aC):Prop where
 read:∀(md m:B) (b:Nat),kU md (t++m) b=.ok (⟨md,ss,ds,(b:Int),((b+t.length:Nat):Int)⟩,m,b+t.length)
 head:∃c u,t=c::u∧GU c=true
structure ah8(nm h:B):Prop where
 read:∀(m:B) (b:Nat),fO (h++m) b=.ok (nm,m,b+h.length)
 name:nm≠[]
inductive CJ where
 | gap (g:B)
 | rule (t:B) (ss:List dZ) (ds:List aC)
inductive It where
 | plain (x:CJ)
 | ay (nm h:B) (xs:List CJ)
def CJ.text:CJ→B
 | .gap g=>g
 | .rule t _ _=>t
def CJ.wf:CJ→Prop
 | .gap g=>uy g
 | .rule t ss ds=>GV t ss ds
def textIn:List CJ→B
 | []=>[]
 | x::xs=>x.text++textIn xs
def It.text:It→B
 | .plain x=>x.text
 | .ay _ h xs=>fF++(h++(textIn xs++[125]))
def It.wf:It→Prop
 | .plain x=>x.wf
 | .ay nm h xs=>ah8 nm h∧∀x∈xs,x.wf
def mJ:List It→B
 | []=>[]
 | x::xs=>x.text++mJ xs
def mg(md:B):Nat→List CJ→List au
 | _,[]=>[]
 | b,.gap g::xs=>mg md (b+g.length) xs
 | b,.rule t ss ds::xs=>⟨md,ss,ds,(b:Int),((b+t.length:Nat):Int)⟩::mg md (b+t.length) xs
def o7:Nat→List It→List au
 | _,[]=>[]
 | b,.plain x::xs=>mg [] b [x]++o7 (b+x.text.length) xs
 | b,.ay nm h ys::xs=>mg nm (b+6+h.length) ys++o7 (b+(It.ay nm h ys).text.length) xs
def Qx(m:B):Bool:=m.isEmpty||([125]:B).isPrefixOf m
def aP(g:Nat)(md:B)(rs:List au)(l:B)(b:Nat):Ans (List au×B×Nat):=(cO l b).then λx=>fC g md rs x.1 x.2
theorem UJ:∀(f:Nat) (md:B) (rs:List au) (l:B) (a:Nat) (rs':List au) (l':B) (a':Nat),md≠[]→rs.length≤60→fC f md rs l a=.ok (rs',l',a') →
  ∃xs:List CJ,(∀x∈xs,x.wf)∧l=textIn xs++l'∧a'=a+(textIn xs).length∧rs'=rs++mg md a xs∧Qx l'=true∧rs'.length≤60:=by
 intro f
 induction f with
 | zero=>intro md rs l a rs' l' a' _ _ h;cases h
 | succ f ih=>
  intro md rs l a rs' l' a' hmd hr h;rw[fC]at h;split at h
  ·rename_i he
   cases h;exact⟨[],by simp,rfl,rfl,by simp[mg],he,hr⟩
  rename_i he
  have:md.isEmpty=false:=by cases md<;>simp_all
  rw[this,Bool.false_and,if_neg (by simp)]at h;split at h
  ·cases h
  rename_i hn
  obtain⟨⟨r,l1,a1⟩,h1,h⟩:=then_ok h;have hhd:=KJ h1;obtain⟨t,rfl,rfl,e1,e2,e3,hp,k⟩:=AA h1;obtain⟨⟨l2,a2⟩,h2,h⟩:=then_ok h;obtain⟨t2,g2,rfl,rfl,st2,k2⟩:=fA h2;obtain⟨xs,hw,rfl,rfl,rfl,hend,hlen⟩:=ih md _ _ _ _ _ _ hmd (by simp;omega) h;have hrt:GV t r.aZ r.decls:=⟨k,by
   obtain⟨c,u,hcu,hc⟩:=hhd;cases t with
   | nil=>simp at hp
   | cons x t=>simp at hcu;exact⟨x,t,rfl,by rw[hcu.1];exact hc⟩⟩
  refine⟨.rule t r.aZ r.decls :: .gap t2::xs,?_,by simp[textIn,CJ.text],by simp[textIn,CJ.text];omega,?_,hend,hlen⟩
  ·intro x hx;simp only[List.mem_cons]at hx;rcases hx with rfl | rfl | hx
   ·exact hrt
   ·exact g2
   exact hw x hx
  simp only[mg];obtain⟨m,s,d,lo,hi⟩:=r;simp only at e1 e2 e3;subst e1 e2 e3;simp
theorem af0:∀(f:Nat) (rs:List au) (l:B) (a:Nat) (rs':List au) (l':B) (a':Nat),rs.length≤60→fC f [] rs l a=.ok (rs',l',a') →
  ∃xs:List It,(∀x∈xs,x.wf)∧l=mJ xs++l'∧a'=a+(mJ xs).length∧rs'=rs++o7 a xs∧Qx l'=true∧rs'.length≤60:=by
 intro f
 induction f with
 | zero=>intro rs l a rs' l' a' _ h;cases h
 | succ f ih=>
  intro rs l a rs' l' a' hr h;rw[fC]at h;split at h
  ·rename_i he
   cases h;exact⟨[],by simp,rfl,rfl,by simp[o7],he,hr⟩
  rename_i he
  split at h
  ·rename_i hm
   simp only[List.isEmpty_nil,Bool.true_and]at hm;obtain⟨r,rfl,hd⟩:=fM hm;rw[show fF.length=6 from rfl]at hd;rw[hd]at h;obtain⟨⟨nm,l1,a1⟩,h1,h⟩:=then_ok h;obtain⟨t1,rfl,rfl,hnm,k1⟩:=Ju h1;obtain⟨⟨l2,a2⟩,h2,h⟩:=then_ok h;obtain⟨t2,g2,rfl,rfl,st2,k2⟩:=fA h2;obtain⟨⟨rs3,l3,a3⟩,h3,h⟩:=then_ok h;obtain⟨ys,hwy,rfl,rfl,rfl,anM,hlen3⟩:=UJ _ _ _ _ _ _ _ _ hnm hr h3;obtain⟨⟨l4,a4⟩,h4,h⟩:=then_ok h;obtain⟨rfl,rfl,k4⟩:=iM h4;obtain⟨⟨l5,a5⟩,h5,h⟩:=then_ok h;obtain⟨t5,g5,rfl,rfl,st5,k5⟩:=fA h5;obtain⟨xs,hw,rfl,rfl,rfl,hend,hlen⟩:=ih _ _ _ _ _ _ hlen3 h;refine⟨.ay nm t1 (.gap t2::ys) :: .plain (.gap t5)::xs,?_,by simp[mJ,It.text,textIn,CJ.text],?_,?_,hend,hlen⟩
   ·intro x hx;simp only[List.mem_cons]at hx;rcases hx with rfl | rfl | hx
    ·refine⟨⟨k1,hnm⟩,λy hy=>?_⟩;simp only[List.mem_cons]at hy;rcases hy with rfl | hy
     ·exact g2
     exact hwy y hy
    ·exact g5
    exact hw x hx
   ·have h6:fF.length=6:=rfl;simp[mJ,It.text,textIn,CJ.text,h6];omega
   have h6:fF.length=6:=rfl;simp only[o7,mg,CJ.text,It.text,textIn,List.length_append,List.length_cons,List.length_nil,h6,List.nil_append,List.append_assoc];rw[show a+(6+(t1.length+(t2.length+((textIn ys).length+(0+1)))))+t5.length=a+6+t1.length+t2.length+(textIn ys).length+(0+1)+t5.length from by omega]
  rename_i hm
  split at h
  ·cases h
  rename_i hn
  obtain⟨⟨r,l1,a1⟩,h1,h⟩:=then_ok h;have hhd:=KJ h1;obtain⟨t,rfl,rfl,e1,e2,e3,hp,k⟩:=AA h1;obtain⟨⟨l2,a2⟩,h2,h⟩:=then_ok h;obtain⟨t2,g2,rfl,rfl,st2,k2⟩:=fA h2;obtain⟨xs,hw,rfl,rfl,rfl,hend,hlen⟩:=ih _ _ _ _ _ _ (by simp;omega) h;have hrt:GV t r.aZ r.decls:=⟨k,by
   obtain⟨c,u,hcu,hc⟩:=hhd;cases t with
   | nil=>simp at hp
   | cons x t=>simp at hcu;exact⟨x,t,rfl,by rw[hcu.1];exact hc⟩⟩
  refine⟨.plain (.rule t r.aZ r.decls) :: .plain (.gap t2)::xs,?_,by simp[mJ,It.text,CJ.text],by simp[mJ,It.text,CJ.text];omega,?_,hend,hlen⟩
  ·intro x hx;simp only[List.mem_cons]at hx;rcases hx with rfl | rfl | hx
   ·exact hrt
   ·exact g2
   exact hw x hx
  obtain⟨m,s,d,lo,hi⟩:=r;simp only at e1 e2 e3;subst e1 e2 e3;simp[o7,mg,CJ.text]
theorem KL{s:B}{rs:List au}(h:iZ s=.ok rs):s.length≤4000∧rs.length≤60∧∃xs:List It,(∀x∈xs,x.wf)∧s=mJ xs∧rs=o7 0 xs:=by
 unfold iZ at h;split at h
 ·cases h
 rename_i hn
 obtain⟨⟨l1,a1⟩,h1,h⟩:=then_ok h;obtain⟨t1,g1,rfl,rfl,st1,k1⟩:=fA h1;obtain⟨⟨rs2,l2,a2⟩,h2,h⟩:=then_ok h;obtain⟨xs,hw,rfl,rfl,rfl,hend,hlen⟩:=af0 _ _ _ _ _ _ _ (by simp) h2;simp only at h;split at h
 ·rename_i he
  cases h;refine⟨by omega,hlen,.plain (.gap t1)::xs,?_,by rw[he];simp[mJ,It.text,CJ.text],by simp[o7,mg,CJ.text]⟩;intro x hx;simp only[List.mem_cons]at hx;rcases hx with rfl | hx
  ·exact g1
  exact hw x hx
 cases h
def rO(nm:B):Prop:=aJ nm=nm.length∧1≤nm.length∧nm.length≤20
def NI(w:B):Prop:=w≠[]∧∀c∈w,isWord c=true
def WX(v:B):Prop:=∃ws:List B,ws≠[]∧(∀w∈ws,NI w)∧v=gU ws∧v.length≤60
def jK(d:aC):Prop:=rO d.name∧WX d.val
theorem GX{p:UInt8→Bool}{w:B}(hw:∀c∈w,p c=true):w.takeWhile p=w:=by
 induction w with
 | nil=>rfl
 | cons c w ih=>rw[List.takeWhile_cons,if_pos (hw c (by simp)),ih (λx hx=>hw x (by simp[hx]))]
theorem Qy{l:B}:aJ (l.take (aJ l))=aJ l:=by
 cases l with
 | nil=>rfl
 | cons c t=>
  rw[qU];split
  ·rename_i hc
   have hm:dK c=true:=by simp[dK,hc]
   rw[takeWhile_take,List.takeWhile_cons,if_pos hm,qU,if_pos hc];have:(c::t.takeWhile dK).takeWhile dK=c::t.takeWhile dK:=by
    rw[List.takeWhile_cons,if_pos hm];congr 1;exact GX (λx hx=>List.all_eq_true.1 (List.all_takeWhile (p:=dK) (l:=t)) x hx)
   rw[this]
  simp[aJ]
theorem zN{l nm l':B}{a a':Nat}(h:dM l a=.ok (nm,l',a')):rO nm:=by
 obtain⟨h1,h2,h3,h4,h5⟩:=mP h;refine⟨?_,h1,h4⟩;have:nm=l.take (aJ l):=by rw[h5];rw[h2];simp
 rw[this,Qy,←this,h5]
theorem YA:∀(f:Nat) (ws:List B) (l:B) (a:Nat) (v l':B) (a':Nat),(∀w∈ws,NI w)→(gU ws).length≤60→jI f ws l a=.ok (v,l',a')→WX v:=by
 intro f
 induction f with
 | zero=>intro ws l a v l' a' _ _ h;cases h
 | succ f ih=>
  intro ws l a v l' a' hw hl h;rw[jI]at h;simp only at h;split at h
  ·split at h
   ·cases h
   rename_i hne
   cases h;exact⟨ws,hne,hw,rfl,hl⟩
  rename_i hne
  split at h
  ·cases h
  rename_i hle
  obtain⟨⟨l1,a1⟩,h1,h⟩:=then_ok h;refine ih _ _ _ _ _ _ ?_ (by omega) h;intro w hx;simp only[List.mem_append,List.mem_singleton]at hx;rcases hx with hx | rfl
  ·exact hw w hx
  exact⟨hne,λc hc=>List.all_eq_true.1 (List.all_takeWhile (p:=isWord) (l:=l)) c hc⟩
theorem UK{l l':B}{a a':Nat}{d:aC}(h:qQ l a=.ok (d,l',a')):jK d:=by
 unfold qQ at h;obtain⟨⟨nm,l1,a1⟩,h1,h⟩:=then_ok h;obtain⟨⟨l2,a2⟩,h2,h⟩:=then_ok h;obtain⟨⟨l3,a3⟩,h3,h⟩:=then_ok h;obtain⟨⟨l4,a4⟩,h4,h⟩:=then_ok h;obtain⟨⟨v5,l5,a5⟩,h5,h⟩:=then_ok h;obtain⟨⟨v6,l6,a6⟩,h6,h⟩:=then_ok h;cases h;exact⟨zN h1,YA _ [] _ _ _ _ _ (by simp) (by simp[gU]) h5⟩
theorem NJ:∀(f:Nat) (ds:List aC) (l:B) (a:Nat) (v:List aC) (l':B) (a':Nat),(∀d∈ds,jK d)→ds.length≤20→cZ f ds l a=.ok (v,l',a') →
  (∀d∈v,jK d)∧v.length≤20:=by
 intro f
 induction f with
 | zero=>intro ds l a v l' a' _ _ h;cases h
 | succ f ih=>
  intro ds l a v l' a' hd hn h;rw[cZ]at h;split at h
  ·cases h;exact⟨hd,hn⟩
  split at h
  ·cases h
  rename_i hne
  obtain⟨⟨d,l1,a1⟩,h1,h⟩:=then_ok h;have hdd:∀x∈ds++[d],jK x:=by
   intro x hx;simp only[List.mem_append,List.mem_singleton]at hx;rcases hx with hx | rfl
   ·exact hd x hx
   exact UK h1
  simp only at h;split at h
  ·obtain⟨⟨l2,a2⟩,h2,h⟩:=then_ok h;exact ih _ _ _ _ _ _ hdd (by simp;omega) h
  cases h;exact⟨hdd,by simp;omega⟩
theorem wX{l l':B}{a a':Nat}{ds:List aC}(h:iY l a=.ok (ds,l',a')):(∀d∈ds,jK d)∧ds.length≤20:=by
 unfold iY at h;obtain⟨⟨l1,a1⟩,h1,h⟩:=then_ok h;exact NJ _ [] _ _ _ _ _ (by simp) (by simp) h
theorem kY{s:B}{ds:List aC}(h:dW s=.ok ds):(∀d∈ds,jK d)∧ds.length≤20:=by
 unfold dW at h;split at h
 ·cases h
 obtain⟨⟨ds2,l1,a1⟩,h1,h⟩:=then_ok h;simp only at h;split at h
 ·cases h;exact wX h1
 cases h
theorem GY(w:B)(ws:List B)(h:ws≠[]):gU (w::ws)=w++([32]++gU ws):=by
 cases ws with
 | nil=>exact absurd rfl h
 | cons x ws=>simp[gU]
def Qz(m:B):Prop:=m=[]∨∃t,m=59::t
theorem Qz.stops{m:B}(h:Qz m):stops m=true:=by
 rcases h with rfl | ⟨t,rfl⟩
 ·rfl
 exact UH _ (by decide)
theorem UL(d:aC)(ds:List aC)(h:ds≠[]):dH (d::ds)=printOne d++([59]++([32]++dH ds)):=by
 cases ds with
 | nil=>exact absurd rfl h
 | cons x ds=>simp[dH]
theorem QA{d:aC}(h:jK d):(printOne d).length≤93:=by
 obtain⟨⟨_,_,h1⟩,ws,_,_,_,h2⟩:=h;unfold printOne;have:((if d.strong then [32,33]++bM else []):B).length≤11:=by split<;>simp[bM]
 simp only[List.length_append,List.length_cons,List.length_nil];omega
theorem GZ:∀ {ds:List aC},(∀d∈ds,jK d)→(dH ds).length≤95*ds.length
 | [],_=>by simp[dH]
 | d::ds,h=>by
  have h1:=QA (h d (by simp));have h2:=GZ (λy hy=>h y (by simp[hy]):∀y∈ds,jK y);by_cases hx:ds=[]
  ·subst hx;simp[dH];omega
  rw[UL d ds hx];simp;omega
def SB(n:Nat)(f:iL):Prop:=f.err≠0∧f.pos≤n
def SF{α:Type}(n:Nat)(r:Ans (α×B×Nat)):Prop:=match r with
 | .bad f=>SB n f
 | .ok (_,l,a)=>a+l.length=n
def SG(n:Nat)(r:Ans (B×Nat)):Prop:=match r with
 | .bad f=>SB n f
 | .ok (l,a)=>a+l.length=n
theorem SF.then{α β:Type}{n:Nat}{r:Ans (α×B×Nat)}{k:α×B×Nat→Ans (β×B×Nat)}(h:SF n r)(hk:∀v l a,a+l.length=n→SF n (k (v,l,a))):SF n (r.then k):=by
 cases r with
 | bad f=>exact h
 | ok x=>obtain⟨v,l,a⟩:=x;exact hk v l a h
theorem SG.then{β:Type}{n:Nat}{r:Ans (B×Nat)}{k:B×Nat→Ans (β×B×Nat)}(h:SG n r)(hk:∀l a,a+l.length=n→SF n (k (l,a))):SF n (r.then k):=by
 cases r with
 | bad f=>exact h
 | ok x=>obtain⟨l,a⟩:=x;exact hk l a h
theorem sb{n a e:Nat}{l:B}(h:a+l.length=n)(he:e≠0):SB n ⟨e,a⟩:=⟨he,by show a≤n;omega⟩
theorem G5{w l:B}(h:w.isPrefixOf l=true):w.length≤l.length:=(List.isPrefixOf_iff_prefix.1 h).length_le
theorem drop_at{w l:B}{a n:Nat}(hp:w.isPrefixOf l=true)(h:a+l.length=n):a+w.length+(l.drop w.length).length=n:=by
 have:=G5 hp;simp;omega
theorem zO:∀(f:Nat) {n:Nat} (l:B) (a:Nat),a+l.length=n→SG n (yN f l a)
 | 0,n,l,a,h=>⟨by simp,Nat.zero_le _⟩
 | f+1,n,[],a,h=>h
 | f+1,n,c::t,a,h=>by
  simp only[yN];split
  ·exact zO f t _ (by simp at h;omega)
  split
  ·rename_i hp
   have hp2:=G5 hp;split
   ·exact sb h (by simp)
   rename_i e hf
   have:=gY _ _ _ hf;refine zO f _ _ ?_;simp only[List.length_drop,dN,dV,List.length_cons,List.length_nil]at this hp2 h ⊢;omega
  exact h
theorem iH{n:Nat}{l:B}{a:Nat}(h:a+l.length=n):SG n (cO l a):=zO _ l a h
theorem nI{n:Nat}{l:B}{a:Nat}(h:a+l.length=n):SF n (dM l a):=by
 have:=gZ l;unfold dM;split
 ·exact sb h (by simp)
 show _+_=n;simp;omega
theorem lT{n:Nat}{w l:B}{a:Nat}(h:a+l.length=n):SG n (aV w l a):=by
 unfold aV;split
 ·rename_i hp;exact drop_at hp h
 exact sb h (by simp)
theorem G6{n:Nat}{l:B}{a:Nat}(h:a+l.length=n):SF n (iF l a):=by
 refine(nI h).then λv l a h=>?_
 simp only;split
 ·exact sb h (by simp)
 split
 ·rename_i hp
  refine(nI (drop_at hp h)).then λv l a h=>?_
  exact(lT h).then λl a h=>h
 exact(lT h).then λl a h=>h
theorem UM{n:Nat}{l:B}{a:Nat}(h:a+l.length=n):SF n (iI l a):=by
 unfold iI;split
 ·rename_i hp;exact(nI (drop_at hp h)).then λv l a h=>h
 split
 ·rename_i hp;exact(nI (drop_at hp h)).then λv l a h=>h
 split
 ·rename_i hp;exact drop_at hp h
 split
 ·rename_i hp;exact(G6 (drop_at hp h)).then λv l a h=>h
 exact h
theorem qy:∀(f:Nat) {n:Nat} (ts:List bQ) (q:Bool) (l:B) (a:Nat),a+l.length=n→SF n (dF f ts q l a)
 | 0,n,ts,q,l,a,h=>⟨by simp,Nat.zero_le _⟩
 | f+1,n,ts,q,l,a,h=>by
  rw[dF];refine(UM h).then λv l1 a1 h1=>?_
  cases v with
  | none=>
   simp only;split
   ·exact h
   exact sb h (by simp)
  | some t=>
   simp only;split
   ·exact sb h1 (by simp)
   exact qy f _ _ _ _ h1
theorem Et{n:Nat}{l:B}{a:Nat}(h:a+l.length=n):SF n (eU l a):=by
 unfold eU uw;split
 ·rename_i hp;exact qy _ _ _ _ _ (drop_at hp h)
 split
 ·exact qy _ _ _ _ _ h
 have:=nI h;cases hx:dM l a with
 | bad f=>rw[hx]at this;exact this
 | ok x=>rw[hx]at this;exact qy _ _ _ _ _ this
theorem UN{n:Nat}{l:B}{a:Nat}(h:a+l.length=n):SF n (lH l a):=by
 refine(iH h).then λl a h=>?_
 simp only;split
 ·rename_i hp;exact(iH (drop_at hp h)).then λl a h=>h
 split
 ·rename_i hp;exact(iH (drop_at hp h)).then λl a h=>h
 split
 ·exact h
 exact h
theorem G7:∀(f:Nat) {n:Nat} (ps:List eP) (l:B) (a:Nat),a+l.length=n→SF n (jZ f ps l a)
 | 0,n,ps,l,a,h=>⟨by simp,Nat.zero_le _⟩
 | f+1,n,ps,l,a,h=>by
  rw[jZ];refine(UN h).then λv l1 a1 h1=>?_
  cases v with
  | none=>exact h1
  | some t=>
   simp only;split
   ·exact sb h1 (by simp)
   exact(Et h1).then λv l a h=>G7 f _ _ _ h
theorem YB{n:Nat}{l:B}{a:Nat}(h:a+l.length=n):SF n (pq l a):=
 (Et h).then λv l a h=>G7 _ _ _ _ h
theorem G8:∀(f:Nat) {n:Nat} (ws:List B) (l:B) (a:Nat),a+l.length=n→SF n (jI f ws l a)
 | 0,n,ws,l,a,h=>⟨by simp,Nat.zero_le _⟩
 | f+1,n,ws,l,a,h=>by
  rw[jI];simp only;split
  ·split
   ·exact sb h (by simp)
   exact h
  split
  ·exact sb h (by simp)
  refine(iH ?_).then λl a h=>G8 f _ _ _ h
  have:=fJ isWord l;simp;omega
theorem NK{n:Nat}{l:B}{a:Nat}(h:a+l.length=n):SF n (fK l a):=by
 unfold fK;split
 ·rename_i hp
  have hm:=lT (w:=bM) (drop_at hp h);simp only[List.length_cons,List.length_nil,Nat.zero_add]at hm;cases hx:aV bM (l.drop 1) (a+1)with
  | bad f=>rw[hx]at hm;exact hm
  | ok x=>rw[hx]at hm;exact(iH hm).then λl a h=>h
 exact h
theorem UO{n:Nat}{l:B}{a:Nat}(h:a+l.length=n):SF n (qQ l a):=by
 refine(nI h).then λv l a h=>?_
 refine(iH h).then λl a h=>?_
 refine(lT h).then λl a h=>?_
 refine(iH h).then λl a h=>?_
 refine(G8 _ _ _ _ h).then λv l a h=>?_
 exact(NK h).then λv l a h=>h
theorem Bq:∀(f:Nat) {n:Nat} (ds:List aC) (l:B) (a:Nat),a+l.length=n→SF n (cZ f ds l a)
 | 0,n,ds,l,a,h=>⟨by simp,Nat.zero_le _⟩
 | f+1,n,ds,l,a,h=>by
  rw[cZ];split
  ·exact h
  split
  ·exact sb h (by simp)
  refine(UO h).then λv l a h=>?_
  simp only;split
  ·rename_i hp;exact(iH (drop_at hp h)).then λl a h=>Bq f _ _ _ h
  exact h
theorem Eu{n:Nat}{l:B}{a:Nat}(h:a+l.length=n):SF n (iY l a):=(iH h).then λl a h=>Bq _ _ _ _ h
theorem Ew:∀(f:Nat) {n:Nat} (ss:List dZ) (l:B) (a:Nat),a+l.length=n→SF n (gB f ss l a)
 | 0,n,ss,l,a,h=>⟨by simp,Nat.zero_le _⟩
 | f+1,n,ss,l,a,h=>by
  rw[gB];split
  ·exact sb h (by simp)
  refine(YB h).then λv l a h=>?_
  simp only;split
  ·rename_i hp;exact(iH (drop_at hp h)).then λl a h=>Ew f _ _ _ h
  exact h
theorem UQ{n:Nat}{md l:B}{a:Nat}(h:a+l.length=n):SF n (kU md l a):=by
 refine(Ew _ _ _ _ h).then λv l a h=>?_
 refine(lT h).then λl a h=>?_
 refine(Eu h).then λv l a h=>?_
 exact(lT h).then λl a h=>h
theorem QB{n:Nat}{l:B}{a:Nat}(h:a+l.length=n):SF n (fO l a):=by
 refine(iH h).then λl1 a1 h1=>?_
 simp only;split
 ·exact sb h1 (by simp)
 refine(nI h1).then λv l a h=>?_
 refine(iH h).then λl a h=>?_
 exact(lT h).then λl a h=>h
theorem qA:∀(f:Nat) {n:Nat} (md:B) (rs:List au) (l:B) (a:Nat),a+l.length=n→SF n (fC f md rs l a)
 | 0,n,md,rs,l,a,h=>⟨by simp,Nat.zero_le _⟩
 | f+1,n,md,rs,l,a,h=>by
  rw[fC];split
  ·exact h
  split
  ·rename_i hp
   rw[Bool.and_eq_true]at hp;refine(QB (drop_at hp.2 h)).then λv l a h=>?_
   refine(iH h).then λl a h=>?_
   refine(qA f _ _ _ _ h).then λv l a h=>?_
   refine(lT h).then λl a h=>?_
   exact(iH h).then λl a h=>qA f _ _ _ _ h
  split
  ·exact sb h (by simp)
  refine(UQ h).then λv l a h=>?_
  exact(iH h).then λl a h=>qA f _ _ _ _ h
theorem vk{s:B}{f:iL}(h:iZ s=.bad f):f.err≠0∧f.pos≤s.length:=by
 unfold iZ at h;split at h
 ·cases h;exact⟨by simp,Nat.zero_le _⟩
 have h1:SF s.length ((cO s 0).then λx=>fC (s.length+1) [] [] x.1 x.2):=(iH (by simp)).then λl a h=>qA _ _ _ _ _ h
 cases hg:cO s 0 with
 | bad g=>rw[hg]at h h1;cases h;exact h1
 | ok x=>
  rw[hg]at h h1;simp only[Ans.aN]at h h1;cases hr:fC (s.length+1) [] [] x.1 x.2 with
  | bad g=>rw[hr]at h h1;cases h;exact h1
  | ok y=>
   rw[hr]at h h1;obtain⟨v,l,a⟩:=y;simp only[Ans.aN]at h;have h2:a+l.length=s.length:=h1;split at h
   ·cases h
   cases h;exact sb h2 (by simp)
theorem kK{s:B}{f:iL}(h:dW s=.bad f):f.err≠0∧f.pos≤s.length:=by
 unfold dW at h;split at h
 ·cases h;exact⟨by simp,Nat.zero_le _⟩
 have h1:SF s.length (iY s 0):=Eu (by simp);cases hr:iY s 0 with
 | bad g=>rw[hr]at h h1;cases h;exact h1
 | ok y=>
  rw[hr]at h h1;obtain⟨v,l,a⟩:=y;simp only[Ans.aN]at h;have h2:a+l.length=s.length:=h1;split at h
  ·cases h
  cases h;exact sb h2 (by simp)
def sub(s:B)(a b:Nat):B:=(s.drop a).take (b-a)
theorem oP(s:B){a b c:Nat}(h1:a≤b)(h2:b≤c):sub s a b++sub s b c=sub s a c:=by
 unfold sub;rw[show c-a=(b-a)+(c-b) from by omega,List.take_add,List.drop_drop,show a+(b-a)=b from by omega]
theorem yt(s:B){a b:Nat}(h1:a≤b)(h2:b≤s.length):(sub s a b).length=b-a:=by
 unfold sub;rw[List.length_take,List.length_drop];omega
theorem yY{s w:B}{a:Nat}(h:w.isPrefixOf (s.drop a)=true):sub s a (a+w.length)=w:=by
 unfold sub;rw[Nat.add_sub_cancel_left];exact(List.prefix_iff_eq_take.1 (List.isPrefixOf_iff_prefix.1 h)).symm
theorem Du{s w:B}{a:Nat}(h:w.isPrefixOf (s.drop a)=true)(hw:w≠[]):a+w.length≤s.length:=by
 have:=(List.isPrefixOf_iff_prefix.1 h).length_le;have:0<w.length:=List.length_pos_iff.2 hw;rw[List.length_drop]at *;omega
def Fine(s:B){α:Type}(Q:α→Prop):Ans α→Prop
 | .bad f=>f.err≠0∧f.pos≤s.length
 | .ok x=>Q x
theorem Fine.then{s:B}{α β:Type}{Q:α→Prop}{R:β→Prop}{r:Ans α}{k:α→Ans β}(h:Fine s Q r)(hk:∀x,Q x→Fine s R (k x)):Fine s R (r.then k):=by
 cases r with
 | bad f=>exact h
 | ok x=>exact hk x h
theorem Fine.mono{s:B}{α:Type}{Q R:α→Prop}{r:Ans α}(h:Fine s Q r)(hk:∀x,Q x→R x):Fine s R r:=by
 cases r with
 | bad f=>exact h
 | ok x=>exact hk x h
theorem KO(s:B)(a:Nat)(ha:a≤s.length):
  Fine s (λx:B×B×Nat=>x.1=sub s a x.2.2∧x.2.2=a+x.1.length∧1≤x.1.length∧x.2.1=s.drop x.2.2∧x.2.2≤s.length) (jO (s.drop a) a):=by
 unfold jO;have h:=gZ (s.drop a);rw[List.length_drop]at h;split
 ·exact⟨by simp,ha⟩
 split
 ·exact⟨by simp,ha⟩
 have e:((s.drop a).take (aJ (s.drop a))).length=aJ (s.drop a):=by rw[List.length_take,List.length_drop];omega
 refine⟨?_,?_,?_,?_,?_⟩
 ·show _=sub s a (a+_);unfold sub;rw[Nat.add_sub_cancel_left]
 ·show _=a+List.length _;rw[e]
 ·show 1≤List.length _;rw[e];omega
 ·show List.drop _ _=_;rw[List.drop_drop]
 show a+_≤_;omega
theorem uO(s w:B)(a:Nat)(ha:a≤s.length)(hw:w≠[]):
  Fine s (λx:B×Nat=>sub s a x.2=w∧x.2=a+w.length∧x.1=s.drop x.2∧x.2≤s.length) (aV w (s.drop a) a):=by
 unfold aV;split
 ·rename_i h
  exact⟨yY h,rfl,by show List.drop _ _=_;rw[List.drop_drop],Du h hw⟩
 exact⟨by simp,ha⟩
def APl(s:B)(lo:Nat)(x:bf):Prop:=
 ∃b c:Nat,x.lo=b∧x.hi=c∧lo≤b∧b≤c∧c≤s.length∧sub s b c=[32]++x.name++[61,34]++x.val++[34]
theorem YC(s:B)(al:List bf)(a:Nat)(h:([32]:B).isPrefixOf (s.drop a)=true):
  Fine s (λx:bf×B×Nat=>APl s a x.1∧x.2.1=s.drop x.2.2∧a≤x.2.2∧x.2.2≤s.length) (pAttr al (s.drop a) a):=by
 have h1:a+1≤s.length:=Du h (by simp);have h2:sub s a (a+1)=[32]:=yY h;unfold pAttr;rw[List.drop_drop];refine(KO s (a+1) h1).then ?_;rintro⟨nm,l2,a2⟩ ⟨hn,ha2,hn1,NM,hl2⟩;dsimp only at *;subst NM;split
 ·exact⟨by simp;split<;>decide,h1⟩
 refine(uO s [61,34] a2 hl2 (by simp)).then ?_;rintro⟨l3,a3⟩ ⟨he,ha3,NM,hl3⟩;dsimp only at *;subst NM;rw[List.drop_drop];have hv:a3+(pVal (s.drop a3)).length≤s.length:=by
  have:=fJ isVal (s.drop a3);rw[List.length_drop]at this;unfold pVal;omega
 refine(uO s [34] _ hv (by simp)).then ?_;rintro⟨l5,a5⟩ ⟨YD,ha5,NM,hl5⟩;dsimp only at *;subst NM;simp only[List.length_cons,List.length_nil]at ha3 ha5;refine⟨⟨a,a5,rfl,rfl,Nat.le_refl _,by omega,hl5,?_⟩,rfl,by show a≤a5;omega,hl5⟩;have hval:sub s a3 (a3+(pVal (s.drop a3)).length)=pVal (s.drop a3):=by
  unfold sub;rw[Nat.add_sub_cancel_left];exact takeWhile_take isVal _
 rw[←oP s (show a≤a3+(pVal (s.drop a3)).length from by omega) (show _≤a5 from by omega),←oP s (show a≤a3 from by omega) (show a3≤a3+(pVal (s.drop a3)).length from by omega),
  ←oP s (show a≤a2 from by omega) (show a2≤a3 from by omega),←oP s (show a≤a+1 from by omega) (show a+1≤a2 from by omega),h2,←hn,he,hval,YD]
theorem G9(s:B)(lo:Nat):∀(f:Nat) (al:List bf) (a:Nat),a≤s.length→lo≤a→(∀x∈al,APl s lo x) →
  Fine s (λx:List bf×B×Nat=>(∀y∈x.1,APl s lo y)∧x.2.1=s.drop x.2.2∧a≤x.2.2∧x.2.2≤s.length) (iW f al (s.drop a) a)
 | 0,_,_,_,_,_=>⟨by simp,Nat.zero_le _⟩
 | f+1,al,a,ha,hlo,h=>by
  unfold iW;split
  ·rename_i hp
   refine(YC s al a hp).then ?_;rintro⟨x,l',a'⟩ ⟨hx,NM,h1,h2⟩;dsimp only at *;subst NM;refine(G9 s lo f (al++[x]) a' h2 (by omega) ?_).mono ?_
   ·intro y hy;rcases List.mem_append.1 hy with hy | hy
    ·exact h y hy
    rw[List.mem_singleton]at hy;subst hy;obtain⟨b,c,e1,e2,e3,rest⟩:=hx;exact⟨b,c,e1,e2,by omega,rest⟩
   rintro⟨al2,l2,a2⟩ ⟨q1,q2,q3,q4⟩;exact⟨q1,q2,by dsimp only at *;omega,q4⟩
  exact⟨h,rfl,Nat.le_refl _,ha⟩
def aeY(s:B)(n:ak):Prop:=
 ∃e:Nat,n.bG=e∧e≤s.length∧n.name.length+1≤e∧sub s (e-n.name.length-1) e=[60]++n.name∧∀x∈n.attrs,APl s e x
def af2(s:B)(n:ak):Prop:=∃p q:Nat,n.qE=p∧n.inT=q∧p≤q∧q≤s.length
def NPl(s:B)(i:Nat)(n:ak):Prop := -1≤n.parent∧n.parent<i∧aeY s n∧af2 s n
theorem YE(s:B)(parent:Int)(deep count a:Nat)(ha:a≤s.length):
  Fine s (λx:ak×B×Nat=>x.1.parent=parent∧x.1.qE=0∧x.1.inT=0∧aeY s x.1∧x.2.1=s.drop x.2.2∧a≤x.2.2∧x.2.2≤s.length) (o9 parent deep count (s.drop a) a):=by
 unfold o9;split
 ·exact⟨by simp,ha⟩
 split
 ·exact⟨by simp,ha⟩
 refine(uO s [60] a ha (by simp)).then ?_;rintro⟨l1,a1⟩ ⟨h1,h2,NM,h3⟩;dsimp only at *;subst NM;simp only[List.length_cons,List.length_nil]at h2;refine(KO s a1 h3).then ?_;rintro⟨nm,l2,a2⟩ ⟨hn,ha2,hn1,NM,hl2⟩;dsimp only at *;subst NM;refine(G9 s a2 _ [] a2 hl2 (Nat.le_refl _) (λx hx=>by cases hx)).then ?_;rintro⟨al,l3,a3⟩ ⟨g1,NM,g2,g3⟩;dsimp only at *;subst NM;refine(uO s [62] a3 g3 (by simp)).then ?_;rintro⟨l4,a4⟩ ⟨k1,k2,NM,k3⟩;dsimp only at *;subst NM;simp only[List.length_cons,List.length_nil]at k2;refine⟨rfl,rfl,rfl,⟨a2,rfl,hl2,by show nm.length+1≤a2;omega,?_,g1⟩,rfl,by show a≤a4;omega,k3⟩;show sub s (a2-nm.length-1) a2=[60]++nm
 rw[show a2-nm.length-1=a from by omega,←oP s (show a≤a1 from by omega) (show a1≤a2 from by omega),h1,←hn]
def sW(s:B)(ns:List ak):Prop:=∀i n,ns[i]?=some n→NPl s i n
def After(s:B)(a:Nat)(ns:List ak)(x:List ak×B×Nat):Prop:=sW s x.1∧ns.length≤x.1.length∧a≤x.2.2∧x.2.2≤s.length∧x.2.1=s.drop x.2.2
theorem sW.push{s:B}{ns:List ak}{n:ak}(h:sW s ns)(hn:NPl s ns.length n):sW s (ns++[n]):=by
 intro i m hm;by_cases hi:i<ns.length
 ·rw[List.getElem?_append_left hi]at hm;exact h i m hm
 have hi2:=(List.getElem?_eq_some_iff.1 hm).1;simp at hi2;have:i=ns.length:=by omega
 subst this;simp at hm;subst hm;exact hn
theorem YF(s:B)(items:Int→Nat→List ak→B→Nat→Ans (List ak×B×Nat))
  (hit:∀(parent:Int) (deep:Nat) (ns:List ak) (a:Nat),-1≤parent→parent<ns.length→sW s ns→a≤s.length→Fine s (After s a ns) (items parent deep ns (s.drop a) a))
  (parent:Int) (deep:Nat) (ns:List ak) (a:Nat) (hp : -1≤parent) (hp2:parent<ns.length) (hns:sW s ns) (ha:a≤s.length) :
  Fine s (After s a ns) (kT items parent deep ns (s.drop a) a):=by
 unfold kT;refine(YE s parent deep ns.length a ha).then ?_;rintro⟨n,l1,a1⟩ ⟨h1,h2,h3,h4,NM,h6,h7⟩;dsimp only at *;subst NM;have hin:Fine s (After s a1 (ns++[n])) (jq items deep ns n (s.drop a1) a1):=by
  unfold jq;split
  ·cases hf:bg jY (s.drop a1)with
   | none=>exact⟨by simp,by simp;omega⟩
   | some e=>
    have:=gY _ _ _ hf;rw[List.length_drop]at this;refine⟨hns.push ⟨by rw[←h1]at hp;exact hp,by rw[←h1]at hp2;exact hp2,h4,⟨a1,a1+e,rfl,rfl,by omega,by omega⟩⟩,by simp,by show a1≤a1+e;omega,by show a1+e≤_;omega,by show List.drop _ _=_;rw[List.drop_drop]⟩
  refine hit _ _ _ _ (by omega) (by simp;omega) (hns.push ⟨by rw[h1];exact hp,by rw[h1];exact hp2,h4,⟨0,0,h2,h3,Nat.le_refl _,Nat.zero_le _⟩⟩) h7
 refine hin.then ?_;rintro⟨ns2,l2,a2⟩ ⟨g1,g2,g3,g4,g5⟩;dsimp only at *;subst g5;refine(uO s _ a2 g4 (by simp)).then ?_;rintro⟨l3,a3⟩ ⟨k1,k2,NM,k4⟩;dsimp only at *;subst NM;simp only[List.length_append,List.length_cons,List.length_nil]at g2;exact⟨g1,by show ns.length≤ns2.length;omega,by show a≤a3;omega,k4,rfl⟩
theorem vM(s:B):∀(f:Nat) (parent:Int) (deep:Nat) (ns:List ak) (a:Nat),-1≤parent→parent<ns.length→sW s ns→a≤s.length →
  Fine s (After s a ns) (dU f parent deep ns (s.drop a) a)
 | 0,_,_,_,_,_,_,_,_=>⟨by simp,Nat.zero_le _⟩
 | f+1,parent,deep,ns,a,hp,hp2,hns,ha=>by
  have stop:After s a ns (ns,s.drop a,a):=⟨hns,Nat.le_refl _,Nat.le_refl _,ha,rfl⟩;by_cases hlt:a<s.length
  ·have step:∀a',a≤a'→a'≤s.length→Fine s (After s a ns) (dU f parent deep ns (s.drop a') a'):=λa' h1 h2=>
    (vM s f parent deep ns a' hp hp2 hns h2).mono λx hx=>⟨hx.1,hx.2.1,Nat.le_trans h1 hx.2.2.1,hx.2.2.2⟩
   have e:=List.drop_eq_getElem_cons hlt;have el:(s[a]::s.drop (a+1)).length=s.length-a:=by rw[←e];exact List.length_drop
   have ed:∀k,(s[a]::s.drop (a+1)).drop k=s.drop (a+k):=λk=>by rw[←e,List.drop_drop]
   rw[e,dU,el,show a+(s.length-a)=s.length from by omega];simp only[ed];split
   ·rw[←e];exact stop
   split
   ·rename_i hnb
    rw[←e]at hnb;have h4:=Du hnb (by simp[cu]);cases hf:bg dS (s.drop (a+4))with
    | none=>exact⟨by simp,by simp⟩
    | some k=>
     have:=gY _ _ _ hf;rw[List.length_drop]at this;have hl3:dS.length=3:=rfl;have hl4:cu.length=4:=rfl;exact step _ (by omega) (by omega)
   split
   ·rw[←e];refine(YF s (dU f) (λp d n b x1 x2 x3 x4=>vM s f p d n b x1 x2 x3 x4) parent deep ns a hp hp2 hns ha).then ?_;rintro⟨ns2,l2,a2⟩ ⟨g1,g2,g3,g4,g5⟩;dsimp only at *;subst g5;exact(vM s f parent deep ns2 a2 hp (by omega) g1 g4).mono λx hx=>⟨hx.1,Nat.le_trans g2 hx.2.1,Nat.le_trans g3 hx.2.2.1,hx.2.2.2⟩
   split
   ·exact step _ (by omega) (by omega)
   exact⟨by simp,by simp;omega⟩
  have e0:s.drop a=[]:=List.drop_of_length_le (by omega);rw[e0]at stop ⊢;rw[dU];exact stop
theorem He(s:B):Fine s (sW s) (lq s):=by
 unfold lq;split
 ·exact⟨by simp,Nat.zero_le _⟩
 have:=vM s (s.length+1) (-1) 1 [] 0 (by omega) (by simp) (λi n h=>by simp at h) (Nat.zero_le _);rw[List.drop_zero]at this;refine this.then ?_;rintro⟨ns,l,a⟩ ⟨h1,h2,h3,h4,h5⟩;dsimp only at *;split
 ·exact h1
 exact⟨by simp,by simpa using h4⟩
def au.shift(d:Nat)(r:au):au := { r with lo:=r.lo+d,hi:=r.hi+d }
def Placed(s:B):Nat→List au→Prop
 | _,[]=>True
 | e,r::rs=>∃lo hi:Nat,r.lo=(lo:Int)∧r.hi=(hi:Int)∧e≤lo∧lo<hi∧hi≤s.length∧GV (sub s lo hi) r.aZ r.decls∧Placed s hi rs
theorem Placed.early{s:B}{e e':Nat}{rs:List au}(h:Placed s e rs)(he:e'≤e):Placed s e' rs:=by
 cases rs with
 | nil=>trivial
 | cons r rs=>
  obtain⟨lo,hi,h1,h2,h3,h4,h5,h6,h7⟩:=h;exact⟨lo,hi,h1,h2,Nat.le_trans he h3,h4,h5,h6,h7⟩
theorem NP(p t q:B):sub (p++(t++q)) p.length (p.length+t.length)=t:=by
 unfold sub;rw[List.drop_left,Nat.add_sub_cancel_left,List.take_left]
theorem yu(s:B)(md:B)(more:List au):∀(xs:List CJ) (p q:B),(∀x∈xs,x.wf)→s=p++(textIn xs++q)→Placed s (p.length+(textIn xs).length) more→Placed s p.length (mg md p.length xs++more)
 | [],p,q,_,_,hm=>by simpa [textIn,mg] using hm
 | .gap g::xs,p,q,hw,hs,hm=>by
  have:=yu s md more xs (p++g) q (λx hx=>hw x (by simp[hx])) (by rw[hs];simp[textIn,CJ.text]) (by simpa [textIn,CJ.text,Nat.add_assoc] using hm);simp only[mg];rw[List.length_append]at this;exact this.early (by omega)
 | .rule t ss ds::xs,p,q,hw,hs,hm=>by
  have:=yu s md more xs (p++t) q (λx hx=>hw x (by simp[hx])) (by rw[hs];simp[textIn,CJ.text]) (by simpa [textIn,CJ.text,Nat.add_assoc] using hm);have hr:GV t ss ds:=hw (.rule t ss ds) (by simp);have hp:0<t.length:=by obtain⟨c,u,rfl,_⟩:=hr.head;simp
  rw[List.length_append]at this;have e:s=p++(t++(textIn xs++q)):=by rw[hs];simp[textIn,CJ.text]
  refine⟨p.length,p.length+t.length,rfl,rfl,Nat.le_refl _,by omega,by rw[e];simp,?_,this⟩;rw[e,NP];exact hr
theorem Dv(s:B):∀(xs:List It) (p:B),(∀x∈xs,x.wf)→s=p++mJ xs→Placed s p.length (o7 p.length xs)
 | [],p,_,_=>trivial
 | .plain x::xs,p,hw,hs=>by
  have:=Dv s xs (p++x.text) (λy hy=>hw y (by simp[hy])) (by rw[hs];simp[mJ,It.text]);rw[List.length_append]at this;exact yu s [] _ [x] p (mJ xs) (λy hy=>by simp at hy;subst hy;exact hw (.plain _) (by simp)) (by rw[hs];simp[mJ,It.text,textIn]) (by simpa [textIn] using this)
 | .ay nm h ys::xs,p,hw,hs=>by
  have:=Dv s xs (p++(It.ay nm h ys).text) (λy hy=>hw y (by simp[hy])) (by rw[hs];simp[mJ]);rw[List.length_append]at this;have h6:fF.length=6:=rfl;have hin:=yu s nm (o7 (p.length+(It.ay nm h ys).text.length) xs) ys (p++(fF++h)) ([125]++mJ xs) (hw (.ay nm h ys) (by simp)).2 (by rw[hs];simp[mJ,It.text])
   (this.early (by simp[It.text,h6];omega))
  rw[show(p++(fF++h)).length=p.length+6+h.length from by simp[h6];omega]at hin;exact hin.early (by omega)
theorem mD{s:B}{rs:List au}(h:iZ s=.ok rs):Placed s 0 rs:=by
 obtain⟨_,_,xs,hx,rfl,rfl⟩:=KL h;exact Dv _ xs [] hx rfl
def WY(g:B→B)(p:Nat→Bool):Nat→List CJ→List CJ
 | _,[]=>[]
 | i,.gap x::xs=>.gap x::WY g p i xs
 | i,.rule t ss ds::xs=>(if p i then .gap (g t) else .rule t ss ds)::WY g p (i+1) xs
def nIn:List CJ→Nat
 | []=>0
 | .gap _::xs=>nIn xs
 | .rule _ _ _::xs=>nIn xs+1
def aeZ(g:B→B)(p:Nat→Bool):Nat→List It→List It
 | _,[]=>[]
 | i,.plain x::xs=>(WY g p i [x]).map .plain++aeZ g p (i+nIn [x]) xs
 | i,.ay nm h ys::xs=>.ay nm h (WY g p i ys)::aeZ g p (i+nIn ys) xs
def uP{α:Type}(p:Nat→Bool):Nat→List α→List α
 | _,[]=>[]
 | i,r::rs=>if p i then uP p (i+1) rs else r::uP p (i+1) rs
theorem Dw{α:Type}(p:Nat→Bool):∀(xs ys:List α) (i:Nat),uP p i (xs++ys)=uP p i xs++uP p (i+xs.length) ys
 | [],ys,i=>rfl
 | x::xs,ys,i=>by
  simp only[List.cons_append,uP,Dw p xs ys,List.length_cons];rw[show i+1+xs.length=i+(xs.length+1) from by omega];split<;>rfl
def Still{α:Type}(g:B→B)(f:au→α)(b b':Nat):Prop:=
 (∀r lo hi,f { r with lo:=lo,hi:=hi }=f r)∨((∀t,(g t).length=t.length)∧b=b')
theorem Still.add{α:Type}{g:B→B}{f:au→α}{b b':Nat}(h:Still g f b b')(n:Nat):Still g f (b+n) (b'+n):=by
 rcases h with h | ⟨h,rfl⟩
 ·exact .inl h
 exact .inr ⟨h,rfl⟩
theorem Still.more{α:Type}{g:B→B}{f:au→α}{b b':Nat}(h:Still g f b b'){c c':Nat}(hc:(∀t,(g t).length=t.length)→b=b'→c=c'):Still g f c c':=by
 rcases h with h | ⟨h,rfl⟩
 ·exact .inl h
 exact .inr ⟨h,hc h rfl⟩
theorem Still.same{α:Type}{g:B→B}{f:au→α}{b b':Nat}(h:Still g f b b')(md:B)(ss:List dZ)(ds:List aC)(n:Nat):
  f ⟨md,ss,ds,(b:Int),((b+n:Nat):Int)⟩=f ⟨md,ss,ds,(b':Int),((b'+n:Nat):Int)⟩:=by
 rcases h with h | ⟨h,rfl⟩
 ·exact h ⟨md,ss,ds,(b':Int),((b'+n:Nat):Int)⟩ _ _
 rfl
def splice(g:B→B)(p:Nat→Bool)(s:B):Nat→Nat→List au→B
 | _,at_,[]=>s.drop at_
 | i,at_,r::rs=>if p i then sub s at_ r.lo.toNat++g (sub s r.lo.toNat r.hi.toNat)++splice g p s (i+1) r.hi.toNat rs else splice g p s (i+1) at_ rs
theorem WZ(s:B)(a:Nat):sub s a a=[]:=by simp[sub]
theorem abj{s:B}{a m:Nat}(h:a≤m):sub s a m++s.drop m=s.drop a:=by
 unfold sub;have:s.drop m=(s.drop a).drop (m-a):=by rw[List.drop_drop];congr 1;omega
 rw[this,List.take_append_drop]
def splitB:B→List B
 | []=>[[]]
 | c::t=>if c=32 then []::splitB t else match splitB t with
  | []=>[[c]]
  | w::ws=>(c::w)::ws
theorem xR(l:B):splitB l≠[]:=by
 cases l with
 | nil=>simp[splitB]
 | cons c t=>
  simp only[splitB];split
  ·simp
  split<;>simp
def fG:B:=[101,100,103,101]
def ql:B:=[101,100,103,101,45,116,111,112]
def lZ:B:=[101,100,103,101,45,114,105,103,104,116]
def kL:B:=[101,100,103,101,45,98,111,116,116,111,109]
def nU:B:=[101,100,103,101,45,108,101,102,116]
def edges(a b c d:B)(st:Bool):List aC:=[⟨ql,a,st⟩,⟨lZ,b,st⟩,⟨kL,c,st⟩,⟨nU,d,st⟩]
def gu(d:aC):Option (List aC):=
 if d.name=fG then
  match splitB d.val with
  | [a]=>some (edges a a a a d.strong)
  | [a,b]=>some (edges a b a b d.strong)
  | [a,b,c]=>some (edges a b c b d.strong)
  | [a,b,c,e]=>some (edges a b c e d.strong)
  | _=>none
 else some [d]
def fH:List aC→Option (List aC)
 | []=>some []
 | d::ds=>match gu d with
  | none=>none
  | some x=>match fH ds with
   | none=>none
   | some y=>some (x++y)
def KQ:B:=[99,111,108,111,114]
def QC:B:=[102,111,110,116]
def QD:B:=[115,105,122,101]
def YG(n:B):Bool:=n==KQ||n==QC||n==QD
def P6(n:B):B:=
 if n=KQ then [98,108,97,99,107] else if n=QC then [112,108,97,105,110] else if n=QD then [49,48]
 else if n=ql∨n=lZ∨n=kL∨n=nU then [48] else [110,111,110,101]
theorem abk{a b c d:B}{st:Bool}:∀y∈edges a b c d st,y.name≠fG∧y.strong=st:=by
 intro y hy;simp only[edges,List.mem_cons,List.not_mem_nil,or_false]at hy;rcases hy with rfl | rfl | rfl | rfl<;>exact⟨by simp[ql,lZ,kL,nU,fG],rfl⟩
theorem NQ{d:aC}{x:List aC}(h:gu d=some x):∀y∈x,y.name≠fG∧y.strong=d.strong:=by
 unfold gu at h;split at h
 ·split at h
  all_goals first
   | (cases h;exact abk)
   | cases h
 rename_i hn
 cases h;intro y hy;simp at hy;subst hy;exact⟨hn,rfl⟩
theorem Dx:∀ {l x:List aC},fH l=some x→∀y∈x,y.name≠fG
 | [],x,h,y,hy=>by cases h;cases hy
 | d::ds,x,h,y,hy=>by
  simp only[fH]at h;cases h1:gu d with
  | none=>rw[h1]at h;cases h
  | some a=>
   rw[h1]at h;cases h2:fH ds with
   | none=>rw[h2]at h;cases h
   | some b=>
    rw[h2]at h;cases h;rcases List.mem_append.1 hy with hy | hy
    ·exact(NQ h1 y hy).1
    exact Dx h2 y hy
theorem all_cons{d:aC}{ds x:List aC}(h:fH (d::ds)=some x):∃a b,gu d=some a∧fH ds=some b∧x=a++b:=by
 simp only[fH]at h;cases h1:gu d with
 | none=>rw[h1]at h;cases h
 | some a=>
  rw[h1]at h;cases h2:fH ds with
  | none=>rw[h2]at h;cases h
  | some b=>rw[h2]at h;cases h;exact⟨a,b,rfl,rfl,rfl⟩
theorem WC{xs ys:List aC}:fH (xs++ys)=match fH xs with | none=>none | some a=>match fH ys with | none=>none | some b=>some (a++b):=by
 induction xs with
 | nil=>simp only[List.nil_append,fH];cases fH ys<;>rfl
 | cons d ds ih=>
  simp only[List.cons_append,fH];cases gu d with
  | none=>rfl
  | some a=>
   simp only[ih];cases fH ds with
   | none=>rfl
   | some b=>
    cases fH ys with
    | none=>rfl
    | some c=>simp
def KR:List B→B
 | []=>[]
 | [w]=>w
 | w::ws=>w++[32]++KR ws
theorem En{w:B}(h:∀c∈w,c≠32)(r:B):splitB (w++(32::r))=w::splitB r:=by
 induction w with
 | nil=>simp[splitB]
 | cons c w ih=>
  simp only[List.cons_append,splitB];rw[if_neg (h c (by simp)),ih (λx hx=>h x (by simp[hx]))]
theorem Em{w:B}(h:∀c∈w,c≠32):splitB w=[w]:=by
 induction w with
 | nil=>rfl
 | cons c w ih=>
  simp only[splitB];rw[if_neg (h c (by simp)),ih (λx hx=>h x (by simp[hx]))]
theorem Ey:∀ {ws:List B},ws≠[]→(∀w∈ws,∀c∈w,c≠32)→splitB (KR ws)=ws
 | [],h,_=>absurd rfl h
 | [w],_,h=>by simp only[KR];exact Em (h w (by simp))
 | w::x::ws,_,h=>by
  have:=Ey (ws:=x::ws) (by simp) (λy hy=>h y (List.mem_cons_of_mem _ hy));show splitB (w++[32]++KR (x::ws))=_
  rw[List.append_assoc,List.singleton_append,En (h w (by simp)),this]
def className:B:=[99,108,97,115,115]
def idName:B:=[105,100]
def lI(l:List ak)(k:Nat)(n:ak)(t:bQ):Bool:=
 if t.kind=1 then n.name==t.name
 else if t.kind=2 then !t.name.isEmpty&&(splitB (gJ n.attrs className).1).contains t.name
 else if t.kind=3 then (gJ n.attrs idName).2&&(gJ n.attrs idName).1==t.name
 else if t.kind=4 then (gJ n.attrs t.name).2
 else if t.kind=5 then (gJ n.attrs t.name).2&&(gJ n.attrs t.name).1==t.val
 else if t.kind=6 then decide (jJ l (k:Int)<0)
 else false
def uG(l:List ak)(k:Nat)(t:bQ):Bool:=match l[k]? with
 | none=>false
 | some n=>lI l k n t
def mQ(l:List ak)(k:Nat)(p:eP):Bool:=p.tests.all (uG l k)
def parentOf(l:List ak)(k:Nat):Int:=match l[k]? with
 | none => -1
 | some n=>n.parent
def NR(l:List ak):Nat→Nat→List Nat
 | 0,_=>[]
 | f+1,k=>if 0≤parentOf l k∧parentOf l k<(k:Int) then (parentOf l k).toNat::NR l f (parentOf l k).toNat else []
def ups(l:List ak)(k:Nat):List Nat:=NR l k k
def vW(l:List ak)(k:Int):Bool:=decide (0≤k)&&decide (k<(l.length:Int))
def lK(l:List ak)(j:Int)(q:Int→Bool)(k:Nat):Bool:=
 if j=2 then q (parentOf l k) else if j=3 then q (jJ l (k:Int)) else if j=1 then (ups l k).any (λu=>q (u:Int)) else false
def CU(l:List ak):List eP→Int→Bool
 | [],k=>vW l k
 | p::rest,k=>vW l k&&mQ l k.toNat p&&(rest.isEmpty||lK l p.join (CU l rest) k.toNat)
def mV(l:List ak)(k:Int)(s:dZ):Bool := !s.isEmpty&&CU l s.reverse k
structure lX where
 a:Nat
 b:Nat
 c:Nat
 deriving DecidableEq
def oI(x y:lX):Bool:=decide (x.a<y.a)||(decide (x.a=y.a)&&(decide (x.b<y.b)||(decide (x.b=y.b)&&decide (x.c<y.c))))
def jA(w:lX)(t:bQ):lX:=
 if t.kind=3 then ⟨w.a+1,w.b,w.c⟩ else if t.kind=1 then ⟨w.a,w.b,w.c+1⟩ else if t.kind=2∨t.kind=4∨t.kind=5∨t.kind=6 then ⟨w.a,w.b+1,w.c⟩ else w
def FT(w:lX)(p:eP):lX:=p.tests.foldl jA w
def qZ(s:dZ):lX:=s.foldl FT ⟨0,0,0⟩
def jc(l:List ak)(k:Int)(acc:lX×Bool)(s:dZ):lX×Bool:=
 if mV l k s&&(!acc.2||oI acc.1 (qZ s)) then (qZ s,true) else acc
def kD(l:List ak)(k:Int)(aZ:List dZ):lX×Bool:=aZ.foldl (jc l k) (⟨0,0,0⟩,false)
theorem KT(l:List ak):∀(f g k:Nat),k≤f→k≤g→NR l f k=NR l g k
 | 0,g,k,hf,hg=>by
  obtain rfl:k=0:=by omega
  cases g with
  | zero=>rfl
  | succ g=>simp only[NR];rw[if_neg (by omega)]
 | f+1,0,k,hf,hg=>by
  obtain rfl:k=0:=by omega
  simp only[NR];rw[if_neg (by omega)]
 | f+1,g+1,k,hf,hg=>by
  simp only[NR];split
  ·rw[KT l f g _ (by omega) (by omega)]
  rfl
theorem FN(l:List ak)(k:Nat):ups l k=if 0≤parentOf l k∧parentOf l k<(k:Int) then (parentOf l k).toNat::ups l (parentOf l k).toNat else []:=by
 unfold ups;cases k with
 | zero=>simp only[NR];rw[if_neg (by omega)]
 | succ k=>
  simp only[NR];split
  ·rw[KT l k _ _ (by omega) (Nat.le_refl _)]
  rfl
theorem UR{l:List ak}{j:Int}{q r:Int→Bool}{k:Nat}(h:∀x,q x=true→r x=true)(hq:lK l j q k=true):lK l j r k=true:=by
 unfold lK at hq ⊢;split
 ·rename_i hj;rw[if_pos hj]at hq;exact h _ hq
 rename_i h2
 rw[if_neg h2]at hq;split
 ·rename_i hj;rw[if_pos hj]at hq;exact h _ hq
 rename_i h3
 rw[if_neg h3]at hq;split
 ·rename_i hj
  rw[if_pos hj]at hq;rw[List.any_eq_true]at hq ⊢;obtain⟨u,hu,hx⟩:=hq;exact⟨u,hu,h _ hx⟩
 rename_i hj;rw[if_neg hj]at hq;cases hq
theorem QE(l:List ak)(p:eP)(rest:List eP)(k:Int):CU l (p::rest) k=true↔vW l k=true∧mQ l k.toNat p=true∧(rest=[]∨lK l p.join (CU l rest) k.toNat=true):=by
 simp only[CU,Bool.and_eq_true,Bool.or_eq_true,List.isEmpty_iff,and_assoc]
inductive Asks(l:List ak):List eP→List eP→Prop
 | nil:Asks l [] []
 | cons {p q:eP} {ps qs:List eP} (hp:∀k,mQ l k p=true→mQ l k q=true) (hj:∀(f:Int→Bool) (k:Nat),(∀x,f x=true→vW l x=true)→lK l p.join f k=true→lK l q.join f k=true) (hs:Asks l ps qs):Asks l (p::ps) (q::qs)
theorem E5{l:List ak}{ps:List eP}{k:Int}(h:CU l ps k=true):vW l k=true:=by
 cases ps with
 | nil=>exact h
 | cons p ps=>exact((QE l p ps k).1 h).1
theorem Asks.at{l:List ak}{ps qs:List eP}(h:Asks l ps qs):∀k,CU l ps k=true→CU l qs k=true:=by
 induction h with
 | nil=>intro k h;exact h
 | cons hp hj hs ih=>
  intro k hk;rw[QE]at hk ⊢;refine⟨hk.1,hp _ hk.2.1,?_⟩;rcases hk.2.2 with h | h
  ·subst h;cases hs;exact .inl rfl
  exact .inr (hj _ _ (λx hx=>E5 hx) (UR ih h))
theorem Asks.refl(l:List ak):∀ps,Asks l ps ps
 | []=>.nil
 | p::ps=>.cons (λ_ h=>h) (λ_ _ _ h=>h) (Asks.refl l ps)
theorem Asks.app{l:List ak}{ps qs ps' qs':List eP}(h:Asks l ps qs)(h':Asks l ps' qs'):Asks l (ps++ps') (qs++qs'):=by
 induction h with
 | nil=>exact h'
 | cons hp hj hs ih=>exact .cons hp hj ih
theorem Asks.len{l:List ak}{ps qs:List eP}(h:Asks l ps qs):ps.length=qs.length:=by
 induction h with
 | nil=>rfl
 | cons _ _ _ ih=>simp[ih]
def lX.le(x y:lX):Prop:=x.a≤y.a∧x.b≤y.b∧x.c≤y.c
theorem lX.le.trans{x y z:lX}(h:x.le y)(g:y.le z):x.le z:=⟨Nat.le_trans h.1 g.1,Nat.le_trans h.2.1 g.2.1,Nat.le_trans h.2.2 g.2.2⟩
def Right(l:List ak):Prop:=∀(i:Nat) (n:ak),l[i]?=some n→n.parent<(i:Int) ∧ -1≤n.parent
theorem Hf(x:lX):oI x x=false:=by simp[oI]
theorem YH{x y z:lX}(h:oI x y=true)(g:oI y z=true):oI x z=true:=by
 simp[oI]at h g ⊢;omega
theorem YI{x y:lX}(h:oI x y=false)(g:oI y x=false):x=y:=by
 obtain⟨a,b,c⟩:=x;obtain⟨d,e,f⟩:=y;simp[oI]at h g;congr 1<;>omega
theorem CX{x y:lX}(h:oI x y=true):oI y x=false:=by
 cases g:oI y x with
 | false=>rfl
 | true=>have:=YH h g;rw[Hf]at this;cases this
structure UU(l:List ak)(k:Int)(aZ:List dZ)(r:lX×Bool):Prop where
 some_:r.2=true↔∃s∈aZ,mV l k s=true
 zero:r.2=false→r.1=⟨0,0,0⟩
 one:r.2=true→∃s∈aZ,mV l k s=true∧qZ s=r.1
 most:∀s∈aZ,mV l k s=true→oI r.1 (qZ s)=false
theorem UU.unique{l:List ak}{k:Int}{xs ys:List dZ}{r q:lX×Bool}(h:UU l k xs r)(g:UU l k ys q)(hm:∀s,s∈xs↔s∈ys):r=q:=by
 obtain⟨w,b⟩:=r;obtain⟨v,c⟩:=q;have hb:b=c:=by
  have:(b=true)↔(c=true):=by rw[h.some_,g.some_];simp[hm]
  cases b<;>cases c<;>simp_all
 subst hb;congr 1;cases b with
 | false=>exact(h.zero rfl).trans (g.zero rfl).symm
 | true=>
  obtain⟨s,hs,h1,h2⟩:=h.one rfl;obtain⟨t,ht,g1,g2⟩:=g.one rfl;have e1:=h.most t ((hm t).2 ht) g1;have e2:=g.most s ((hm s).1 hs) h1;simp only at h2 g2 e1 e2;rw[g2]at e1;rw[h2]at e2;exact YI e1 e2
end Go.Proofs.YtplbdlgmjehckacGreatDoor


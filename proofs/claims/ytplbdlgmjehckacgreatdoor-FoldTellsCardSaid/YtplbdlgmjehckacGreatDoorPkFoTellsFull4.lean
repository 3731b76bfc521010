/-
 Lemmas for the claims of this seat: the program's functions walked, and plain laws.
-/
import Derived.Test.YtplbdlgmjehckacGreatDoorPkFoTellsFull3
namespace Go.Proofs.YtplbdlgmjehckacGreatDoor
set_option linter.unusedVariables false
set_option linter.unusedSimpArgs false
def dY:Nat→PT→List au
 | _,.nil=>[]
 | p,.text _ n=>dY (p+1) n
 | p,.note x n=>dY (p+(4+x.length+3)) n
 | p,.elem nm al kids n=>dY (p+(aG nm al).length) kids++dY (p+(aG nm al).length+(aU kids).length+(aT nm).length) n
 | p,.style al inner n=>(oG inner).map (au.shift (p+(aG aj al).length))++dY (p+(aG aj al).length+inner.length+(aT aj).length) n
theorem lg:∀(T:PT) (p:Nat),(dY p T).length=jX T
 | .nil,_=>rfl
 | .text _ n,p=>by simp only[dY,jX,lg n]
 | .note _ n,p=>by simp only[dY,jX,lg n]
 | .elem _ _ kids n,p=>by simp only[dY,jX,List.length_append,lg n,lg kids]
 | .style _ _ n,p=>by simp only[dY,jX,List.length_append,List.length_map,lg n]
theorem xK(s:B):∀(xs ys:List ak),bF s (xs++ys)=(bF s xs).then λa=>(bF s ys).then λb=>.ok (a++b)
 | [],ys=>by
  simp only[List.nil_append,bF,Ans.aN];cases bF s ys<;>rfl
 | x::xs,ys=>by
  simp only[List.cons_append,bF];rw[xK s xs ys];split
  ·cases iZ (sub s x.qE.toNat x.inT.toNat)with
   | bad f=>rfl
   | ok rs=>
    simp only;cases bF s xs with
    | bad f=>rfl
    | ok a=>
     simp only[Ans.aN];cases bF s ys with
     | bad f=>rfl
     | ok b=>simp
  rfl
theorem nN{s:B}:∀(T:PT) (d c:Nat) (par:Int) (p q:B),s=p++(aU T++q)→Xk d T →
  (∀rs,bF s (fV par c p.length T)=.ok rs→OO T)∧(OO T→bF s (fV par c p.length T)=.ok (dY p.length T))
 | .nil,d,c,par,p,q,hs,hw=>⟨λ_ _=>trivial,λ_=>rfl⟩
 | .text x n,d,c,par,p,q,hs,hw=>by
  have e2:s=(p++[x])++(aU n++q):=by rw[hs];simp[aU]
  have:=nN n d c par (p++[x]) q e2 hw.2.2;simpa [fV,dY,OO] using this
 | .note x n,d,c,par,p,q,hs,hw=>by
  have e2:s=(p++(cu++(x++dS)))++(aU n++q):=by rw[hs];simp[aU]
  have:=nN n d c par (p++(cu++(x++dS))) q e2 hw.2;have l1:(p++(cu++(x++dS))).length=p.length+(4+x.length+3):=by simp[cu,dS];omega
  rw[l1]at this;simpa only[fV,dY,OO] using this
 | .elem nm al kids n,d,c,par,p,q,hs,hw=>by
  obtain⟨h1,h2,h3,h4,h5,h6⟩:=hw;have e2:s=(p++aG nm al)++(aU kids++(aT nm++(aU n++q))):=by rw[hs];simp[aU]
  have e4:s=(p++aG nm al++aU kids++aT nm)++(aU n++q):=by rw[hs];simp[aU]
  have l2:(p++aG nm al).length=p.length+(aG nm al).length:=by simp
  have l4:(p++aG nm al++aU kids++aT nm).length=p.length+(aG nm al).length+(aU kids).length+(aT nm).length:=by simp;omega
  have k1:=nN kids _ (c+1) (c:Int) _ _ e2 h5;have k2:=nN n _ (c+1+lW kids) par _ _ e4 h6;rw[l2]at k1;rw[l4]at k2;simp only[fV,dY,OO,bF];rw[if_neg h3,xK];refine⟨λrs h=>?_,λho=>?_⟩
  ·obtain⟨a,ha,h⟩:=then_ok h;obtain⟨b,hb,h⟩:=then_ok h;exact⟨k1.1 _ ha,k2.1 _ hb⟩
  rw[k1.2 ho.1,k2.2 ho.2];rfl
 | .style al inner n,d,c,par,p,q,hs,hw=>by
  obtain⟨h1,h4,h5,h6⟩:=hw;have e2:s=(p++aG aj al)++(inner++(aT aj++(aU n++q))):=by rw[hs];simp[aU]
  have e4:s=(p++aG aj al++inner++aT aj)++(aU n++q):=by rw[hs];simp[aU]
  have l2:(p++aG aj al).length=p.length+(aG aj al).length:=by simp
  have l4:(p++aG aj al++inner++aT aj).length=p.length+(aG aj al).length+inner.length+(aT aj).length:=by simp;omega
  have k2:=nN n _ (c+1) par _ _ e4 h6;rw[l4]at k2;have hsub:sub s (p.length+(aG aj al).length) (p.length+(aG aj al).length+inner.length)=inner:=by
   have:=NP (p++aG aj al) inner (aT aj++(aU n++q));rw[←e2,l2]at this;exact this
  simp only[fV,dY,OO,bF];rw[if_pos trivial,Int.toNat_natCast,Int.toNat_natCast,hsub];refine⟨λrs h=>?_,λho=>?_⟩
  ·cases hp:iZ inner with
   | bad f=>rw[hp]at h;cases h
   | ok rs1=>
    rw[hp]at h;obtain⟨a,ha,h⟩:=then_ok h;exact⟨⟨_,rfl⟩,k2.1 _ ha⟩
  obtain⟨⟨rs,hr⟩,ho⟩:=ho;rw[hr,k2.2 ho,oV hr];rfl
def xM(g:Nat→Bool):Nat→Nat→PT→List bT
 | _,_,.nil=>[]
 | i,p,.text _ n=>xM g i (p+1) n
 | i,p,.note x n=>xM g i (p+(4+x.length+3)) n
 | i,p,.elem nm al kids n=>xM g i (p+(aG nm al).length) kids++xM g (i+jX kids) (p+(aG nm al).length+(aU kids).length+(aT nm).length) n
 | i,p,.style al inner n=>pU g (p+(aG aj al).length) i (oG inner)++xM g (i+(oG inner).length) (p+(aG aj al).length+inner.length+(aT aj).length) n
def I5(tx:Nat→B):Nat→Nat→PT→List bT
 | _,_,.nil=>[]
 | c,p,.text _ n=>I5 tx c (p+1) n
 | c,p,.note x n=>I5 tx c (p+(4+x.length+3)) n
 | c,p,.elem nm al kids n=>oU (tx c) (p+1+nm.length) al++(I5 tx (c+1) (p+(aG nm al).length) kids++I5 tx (c+1+lW kids) (p+(aG nm al).length+(aU kids).length+(aT nm).length) n)
 | c,p,.style al inner n=>oU (tx c) (p+1+aj.length) al++I5 tx (c+1) (p+(aG aj al).length+inner.length+(aT aj).length) n
theorem qM(tx:Nat→B)(g:Nat→Bool):∀(T:PT) (c i p:Nat),(jS tx g c i p T).Perm (xM g i p T++I5 tx c p T)
 | .nil,_,_,_=>.refl _
 | .text _ n,c,i,p=>qM tx g n c i _
 | .note _ n,c,i,p=>qM tx g n c i _
 | .elem nm al kids n,c,i,p=>by
  have h1:=qM tx g kids (c+1) i (p+(aG nm al).length);have h2:=qM tx g n (c+1+lW kids) (i+jX kids) (p+(aG nm al).length+(aU kids).length+(aT nm).length);simp only[jS,xM,I5];rw[List.perm_iff_count];intro a;have:=h1.count_eq a;have:=h2.count_eq a;simp only[List.count_append]at *;omega
 | .style al inner n,c,i,p=>by
  have h2:=qM tx g n (c+1) (i+(oG inner).length) (p+(aG aj al).length+inner.length+(aT aj).length);simp only[jS,xM,I5];rw[List.perm_iff_count];intro a;have:=h2.count_eq a;simp only[List.count_append]at *;omega
theorem Si(g:Nat→Bool)(d:Nat){w:B}:∀(rs:List au) (i a:Nat),Placed w a rs→(uP (λi => !g i) i (rs.map (au.shift d))).map dI=pU g d i rs
 | [],_,_,_=>rfl
 | r::rs,i,a,⟨lo,hi,h1,h2,h3,h4,h5,h6,h7⟩=>by
  simp only[List.map_cons,uP,pU];have ih:=Si g d rs (i+1) hi h7;cases g i with
  | true=>
   simp only[Bool.not_true,Bool.false_eq_true,if_false,if_true,List.map_cons,ih];congr 1;simp only[dI,au.shift,h1,h2];congr 1
  | false=>simpa using ih
theorem qN(g:Nat→Bool):∀(T:PT) (i p:Nat),OO T→(uP (λi => !g i) i (dY p T)).map dI=xM g i p T
 | .nil,_,_,_=>rfl
 | .text _ n,i,p,ho=>qN g n i _ ho
 | .note _ n,i,p,ho=>qN g n i _ ho
 | .elem nm al kids n,i,p,ho=>by
  simp only[dY,xM];rw[Dw,List.map_append,qN g kids i _ ho.1,lg,qN g n _ _ ho.2]
 | .style al inner n,i,p,⟨⟨rs,hr⟩,ho⟩=>by
  simp only[dY,xM];rw[Dw,List.map_append,oV hr,Si g _ rs i 0 (mD hr),List.length_map,qN g n _ _ ho]
def goes(st:List Bool)(i:Nat):Bool:=st[i]?==some false
theorem LU:∀(rules:List au) (pre st:List Bool),st.length=rules.length→dQ rules st=uP (λi => !goes (pre++st) i) pre.length rules
 | [],_,_,_=>by cases ‹List Bool› <;> rfl
 | r::rs,pre,[],h=>by simp at h
 | r::rs,pre,b::bs,h=>by
  have ih:=LU rs (pre++[b]) bs (by simpa using h);rw[List.append_assoc,List.singleton_append,List.length_append]at ih;have hg:goes (pre++b::bs) pre.length = !b:=by
   unfold goes;rw[List.getElem?_append_right (Nat.le_refl _),Nat.sub_self];cases b<;>rfl
  simp only[dQ,uP,hg,Bool.not_not];cases b with
  | true=>simpa using ih
  | false=>simpa using ih
theorem Zo{rules:List au}{st:List Bool}(h:st.length=rules.length):dQ rules st=uP (λi => !goes st i) 0 rules:=LU rules [] st h
def nP(tx:Nat→B):Nat→List ak→List bT
 | _,[]=>[]
 | k,n::ns=>(wO n (tx k)).toList++nP tx (k+1) ns
theorem Sj(tx:Nat→B):∀(xs ys:List ak) (k:Nat),nP tx k (xs++ys)=nP tx k xs++nP tx (k+xs.length) ys
 | [],ys,k=>rfl
 | x::xs,ys,k=>by
  simp only[List.cons_append,nP,Sj tx xs ys,List.append_assoc,List.length_cons];rw[show k+1+xs.length=k+(xs.length+1) from by omega]
def yA(p:Int×Int)(a:bf):Int×Int:=if a.name=aj then (a.lo,a.hi) else p
theorem Ol:∀(al:List (B×B)) (q:Nat),fD al=false→gJ (eH q al) aj=([],false)∧∀p,(eH q al).foldl yA p=p
 | [],q,_=>⟨rfl,λ_=>rfl⟩
 | a::al,q,h=>by
  rw[mZ,Bool.or_eq_false_iff]at h;have hne:¬a.1=aj:=by simpa using h.1
  have ih:=Ol al (q+(bY a).length) h.2;refine⟨?_,λp=>?_⟩
  ·unfold gJ at ih ⊢;simp only[eH,List.find?_cons,h.1];exact ih.1
  simp only[eH,List.foldl_cons];rw[show yA p ⟨a.1,a.2,(q:Int),((q+(bY a).length:Nat):Int)⟩=p from if_neg hne];exact ih.2 p
theorem Om(t:B):∀(al:List (B×B)) (q:Nat),fD al=true→(al.map (·.1)).Nodup→∃(v:B) (lo hi:Nat),gJ (eH q al) aj=(v,true)∧(∀p,(eH q al).foldl yA p=((lo:Int),(hi:Int))) ∧
  kR t q al=(if v=t then [] else [⟨lo,hi,if t=[] then [] else gq t⟩])∧(aj,v)∈al
 | [],q,h,_=>by cases h
 | a::al,q,h,hn=>by
  rw[List.map_cons,List.nodup_cons]at hn;by_cases ha:a.1=aj
  ·have hno:fD al=false:=Af (by rw[←ha];exact hn.1);have:=(Ol al (q+(bY a).length) hno).2;refine⟨a.2,q,q+(bY a).length,?_,λp=>?_,?_,by rw[←ha];simp⟩
   ·unfold gJ;simp[eH,List.find?_cons,ha]
   ·simp only[eH,List.foldl_cons];rw[this,show yA p ⟨a.1,a.2,(q:Int),((q+(bY a).length:Nat):Int)⟩=_ from if_pos ha]
   simp only[kR];rw[if_pos ha]
  have h':fD al=true:=by rw[mZ]at h;simpa [ha] using h
  obtain⟨v,lo,hi,h1,h2,h3,h4⟩:=Om t al (q+(bY a).length) h' hn.2;refine⟨v,lo,hi,?_,λp=>?_,?_,by simp[h4]⟩
  ·unfold gJ at h1 ⊢;have hb:(a.1==aj)=false:=by simpa using ha
   simp only[eH,List.find?_cons,hb];exact h1
  ·simp only[eH,List.foldl_cons];exact h2 _
  simp only[kR];rw[if_neg ha];exact h3
theorem I7(t:B){al:List (B×B)}(hn:(al.map (·.1)).Nodup)(nm:B)(par:Int)(q:Nat)(a b:Int):(wO ⟨nm,par,eH q al,(q:Int),a,b⟩ t).toList=oU t q al:=by
 unfold wO oU P7;show(if (gJ (eH q al) aj).2=true∧(gJ (eH q al) aj).1=t∨(gJ (eH q al) aj).2=false∧t=[] then none
  else some (⟨((eH q al).foldl yA ((q:Int),(q:Int))).1.toNat,((eH q al).foldl yA ((q:Int),(q:Int))).2.toNat,if t=[] then [] else gq t⟩:bT)).toList=_
 cases h:fD al with
 | false=>
  obtain⟨h1,h2⟩:=Ol al q h;rw[h1,h2];simp only[Bool.false_eq_true,false_and,true_and,false_or,if_false,Int.toNat_natCast];split
  ·rfl
  rfl
 | true=>
  obtain⟨v,lo,hi,h1,h2,h3,_⟩:=Om t al q h hn;rw[h1,h2,h3];simp only[true_and,Bool.true_eq_false,false_and,or_false,if_true,Int.toNat_natCast];split
  ·rfl
  rfl
theorem uT(tx:Nat→B):∀(T:PT) (d c p:Nat) (par:Int),Xk d T→nP tx c (fV par c p T)=I5 tx c p T
 | .nil,_,_,_,_,_=>rfl
 | .text _ n,d,c,p,par,hw=>uT tx n d c _ par hw.2.2
 | .note _ n,d,c,p,par,hw=>uT tx n d c _ par hw.2
 | .elem nm al kids n,d,c,p,par,hw=>by
  obtain⟨h1,h2,h3,h4,h5,h6⟩:=hw;simp only[fV,nP,I5];rw[I7 _ h4.apart,Sj,uT tx kids _ _ _ _ h5,kQ,uT tx n _ _ _ _ h6]
 | .style al inner n,d,c,p,par,hw=>by
  obtain⟨h1,h4,h5,h6⟩:=hw;simp only[fV,nP,I5];rw[I7 _ h4.apart,uT tx n _ _ _ _ h6]
theorem DU{l:List ak}{gone:List au}:∀ {ns:List ak} {k:Nat} {es:List bT},fE l gone k ns=.ok es →
  es=nP (λk=>(aQ l k gone).1) k ns∧∀j n,ns[j]?=some n→(aQ l (k+j) gone).2=true∧¬((gJ n.attrs aj).2=false∧n.attrs.length=8∧(aQ l (k+j) gone).1≠[])
 | [],k,es,h=>by cases h;exact⟨rfl,λj n hn=>by simp at hn⟩
 | n::ns,k,es,h=>by
  simp only[fE]at h;split at h
  ·cases h
  rename_i hc
  obtain⟨fs,hf,h⟩:=then_ok h;cases h;obtain⟨rfl,ih⟩:=DU hf;rw[not_or]at hc;refine⟨rfl,λj m hm=>?_⟩;cases j with
  | zero=>
   simp only[List.getElem?_cons_zero,Option.some.injEq]at hm;subst hm;exact⟨by simpa using hc.1,hc.2⟩
  | succ j=>
   have:=ih j m (by simpa using hm);rw[show k+1+j=k+(j+1) from by omega]at this;exact this
theorem fZ.app{b:Nat}:∀ {xs ys:List bT},fZ xs→fZ ys→(∀x∈xs,x.lo<b)→(∀y∈ys,b≤y.lo)→fZ (xs++ys)
 | [],ys,_,hy,_,_=>hy
 | x::xs,ys,.cons h1 h2,hy,hx,hb=>by
  refine .cons (λy hm=>?_) (fZ.app h2 hy (λz hz=>hx z (by simp[hz])) hb);rcases List.mem_append.1 hm with hm | hm
  ·exact h1 y hm
  have:=hx x (by simp);have:=hb y hm;omega
theorem fZ.one(e:bT):fZ [e]:=.cons (by simp) .nil
theorem Aj(t:B):∀(al:List (B×B)) (q:Nat),fZ (kR t q al)∧∀e∈kR t q al,q≤e.lo∧e.lo<q+(bD al).length
 | [],q=>⟨.nil,by simp[kR]⟩
 | a::al,q=>by
  have hpos:=BO a;simp only[kR];split
  ·split
   ·exact⟨.nil,by simp⟩
   refine⟨.one _,λe he=>?_⟩;simp at he;subst he;simp[bD];omega
  have:=Aj t al (q+(bY a).length);refine⟨this.1,λe he=>?_⟩;have:=this.2 e he;simp[bD];omega
theorem LV(t:B)(al:List (B×B))(q:Nat):fZ (oU t q al)∧∀e∈oU t q al,q≤e.lo∧e.lo<q+(bD al).length+1:=by
 unfold oU;split
 ·refine⟨(Aj t al q).1,λe he=>?_⟩;have:=(Aj t al q).2 e he;omega
 split
 ·exact⟨.nil,by simp⟩
 refine⟨.one _,λe he=>?_⟩;simp at he;subst he;simp;omega
theorem LW(g:Nat→Bool)(d:Nat){w:B}:∀(rs:List au) (i a:Nat),Placed w a rs→fZ (pU g d i rs)∧∀e∈pU g d i rs,d+a≤e.lo∧e.lo<d+w.length
 | [],_,_,_=>⟨.nil,by simp[pU]⟩
 | r::rs,i,a,⟨lo,hi,h1,h2,h3,h4,h5,h6,h7⟩=>by
  have ih:=LW g d rs (i+1) hi h7;simp only[pU];split
  ·refine⟨.cons (λy hy=>?_) ih.1,λe he=>?_⟩
   ·have:=ih.2 y hy;simp only[h1,Int.toNat_natCast];omega
   rcases List.mem_cons.1 he with rfl | he
   ·simp only[h1,Int.toNat_natCast];omega
   have:=ih.2 e he;omega
  refine⟨ih.1,λe he=>?_⟩;have:=ih.2 e he;omega
theorem qO(tx:Nat→B)(g:Nat→Bool):∀(T:PT) (c i p:Nat),OO T→fZ (jS tx g c i p T)∧∀e∈jS tx g c i p T,p≤e.lo∧e.lo<p+(aU T).length
 | .nil,_,_,_,_=>⟨.nil,by simp[jS]⟩
 | .text _ n,c,i,p,ho=>by
  have:=qO tx g n c i (p+1) ho;refine⟨this.1,λe he=>?_⟩;have:=this.2 e he;simp[aU];omega
 | .note x n,c,i,p,ho=>by
  have:=qO tx g n c i (p+(4+x.length+3)) ho;refine⟨this.1,λe he=>?_⟩;have:=this.2 e he;simp[aU,cu,dS];omega
 | .elem nm al kids n,c,i,p,ho=>by
  have k1:=LV (tx c) al (p+1+nm.length);have k2:=qO tx g kids (c+1) i (p+(aG nm al).length) ho.1;have k3:=qO tx g n (c+1+lW kids) (i+jX kids) (p+(aG nm al).length+(aU kids).length+(aT nm).length) ho.2;have lo:(aG nm al).length=1+nm.length+(bD al).length+1:=by simp[aG];omega
  have lt:(aU (.elem nm al kids n)).length=(aG nm al).length+(aU kids).length+(aT nm).length+(aU n).length:=by simp[aU];omega
  simp only[jS];refine⟨fZ.app (b:=p+(aG nm al).length) k1.1 (fZ.app (b:=p+(aG nm al).length+(aU kids).length) k2.1 k3.1 (λe he=>(k2.2 e he).2) (λe he=>by have:=(k3.2 e he).1;omega)) (λe he=>by have:=(k1.2 e he).2;omega) (λe he=>?_),λe he=>?_⟩
  ·rcases List.mem_append.1 he with he | he
   ·exact(k2.2 e he).1
   have:=(k3.2 e he).1;omega
  rcases List.mem_append.1 he with he | he
  ·have:=k1.2 e he;omega
  rcases List.mem_append.1 he with he | he
  ·have:=k2.2 e he;omega
  have:=k3.2 e he;omega
 | .style al inner n,c,i,p,⟨⟨rs,hr⟩,ho⟩=>by
  have k1:=LV (tx c) al (p+1+aj.length);have k2:=LW g (p+(aG aj al).length) rs i 0 (mD hr);have k3:=qO tx g n (c+1) (i+rs.length) (p+(aG aj al).length+inner.length+(aT aj).length) ho;have lo:(aG aj al).length=1+aj.length+(bD al).length+1:=by simp[aG];omega
  have lt:(aU (.style al inner n)).length=(aG aj al).length+inner.length+(aT aj).length+(aU n).length:=by simp[aU];omega
  simp only[jS,oV hr];refine⟨fZ.app (b:=p+(aG aj al).length) k1.1 (fZ.app (b:=p+(aG aj al).length+inner.length) k2.1 k3.1 (λe he=>(k2.2 e he).2) (λe he=>by have:=(k3.2 e he).1;omega)) (λe he=>by have:=(k1.2 e he).2;omega) (λe he=>?_),λe he=>?_⟩
  ·rcases List.mem_append.1 he with he | he
   ·have:=(k2.2 e he).1;omega
   have:=(k3.2 e he).1;omega
  rcases List.mem_append.1 he with he | he
  ·have:=k1.2 e he;omega
  rcases List.mem_append.1 he with he | he
  ·have:=k2.2 e he;omega
  have:=k3.2 e he;omega
structure Ak(s:B)(l:List ak)(rules:List au)(T:PT):Prop where
 len:s.length≤6000
 wf:Xk 1 T
 ok:OO T
 few:lW T≤120
 text:s=aU T
 nodes:l=fV (-1) 0 0 T
 Oo:rules=dY 0 T
 most:rules.length≤60
 plain:mY rules=none
 own:rY l=none
theorem Xl{s:B}{l:List ak}{rules:List au}(h:rP s=.ok (l,rules)):∃T,Ak s l rules T:=by
 unfold rP at h;obtain⟨l1,h1,h⟩:=then_ok h;obtain⟨rs,h2,h⟩:=then_ok h;obtain⟨hl,T,t1,t2,t3,t4⟩:=Rz h1;split at h
 ·cases h
 rename_i hn
 cases h3:mY rs with
 | some f=>rw[h3]at h;cases h
 | none=>
  cases h4:rY l1 with
  | some f=>rw[h3,h4]at h;cases h
  | none=>
   rw[h3,h4]at h;cases h;have hk:=nN (s:=s) T 1 0 (-1) [] [] (by simpa using t3) t1;rw[List.length_nil,←t4]at hk;have ho:=hk.1 _ h2;have:=hk.2 ho;rw[h2]at this;cases this;exact⟨T,hl,t1,ho,t2,t3,t4,rfl,by omega,h3,h4⟩
def DV(t:bQ):Prop:=(t.kind=4∨t.kind=5)→t.name≠aj
def agR(p:eP):Prop:=∀t∈p.tests,DV t
def I8(s:dZ):Prop:=∀p∈s,agR p
theorem Sl{l l':B}{a a':Nat}{t:bQ}(h:iF l a=.ok (t,l',a')):DV t:=by
 unfold iF at h;obtain⟨⟨nm,l1,a1⟩,h1,h⟩:=then_ok h;simp only at h;split at h
 ·cases h
 rename_i hn
 split at h
 ·obtain⟨⟨v,l2,a2⟩,h2,h⟩:=then_ok h;obtain⟨⟨l3,a3⟩,h3,h⟩:=then_ok h;cases h;exact λ_=>hn
 obtain⟨⟨l3,a3⟩,h3,h⟩:=then_ok h;cases h;exact λ_=>hn
theorem aer{l l':B}{a a':Nat}{t:bQ}(h:iI l a=.ok (some t,l',a')):DV t:=by
 unfold iI at h;split at h
 ·obtain⟨⟨nm,l1,a1⟩,h1,h⟩:=then_ok h;cases h;intro hk;simp at hk
 split at h
 ·obtain⟨⟨nm,l1,a1⟩,h1,h⟩:=then_ok h;cases h;intro hk;simp at hk
 split at h
 ·cases h;intro hk;simp at hk
 split at h
 ·obtain⟨⟨t1,l1,a1⟩,h1,h⟩:=then_ok h;cases h;exact Sl h1
 cases h
theorem Zp:∀(f:Nat) (ts:List bQ) (q:Bool) (l:B) (a:Nat) (v:List bQ) (l':B) (a':Nat),(∀t∈ts,DV t)→dF f ts q l a=.ok (v,l',a')→∀t∈v,DV t:=by
 intro f
 induction f with
 | zero=>intro ts q l a v l' a' _ h;cases h
 | succ f ih=>
  intro ts q l a v l' a' ht h;rw[dF]at h;obtain⟨⟨x,l1,a1⟩,h1,h⟩:=then_ok h;cases x with
  | none=>
   simp only at h;split at h
   ·cases h;exact ht
   cases h
  | some x=>
   simp only at h;split at h
   ·cases h
   refine ih _ _ _ _ _ _ _ ?_ h;intro t hm;rcases List.mem_append.1 hm with hm | hm
   ·exact ht t hm
   simp at hm;subst hm;exact aer h1
theorem Sm{l l':B}{a a':Nat}{v:List bQ}(h:eU l a=.ok (v,l',a')):∀t∈v,DV t:=by
 unfold eU at h;obtain⟨⟨ts,q,l1,a1⟩,h1,h⟩:=then_ok h;refine Zp _ _ _ _ _ _ _ _ ?_ h;unfold uw at h1;split at h1
 ·cases h1;simp
 split at h1
 ·cases h1;simp
 obtain⟨⟨nm,l2,a2⟩,h2,h1⟩:=then_ok h1;cases h1;intro t ht;simp at ht;subst ht;intro hk;simp at hk
theorem aes:∀(f:Nat) (ps:List eP) (l:B) (a:Nat) (v:dZ) (l':B) (a':Nat),I8 ps→jZ f ps l a=.ok (v,l',a')→I8 v:=by
 intro f
 induction f with
 | zero=>intro ps l a v l' a' _ h;cases h
 | succ f ih=>
  intro ps l a v l' a' ht h;rw[jZ]at h;obtain⟨⟨j,l1,a1⟩,h1,h⟩:=then_ok h;cases j with
  | none=>simp only at h;cases h;exact ht
  | some j=>
   simp only at h;split at h
   ·cases h
   obtain⟨⟨ts,l2,a2⟩,h2,h⟩:=then_ok h;refine ih _ _ _ _ _ _ ?_ h;intro p hp;rcases List.mem_append.1 hp with hp | hp
   ·exact ht p hp
   simp at hp;subst hp;exact Sm h2
theorem agS{l l':B}{a a':Nat}{v:dZ}(h:pq l a=.ok (v,l',a')):I8 v:=by
 unfold pq at h;obtain⟨⟨ts,l1,a1⟩,h1,h⟩:=then_ok h;refine aes _ _ _ _ _ _ _ ?_ h;intro p hp;simp at hp;subst hp;exact Sm h1
theorem acj:∀(f:Nat) (ss:List dZ) (l:B) (a:Nat) (v:List dZ) (l':B) (a':Nat),(∀s∈ss,I8 s)→gB f ss l a=.ok (v,l',a')→∀s∈v,I8 s:=by
 intro f
 induction f with
 | zero=>intro ss l a v l' a' _ h;cases h
 | succ f ih=>
  intro ss l a v l' a' hs h;rw[gB]at h;split at h
  ·cases h
  obtain⟨⟨x,l1,a1⟩,h1,h⟩:=then_ok h;have hx:∀s∈ss++[x],I8 s:=by
   intro s hm;rcases List.mem_append.1 hm with hm | hm
   ·exact hs s hm
   simp at hm;subst hm;exact agS h1
  simp only at h;split at h
  ·obtain⟨⟨l2,a2⟩,h2,h⟩:=then_ok h;exact ih _ _ _ _ _ _ hx h
  cases h;exact hx
structure Am(r:au):Prop where
 aZ:∀s∈r.aZ,I8 s
 decls:∀d∈r.decls,jK d
theorem acn{t:B}{ss:List dZ}{ds:List aC}(h:GV t ss ds)(md:B)(lo hi:Int):Am ⟨md,ss,ds,lo,hi⟩:=by
 have:=h.read [] [] 0;unfold kU at this;obtain⟨⟨ss1,l1,a1⟩,h1,h⟩:=then_ok this;obtain⟨⟨l2,a2⟩,h2,h⟩:=then_ok h;obtain⟨⟨ds1,l3,a3⟩,h3,h⟩:=then_ok h;obtain⟨⟨l4,a4⟩,h4,h⟩:=then_ok h;simp only[Ans.ok.injEq,Prod.mk.injEq,au.mk.injEq]at h;obtain⟨⟨_,rfl,rfl,_⟩,_⟩:=h;exact⟨acj _ _ _ _ _ _ _ (by simp) h1,(wX h3).1⟩
theorem LX{s:B}:∀ {rs:List au} {a:Nat},Placed s a rs→∀r∈rs,Am r
 | [],_,_,r,hr=>by cases hr
 | x::rs,a,⟨lo,hi,h1,h2,h3,h4,h5,h6,h7⟩,r,hr=>by
  rcases List.mem_cons.1 hr with rfl | hr
  ·exact acn h6 r.ay r.lo r.hi
  exact LX h7 r hr
theorem Am.shift{r:au}(h:Am r)(d:Nat):Am (r.shift d):=⟨h.aZ,h.decls⟩
theorem mF:∀(T:PT) (p:Nat),OO T→∀r∈dY p T,Am r
 | .nil,_,_,r,hr=>by cases hr
 | .text _ n,p,ho,r,hr=>mF n _ ho r hr
 | .note _ n,p,ho,r,hr=>mF n _ ho r hr
 | .elem nm al kids n,p,ho,r,hr=>by
  rcases List.mem_append.1 hr with hr | hr
  ·exact mF kids _ ho.1 r hr
  exact mF n _ ho.2 r hr
 | .style al inner n,p,⟨⟨rs,hp⟩,ho⟩,r,hr=>by
  rcases List.mem_append.1 hr with hr | hr
  ·rw[oV hp]at hr;obtain⟨q,hq,rfl⟩:=List.mem_map.1 hr;exact(LX (mD hp) q hq).shift _
  exact mF n _ ho r hr
theorem Sr:∀ {ws:List B},ws≠[]→(∀w∈ws,NI w)→splitB (gU ws)=ws:=by
 have hj:∀ws:List B,gU ws=KR ws:=by
  intro ws
  induction ws with
  | nil=>rfl
  | cons w ws ih=>
   cases ws with
   | nil=>rfl
   | cons x ws=>simp only[gU,KR,ih]
 intro ws hn hw;rw[hj];refine Ey hn λw hm c hc=>?_
 have:=(hw w hm).2 c hc;rintro rfl;exact absurd this (by decide)
theorem VL{w:B}(h:NI w)(hl:w.length≤60):WX w:=⟨[w],by simp,by simpa using h,by simp[gU],hl⟩
theorem aco{ws:List B}{w:B}(h:w∈ws):w.length≤(gU ws).length:=by
 induction ws with
 | nil=>cases h
 | cons x ws ih=>
  cases ws with
  | nil=>simp at h;subst h;simp[gU]
  | cons y ws=>
   rcases List.mem_cons.1 h with rfl | h
   ·simp[gU]
   have:=ih h;simp only[gU,List.length_append]at this ⊢;omega
theorem Zq{d:aC}{x:List aC}(hd:jK d)(h:gu d=some x):∀y∈x,jK y:=by
 unfold gu at h;split at h
 ·obtain⟨ws,hn,hw,hv,hl⟩:=hd.2;rw[hv,Sr hn hw]at h;rw[hv]at hl;have hall:∀w∈ws,WX w:=λw hm=>VL (hw w hm) (Nat.le_trans (aco hm) hl)
  have hnm:rO ql∧rO lZ∧rO kL∧rO nU:=by
   refine⟨⟨?_,?_,?_⟩,⟨?_,?_,?_⟩,⟨?_,?_,?_⟩,⟨?_,?_,?_⟩⟩<;>decide
  have hed:∀a b c e st,a∈ws→b∈ws→c∈ws→e∈ws→∀y∈edges a b c e st,jK y:=by
   intro a b c e st ha hb hc he y hy;simp only[edges,List.mem_cons,List.not_mem_nil,or_false]at hy;rcases hy with rfl | rfl | rfl | rfl
   ·exact⟨hnm.1,hall _ ha⟩
   ·exact⟨hnm.2.1,hall _ hb⟩
   ·exact⟨hnm.2.2.1,hall _ hc⟩
   exact⟨hnm.2.2.2,hall _ he⟩
  split at h
  all_goals first
   | (cases h;apply hed<;>simp)
   | cases h
 cases h;intro y hy;simp at hy;subst hy;exact hd
theorem VN:∀ {l x:List aC},(∀d∈l,jK d)→fH l=some x→∀y∈x,jK y
 | [],x,_,h,y,hy=>by cases h;cases hy
 | d::ds,x,hd,h,y,hy=>by
  obtain⟨a,b,h1,h2,rfl⟩:=all_cons h;rcases List.mem_append.1 hy with hy | hy
  ·exact Zq (hd d (by simp)) h1 y hy
  exact VN (λz hz=>hd z (by simp[hz])) h2 y hy
def pr(a:bf):B×B:=(a.name,a.val)
structure aeu(t:B)(n m:ak):Prop where
 name:m.name=n.name
 parent:m.parent=n.parent
 attrs:m.attrs.map pr=jm (n.attrs.map pr) t
def I9(tx:Nat→B):Nat→List ak→List ak→Prop
 | _,[],[]=>True
 | c,x::xs,y::ys=>aeu (tx c) x y∧I9 tx (c+1) xs ys
 | _,_,_=>False
theorem I9.app{tx:Nat→B}:∀ {xs xs' ys ys':List ak} {c:Nat},I9 tx c xs xs'→I9 tx (c+xs.length) ys ys'→I9 tx c (xs++ys) (xs'++ys')
 | [],[],_,_,_,_,h=>h
 | [],_::_,_,_,_,h,_=>h.elim
 | _::_,[],_,_,_,h,_=>h.elim
 | x::xs,y::ys,_,_,c,⟨h1,h2⟩,h=>⟨h1,I9.app h2 (by rw[show c+1+xs.length=c+(x::xs).length from by simp;omega];exact h)⟩
theorem I9.len{tx:Nat→B}:∀ {xs ys:List ak} {c:Nat},I9 tx c xs ys→xs.length=ys.length
 | [],[],_,_=>rfl
 | [],_::_,_,h=>h.elim
 | _::_,[],_,h=>h.elim
 | x::xs,y::ys,c,⟨_,h⟩=>by simp[h.len]
def arb(al:List (B×B))(name:B):B×Bool:=match al.find? (λa=>a.1==name)with
 | some a=>(a.2,true)
 | none=>([],false)
theorem I9.none{tx:Nat→B}{xs ys:List ak}{c j:Nat}(h:I9 tx c xs ys)(hx:xs[j]?=none):ys[j]?=none:=by
 rw[List.getElem?_eq_none_iff]at hx ⊢;rw[←h.len];exact hx
def vU(w x:B):Prop:=bg w (x++w)=some x.length
theorem vU.tail{w:B}{x:UInt8}{y:B}(h:vU w (x::y)):w.isPrefixOf (x::(y++w))=false∧vU w y:=by
 unfold vU at h ⊢;simp only[List.cons_append,bg,List.length_cons]at h;split at h
 ·simp at h
 rename_i hp
 refine⟨by rw[←Bool.not_eq_true];exact hp,?_⟩;cases hf:bg w (y++w)with
 | none=>rw[hf]at h;cases h
 | some k=>rw[hf]at h;simp at h;rw[h]
theorem vU.cons{w:B}{x:UInt8}{y:B}(h:w.isPrefixOf (x::(y++w))=false)(hy:vU w y):vU w (x::y):=by
 unfold vU at hy ⊢;simp only[List.cons_append,bg,List.length_cons,h,Bool.false_eq_true,if_false,hy,Option.map_some]
theorem vU.drop{w:B}:∀ {a b:B},vU w (a++b)→vU w b
 | [],_,h=>h
 | x::a,b,h=>vU.drop (a:=a) h.tail.2
theorem vU.gap{w:B}(hw:w≠[])(h32:(32:UInt8) ∉ w):∀ {a b c:B},vU w (a++c)→vU w b→vU w (a++([32]++b))
 | [],b,c,_,hb=>by
  refine vU.cons ?_ hb;rw[←Bool.not_eq_true];intro hp;cases w with
  | nil=>exact hw rfl
  | cons y w=>
   have:=lS hp;exact h32 (by rw[this];simp)
 | x::a,b,c,ha,hb=>by
  obtain⟨h1,h2⟩:=ha.tail;refine vU.cons ?_ (vU.gap hw h32 (a:=a) h2 hb);rw[←Bool.not_eq_true]at h1 ⊢;intro hp;rw[List.isPrefixOf_iff_prefix]at hp h1;by_cases hl:w.length≤(x::a).length
  ·refine h1 ?_;have h3:w <+: x::a:=List.prefix_of_prefix_length_le hp (by exact⟨([32]++b)++w,by simp⟩) hl;exact h3.trans ⟨c++w,by simp⟩
  refine h32 ?_;have h3:(x::a)++[32] <+: w:=List.prefix_of_prefix_length_le (l₃:=x::(a++([32]++b)++w)) ⟨b++w,by simp⟩ hp (by simp at hl ⊢;omega);exact h3.subset (by simp)
structure ajB(al:List (B×B))(t:B):Prop where
 val:∀c∈t,isVal c=true
 few:fD al=false→al.length=8→t=[]
def acp(Q:Nat→List (B×B)→Prop):Nat→PT→Prop
 | _,.nil=>True
 | c,.text _ n=>acp Q c n
 | c,.note _ n=>acp Q c n
 | c,.elem _ al kids n=>Q c al∧acp Q (c+1) kids∧acp Q (c+1+lW kids) n
 | c,.style al _ n=>Q c al∧acp Q (c+1) n
def stripR(r:au):au := { r with lo:=0,hi:=0 }
theorem VO{rules:List au}(h:mY rules=none):∀r∈rules,fH r.decls=some (iQ r):=by
 intro r hr;unfold mY at h;rw[Option.map_eq_none_iff,List.find?_eq_none]at h;have:=h r hr;unfold iQ;cases hp:fH r.decls with
 | none=>rw[hp]at this;simp at this
 | some x=>rfl
theorem zh{l:List ak}{k:Int}{ay:List B}:∀ {rs:List au},(∀r∈rs,fH r.decls=some (iQ r)) →
  gG l k ay rs=.ok (rs.flatMap λr=>if (kD l k r.aZ).2&&counts r ay then (iQ r).map (λx=>⟨x,false,(kD l k r.aZ).1⟩) else [])
 | [],_=>rfl
 | r::rs,h=>by
  have ih:=zh (l:=l) (k:=k) (ay:=ay) (rs:=rs) λq hq=>h q (by simp[hq])
  simp only[gG,List.flatMap_cons];split
  ·rw[h r (by simp),ih];rfl
  rw[ih];rfl
def uU(n:ak):List aC:=match iC n with
 | .ok d=>d
 | .bad _=>[]
theorem DW{l:List ak}(h:rY l=none){n:ak}(hn:n∈l):iC n=.ok (uU n)∧(∀d∈uU n,jK d∧d.name≠fG):=by
 have hsp:iC n=.ok (uU n)∧∃v,∃ds,dW v=.ok ds∧fH ds=some (uU n):=by
  unfold rY at h;rw[List.findSome?_eq_none_iff]at h;unfold uU iC gJ;cases hf:n.attrs.find? (λa=>a.name==aj)with
  | none=>exact⟨rfl,[],[],rfl,rfl⟩
  | some a=>
   have ha:=List.mem_of_find?_eq_some hf;have hnm:a.name=aj:=by simpa using List.find?_some hf
   have:=h a (List.mem_flatMap.2 ⟨n,hn,ha⟩);unfold jW at this;rw[if_pos hnm]at this;simp only;cases hd:dW a.val with
   | bad f=>rw[hd]at this;cases this
   | ok ds=>
    rw[hd]at this;simp only at this ⊢;cases hp:fH ds with
    | none=>rw[hp]at this;simp at this
    | some x=>exact⟨rfl,_,_,hd,hp⟩
 obtain⟨h1,v,ds,h2,h3⟩:=hsp;exact⟨h1,λd hd=>⟨VN (kY h2).1 h3 d hd,Dx h3 d hd⟩⟩
def rcl(l:List ak)(k:Int)(ay:List B)(rs:List au):List aB:=rs.flatMap λr=>if (kD l k r.aZ).2&&counts r ay then (iQ r).map (λx=>⟨x,false,(kD l k r.aZ).1⟩) else []
theorem Sv{l:List ak}{k:Nat}{n:ak}{rs:List au}{ay:List B}(hn:l[k]?=some n)(hr:∀r∈rs,fH r.decls=some (iQ r))(ho:rY l=none):
  dO l (k:Int) rs ay=.ok (nM (rcl l (k:Int) ay rs++fQ (uU n))):=by
 have hk:k<l.length:=(List.getElem?_eq_some_iff.1 hn).1;unfold dO;rw[if_pos (by unfold vW;simp;omega),Int.toNat_natCast,hn];simp only;unfold nX;rw[zh hr,Ans.aN,(DW ho (List.mem_of_getElem? hn)).1]
 rfl
theorem Zr{cs:List aB}(h:∀c∈cs,jK c.d∧c.d.name≠fG):∀d∈nM cs,jK d∧d.name≠fG:=by
 intro d hd;obtain⟨c,hc,rfl⟩:=Gg.1 hd;have:=lV cs c.d.name;rw[hc]at this;exact h c this.1
theorem acs{l:List ak}{k:Int}{ay:List B}{rs:List au}(hr:∀r∈rs,Am r)(hp:∀r∈rs,fH r.decls=some (iQ r)):∀c∈rcl l k ay rs,jK c.d∧c.d.name≠fG:=by
 intro c hc;obtain⟨r,hm,hc⟩:=List.mem_flatMap.1 hc;split at hc
 ·obtain⟨d,hd,rfl⟩:=List.mem_map.1 hc;exact⟨VN (hr r hm).decls (hp r hm) d hd,Dx (hp r hm) d hd⟩
 cases hc
structure Xn(l:List ak)(k:Nat)(gone:List au)(look:List aC):Prop where
 said:dO l (k:Int) gone []=.ok look
 fine:∀d∈look,jK d∧d.name≠fG
 text:(aQ l k gone).1=dH look
 fits:(aQ l k gone).2=decide (look.length≤20)
theorem acu{s:B}{l:List ak}{rules:List au}{T:PT}(h:Ak s l rules T){gone:List au}(hg:∀r∈gone,r∈rules){k:Nat}{n:ak}(hn:l[k]?=some n):
  Xn l k gone (nM (rcl l (k:Int) [] gone++fQ (uU n))):=by
 have hp:∀r∈gone,fH r.decls=some (iQ r):=λr hr=>VO h.plain r (hg r hr)
 have hd:=Sv (ay:=[]) hn hp h.own;refine⟨hd,Zr λc hc=>?_,by unfold aQ;rw[hd],by unfold aQ;rw[hd]⟩;rcases List.mem_append.1 hc with hc | hc
 ·exact acs (λr hr=>mF T 0 h.ok r (by rw[←h.Oo];exact hg r hr)) hp c hc
 obtain⟨d,hd,rfl⟩:=List.mem_map.1 hc;exact(DW h.own (List.mem_of_getElem? hn)).2 d hd
structure am1(s t:B)(l m:List ak)(rules qs:List au)(st:List Bool)(T:PT):Prop where
 src:Ak s l rules T
 len:st.length=rules.length
 dst:Ak t m qs (sD (λk=>(aQ l k (dQ rules st)).1) (goes st) 0 0 T)
 rel:I9 (λk=>(aQ l k (dQ rules st)).1) 0 l m
 kept:qs.map stripR=uP (goes st) 0 (rules.map stripR)
 style:∀(k:Nat) (n:ak),l[k]?=some n→Xn l k (dQ rules st) (nM (rcl l (k:Int) [] (dQ rules st)++fQ (uU n)))∧(nM (rcl l (k:Int) [] (dQ rules st)++fQ (uU n))).length≤20
theorem VP:∀(f:Nat) (ts:List bQ) (q:Bool) (l:B) (a:Nat) (v:List bQ) (l':B) (a':Nat),ts.length≤6→dF f ts q l a=.ok (v,l',a')→v.length≤6:=by
 intro f
 induction f with
 | zero=>intro ts q l a v l' a' _ h;cases h
 | succ f ih=>
  intro ts q l a v l' a' ht h;rw[dF]at h;obtain⟨⟨x,l1,a1⟩,h1,h⟩:=then_ok h;cases x with
  | none=>
   simp only at h;split at h
   ·cases h;exact ht
   cases h
  | some x=>
   simp only at h;split at h
   ·cases h
   exact ih _ _ _ _ _ _ _ (by simp;omega) h
theorem LY{l l':B}{a a':Nat}{v:List bQ}(h:eU l a=.ok (v,l',a')):v.length≤6:=by
 unfold eU at h;obtain⟨⟨ts,q,l1,a1⟩,h1,h⟩:=then_ok h;refine VP _ _ _ _ _ _ _ _ ?_ h;unfold uw at h1;split at h1
 ·cases h1;simp
 split at h1
 ·cases h1;simp
 obtain⟨⟨nm,l2,a2⟩,h2,h1⟩:=then_ok h1;cases h1;simp
def wV(s:dZ):Prop:=s.length≤6∧∀p∈s,p.tests.length≤6
theorem acv:∀(f:Nat) (ps:List eP) (l:B) (a:Nat) (v:dZ) (l':B) (a':Nat),wV ps→jZ f ps l a=.ok (v,l',a')→wV v:=by
 intro f
 induction f with
 | zero=>intro ps l a v l' a' _ h;cases h
 | succ f ih=>
  intro ps l a v l' a' ht h;rw[jZ]at h;obtain⟨⟨j,l1,a1⟩,h1,h⟩:=then_ok h;cases j with
  | none=>simp only at h;cases h;exact ht
  | some j=>
   simp only at h;split at h
   ·cases h
   obtain⟨⟨ts,l2,a2⟩,h2,h⟩:=then_ok h;refine ih _ _ _ _ _ _ ⟨by simp;have:=ht.1;omega,?_⟩ h;intro p hp;rcases List.mem_append.1 hp with hp | hp
   ·exact ht.2 p hp
   simp at hp;subst hp;exact LY h2
theorem aev{l l':B}{a a':Nat}{v:dZ}(h:pq l a=.ok (v,l',a')):wV v:=by
 unfold pq at h;obtain⟨⟨ts,l1,a1⟩,h1,h⟩:=then_ok h;refine acv _ _ _ _ _ _ _ ⟨by simp,?_⟩ h;intro p hp;simp at hp;subst hp;exact LY h1
theorem Zt:∀(f:Nat) (ss:List dZ) (l:B) (a:Nat) (v:List dZ) (l':B) (a':Nat),(ss.length≤8∧∀s∈ss,wV s)→gB f ss l a=.ok (v,l',a')→v.length≤8∧∀s∈v,wV s:=by
 intro f
 induction f with
 | zero=>intro ss l a v l' a' _ h;cases h
 | succ f ih=>
  intro ss l a v l' a' hs h;rw[gB]at h;split at h
  ·cases h
  rename_i hn
  obtain⟨⟨x,l1,a1⟩,h1,h⟩:=then_ok h;have hx:(ss++[x]).length≤8∧∀s∈ss++[x],wV s:=by
   refine⟨by simp;have:=hs.1;omega,λs hm=>?_⟩;rcases List.mem_append.1 hm with hm | hm
   ·exact hs.2 s hm
   simp at hm;subst hm;exact aev h1
  simp only at h;split at h
  ·obtain⟨⟨l2,a2⟩,h2,h⟩:=then_ok h;exact ih _ _ _ _ _ _ hx h
  cases h;exact hx
structure jQ(r:au):Prop where
 aZ:r.aZ.length≤8
 parts:∀s∈r.aZ,wV s
 decls:r.decls.length≤20
 each:∀d∈r.decls,d.name.length≤20∧d.val.length≤60
theorem rQ{d:aC}(h:jK d):d.name.length≤20∧d.val.length≤60:=by
 obtain⟨h1,ws,_,_,_,h2⟩:=h;exact⟨h1.2.2,h2⟩
theorem Zu{t:B}{ss:List dZ}{ds:List aC}(h:GV t ss ds)(md:B)(lo hi:Int):jQ ⟨md,ss,ds,lo,hi⟩:=by
 have:=h.read [] [] 0;unfold kU at this;obtain⟨⟨ss1,l1,a1⟩,h1,h⟩:=then_ok this;obtain⟨⟨l2,a2⟩,h2,h⟩:=then_ok h;obtain⟨⟨ds1,l3,a3⟩,h3,h⟩:=then_ok h;obtain⟨⟨l4,a4⟩,h4,h⟩:=then_ok h;simp only[Ans.ok.injEq,Prod.mk.injEq,au.mk.injEq]at h;obtain⟨⟨_,rfl,rfl,_⟩,_⟩:=h;have q:=Zt _ _ _ _ _ _ _ ⟨by simp,by simp⟩ h1;have d:=wX h3;exact⟨q.1,q.2,d.2,λx hx=>rQ (d.1 x hx)⟩
theorem Ja{s:B}:∀ {rs:List au} {a:Nat},Placed s a rs→∀r∈rs,jQ r∧0≤r.lo∧r.lo≤r.hi∧r.hi≤s.length
 | [],_,_,r,hr=>by cases hr
 | x::rs,a,⟨lo,hi,h1,h2,h3,h4,h5,h6,h7⟩,r,hr=>by
  rcases List.mem_cons.1 hr with rfl | hr
  ·exact⟨Zu h6 r.ay r.lo r.hi,by omega,by omega,by omega⟩
  exact Ja h7 r hr
theorem zS{s:B}{rs:List au}(h:iZ s=.ok rs):rs.length≤60∧∀r∈rs,jQ r∧0≤r.lo∧r.lo≤r.hi∧r.hi≤s.length:=
 ⟨(KL h).2.1,Ja (mD h)⟩
theorem jQ.shift{r:au}(h:jQ r)(d:Nat):jQ (r.shift d):=⟨h.aZ,h.parts,h.decls,h.each⟩
theorem sG{s:B}:∀ {ns:List ak} {rs:List au},(∀n∈ns,af2 s n)→bF s ns=.ok rs→rs.length≤60*ns.length∧∀r∈rs,jQ r∧0≤r.lo∧r.lo≤r.hi∧r.hi≤s.length
 | [],rs,_,h=>by cases h;simp
 | n::ns,rs,hp,h=>by
  simp only[bF]at h;split at h
  ·cases hs:iZ (sub s n.qE.toNat n.inT.toNat)with
   | bad f=>rw[hs]at h;cases h
   | ok xs=>
    rw[hs]at h;obtain⟨qs,hq,h⟩:=then_ok h;cases h;obtain⟨i1,i2⟩:=sG (λm hm=>hp m (by simp[hm])) hq;obtain⟨s1,s2⟩:=zS hs;obtain⟨p,q,e1,e2,e3,e4⟩:=hp n (by simp);refine⟨by simp;omega,λr hr=>?_⟩;rcases List.mem_append.1 hr with hr | hr
    ·obtain⟨x,hx,rfl⟩:=List.mem_map.1 hr;obtain⟨b1,b2,b3,b4⟩:=s2 x hx;refine⟨b1.shift _,?_⟩;have hl:(sub s n.qE.toNat n.inT.toNat).length=q-p:=by rw[e1,e2,Int.toNat_natCast,Int.toNat_natCast];exact yt s e3 e4
     rw[hl]at b4;have el:(x.shift n.qE.toNat).lo=x.lo+(n.qE.toNat:Int):=rfl;have eh:(x.shift n.qE.toNat).hi=x.hi+(n.qE.toNat:Int):=rfl;rw[el,eh,e1,Int.toNat_natCast];omega
    exact i2 r hr
  obtain⟨i1,i2⟩:=sG (λm hm=>hp m (by simp[hm])) h;exact⟨by simp;omega,i2⟩
structure Xo(s:B)(n:ak):Prop where
 attrs:∀a∈n.attrs,a.name.length≤s.length∧a.val.length≤s.length∧0≤a.lo∧a.lo≤a.hi∧a.hi≤s.length
 parent : -1≤n.parent∧n.parent≤s.length+200
 bG:0≤n.bG∧n.bG≤s.length
 name:n.name.length≤s.length
 inner:af2 s n
theorem Hu{s:B}{ns:List ak}(h:lq s=.ok ns):s.length≤6000∧ns.length≤120∧(∀n∈ns,Xo s n)∧∀n∈ns,n.attrs.length≤8:=by
 obtain⟨h1,T,h2,h3,h4,h5⟩:=Rz h;have hf:=He s;rw[h]at hf;have hl:ns.length≤120:=by rw[h5,kQ];exact h3
 refine⟨h1,hl,λn hn=>?_,λn hn=>?_⟩
 ·obtain⟨i,hi⟩:=List.getElem?_of_mem hn;have hil:=(List.getElem?_eq_some_iff.1 hi).1;obtain⟨p1,p2,⟨e,e1,e2,e3,e4,e5⟩,p4⟩:=hf i n hi;refine⟨λa ha=>?_,⟨p1,by omega⟩,⟨by omega,by omega⟩,by omega,p4⟩;obtain⟨b,c,g1,g2,g3,g4,g5,g6⟩:=e5 a ha;have:=congrArg List.length g6;rw[yt s g4 g5]at this;simp at this;omega
 rw[h5]at hn;have key:∀(T:PT) (d:Nat) (par:Int) (c p:Nat),Xk d T→∀n∈fV par c p T,n.attrs.length≤8:=by
  intro T
  induction T with
  | nil=>intro d par c p _ n hn;cases hn
  | text x n ih=>intro d par c p hw m hm;exact ih d par c _ hw.2.2 m hm
  | note x n ih=>intro d par c p hw m hm;exact ih d par c _ hw.2 m hm
  | elem nm al kids n ih1 ih2=>
   intro d par c p hw m hm;obtain⟨w1,w2,w3,w4,w5,w6⟩:=hw;simp only[fV,List.mem_cons,List.mem_append]at hm;rcases hm with rfl | hm | hm
   ·rw[xH];exact w4.few
   ·exact ih1 _ _ _ _ w5 m hm
   exact ih2 _ _ _ _ w6 m hm
  | style al inner n ih=>
   intro d par c p hw m hm;obtain⟨w1,w4,w5,w6⟩:=hw;simp only[fV,List.mem_cons]at hm;rcases hm with rfl | hm
   ·rw[xH];exact w4.few
   exact ih _ _ _ _ w6 m hm
 exact key T 1 _ _ _ h2 n hn
structure xZ(s:B)(l:List ak)(rules:List au):Prop where
 len:s.length≤6000
 nodes:l.length≤120
 node:∀n∈l,Xo s n
 attrs:∀n∈l,n.attrs.length≤8
 most:rules.length≤60
 rule:∀r∈rules,jQ r∧0≤r.lo∧r.lo≤r.hi∧r.hi≤s.length
theorem IW{s:B}{l:List ak}{rules:List au}(h:rP s=.ok (l,rules)):xZ s l rules:=by
 unfold rP at h;obtain⟨l1,h1,h⟩:=then_ok h;obtain⟨rs,h2,h⟩:=then_ok h;split at h
 ·cases h
 rename_i hn
 cases h3:mY rs with
 | some f=>rw[h3]at h;cases h
 | none=>
  cases h4:rY l1 with
  | some f=>rw[h3,h4]at h;cases h
  | none=>
   rw[h3,h4]at h;cases h;obtain⟨a1,a2,a3,a4⟩:=Hu h1;exact⟨a1,a2,a3,a4,by omega,(sG (λn hn=>(a3 n hn).inner) h2).2⟩
theorem EL(n:B):∀xs:List B,(lD n xs).length≤xs.length+1
 | []=>by simp[lD]
 | x::xs=>by
  have:=EL n xs;simp only[lD];split
  ·simp
  split
  ·simp;omega
  simp
theorem Zv(cs:List aB):(nM cs).length≤cs.length:=by
 have h1:∀(cs:List aB) (acc:List B),(cs.foldl (λacc c=>lD c.d.name acc) acc).length≤acc.length+cs.length:=by
  intro cs
  induction cs with
  | nil=>intro acc;simp
  | cons c cs ih=>
   intro acc;have:=ih (lD c.d.name acc);have:=EL c.d.name acc;simp;omega
 unfold nM;have h2:=h1 cs [];have h3:=List.length_filterMap_le (λn=>(jl cs n).map (·.d)) (vS cs);have h4:(vS cs).length≤0+cs.length:=h2;omega
theorem Sz{d:aC}{x:List aC}(h:gu d=some x):x.length≤4:=by
 unfold gu at h;split at h
 ·split at h
  all_goals first
   | (cases h;simp[edges])
   | cases h
 cases h;simp
theorem Jb:∀ {l x:List aC},fH l=some x→x.length≤4*l.length
 | [],x,h=>by cases h;simp
 | d::ds,x,h=>by
  obtain⟨a,b,h1,h2,rfl⟩:=all_cons h;have:=Sz h1;have:=Jb h2;simp;omega
theorem Xp{l:List ak}{k:Int}{ay:List B}:∀ {rs:List au},(∀r∈rs,jQ r)→(rcl l k ay rs).length≤80*rs.length
 | [],_=>by simp[rcl]
 | r::rs,h=>by
  have ih:=Xp (l:=l) (k:=k) (ay:=ay) λq hq=>h q (List.mem_cons_of_mem r hq)
  have hd:=(h r (by simp)).decls;have hp:(iQ r).length≤80:=by
   unfold iQ;cases hp:fH r.decls with
   | none=>simp
   | some x=>have:=Jb hp;simp;omega
  unfold rcl at ih ⊢;rw[List.flatMap_cons,List.length_append,List.length_cons];split
  ·rw[List.length_map];omega
  rw[List.length_nil];omega
theorem RQ{s:B}{l:List ak}{rules:List au}{T:PT}(h:Ak s l rules T)(L:xZ s l rules){gone:List au}(hg:∀r∈gone,r∈rules)(hn:gone.length≤rules.length){k:Nat}{n:ak}(hk:l[k]?=some n):
  ∃look,dO l (k:Int) gone []=.ok look∧look.length≤5000∧(∀d∈look,jK d)∧(aQ l k gone).1=dH look∧(aQ l k gone).2=decide (look.length≤20):=by
 have H:=acu h hg hk;refine⟨_,H.said,?_,λd hd=>(H.fine d hd).1,H.text,H.fits⟩;have h1:=Zv (rcl l (k:Int) [] gone++fQ (uU n));have h2:=Xp (l:=l) (k:=(k:Int)) (ay:=[]) (rs:=gone) λr hr=>(L.rule r (hg r hr)).1
 have h3:=L.most;have h4:(uU n).length≤80:=by
  have ho:=(DW h.own (List.mem_of_getElem? hk)).1;unfold iC at ho;cases hd:dW (gJ n.attrs aj).1 with
  | bad f=>rw[hd]at ho;cases ho
  | ok ds=>
   rw[hd]at ho;simp only at ho;cases hp:fH ds with
   | none=>rw[hp]at ho;cases ho
   | some x=>
    rw[hp]at ho;simp only[Ans.ok.injEq]at ho;have:=Jb hp;have:=(kY hd).2;rw[←ho];omega
 have h5:(rcl l (k:Int) [] gone++fQ (uU n)).length=(rcl l (k:Int) [] gone).length+(uU n).length:=by rw[List.length_append];simp[fQ]
 omega
def xJ(rules:List au)(st:List Bool)(es:List bT):List bT:=(dQ rules st).map dI++es
theorem RV{s:B}{l:List ak}{rules:List au}{st:List Bool}{T:PT}{es:List bT}(h:Ak s l rules T)(hs:st.length=rules.length)(he:fE l (dQ rules st) 0 l=.ok es):
  fZ (iP (xJ rules st es))∧oD s 0 (iP (xJ rules st es)):=by
 obtain⟨rfl,hc⟩:=DU he;have hr:=(qO (λk=>(aQ l k (dQ rules st)).1) (goes st) T 0 0 0 h.ok).1;have ht:iP (xJ rules st (nP (λk=>(aQ l k (dQ rules st)).1) 0 l))=jS (λk=>(aQ l k (dQ rules st)).1) (goes st) 0 0 0 T:=by
  refine Zb hr ?_;refine(qM _ _ T 0 0 0).trans ?_;unfold xJ;rw[←qN _ T 0 0 h.ok,←h.Oo,←Zo hs,←uT _ T 1 0 0 (-1) h.wf,←h.nodes]
 have hp:=VF (λk=>(aQ l k (dQ rules st)).1) (goes st) h.wf h.ok;rw[←h.text]at hp;rw[ht];exact⟨hr,hp.1⟩
theorem Zg{xs ys:List bT}(hr:fZ (iP xs))(hp:ys.Perm xs)(hs:ys.Pairwise (λa b=>a.lo≤b.lo)):ys=iP xs:=by
 refine fZ.unique (rZ hs ?_) hr (hp.trans (kF xs).symm);rw[((hp.trans (kF xs).symm).map (·.lo)).nodup_iff];generalize iP xs=zs at hr;clear hs hp
 induction hr with
 | nil=>simp
 | cons h hs ih=>
  rw[List.map_cons,List.nodup_cons];refine⟨λhm=>?_,ih⟩;obtain⟨y,hy,he⟩:=List.mem_map.1 hm;have:=h y hy;omega
theorem Xm{s:B}:∀ {es:List bT} {a:Nat},oD s a es→∀e∈es,e.lo≤s.length∧e.hi≤s.length
 | [],_,_,e,he=>by cases he
 | x::xs,a,⟨h1,h2,h3,h4⟩,e,he=>by
  rcases List.mem_cons.1 he with rfl | he
  ·omega
  exact Xm h4 e he
theorem IY{s:B}{M:Nat}:∀ {es:List bT} {a:Nat},oD s a es→(∀e∈es,e.text.length≤M)→(eY s a es).length≤s.length+M*es.length
 | [],a,h,_=>by simp[eY]
 | e::es,a,h,hM=>by
  have key:∀ {es:List bT} {a:Nat},oD s a es→(∀e∈es,e.text.length≤M)→(eY s a es).length+a≤s.length+M*es.length:=by
   intro es
   induction es with
   | nil=>intro a h _;simp only[eY,List.length_drop,List.length_nil,Nat.mul_zero,Nat.add_zero];have:=oD.le h;omega
   | cons e es ih=>
    intro a ⟨h1,h2,h3,h4⟩ hM;have:=ih h4 λx hx=>hM x (List.mem_cons_of_mem _ hx)
    have:=hM e (by simp);have:=yt s h1 (by omega:e.lo≤s.length);simp only[eY,List.length_append,List.length_cons,Nat.mul_add,Nat.mul_one];omega
  have:=key h hM;omega
theorem qL:∀ {rs:List au} {bs:List Bool},(∀r∈dQ rs bs,r∈rs)∧(dQ rs bs).length≤rs.length
 | [],_=>by cases ‹List Bool› <;> simp[dQ]
 | r::rs,[]=>by simp[dQ]
 | r::rs,b::bs=>by
  have ih:=qL (rs:=rs) (bs:=bs);simp only[dQ];split
  ·exact⟨λq hq=>List.mem_cons_of_mem _ (ih.1 q hq),by have:=ih.2;simp;omega⟩
  refine⟨λq hq=>?_,by have:=ih.2;simp;omega⟩;rcases List.mem_cons.1 hq with rfl | hq
  ·simp
  exact List.mem_cons_of_mem _ (ih.1 q hq)
theorem Ai:∀ {rs:List au} {bs:List Bool} {i:Nat} {r:au} {b:Bool},rs[i]?=some r→bs[i]?=some b→dQ (rs.take (i+1)) (bs.take (i+1))=dQ (rs.take i) (bs.take i)++(if b then [] else [r])
 | [],_,i,r,b,h,_=>by simp at h
 | _::_,[],i,r,b,_,h=>by simp at h
 | x::rs,y::bs,0,r,b,h,g=>by
  simp at h g;subst h g;cases y<;>simp[dQ]
 | x::rs,y::bs,i+1,r,b,h,g=>by
  have:=Ai (rs:=rs) (bs:=bs) (i:=i) (by simpa using h) (by simpa using g);simp only[List.take_succ_cons,dQ]at this ⊢;rw[this];cases y<;>simp
def tH(s:B)(E:List bT):Ans B:=if 6000<(eY s 0 (iP E)).length then .bad ⟨4,0⟩ else .ok (eY s 0 (iP E))
theorem RP(s:B)(l:List ak)(rules:List au)(st:List Bool):RF s l rules st=(fE l (dQ rules st) 0 l).then λes=>tH s ((dQ rules st).map dI++es):=rfl
theorem Zd{α:Type}(l:List ak)(gone:List au)(k:Nat)(n:ak)(ns:List ak)(E:List bT)(K:List bT→Ans α):
  ((fE l gone k (n::ns)).then λes=>K (E++es))=if (aQ l k gone).2=false∨(gJ n.attrs aj).2=false∧n.attrs.length=8∧(aQ l k gone).1≠[] then .bad ⟨5,n.bG.toNat⟩
   else (fE l gone (k+1) ns).then λes=>K ((E++(wO n (aQ l k gone).1).toList)++es):=by
 simp only[fE];split
 ·rfl
 cases fE l gone (k+1) ns with
 | bad f=>rfl
 | ok es=>simp only[Ans.aN,List.append_assoc]
theorem Zf{l:List ak}{gone:List au}{k:Nat}{n:ak}{ns:List ak}{es:List bT}(h:¬((aQ l k gone).2=false∨(gJ n.attrs aj).2=false∧n.attrs.length=8∧(aQ l k gone).1≠[]))(he:fE l gone (k+1) ns=.ok es):
  fE l gone k (n::ns)=.ok ((wO n (aQ l k gone).1).toList++es):=by
 simp only[fE];rw[if_neg h,he]
 rfl
theorem BX{n:ak}{t:B}{x:bT}(h:wO n t=some x):x.text.length≤t.length+9:=by
 unfold wO at h;split at h
 ·cases h
 cases h;simp only;split
 ·simp
 simp[uH]
def meets(l:List ak)(rules:List au)(i j:Nat):Bool:=match rules[i]?,rules[j]? with
 | some r,some q=>(touches l r).any λp=>decide (p∈touches l q)
 | _,_=>false
theorem DX{l:List ak}{rules:List au}{i j:Nat}{r q:au}(hi:rules[i]?=some r)(hj:rules[j]?=some q):meets l rules i j=true↔∃p,p∈touches l r∧p∈touches l q:=by
 unfold meets;rw[hi,hj];simp only[List.any_eq_true,decide_eq_true_eq]
variable {ns:List ak} {rules:List au}
structure GH(ns:List ak)(rules:List au)(sb:List Bool):Prop where
 len:sb.length=rules.length
 sound:∀i:Nat,sb[i]?=some true→IE ns rules i
 ay:∀(i:Nat) (r:au),rules[i]?=some r→r.ay≠[]→sb[i]?=some true
def pK(sb:List Bool):Nat:=sb.count false
structure yE(ns:List ak)(rules:List au)(sb0:List Bool)(i j:Nat)(sb:List Bool)(more:Bool):Prop where
 inv:GH ns rules sb
 left:more=true→pK sb<pK sb0
 le:pK sb≤pK sb0
 same:more=false→sb=sb0∧∀a b:Nat,(a<i∨a=i∧b<j)→b<rules.length→sb0[b]?=some true→sb0[a]?=some false→meets ns rules a b=false
theorem yE.start{sb:List Bool}(h:GH ns rules sb):yE ns rules sb 0 0 sb false:=⟨h,by simp,Nat.le_refl _,λ_=>⟨rfl,λa b hab=>by omega⟩⟩
theorem Jc:∀ {sb:List Bool} {i:Nat},sb[i]?=some false→pK (sb.set i true)+1=pK sb
 | [],i,h=>by simp at h
 | b::sb,0,h=>by
  simp at h;subst h;simp[pK]
 | b::sb,i+1,h=>by
  have:=Jc (sb:=sb) (i:=i) (by simpa using h);simp only[pK,List.set_cons_succ,List.count_cons]at this ⊢;omega
theorem yE.hit{sb0 sb:List Bool}{i j:Nat}{more:Bool}(h:yE ns rules sb0 i j sb more)(hj:sb[j]?=some true)(hi:sb[i]?=some false)(hm:meets ns rules i j=true):yE ns rules sb0 i (j+1) (sb.set i true) true:=by
 have h1:=Jc hi;have h2:=h.le;have hil:i<rules.length:=by rw[←h.inv.len];exact(List.getElem?_eq_some_iff.1 hi).1
 have hjl:j<rules.length:=by rw[←h.inv.len];exact(List.getElem?_eq_some_iff.1 hj).1
 have e1:=List.getElem?_eq_getElem hil;have e2:=List.getElem?_eq_getElem hjl;obtain⟨p,p1,p2⟩:=(DX e1 e2).1 hm;have hst:IE ns rules i:=.meet e1 e2 (h.inv.sound j hj) p1 p2;refine⟨⟨by simpa using h.inv.len,λk hk=>?_,λk r hk hmd=>?_⟩,λ_=>by omega,by omega,λhh=>by cases hh⟩
 ·rw[List.getElem?_set]at hk;split at hk
  ·rename_i he;exact he ▸ hst
  exact h.inv.sound k hk
 rw[List.getElem?_set];split
 ·rename_i he
  subst he;have:=h.inv.ay i r hk hmd;rw[hi]at this;cases this
 exact h.inv.ay k r hk hmd
theorem yE.miss{sb0 sb:List Bool}{i j:Nat}{more:Bool}(h:yE ns rules sb0 i j sb more)(hm:sb[j]?=some true→sb[i]?=some false→meets ns rules i j=false):yE ns rules sb0 i (j+1) sb more:=
 ⟨h.inv,h.left,h.le,λhh=>by
  obtain⟨rfl,h2⟩:=h.same hh;refine⟨rfl,λa b hab hb h3 h4=>?_⟩;by_cases he:a=i∧b=j
  ·obtain⟨rfl,rfl⟩:=he;exact hm h3 h4
  exact h2 a b (by omega) hb h3 h4⟩
theorem yE.row{sb0 sb:List Bool}{i:Nat}{more:Bool}(h:yE ns rules sb0 i rules.length sb more):yE ns rules sb0 (i+1) 0 sb more:=
 ⟨h.inv,h.left,h.le,λhh=>by
  obtain⟨rfl,h2⟩:=h.same hh;exact⟨rfl,λa b hab hb h3 h4=>h2 a b (by omega) hb h3 h4⟩⟩
theorem yE.done{sb0 sb:List Bool}(h:yE ns rules sb0 rules.length 0 sb false):ni ns rules sb:=by
 obtain⟨rfl,h2⟩:=h.same rfl;have key:∀i,IE ns rules i→sb[i]?=some true:=by
  intro i hs
  induction hs with
  | ay hr hm=>exact h.inv.ay _ _ hr hm
  | @meet i j r q p hi hj hs p1 p2 ih=>
   have hil:i<sb.length:=by rw[h.inv.len];exact(List.getElem?_eq_some_iff.1 hi).1
   have hjl:j<rules.length:=(List.getElem?_eq_some_iff.1 hj).1;cases hb:sb[i]with
   | true=>rw[List.getElem?_eq_getElem hil,hb]
   | false=>
    have h4:sb[i]?=some false:=by rw[List.getElem?_eq_getElem hil,hb]
    have h5:=h2 i j (.inl (by rw[←h.inv.len];exact hil)) hjl ih h4;rw[(DX hi hj).2 ⟨p,p1,p2⟩]at h5;cases h5
 refine⟨h.inv.len,λi b hb=>⟨λhh=>h.inv.sound i (by rw[hb,hh]),λhs=>?_⟩⟩;have:=key i hs;rw[hb]at this;simpa using this
theorem GH.start:GH ns rules (rules.map λr => !r.ay.isEmpty):=by
 refine⟨by simp,λi h=>?_,λi r h hm=>?_⟩
 ·rw[List.getElem?_map]at h;cases hr:rules[i]? with
  | none=>rw[hr]at h;simp at h
  | some r=>
   rw[hr]at h;simp only[Option.map_some,Option.some.injEq,Bool.not_eq_true',List.isEmpty_eq_false_iff]at h;exact .ay hr h
 rw[List.getElem?_map,h];simp only[Option.map_some,Option.some.injEq,Bool.not_eq_true',List.isEmpty_eq_false_iff];exact hm
def uf(p:Nat×B):B:=UInt8.ofNat p.1::p.2
theorem acw{p q:Nat×B}(hp:p.1<256)(hq:q.1<256)(h:uf p=uf q):p=q:=by
 obtain⟨a,x⟩:=p;obtain⟨b,y⟩:=q;unfold uf at h;simp only[List.cons.injEq]at h;simp only at hp hq;have:=congrArg UInt8.toNat h.1;simp only[UInt8.toNat_ofNat']at this;rw[Nat.mod_eq_of_lt hp,Nat.mod_eq_of_lt hq]at this;rw[this,h.2]
def Oq(l:List ak)(r:au)(k:B):Bool:=(touches l r).any λp=>uf p==k
theorem zi{l:List ak}(h:l.length≤120){r:au}{p:Nat×B}(hp:p∈touches l r):p.1<256:=by
 obtain⟨k,n⟩:=p;have:=(RD.1 hp).1;simp only;omega
theorem lQ{l:List ak}{r:au}{k:B}:Oq l r k=true↔∃p∈touches l r,uf p=k:=by
 unfold Oq;simp only[List.any_eq_true,beq_iff_eq]
theorem Uy{l:List ak}(h:l.length≤120){rules:List au}{i j:Nat}{r q:au}(hi:rules[i]?=some r)(hj:rules[j]?=some q):
  meets l rules i j=true↔∃k,Oq l r k=true∧Oq l q k=true:=by
 rw[DX hi hj];constructor
 ·rintro⟨p,h1,h2⟩;exact⟨uf p,lQ.2 ⟨p,h1,rfl⟩,lQ.2 ⟨p,h2,rfl⟩⟩
 rintro⟨k,h1,h2⟩;obtain⟨p,p1,e1⟩:=lQ.1 h1;obtain⟨p',p2,e2⟩:=lQ.1 h2;have:=acw (zi h p1) (zi h p2) (by rw[e1,e2]);subst this;exact⟨p,p1,p2⟩
end Go.Proofs.YtplbdlgmjehckacGreatDoor


/-
 Lemmas for the claims of this seat: the program's functions walked, and plain laws.
-/
import Derived.Test.YtplbdlgmjehckacGreatDoorPkFoTellsFull2
namespace Go.Proofs.YtplbdlgmjehckacGreatDoor
set_option linter.unusedVariables false
set_option linter.unusedSimpArgs false
def wC:B→B→Bool
 | [],[]=>false
 | [],_::_=>true
 | _::_,[]=>false
 | a::x,b::y=>decide (a.toNat<b.toNat)||(decide (a.toNat=b.toNat)&&wC x y)
theorem oN:∀x,wC x x=false
 | []=>rfl
 | a::x=>by simp[wC,oN x]
theorem qH:∀ {x y z:B},wC x y=true→wC y z=true→wC x z=true
 | [],[],z,h,_=>by cases h
 | [],_::_,[],_,h=>by cases h
 | [],_::_,_::_,_,_=>rfl
 | _::_,[],_,h,_=>by cases h
 | _::_,_::_,[],_,h=>by cases h
 | a::x,b::y,c::z,h,g=>by
  simp only[wC,Bool.or_eq_true,Bool.and_eq_true,decide_eq_true_eq]at h g ⊢;rcases h with h | ⟨h,h'⟩<;>rcases g with g | ⟨g,g'⟩
  ·left;omega
  ·left;omega
  ·left;omega
  right;exact⟨by omega,qH h' g'⟩
theorem qG:∀ {x y:B},wC x y=false→wC y x=false→x=y
 | [],[],_,_=>rfl
 | [],_::_,h,_=>by cases h
 | _::_,[],_,h=>by cases h
 | a::x,b::y,h,g=>by
  simp only[wC,Bool.or_eq_false_iff,Bool.and_eq_false_iff,decide_eq_false_iff_not]at h g;have e:a.toNat=b.toNat:=by omega
  have h2:=h.2.resolve_left (by omega);have g2:=g.2.resolve_left (by omega);rw[UInt8.toNat_inj.1 e,qG h2 g2]
structure aB where
 d:aC
 own:Bool
 w:lX
 deriving DecidableEq
def gV(b a:aB):Bool:=
 if a.d.strong=b.d.strong then (if a.own=b.own then !oI b.w a.w else b.own) else b.d.strong
def comb:Option aB→Option aB→Option aB
 | none,b=>b
 | some a,none=>some a
 | some a,some b=>if gV b a then some b else some a
def vK(n:B)(acc:Option aB)(c:aB):Option aB:=if c.d.name=n then comb acc (some c) else acc
def jl(cs:List aB)(n:B):Option aB:=cs.foldl (vK n) none
def lD(n:B):List B→List B
 | []=>[n]
 | x::xs=>if wC n x then n::x::xs else if wC x n then x::lD n xs else x::xs
def vS(cs:List aB):List B:=cs.foldl (λacc c=>lD c.d.name acc) []
def nM(cs:List aB):List aC:=(vS cs).filterMap λn=>(jl cs n).map (·.d)
def counts(r:au)(ay:List B):Bool:=r.ay.isEmpty||ay.contains r.ay
def gG(l:List ak)(k:Int)(ay:List B):List au→Ans (List aB)
 | []=>.ok []
 | r::rs=>
  if (kD l k r.aZ).2&&counts r ay then
   match fH r.decls with
   | none=>.bad ⟨5,0⟩
   | some d=>(gG l k ay rs).then λcs=>.ok (d.map (λx=>⟨x,false,(kD l k r.aZ).1⟩)++cs)
  else gG l k ay rs
def iC(n:ak):Ans (List aC):=
 match dW (gJ n.attrs aj).1 with
 | .bad f=>.bad ⟨f.err,0⟩
 | .ok ds=>match fH ds with
  | none=>.bad ⟨5,0⟩
  | some d=>.ok d
def fQ(ds:List aC):List aB:=ds.map λx=>⟨x,true,⟨0,0,0⟩⟩
def nX(l:List ak)(k:Int)(n:ak)(rules:List au)(ay:List B):Ans (List aB):=
 (gG l k ay rules).then λa=>(iC n).then λb=>.ok (a++fQ b)
def dO(l:List ak)(k:Int)(rules:List au)(ay:List B):Ans (List aC):=
 if vW l k then
  match l[k.toNat]? with
  | none=>.bad ⟨6,0⟩
  | some n=>(nX l k n rules ay).then λcs=>.ok (nM cs)
 else .bad ⟨6,0⟩
def Gi(look:List aC)(name:B):Option aC:=look.find? λd=>d.name==name
def Np:Nat→List ak→Int→List au→List B→B→Ans B
 | 0,_,_,_,_,_=>.bad ⟨6,0⟩
 | f+1,l,k,rules,ay,name=>
  (dO l k rules ay).then λlook=>
  match Gi look name with
  | some d=>.ok d.val
  | none=>if YG name&&decide (0≤parentOf l k.toNat)&&decide (parentOf l k.toNat<k) then Np f l (parentOf l k.toNat) rules ay name else .ok (P6 name)
def amr(l:List ak)(k:Int)(rules:List au)(ay:List B)(name:B):Ans B:=Np (k.toNat+1) l k rules ay name
theorem IB(a:aB):gV a a=true:=by simp[gV,Hf]
theorem pI{a b c:aB}(h:gV b a=true)(g:gV c b=true):gV c a=true:=by
 unfold gV at h g ⊢;obtain⟨⟨_,_,sa⟩,oa,wa⟩:=a;obtain⟨⟨_,_,sb⟩,ob,wb⟩:=b;obtain⟨⟨_,_,sc⟩,oc,wc⟩:=c;simp only at h g ⊢;have hw:(!oI wb wa)=true→(!oI wc wb)=true→(!oI wc wa)=true:=by
  simp only[Bool.not_eq_true'];intro h1 h2;cases h3:oI wc wa with
  | false=>rfl
  | true=>
   exfalso;simp[oI]at h1 h2 h3;omega
 cases sa<;>cases sb<;>cases sc<;>cases oa<;>cases ob<;>cases oc<;>simp at h g ⊢ <;> first
  | exact hw (by simpa using h) (by simpa using g) |> λx=>by simpa using x
  | trivial
theorem xC(a b:aB):gV b a=true∨gV a b=true:=by
 unfold gV;obtain⟨⟨_,_,sa⟩,oa,wa⟩:=a;obtain⟨⟨_,_,sb⟩,ob,wb⟩:=b;simp only;cases h:oI wb wa with
 | false=>cases sa<;>cases sb<;>cases oa<;>cases ob<;>simp
 | true=>
  have:=CX h;cases sa<;>cases sb<;>cases oa<;>cases ob<;>simp[this]
theorem yx(a:Option aB):comb a none=a:=by cases a<;>rfl
theorem VD(a b c:Option aB):comb (comb a b) c=comb a (comb b c):=by
 cases a with
 | none=>rfl
 | some a=>
  cases b with
  | none=>rfl
  | some b=>
   cases c with
   | none=>rw[yx,yx]
   | some c=>
    simp only[comb];cases h1:gV b a<;>cases h2:gV c b<;>simp only[comb,Bool.false_eq_true,if_false,if_true,h1,h2]
    ·cases h3:gV c a with
     | false=>simp
     | true=>
      exfalso;have:=(xC a b).resolve_left (by rw[h1];simp);have:=pI this h3;rw[h2]at this;cases this
    cases h3:gV c a with
    | true=>rfl
    | false=>
     have:=pI h1 h2;rw[h3]at this;cases this
theorem xE(n:B):∀(cs:List aB) (acc:Option aB),cs.foldl (vK n) acc=comb acc (jl cs n)
 | [],acc=>(yx acc).symm
 | c::cs,acc=>by
  unfold jl;simp only[List.foldl_cons];rw[xE n cs (vK n acc c),xE n cs (vK n none c)];unfold vK;split
  ·rw[VD];rfl
  rfl
theorem Ad(a b:List aB)(n:B):jl (a++b) n=comb (jl a n) (jl b n):=by
 unfold jl;rw[List.foldl_append,xE];rfl
theorem Rx(c:aB)(b:List aB)(n:B):jl (c::b) n=comb (if c.d.name=n then some c else none) (jl b n):=by
 have:=Ad [c] b n;simp only[List.singleton_append]at this;rw[this];congr 1
theorem lV:∀(cs:List aB) (n:B),match jl cs n with
  | none=>∀c∈cs,c.d.name≠n
  | some w=>w∈cs∧w.d.name=n∧∀c∈cs,c.d.name=n→gV w c=true
 | [],n=>by intro c hc;cases hc
 | c::cs,n=>by
  have ih:=lV cs n;rw[Rx];cases hw:jl cs n with
  | none=>
   rw[hw]at ih;simp only[yx];split
   ·rename_i w hn
    split at hn
    ·cases hn
    rename_i h
    intro x hx;rcases List.mem_cons.1 hx with rfl | hx
    ·exact h
    exact ih x hx
   rename_i w hn
   split at hn
   ·rename_i h
    cases hn;refine⟨by simp,h,λx hx hxn=>?_⟩;rcases List.mem_cons.1 hx with rfl | hx
    ·exact IB _
    exact absurd hxn (ih x hx)
   cases hn
  | some w=>
   rw[hw]at ih;obtain⟨h1,h2,h3⟩:=ih;by_cases hc:c.d.name=n
   ·rw[if_pos hc];simp only[comb];cases hb:gV w c with
    | true=>
     simp only[if_true];refine⟨by simp[h1],h2,λx hx hxn=>?_⟩;rcases List.mem_cons.1 hx with rfl | hx
     ·exact hb
     exact h3 x hx hxn
    | false=>
     simp only[Bool.false_eq_true,if_false];have hcw:=(xC w c).resolve_right (by rw[hb];simp);refine⟨by simp,hc,λx hx hxn=>?_⟩;rcases List.mem_cons.1 hx with rfl | hx
     ·exact IB _
     exact pI (h3 x hx hxn) hcw
   rw[if_neg hc];simp only[comb];refine⟨by simp[h1],h2,λx hx hxn=>?_⟩;rcases List.mem_cons.1 hx with rfl | hx
   ·exact absurd hxn hc
   exact h3 x hx hxn
inductive nZ:List B→Prop
 | nil:nZ []
 | cons {x:B} {xs:List B} (h:∀y∈xs,wC x y=true) (hs:nZ xs):nZ (x::xs)
theorem xG{n y:B}:∀ {xs:List B},y∈lD n xs↔y=n∨y∈xs
 | []=>by simp[lD]
 | x::xs=>by
  simp only[lD];split
  ·simp
  split
  ·simp only[List.mem_cons,xG (xs:=xs)];constructor
   ·rintro(h | h | h)<;>simp[h]
   rintro(h | h | h)<;>simp[h]
  rename_i h1 h2
  have:n=x:=qG (by simpa using h1) (by simpa using h2);subst this;simp
theorem IC{n:B}:∀ {xs:List B},nZ xs→nZ (lD n xs)
 | [],_=>.cons (by simp) .nil
 | x::xs,h=>by
  cases h with
  | cons h hs=>
   simp only[lD];split
   ·rename_i h1
    refine .cons ?_ (.cons h hs);intro y hy;rcases List.mem_cons.1 hy with rfl | hy
    ·exact h1
    exact qH h1 (h y hy)
   split
   ·rename_i h1 h2
    refine .cons ?_ (IC hs);intro y hy;rcases xG.1 hy with rfl | hy
    ·exact h2
    exact h y hy
   exact .cons h hs
theorem LJ(cs:List aB):∀(acc:List B),nZ acc→nZ (cs.foldl (λacc c=>lD c.d.name acc) acc)∧∀n,n∈cs.foldl (λacc c=>lD c.d.name acc) acc↔n∈acc∨∃c∈cs,c.d.name=n:=by
 induction cs with
 | nil=>intro acc h;exact⟨h,by simp⟩
 | cons c cs ih=>
  intro acc h;have:=ih _ (IC (n:=c.d.name) h);refine⟨this.1,λn=>?_⟩;simp only[List.foldl_cons];rw[this.2,xG];simp only[List.mem_cons,exists_eq_or_imp];constructor
  ·rintro((h | h) | h)
   ·exact .inr (.inl h.symm)
   ·exact .inl h
   exact .inr (.inr h)
  rintro(h | h | h)
  ·exact .inl (.inr h)
  ·exact .inl (.inl h.symm)
  exact .inr h
theorem Bh(cs:List aB):nZ (vS cs):=(LJ cs [] .nil).1
theorem LK(cs:List aB)(n:B):n∈vS cs↔∃c∈cs,c.d.name=n:=by
 have:=(LJ cs [] .nil).2 n;unfold vS;simpa using this
theorem EI{cs:List aB}{n:B}:(∃c∈cs,c.d.name=n)↔jl cs n≠none:=by
 have:=lV cs n;cases h:jl cs n with
 | none=>
  rw[h]at this;simp only[ne_eq,not_true_eq_false,iff_false];rintro⟨c,hc,hn⟩;exact this c hc hn
 | some w=>
  rw[h]at this;simp only[ne_eq,reduceCtorEq,not_false_eq_true,iff_true];exact⟨w,this.1,this.2.1⟩
theorem Gg{cs:List aB}{d:aC}:d∈nM cs↔∃c,jl cs d.name=some c∧c.d=d:=by
 unfold nM;simp only[List.mem_filterMap,Option.map_eq_some_iff];constructor
 ·rintro⟨n,_,c,hc,rfl⟩;have:=lV cs n;rw[hc]at this;exact⟨c,by rw[this.2.1];exact hc,rfl⟩
 rintro⟨c,hc,rfl⟩;refine⟨c.d.name,?_,c,hc,rfl⟩;rw[LK,EI,hc];simp
theorem Gh(cs:List aB):(nM cs).map (·.name)=vS cs:=by
 have:∀ns:List B,(∀n∈ns,jl cs n≠none)→(ns.filterMap λn=>(jl cs n).map (·.d)).map (·.name)=ns:=by
  intro ns
  induction ns with
  | nil=>intro _;rfl
  | cons n ns ih=>
   intro h;have h1:=h n (by simp);have h2:=lV cs n;cases hw:jl cs n with
   | none=>exact absurd hw h1
   | some c=>
    rw[hw]at h2;simp only[List.filterMap_cons,hw,Option.map_some,List.map_cons,h2.2.1];rw[ih (λm hm=>h m (by simp[hm]))]
 exact this _ λn hn=>EI.1 ((LK cs n).1 hn)
def akB(l:List ak)(k:Int)(ay:List B)(r:au):Ans (List aB):=gG l k ay [r]
inductive nC:Ans (List aB)→Ans (List aB)→Prop
 | bad (f:iL):nC (.bad f) (.bad f)
 | ok {a b:List aB} (h:∀n,(jl a n)=(jl b n)):nC (.ok a) (.ok b)
theorem nC.refl(a:Ans (List aB)):nC a a:=by
 cases a with
 | bad f=>exact .bad f
 | ok a=>exact .ok λ_=>rfl
theorem nC.trans{a b c:Ans (List aB)}(h:nC a b)(g:nC b c):nC a c:=by
 cases h with
 | bad f=>exact g
 | ok h=>
  cases g with
  | ok g=>exact .ok λn=>(h n).trans (g n)
theorem nC.app{a b c d:Ans (List aB)}(h:nC a b)(g:nC c d):nC (a.then λx=>c.then λy=>.ok (x++y)) (b.then λx=>d.then λy=>.ok (x++y)):=by
 cases h with
 | bad f=>exact .bad f
 | ok h=>
  cases g with
  | bad f=>exact .bad f
  | ok g=>exact .ok λn=>by rw[Ad,Ad,h,g]
def ahq(r:au):List au:=r.aZ.map λs => { r with aZ:=[s] }
def agD(d:List aC)(w:lX):List aB:=d.map λx=>⟨x,false,w⟩
def ajh(d:List aC)(n:B):Option aC:=(jl (agD d ⟨0,0,0⟩) n).map (·.d)
inductive PT where
 | nil
 | text (c:UInt8) (next:PT)
 | note (x:B) (next:PT)
 | elem (nm:B) (al:List (B×B)) (kids next:PT)
 | style (al:List (B×B)) (inner:B) (next:PT)
def bY(a:B×B):B:=[32]++(a.1++([61,34]++(a.2++[34])))
def bD:List (B×B)→B
 | []=>[]
 | a::al=>bY a++bD al
def aG(nm:B)(al:List (B×B)):B:=[60]++(nm++(bD al++[62]))
def aT(nm:B):B:=[60,47]++(nm++[62])
def aU:PT→B
 | .nil=>[]
 | .text c n=>c::aU n
 | .note x n=>cu++(x++(dS++aU n))
 | .elem nm al kids n=>aG nm al++(aU kids++(aT nm++aU n))
 | .style al inner n=>aG aj al++(inner++(aT aj++aU n))
def lW:PT→Nat
 | .nil=>0
 | .text _ n=>lW n
 | .note _ n=>lW n
 | .elem _ _ kids n=>1+lW kids+lW n
 | .style _ _ n=>1+lW n
def eH:Nat→List (B×B)→List bf
 | _,[]=>[]
 | p,a::al=>⟨a.1,a.2,(p:Int),((p+(bY a).length:Nat):Int)⟩::eH (p+(bY a).length) al
def fV:Int→Nat→Nat→PT→List ak
 | _,_,_,.nil=>[]
 | par,c,p,.text _ n=>fV par c (p+1) n
 | par,c,p,.note x n=>fV par c (p+(4+x.length+3)) n
 | par,c,p,.elem nm al kids n=>
  ⟨nm,par,eH (p+1+nm.length) al,((p+1+nm.length:Nat):Int),0,0⟩ ::
   (fV (c:Int) (c+1) (p+(aG nm al).length) kids++fV par (c+1+lW kids) (p+(aG nm al).length+(aU kids).length+(aT nm).length) n)
 | par,c,p,.style al inner n=>
  ⟨aj,par,eH (p+1+aj.length) al,((p+1+aj.length:Nat):Int),((p+(aG aj al).length:Nat):Int),((p+(aG aj al).length+inner.length:Nat):Int)⟩ ::
   fV par (c+1) (p+(aG aj al).length+inner.length+(aT aj).length) n
theorem kQ:∀(T:PT) (par:Int) (c p:Nat),(fV par c p T).length=lW T
 | .nil,_,_,_=>rfl
 | .text _ n,_,_,_=>by simp only[fV,lW,kQ n]
 | .note _ n,_,_,_=>by simp only[fV,lW,kQ n]
 | .elem _ _ kids n,_,_,_=>by simp only[fV,lW,List.length_cons,List.length_append,kQ n,kQ kids];omega
 | .style _ _ n,_,_,_=>by simp only[fV,lW,List.length_cons,kQ n];omega
structure Oh(al:List (B×B)):Prop where
 name:∀a∈al,rO a.1
 val:∀a∈al,∀c∈a.2,isVal c=true
 few:al.length≤8
 apart:(al.map (·.1)).Nodup
def Xk:Nat→PT→Prop
 | _,.nil=>True
 | d,.text c n=>pY c=true∧c≠60∧Xk d n
 | d,.note x n=>bg dS (x++dS)=some x.length∧Xk d n
 | d,.elem nm al kids n=>d≤20∧rO nm∧nm≠aj∧Oh al∧Xk (d+1) kids∧Xk d n
 | d,.style al inner n=>d≤20∧Oh al∧bg jY (inner++jY)=some inner.length∧Xk d n
theorem Ry{l nm l':B}{a a':Nat}(h:jO l a=.ok (nm,l',a')):dM l a=.ok (nm,l',a'):=by
 unfold jO at h;unfold dM;split at h
 ·cases h
 split at h
 ·cases h
 rw[if_neg (by omega)];exact h
theorem ab1{as:List bf}{nm:B}:(as.any λa=>a.name==nm)=true↔nm∈as.map (·.name):=by
 simp only[List.any_eq_true,List.mem_map,beq_iff_eq]
theorem xH:∀(al:List (B×B)) (p:Nat),(eH p al).length=al.length
 | [],_=>rfl
 | a::al,p=>by simp only[eH,List.length_cons,xH al]
theorem BO(a:B×B):0<(bY a).length:=by simp[bY]
theorem ab2{as:List bf}{l l':B}{p p':Nat}{x:bf}(hp:([32]:B).isPrefixOf l=true)(h:pAttr as l p=.ok (x,l',p')):
  ∃a:B×B,rO a.1∧(∀c∈a.2,isVal c=true)∧a.1 ∉ as.map (·.name)∧as.length≠8∧l=bY a++l'∧p'=p+(bY a).length∧x=⟨a.1,a.2,(p:Int),((p+(bY a).length:Nat):Int)⟩:=by
 obtain⟨r,rfl,hd⟩:=fM hp;rw[show([32]:B).length=1 from rfl]at hd;unfold pAttr at h;rw[hd]at h;obtain⟨⟨nm,l1,p1⟩,h1,h⟩:=then_ok h;have h1':=Ry h1;obtain⟨hpos,rfl,rfl,_,_⟩:=mP h1';simp only at h;split at h
 ·cases h
 rename_i hb
 rw[Bool.or_eq_true,not_or,ab1]at hb;obtain⟨⟨l2,p2⟩,h2,h⟩:=then_ok h;obtain⟨rfl,rfl,_⟩:=iM h2;obtain⟨⟨l3,p3⟩,h3,h⟩:=then_ok h;simp only at h3;have hsplit:l2=pVal l2++l2.drop (pVal l2).length:=by
  conv=>lhs;rw[←List.take_append_drop (pVal l2).length l2]
  unfold pVal;rw[takeWhile_take]
 obtain⟨e3,rfl,_⟩:=iM h3;cases h;refine⟨(nm,pVal l2),zN h1',λc hc=>List.all_eq_true.1 (List.all_takeWhile (p:=isVal) (l:=l2)) c hc,hb.1,by simpa using hb.2,?_,?_,?_⟩
 ·unfold bY
  conv=>lhs;rw[hsplit,e3]
  simp
 ·simp[bY];omega
 congr 2;simp[bY];omega
theorem Y9:∀(f:Nat) (as:List bf) (l:B) (p:Nat) (as':List bf) (l':B) (p':Nat),iW f as l p=.ok (as',l',p')→(as.map (·.name)).Nodup→as.length≤8 →
  ∃al:List (B×B),(∀a∈al,rO a.1)∧(∀a∈al,∀c∈a.2,isVal c=true)∧as.length+al.length≤8∧(as.map (·.name)++al.map (·.1)).Nodup∧l=bD al++l'∧p'=p+(bD al).length∧as'=as++eH p al∧([32]:B).isPrefixOf l'=false:=by
 intro f
 induction f with
 | zero=>intro as l p as' l' p' h;cases h
 | succ f ih=>
  intro as l p as' l' p' h hnd hle;rw[iW]at h;split at h
  ·rename_i hp
   obtain⟨⟨x,l1,p1⟩,h1,h⟩:=then_ok h;obtain⟨a,h2,h3,h4,h5,rfl,rfl,rfl⟩:=ab2 hp h1;obtain⟨al,g1,g2,g3,g4,rfl,rfl,rfl,g5⟩:=ih _ _ _ _ _ _ h (by
    rw[List.map_append,List.nodup_append];refine⟨hnd,by simp,?_⟩;intro y hy z hz;simp at hz;subst hz;rintro rfl;exact h4 hy) (by simp;omega)
   refine⟨a::al,?_,?_,by simp at g3 ⊢;omega,by simpa using g4,by simp[bD],by simp[bD];omega,by simp[eH],g5⟩
   ·intro y hy;rcases List.mem_cons.1 hy with rfl | hy
    ·exact h2
    exact g1 y hy
   intro y hy;rcases List.mem_cons.1 hy with rfl | hy
   ·exact h3
   exact g2 y hy
  rename_i hp
  cases h;exact⟨[],by simp,by simp,by simpa using hle,by simpa using hnd,rfl,rfl,by simp[eH],by rw[Bool.not_eq_true]at hp;exact hp⟩
theorem open_inv{parent:Int}{deep count:Nat}{l l':B}{p p':Nat}{n:ak}(h:o9 parent deep count l p=.ok (n,l',p')):
  deep≤20∧count≠120∧∃(nm:B) (al:List (B×B)),rO nm∧Oh al∧l=aG nm al++l'∧p'=p+(aG nm al).length∧n=⟨nm,parent,eH (p+1+nm.length) al,((p+1+nm.length:Nat):Int),0,0⟩:=by
 unfold o9 at h;split at h
 ·cases h
 split at h
 ·cases h
 rename_i hd hc
 refine⟨by omega,hc,?_⟩;obtain⟨⟨l1,p1⟩,h1,h⟩:=then_ok h;obtain⟨rfl,rfl,_⟩:=iM h1;obtain⟨⟨nm,l2,p2⟩,h2,h⟩:=then_ok h;have h2':=Ry h2;obtain⟨hpos,rfl,rfl,_,_⟩:=mP h2';obtain⟨⟨as,l3,p3⟩,h3,h⟩:=then_ok h;obtain⟨al,g1,g2,g3,g4,rfl,rfl,rfl,g5⟩:=Y9 _ _ _ _ _ _ _ h3 (by simp) (by simp);obtain⟨⟨l4,p4⟩,h4,h⟩:=then_ok h;obtain⟨rfl,rfl,_⟩:=iM h4;cases h;refine⟨nm,al,zN h2',⟨g1,g2,by simpa using g3,by simpa using g4⟩,by simp[aG],by simp[aG];omega,?_⟩;simp
def aff(m:B):Bool:=m.isEmpty||([60,47]:B).isPrefixOf m
theorem LM{l:B}{e:Nat}{w:B}(hw:w≠[])(h:bg w l=some e):∃x r,x.length=e∧l=x++(w++r)∧bg w (x++w)=some x.length:=by
 obtain⟨r,hr⟩:=zA h;have hle:=gY _ _ _ h;have hx:(l.take e).length=e:=by simp;omega
 refine⟨l.take e,r,hx,by rw[←List.append_assoc];exact hr,?_⟩;have:=qg hw [] h;rw[List.append_nil]at this;have e1:l.take (e+w.length)=l.take e++w:=by
  conv=>lhs;rw[hr]
  rw[List.take_append_of_le_length (by simp[hx])];rw[List.take_of_length_le (by simp[hx])]
 rw[e1]at this;rw[hx];exact this
theorem Za:∀(f:Nat) (parent:Int) (deep:Nat) (ns:List ak) (l:B) (p:Nat) (ns':List ak) (l':B) (p':Nat),dU f parent deep ns l p=.ok (ns',l',p')→ns.length≤120 →
  ∃T:PT,Xk deep T∧l=aU T++l'∧p'=p+(aU T).length∧ns'=ns++fV parent ns.length p T∧aff l'=true∧ns'.length≤120:=by
 intro f
 induction f with
 | zero=>intro parent deep ns l p ns' l' p' h;cases h
 | succ f ih=>
  intro parent deep ns l p ns' l' p' h hn;cases l with
  | nil=>cases h;exact⟨.nil,trivial,rfl,rfl,by simp[fV],rfl,hn⟩
  | cons c t=>
   rw[dU]at h;split at h
   ·rename_i hp
    cases h;exact⟨.nil,trivial,rfl,rfl,by simp[fV],by simp[aff,hp],hn⟩
   rename_i hp1
   split at h
   ·rename_i hp
    obtain⟨r,hr⟩:=List.isPrefixOf_iff_prefix.1 hp;rw[←hr]at h ⊢;have hd:(cu++r).drop 4=r:=rfl;rw[hd]at h;split at h
    ·cases h
    rename_i e hf
    obtain⟨x,r2,rfl,rfl,hx⟩:=LM (by simp[dS]) hf;have hd2:(cu++(x++(dS++r2))).drop (4+x.length+3)=r2:=by
     rw[show 4+x.length+3=4+(x.length+3) from by omega,←List.drop_drop,hd,←List.drop_drop,List.drop_left]
     rfl
    rw[hd2]at h;obtain⟨T,h1,rfl,rfl,rfl,h5,h6⟩:=ih _ _ _ _ _ _ _ _ h hn;have h4:cu.length=4:=rfl;have h7:dS.length=3:=rfl;exact⟨.note x T,⟨hx,h1⟩,by simp[aU],by simp[aU,h4,h7];omega,rfl,h5,h6⟩
   rename_i hp2
   split at h
   ·rename_i hp3
    obtain⟨⟨ns1,l1,p1⟩,h1,h⟩:=then_ok h;unfold kT at h1;obtain⟨⟨n,l2,p2⟩,h2,h1⟩:=then_ok h1;obtain⟨hd,hc,nm,al,hnm,hal,hl,rfl,rfl⟩:=open_inv h2;obtain⟨⟨ns3,l3,p3⟩,h3,h1⟩:=then_ok h1;obtain⟨⟨l4,p4⟩,h4,h1⟩:=then_ok h1;obtain⟨e4,e5,_⟩:=iM h4;simp only at e4 e5;cases h1;unfold jq at h3;simp only at h3;split at h3
    ·rename_i hst
     split at h3
     ·cases h3
     rename_i e hf
     obtain⟨x,r2,rfl,hl2,hx⟩:=LM (by simp[jY]) hf;cases h3;obtain⟨T,t1,rfl,rfl,rfl,t5,t6⟩:=ih _ _ _ _ _ _ _ _ h (by simp;omega);rw[hst]at e4 hl e5 hnm t6 ⊢;refine⟨.style al x T,⟨hd,hal,hx,t1⟩,?_,?_,?_,t5,t6⟩
     ·rw[hl];have:l2=x++(aT aj++(aU T++l')):=by
       conv=>lhs;rw[←List.take_append_drop x.length l2,e4]
       rw[hl2,List.take_left];simp[aT]
      rw[this];simp[aU]
     ·rw[e5];simp[aU,aT];omega
     rw[e5];simp only[fV,List.append_assoc,List.length_append,List.length_cons,List.length_nil,List.cons_append,List.nil_append,Nat.zero_add];congr 3
    rename_i hst
    subst e4 e5;obtain⟨K,k1,rfl,rfl,rfl,k5,k6⟩:=ih _ _ _ _ _ _ _ _ h3 (by simp;omega);obtain⟨T,t1,rfl,rfl,rfl,t5,t6⟩:=ih _ _ _ _ _ _ _ _ h k6;refine⟨.elem nm al K T,⟨hd,hnm,hst,hal,k1,t1⟩,?_,?_,?_,t5,t6⟩
    ·rw[hl];simp[aU,aT]
    ·simp[aU,aT];omega
    simp only[fV,List.append_assoc,List.length_append,List.length_cons,List.length_nil,kQ,List.cons_append,List.nil_append,Nat.zero_add];rw[show ns.length+(lW K+1)=ns.length+1+lW K from by omega];rw[show(aT nm).length=nm.length+1+1+1 from by simp[aT]]
   rename_i hp3
   split at h
   ·rename_i hok
    obtain⟨T,t1,rfl,rfl,rfl,t5,t6⟩:=ih _ _ _ _ _ _ _ _ h hn;refine⟨.text c T,⟨hok,?_,t1⟩,rfl,by simp[aU];omega,rfl,t5,t6⟩;rintro rfl;exact hp3 (by simp[List.isPrefixOf])
   cases h
theorem Rz{s:B}{ns:List ak}(h:lq s=.ok ns):s.length≤6000∧∃T:PT,Xk 1 T∧lW T≤120∧s=aU T∧ns=fV (-1) 0 0 T:=by
 unfold lq at h;split at h
 ·cases h
 rename_i hl
 obtain⟨⟨ns1,l1,p1⟩,h1,h⟩:=then_ok h;obtain⟨T,t1,rfl,rfl,rfl,t5,t6⟩:=Za _ _ _ _ _ _ _ _ _ h1 (by simp);simp only at h;split at h
 ·rename_i he
  cases h;subst he;refine⟨by omega,T,t1,by simpa [kQ] using t6,by simp,by simp⟩
 cases h
def bF(s:B):List ak→Ans (List au)
 | []=>.ok []
 | n::ns=>
  if n.name=aj then
   match iZ (sub s n.qE.toNat n.inT.toNat)with
   | .bad f=>.bad ⟨f.err,n.qE.toNat+f.pos⟩
   | .ok rs=>(bF s ns).then λqs=>.ok (rs.map (au.shift n.qE.toNat)++qs)
  else bF s ns
def mY(rs:List au):Option iL:=(rs.find? λr=>(fH r.decls).isNone).map λr=>⟨5,r.lo.toNat⟩
def jW(a:bf):Option iL:=
 if a.name=aj then
  match dW a.val with
  | .bad f=>some ⟨f.err,a.lo.toNat⟩
  | .ok ds=>if (fH ds).isNone then some ⟨5,a.lo.toNat⟩ else none
 else none
def rY(l:List ak):Option iL:=(l.flatMap (·.attrs)).findSome? jW
def rP(s:B):Ans (List ak×List au):=
 (lq s).then λl=>(bF s l).then λrs=>
 if 60<rs.length then .bad ⟨5,0⟩ else
 match mY rs with
 | some f=>.bad f
 | none=>match rY l with
  | some f=>.bad f
  | none=>.ok (l,rs)
def iQ(r:au):List aC:=(fH r.decls).getD []
def touchAt(l:List ak)(r:au)(k:Nat):List (Nat×B):=if (kD l (k:Int) r.aZ).2 then (iQ r).map λd=>(k,d.name) else []
def touches(l:List ak)(r:au):List (Nat×B):=(List.range l.length).flatMap (touchAt l r)
theorem RD{l:List ak}{r:au}{k:Nat}{n:B}:(k,n)∈touches l r↔k<l.length∧(kD l (k:Int) r.aZ).2=true∧∃d∈iQ r,d.name=n:=by
 unfold touches touchAt;simp only[List.mem_flatMap,List.mem_range];constructor
 ·rintro⟨j,hj,h⟩;split at h
  ·rename_i hb
   obtain⟨d,hd,he⟩:=List.mem_map.1 h;cases he;exact⟨hj,hb,d,hd,rfl⟩
  cases h
 rintro⟨hj,hb,d,hd,rfl⟩;refine⟨k,hj,?_⟩;rw[if_pos hb];exact List.mem_map.2 ⟨d,hd,rfl⟩
inductive IE(l:List ak)(rules:List au):Nat→Prop
 | ay {i:Nat} {r:au} (h:rules[i]?=some r) (hm:r.ay≠[]):IE l rules i
 | meet {i j:Nat} {r q:au} {p:Nat×B} (hi:rules[i]?=some r) (hj:rules[j]?=some q) (hs:IE l rules j) (h1:p∈touches l r) (h2:p∈touches l q):IE l rules i
structure ni(l:List ak)(rules:List au)(st:List Bool):Prop where
 len:st.length=rules.length
 iff:∀i b,st[i]?=some b→(b=true↔IE l rules i)
theorem ni.unique{l:List ak}{rules:List au}{st su:List Bool}(h:ni l rules st)(g:ni l rules su):st=su:=by
 apply List.ext_getElem?;intro i;by_cases hi:i<rules.length
 ·have h1:=List.getElem?_eq_getElem (show i<st.length by rw[h.len];exact hi);have g1:=List.getElem?_eq_getElem (show i<su.length by rw[g.len];exact hi);have h2:=h.iff _ _ h1;have g2:=g.iff _ _ g1;rw[h1,g1];congr 1;rw[Bool.eq_iff_iff,h2,g2]
 rw[List.getElem?_eq_none (by rw[h.len];omega),List.getElem?_eq_none (by rw[g.len];omega)]
structure bT where
 lo:Nat
 hi:Nat
 text:B
 deriving DecidableEq
def eY(s:B):Nat→List bT→B
 | a,[]=>s.drop a
 | a,e::es=>sub s a e.lo++(e.text++eY s e.hi es)
def oD(s:B):Nat→List bT→Prop
 | a,[]=>a≤s.length
 | a,e::es=>a≤e.lo∧e.lo≤e.hi∧e.hi≤s.length∧oD s e.hi es
def dQ:List au→List Bool→List au
 | r::rs,b::bs=>if b then dQ rs bs else r::dQ rs bs
 | _,_=>[]
def dI(r:au):bT:=⟨r.lo.toNat,r.hi.toNat,[32]⟩
def P7(n:ak):Int×Int:=n.attrs.foldl (λp a=>if a.name=aj then (a.lo,a.hi) else p) (n.bG,n.bG)
def uH:B:=[32,115,116,121,108,101,61,34]
def wO(n:ak)(text:B):Option bT:=
 if (gJ n.attrs aj).2=true∧(gJ n.attrs aj).1=text∨(gJ n.attrs aj).2=false∧text=[] then none
 else some ⟨(P7 n).1.toNat,(P7 n).2.toNat,if text=[] then [] else uH++text++[34]⟩
def aQ(l:List ak)(k:Nat)(gone:List au):B×Bool:=match dO l (k:Int) gone []with
 | .bad _=>([],true)
 | .ok look=>(dH look,decide (look.length≤20))
def fE(l:List ak)(gone:List au):Nat→List ak→Ans (List bT)
 | _,[]=>.ok []
 | k,n::ns=>
  if (aQ l k gone).2=false∨(gJ n.attrs aj).2=false∧n.attrs.length=8∧(aQ l k gone).1≠[] then .bad ⟨5,n.bG.toNat⟩
  else (fE l gone (k+1) ns).then λes=>.ok ((wO n (aQ l k gone).1).toList++es)
def IG(e:bT):List bT→List bT
 | []=>[e]
 | x::xs=>if e.lo≤x.lo then e::x::xs else x::IG e xs
def iP:List bT→List bT
 | []=>[]
 | e::es=>IG e (iP es)
def RF(s:B)(l:List ak)(rules:List au)(st:List Bool):Ans B:=
 (fE l (dQ rules st) 0 l).then λes=>
 if 6000<(eY s 0 (iP ((dQ rules st).map dI++es))).length then .bad ⟨4,0⟩ else .ok (eY s 0 (iP ((dQ rules st).map dI++es)))
inductive fZ:List bT→Prop
 | nil:fZ []
 | cons {x:bT} {xs:List bT} (h:∀y∈xs,x.lo<y.lo) (hs:fZ xs):fZ (x::xs)
theorem Ae(e:bT):∀xs,(IG e xs).Perm (e::xs)
 | []=>.refl _
 | x::xs=>by
  simp only[IG];split
  ·exact .refl _
  exact((Ae e xs).cons x).trans (.swap e x xs)
theorem kF:∀xs,(iP xs).Perm xs
 | []=>.refl _
 | x::xs=>(Ae x _).trans ((kF xs).cons x)
theorem fZ.unique:∀ {xs ys:List bT},fZ xs→fZ ys→xs.Perm ys→xs=ys
 | [],ys,_,_,h=>(List.nil_perm.1 h).symm
 | x::xs,[],_,_,h=>absurd h.length_eq (by simp)
 | x::xs,y::ys,.cons h1 h2,.cons g1 g2,h=>by
  have e:x=y:=by
   rcases List.mem_cons.1 (h.mem_iff.1 (List.mem_cons_self (a:=x) (l:=xs)))with e | e
   ·exact e
   rcases List.mem_cons.1 (h.mem_iff.2 (List.mem_cons_self (a:=y) (l:=ys)))with e' | e'
   ·exact e'.symm
   have:=h1 y e';have:=g1 x e;omega
  subst e;rw[fZ.unique h2 g2 (List.Perm.cons_inv h)]
theorem rZ:∀ {xs:List bT},xs.Pairwise (λa b=>a.lo≤b.lo)→(xs.map (·.lo)).Nodup→fZ xs
 | [],_,_=>.nil
 | x::xs,h,hn=>by
  rw[List.pairwise_cons]at h;rw[List.map_cons,List.nodup_cons]at hn;refine .cons (λy hy=>?_) (rZ h.2 hn.2);have h1:=h.1 y hy;have h2:x.lo≠y.lo:=λe=>hn.1 (by rw[e];exact List.mem_map.2 ⟨y,hy,rfl⟩)
  omega
theorem BP(e:bT):∀ {xs:List bT},xs.Pairwise (λa b=>a.lo≤b.lo)→(IG e xs).Pairwise (λa b=>a.lo≤b.lo)
 | [],_=>by simp[IG]
 | x::xs,h=>by
  have h':=h;rw[List.pairwise_cons]at h;simp only[IG];split
  ·rename_i hle
   rw[List.pairwise_cons];refine⟨λy hy=>?_,h'⟩;rcases List.mem_cons.1 hy with rfl | hy
   ·exact hle
   have:=h.1 y hy;omega
  rename_i hle
  rw[List.pairwise_cons];refine⟨λy hy=>?_,BP e h.2⟩;rcases List.mem_cons.1 ((Ae e xs).mem_iff.1 hy)with rfl | hy
  ·omega
  exact h.1 y hy
theorem y8:∀xs:List bT,(iP xs).Pairwise (λa b=>a.lo≤b.lo)
 | []=>.nil
 | x::xs=>BP x (y8 xs)
theorem Zb{xs ys:List bT}(hr:fZ ys)(hp:ys.Perm xs):iP xs=ys:=by
 refine fZ.unique (rZ (y8 xs) ?_) hr ((kF xs).trans hp.symm);have h1:((iP xs).map (·.lo)).Perm (ys.map (·.lo)):=((kF xs).trans hp.symm).map _;rw[h1.nodup_iff];clear h1 hp
 induction hr with
 | nil=>simp
 | cons h hs ih=>
  rw[List.map_cons,List.nodup_cons];refine⟨λhm=>?_,ih⟩;obtain⟨y,hy,he⟩:=List.mem_map.1 hm;have:=h y hy;omega
def oG(inner:B):List au:=match iZ inner with
 | .ok rs=>rs
 | .bad _=>[]
def fD(al:List (B×B)):Bool:=al.any λa=>a.1==aj
def jm(al:List (B×B))(t:B):List (B×B):=
 if fD al=true then (if t=[] then al.filter (λa => !(a.1==aj)||a.2.isEmpty) else al.map λa=>if a.1=aj then (a.1,t) else a)
 else if t=[] then al else (aj,t)::al
def jX:PT→Nat
 | .nil=>0
 | .text _ n=>jX n
 | .note _ n=>jX n
 | .elem _ _ kids n=>jX kids+jX n
 | .style _ inner n=>(oG inner).length+jX n
def sD(tx:Nat→B)(g:Nat→Bool):Nat→Nat→PT→PT
 | _,_,.nil=>.nil
 | c,i,.text x n=>.text x (sD tx g c i n)
 | c,i,.note x n=>.note x (sD tx g c i n)
 | c,i,.elem nm al kids n=>.elem nm (jm al (tx c)) (sD tx g (c+1) i kids) (sD tx g (c+1+lW kids) (i+jX kids) n)
 | c,i,.style al inner n=>.style (jm al (tx c)) (splice (λ_=>[32]) g inner i 0 (oG inner)) (sD tx g (c+1) (i+(oG inner).length) n)
def gq(t:B):B:=uH++t++[34]
def kR(t:B):Nat→List (B×B)→List bT
 | _,[]=>[]
 | q,a::al=>if a.1=aj then (if a.2=t then [] else [⟨q,q+(bY a).length,if t=[] then [] else gq t⟩]) else kR t (q+(bY a).length) al
def oU(t:B)(q:Nat)(al:List (B×B)):List bT:=if fD al=true then kR t q al else if t=[] then [] else [⟨q,q,gq t⟩]
def pU(g:Nat→Bool)(d:Nat):Nat→List au→List bT
 | _,[]=>[]
 | i,r::rs=>if g i then ⟨r.lo.toNat+d,r.hi.toNat+d,[32]⟩::pU g d (i+1) rs else pU g d (i+1) rs
def jS(tx:Nat→B)(g:Nat→Bool):Nat→Nat→Nat→PT→List bT
 | _,_,_,.nil=>[]
 | c,i,p,.text _ n=>jS tx g c i (p+1) n
 | c,i,p,.note x n=>jS tx g c i (p+(4+x.length+3)) n
 | c,i,p,.elem nm al kids n=>oU (tx c) (p+1+nm.length) al++(jS tx g (c+1) i (p+(aG nm al).length) kids ++
   jS tx g (c+1+lW kids) (i+jX kids) (p+(aG nm al).length+(aU kids).length+(aT nm).length) n)
 | c,i,p,.style al inner n=>oU (tx c) (p+1+aj.length) al++(pU g (p+(aG aj al).length) i (oG inner) ++
   jS tx g (c+1) (i+(oG inner).length) (p+(aG aj al).length+inner.length+(aT aj).length) n)
theorem oD.le{s:B}:∀ {es:List bT} {a:Nat},oD s a es→a≤s.length
 | [],_,h=>h
 | _::_,_,⟨h1,h2,h3,_⟩=>by omega
theorem oD.early{s:B}{a b:Nat}{es:List bT}(h:oD s b es)(hab:a≤b):oD s a es:=by
 cases es with
 | nil=>exact Nat.le_trans hab h
 | cons e es=>obtain⟨h1,h2,h3,h4⟩:=h;exact⟨by omega,h2,h3,h4⟩
theorem II{s:B}{a b:Nat}{es:List bT}(h:oD s b es)(hab:a≤b):eY s a es=sub s a b++eY s b es:=by
 cases es with
 | nil=>simp only[eY];exact(abj hab).symm
 | cons e es=>
  obtain⟨h1,h2,h3,h4⟩:=h;simp only[eY];rw[←oP s hab h1,List.append_assoc]
structure Makes(s:B)(a b:Nat)(es:List bT)(t:B):Prop where
 ok:∀more,oD s b more→oD s a (es++more)
 text:∀more,oD s b more→eY s a (es++more)=t++eY s b more
theorem Makes.cat{s:B}{a b c:Nat}{es fs:List bT}{t u:B}(h:Makes s a b es t)(g:Makes s b c fs u):Makes s a c (es++fs) (t++u) where
 ok more hm:=by rw[List.append_assoc];exact h.ok _ (g.ok _ hm)
 text more hm:=by rw[List.append_assoc,h.text _ (g.ok _ hm),g.text _ hm,List.append_assoc]
theorem Makes.none{s:B}{a b:Nat}(hab:a≤b):Makes s a b [] (sub s a b) where
 ok more hm:=by rw[List.nil_append];exact hm.early hab
 text more hm:=by rw[List.nil_append];exact II hm hab
theorem Makes.one{s:B}{a b:Nat}(hab:a≤b)(hb:b≤s.length)(t:B):Makes s a b [⟨a,b,t⟩] t where
 ok more hm:=⟨Nat.le_refl _,hab,hb,hm⟩
 text more hm:=by simp[eY,WZ]
theorem Makes.plain{s p w q:B}(hs:s=p++(w++q)):Makes s p.length (p.length+w.length) [] w:=by
 have:=Makes.none (s:=s) (a:=p.length) (b:=p.length+w.length) (by omega);rw[show sub s p.length (p.length+w.length)=w from by rw[hs,NP]]at this;exact this
theorem BQ(t:B):bY (aj,t)=gq t:=by simp[bY,gq,uH,aj]
theorem xI{al:List (B×B)}(h:fD al=false):al.filter (λa => !(a.1==aj)||a.2.isEmpty)=al:=by
 unfold fD at h;rw[List.filter_eq_self];intro a ha;have:=List.any_eq_false.1 h a ha;simp only[beq_iff_eq]at this;simp[this]
theorem EJ{al:List (B×B)}(t:B)(h:fD al=false):al.map (λa=>if a.1=aj then (a.1,t) else a)=al:=by
 unfold fD at h
 conv=>rhs;rw[←List.map_id al]
 apply List.map_congr_left;intro a ha;have:=List.any_eq_false.1 h a ha;rw[if_neg (by simpa using this)];rfl
theorem mZ(a:B×B)(al:List (B×B)):fD (a::al)=(a.1==aj||fD al):=rfl
theorem Af{al:List (B×B)}(h:aj ∉ al.map (·.1)):fD al=false:=by
 unfold fD;rw[List.any_eq_false];intro a ha;simp only[beq_iff_eq];rintro e;exact h (by rw[←e];exact List.mem_map.2 ⟨a,ha,rfl⟩)
theorem y9{s:B}(t:B):∀(al:List (B×B)) (p q:B),s=p++(bD al++q)→(al.map (·.1)).Nodup→fD al=true →
  Makes s p.length (p.length+(bD al).length) (kR t p.length al) (bD (jm al t))
 | [],p,q,_,_,h=>by cases h
 | a::al,p,q,hs,hn,h=>by
  rw[List.map_cons,List.nodup_cons]at hn;simp only[bD,List.append_assoc]at hs;have hlen:p.length+(bD (a::al)).length=p.length+(bY a).length+(bD al).length:=by simp[bD];omega
  have hs2:s=(p++bY a)++(bD al++q):=by rw[hs];simp
  have hpl:(p++bY a).length=p.length+(bY a).length:=by simp
  rw[hlen];by_cases ha:a.1=aj
  ·have hno:fD al=false:=Af (by rw[←ha];exact hn.1);have htail:Makes s (p.length+(bY a).length) (p.length+(bY a).length+(bD al).length) [] (bD al):=by
    have:=Makes.plain hs2
    rwa [hpl]at this
   simp only[kR];rw[if_pos ha];split
   ·rename_i hv
    have hset:jm (a::al) t=a::al:=by
     unfold jm;rw[if_pos h];split
     ·rename_i ht
      simp only[List.filter_cons,hv,ht,List.isEmpty_nil,Bool.or_true,if_true,xI hno]
     simp only[List.map_cons,ha,if_true,EJ t hno];rw[←hv,←ha]
    have h1:Makes s p.length (p.length+(bY a).length) [] (bY a):=Makes.plain hs;have:=h1.cat htail;rw[hset];simpa [bD] using this
   rename_i hv
   have hset:jm (a::al) t=if t=[] then al else (aj,t)::al:=by
    unfold jm;rw[if_pos h];split
    ·rename_i ht
     have:a.2.isEmpty=false:=by rw[List.isEmpty_eq_false_iff];rw[ht]at hv;exact hv
     simp only[List.filter_cons,ha,this,beq_self_eq_true,Bool.not_true,Bool.or_self,Bool.false_eq_true,if_false];exact xI hno
    simp only[List.map_cons,ha,if_true];rw[EJ t hno]
   have hb:p.length+(bY a).length≤s.length:=by rw[hs];simp
   have:=(Makes.one (s:=s) (a:=p.length) (b:=p.length+(bY a).length) (by omega) hb (if t=[] then [] else gq t)).cat htail;rw[List.append_nil]at this;rw[hset];split
   ·rename_i ht
    rw[if_pos ht]at this;exact this
   rename_i ht
   rw[if_neg ht]at this;simp only[bD,BQ];exact this
  have h':fD al=true:=by
   rw[mZ]at h;simpa [ha] using h
  have hset:jm (a::al) t=a::jm al t:=by
   unfold jm;rw[if_pos h,if_pos h'];split
   ·simp[List.filter_cons,ha]
   simp[ha]
  have h1:Makes s p.length (p.length+(bY a).length) [] (bY a):=Makes.plain hs;have h2:=y9 t al (p++bY a) q hs2 hn.2 h';rw[hpl]at h2;have:=h1.cat h2;simp only[kR];rw[if_neg ha,hset];simp only[bD];exact this
theorem VE{s:B}(t:B){al:List (B×B)}{p q:B}(hs:s=p++(bD al++q))(hn:(al.map (·.1)).Nodup):Makes s p.length (p.length+(bD al).length) (oU t p.length al) (bD (jm al t)):=by
 unfold oU;split
 ·rename_i h
  exact y9 t al p q hs hn h
 rename_i h
 have h1:Makes s p.length (p.length+(bD al).length) [] (bD al):=Makes.plain hs;unfold jm;rw[if_neg h];split
 ·exact h1
 have hb:p.length≤s.length:=by rw[hs];simp
 have:=(Makes.one (s:=s) (a:=p.length) (b:=p.length) (by omega) hb (gq t)).cat h1;simpa [bD,BQ] using this
theorem IJ{s:B}(t:B){nm:B}{al:List (B×B)}{p q:B}(hs:s=p++(aG nm al++q))(hn:(al.map (·.1)).Nodup):
  Makes s p.length (p.length+(aG nm al).length) (oU t (p.length+1+nm.length) al) (aG nm (jm al t)):=by
 have e1:s=p++(([60]++nm)++(bD al++([62]++q))):=by rw[hs];simp[aG]
 have e2:s=(p++([60]++nm))++(bD al++([62]++q)):=by rw[hs];simp[aG]
 have e3:s=(p++([60]++nm)++bD al)++([62]++q):=by rw[hs];simp[aG]
 have m1:Makes s p.length (p.length+([60]++nm).length) [] ([60]++nm):=Makes.plain e1;have m2:=VE t e2 hn;have m3:=Makes.plain e3;have l2:(p++([60]++nm)).length=p.length+([60]++nm).length:=by simp
 have l3:(p++([60]++nm)++bD al).length=p.length+([60]++nm).length+(bD al).length:=by simp;omega
 rw[l3]at m3;rw[l2]at m2;have m:=(m1.cat m2).cat m3;rw[List.nil_append,List.append_nil]at m;have ea:p.length+([60]++nm).length=p.length+1+nm.length:=by simp;omega
 have eb:p.length+([60]++nm).length+(bD al).length+([62]:B).length=p.length+(aG nm al).length:=by simp[aG];omega
 rw[eb]at m;rw[ea]at m;have et:aG nm (jm al t)=([60]++nm++bD (jm al t))++[62]:=by simp[aG]
 rw[et];exact m
theorem ab3{s p w q:B}(hs:s=p++(w++q)){a b:Nat}(hb:b≤w.length):sub s (p.length+a) (p.length+b)=sub w a b:=by
 unfold sub;rw[hs,show p.length+b-(p.length+a)=b-a from by omega,←List.drop_drop,List.drop_left];by_cases h:a≤w.length
 ·rw[List.drop_append_of_le_length h,List.take_append_of_le_length (by simp;omega)]
 rw[show b-a=0 from by omega];simp
theorem aee(w:B)(a:Nat):sub w a w.length=w.drop a:=by unfold sub;rw[List.take_of_length_le (by simp)]
theorem Ag{s:B}(g:Nat→Bool){p w q:B}(hs:s=p++(w++q)):∀(rs:List au) (i a:Nat),a≤w.length→Placed w a rs →
  Makes s (p.length+a) (p.length+w.length) (pU g p.length i rs) (splice (λ_=>[32]) g w i a rs)
 | [],i,a,ha,_=>by
  have:=Makes.none (s:=s) (a:=p.length+a) (b:=p.length+w.length) (by omega);rw[ab3 hs (Nat.le_refl _),aee]at this;exact this
 | r::rs,i,a,ha,hp=>by
  obtain⟨lo,hi,h1,h2,h3,h4,h5,h6,h7⟩:=hp;have hsl:s.length=p.length+(w.length+q.length):=by rw[hs];simp
  simp only[pU,splice];split
  ·have m1:=Makes.none (s:=s) (a:=p.length+a) (b:=p.length+lo) (by omega);rw[ab3 hs (by omega)]at m1;have m2:=Makes.one (s:=s) (a:=p.length+lo) (b:=p.length+hi) (by omega) (by omega) [32];have m3:=Ag g hs rs (i+1) hi h5 h7;have m:=(m1.cat m2).cat m3;rw[h1,h2,Int.toNat_natCast,Int.toNat_natCast,Nat.add_comm lo,Nat.add_comm hi];exact m
  exact Ag g hs rs (i+1) a ha (h7.early (by omega))
def OO:PT→Prop
 | .nil=>True
 | .text _ n=>OO n
 | .note _ n=>OO n
 | .elem _ _ kids n=>OO kids∧OO n
 | .style _ inner n=>(∃rs,iZ inner=.ok rs)∧OO n
theorem oV{inner:B}{rs:List au}(h:iZ inner=.ok rs):oG inner=rs:=by unfold oG;rw[h]
theorem oW{s:B}(tx:Nat→B)(g:Nat→Bool):∀(T:PT) (d c i:Nat) (p q:B),s=p++(aU T++q)→Xk d T→OO T →
  Makes s p.length (p.length+(aU T).length) (jS tx g c i p.length T) (aU (sD tx g c i T))
 | .nil,d,c,i,p,q,hs,_,_=>by
  have:=Makes.plain (w:=[]) (q:=q) hs;simpa [jS,sD,aU] using this
 | .text x n,d,c,i,p,q,hs,hw,ho=>by
  have e1:s=p++([x]++(aU n++q)):=by rw[hs];simp[aU]
  have e2:s=(p++[x])++(aU n++q):=by rw[hs];simp[aU]
  have m1:=Makes.plain e1;have m2:=oW tx g n d c i (p++[x]) q e2 hw.2.2 ho;have l1:(p++[x]).length=p.length+1:=by simp
  rw[l1]at m2;have m:=m1.cat m2;simp only[jS,sD,aU,List.length_cons];rw[show p.length+((aU n).length+1)=p.length+1+(aU n).length from by omega];exact m
 | .note x n,d,c,i,p,q,hs,hw,ho=>by
  have e1:s=p++((cu++(x++dS))++(aU n++q)):=by rw[hs];simp[aU]
  have e2:s=(p++(cu++(x++dS)))++(aU n++q):=by rw[hs];simp[aU]
  have m1:=Makes.plain e1;have m2:=oW tx g n d c i (p++(cu++(x++dS))) q e2 hw.2 ho;have l0:(cu++(x++dS)).length=4+x.length+3:=by simp[cu,dS];omega
  have l1:(p++(cu++(x++dS))).length=p.length+(4+x.length+3):=by rw[List.length_append,l0]
  rw[l1]at m2;rw[l0]at m1;have m:=m1.cat m2;have et:aU (sD tx g c i (.note x n))=(cu++(x++dS))++aU (sD tx g c i n):=by simp[sD,aU]
  have el:p.length+(aU (.note x n)).length=p.length+(4+x.length+3)+(aU n).length:=by
   simp[aU,cu,dS];omega
  rw[et,el];exact m
 | .elem nm al kids n,d,c,i,p,q,hs,hw,ho=>by
  obtain⟨h1,h2,h3,h4,h5,h6⟩:=hw;have e1:s=p++(aG nm al++(aU kids++(aT nm++(aU n++q)))):=by rw[hs];simp[aU]
  have e2:s=(p++aG nm al)++(aU kids++(aT nm++(aU n++q))):=by rw[hs];simp[aU]
  have e3:s=(p++aG nm al++aU kids)++(aT nm++(aU n++q)):=by rw[hs];simp[aU]
  have e4:s=(p++aG nm al++aU kids++aT nm)++(aU n++q):=by rw[hs];simp[aU]
  have l2:(p++aG nm al).length=p.length+(aG nm al).length:=by simp
  have l3:(p++aG nm al++aU kids).length=p.length+(aG nm al).length+(aU kids).length:=by simp;omega
  have l4:(p++aG nm al++aU kids++aT nm).length=p.length+(aG nm al).length+(aU kids).length+(aT nm).length:=by simp;omega
  have m1:=IJ (tx c) e1 h4.apart;have m2:=oW tx g kids _ (c+1) i _ _ e2 h5 ho.1;have m3:=Makes.plain e3;have m4:=oW tx g n _ (c+1+lW kids) (i+jX kids) _ _ e4 h6 ho.2;rw[l2]at m2;rw[l3]at m3;rw[l4]at m4;have m:=m1.cat (m2.cat (m3.cat m4));have el:p.length+(aU (.elem nm al kids n)).length=p.length+(aG nm al).length+(aU kids).length+(aT nm).length+(aU n).length:=by
   simp[aU];omega
  rw[el];simp only[jS,sD,aU];exact m
 | .style al inner n,d,c,i,p,q,hs,hw,ho=>by
  obtain⟨h1,h4,h5,h6⟩:=hw;obtain⟨⟨rs,hr⟩,ho⟩:=ho;have e1:s=p++(aG aj al++(inner++(aT aj++(aU n++q)))):=by rw[hs];simp[aU]
  have e2:s=(p++aG aj al)++(inner++(aT aj++(aU n++q))):=by rw[hs];simp[aU]
  have e3:s=(p++aG aj al++inner)++(aT aj++(aU n++q)):=by rw[hs];simp[aU]
  have e4:s=(p++aG aj al++inner++aT aj)++(aU n++q):=by rw[hs];simp[aU]
  have l2:(p++aG aj al).length=p.length+(aG aj al).length:=by simp
  have l3:(p++aG aj al++inner).length=p.length+(aG aj al).length+inner.length:=by simp;omega
  have l4:(p++aG aj al++inner++aT aj).length=p.length+(aG aj al).length+inner.length+(aT aj).length:=by simp;omega
  have m1:=IJ (tx c) e1 h4.apart;have m2:=Ag g e2 rs i 0 (by omega) (mD hr);have m3:=Makes.plain e3;have m4:=oW tx g n _ (c+1) (i+rs.length) _ _ e4 h6 ho;rw[l2,Nat.add_zero]at m2;rw[l3]at m3;rw[l4]at m4;have m:=m1.cat (m2.cat (m3.cat m4));have el:p.length+(aU (.style al inner n)).length=p.length+(aG aj al).length+inner.length+(aT aj).length+(aU n).length:=by
   simp[aU];omega
  rw[el];simp only[jS,sD,aU,oV hr];exact m
theorem VF(tx:Nat→B)(g:Nat→Bool){T:PT}(hw:Xk 1 T)(ho:OO T):oD (aU T) 0 (jS tx g 0 0 0 T)∧eY (aU T) 0 (jS tx g 0 0 0 T)=aU (sD tx g 0 0 T):=by
 have m:=oW (s:=aU T) tx g T 1 0 0 [] [] (by simp) hw ho;have h1:=m.ok [] (by simp[oD]);have h2:=m.text [] (by simp[oD]);simp only[List.append_nil,List.length_nil,Nat.zero_add,eY]at h1 h2;rw[List.drop_of_length_le (Nat.le_refl _),List.append_nil]at h2;exact⟨h1,h2⟩
end Go.Proofs.YtplbdlgmjehckacGreatDoor


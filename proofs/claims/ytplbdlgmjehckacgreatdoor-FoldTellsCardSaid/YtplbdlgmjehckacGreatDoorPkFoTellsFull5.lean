/-
 Lemmas for the claims of this seat: the program's functions walked, and plain laws.
-/
import Derived.Test.YtplbdlgmjehckacGreatDoorPkFoTellsFull4
namespace Go.Proofs.YtplbdlgmjehckacGreatDoor
set_option linter.unusedVariables false
set_option linter.unusedSimpArgs false
structure Ql where
 ms:List (Nat×B)
 more:Bool
def jU(x:Ql)(p:Nat×B):Ql:=if p∈x.ms then x else ⟨x.ms++[p],true⟩
def eX(x:Ql)(ps:List (Nat×B)):Ql:=ps.foldl jU x
def jH(all ms:List (Nat×B)):Nat:=all.countP (λp=>decide (p ∉ ms))
theorem DY(x:Ql)(p:Nat×B):∀q∈x.ms,q∈(jU x p).ms:=by
 intro q hq;unfold jU;split
 ·exact hq
 exact List.mem_append_left _ hq
theorem LZ(x:Ql)(p:Nat×B):p∈(jU x p).ms:=by
 unfold jU;split
 ·assumption
 simp
theorem VQ(x:Ql)(p:Nat×B)(h:(jU x p).more=false):jU x p=x:=by
 unfold jU at h ⊢;split
 ·rfl
 rename_i hp;rw[if_neg hp]at h;cases h
theorem VR(x:Ql)(p:Nat×B):∀q∈(jU x p).ms,q∈x.ms∨q=p:=by
 intro q hq;unfold jU at hq;split at hq
 ·exact .inl hq
 simpa using hq
theorem oH:∀(ps:List (Nat×B)) (x:Ql),∀q∈x.ms,q∈(eX x ps).ms
 | [],_,_,h=>h
 | p::ps,x,q,h=>oH ps (jU x p) q (DY x p q h)
theorem BZ:∀(ps:List (Nat×B)) (x:Ql),∀q∈ps,q∈(eX x ps).ms
 | p::ps,x,q,h=>by
  rcases List.mem_cons.1 h with rfl | h
  ·exact oH ps _ q (LZ x q)
  exact BZ ps (jU x p) q h
theorem zk:∀(ps:List (Nat×B)) (x:Ql),∀q∈(eX x ps).ms,q∈x.ms∨q∈ps
 | [],_,_,h=>.inl h
 | p::ps,x,q,h=>by
  rcases zk ps (jU x p) q h with h | h
  ·rcases VR x p q h with h | rfl
   ·exact .inl h
   exact .inr (by simp)
  exact .inr (by simp[h])
theorem zl:∀(ps:List (Nat×B)) (x:Ql),(eX x ps).more=false→eX x ps=x
 | [],_,_=>rfl
 | p::ps,x,h=>by
  have h1:eX (jU x p) ps=jU x p:=zl ps (jU x p) h;show eX (jU x p) ps=x
  have h2:(eX (jU x p) ps).more=false:=h;rw[h1]at h2 ⊢;exact VQ x p h2
theorem uV{all ms ms':List (Nat×B)}(h:∀q∈ms,q∈ms'):jH all ms'≤jH all ms:=by
 unfold jH;refine List.countP_mono_left (λp _ hp=>?_);simp only[decide_eq_true_eq]at hp ⊢;exact λhq=>hp (h p hq)
theorem L6:∀ {all ms ms':List (Nat×B)} {p:Nat×B},(∀q∈ms,q∈ms')→p∈all→p ∉ ms→p∈ms'→jH all ms'<jH all ms
 | [],_,_,_,_,h,_,_=>by cases h
 | a::all,ms,ms',p,hs,h,h1,h2=>by
  have hle:=uV (all:=all) hs;have e:∀(b:Bool) (n:Nat),n+(if b=true then 1 else 0)=n+b.toNat:=by intro b n;cases b<;>rfl
  unfold jH at hle ⊢;rw[List.countP_cons,List.countP_cons,e,e];rcases List.mem_cons.1 h with rfl | h
  ·have e1:(decide (p ∉ ms'))=false:=by simp[h2]
   have e2:(decide (p ∉ ms))=true:=by simp[h1]
   rw[e1,e2];simp only[Bool.toNat_false,Bool.toNat_true];omega
  have:=L6 hs h h1 h2;unfold jH at this;have e3:(decide (a ∉ ms')).toNat≤(decide (a ∉ ms)).toNat:=by
   by_cases ha:a∈ms
   ·have ha':=hs a ha;simp[ha,ha']
   have e2:(decide (a ∉ ms))=true:=by simp[ha]
   rw[e2];exact Bool.toNat_le _
  omega
theorem VT{all:List (Nat×B)}(x:Ql)(p:Nat×B)(hp:p∈all):jH all (jU x p).ms≤jH all x.ms∧((jU x p).more=true→x.more=true∨jH all (jU x p).ms<jH all x.ms):=by
 refine⟨uV (DY x p),λh=>?_⟩;by_cases hm:p∈x.ms
 ·left;unfold jU at h;rw[if_pos hm]at h;exact h
 exact .inr (L6 (DY x p) hp hm (LZ x p))
structure SvS where
 sb:List Bool
 m:Ql
def Nw(ps:List (Nat×B))(i:Nat)(s:SvS):SvS:=
 if (s.sb[i]?==some true)||ps.any (λp=>decide (p∈s.m.ms)) then ⟨s.sb.set i true,eX s.m ps⟩ else ⟨s.sb.set i false,s.m⟩
variable {ns:List ak} {rules:List au}
structure KC(ns:List ak)(rules:List au)(sb:List Bool)(ms:List (Nat×B)):Prop where
 len:sb.length=rules.length
 sound:∀i:Nat,sb[i]?=some true→IE ns rules i
 blk:∀p∈ms,∃(j:Nat) (r:au),rules[j]?=some r∧IE ns rules j∧p∈touches ns r
 ay:∀(i:Nat) (r:au),rules[i]?=some r→r.ay≠[]→sb[i]?=some true
structure Gw(ns:List ak)(rules:List au)(ms0:List (Nat×B))(i:Nat)(s:SvS):Prop where
 inv:KC ns rules s.sb s.m.ms
 sub:∀q∈ms0,q∈s.m.ms
 left:s.m.more=true→jH (rules.flatMap (touches ns)) s.m.ms<jH (rules.flatMap (touches ns)) ms0
 same:s.m.more=false→s.m.ms=ms0∧∀(j:Nat),j<i→∀(r:au),rules[j]?=some r→((∃p∈touches ns r,p∈ms0)→s.sb[j]?=some true)∧(s.sb[j]?=some true→∀p∈touches ns r,p∈ms0)
theorem Gw.start{sb:List Bool}{ms:List (Nat×B)}(h:KC ns rules sb ms):Gw ns rules ms 0 ⟨sb,ms,false⟩:=
 ⟨h,λq hq=>hq,λhh=>(by cases hh),λ_=>⟨rfl,λj hj=>(by omega)⟩⟩
theorem zn{all:List (Nat×B)}:∀(ps:List (Nat×B)) (x:Ql),(∀p∈ps,p∈all)→(eX x ps).more=true→x.more=true∨jH all (eX x ps).ms<jH all x.ms
 | [],_,_,h=>.inl h
 | p::ps,x,hp,h=>by
  have h0:=VT x p (hp p (by simp));have hle:jH all (eX (jU x p) ps).ms≤jH all (jU x p).ms:=uV (oH ps _);rcases zn ps (jU x p) (λq hq=>hp q (by simp[hq])) h with h1 | h1
  ·rcases h0.2 h1 with h2 | h2
   ·exact .inl h2
   exact .inr (Nat.lt_of_le_of_lt hle h2)
  exact .inr (Nat.lt_of_lt_of_le h1 h0.1)
theorem Gw.step{ms0:List (Nat×B)}{i:Nat}{s:SvS}{r:au}(h:Gw ns rules ms0 i s)(hr:rules[i]?=some r):Gw ns rules ms0 (i+1) (Nw (touches ns r) i s):=by
 have hil:i<s.sb.length:=by rw[h.inv.len];exact(List.getElem?_eq_some_iff.1 hr).1
 have hall:∀p∈touches ns r,p∈rules.flatMap (touches ns):=λp hp=>List.mem_flatMap.2 ⟨r,List.mem_of_getElem? hr,hp⟩
 unfold Nw;split
 ·rename_i hc
  have hst:IE ns rules i:=by
   rcases(Bool.or_eq_true _ _).mp hc with hc | hc
   ·exact h.inv.sound i (by simpa using hc)
   obtain⟨p,hp,hq⟩:=List.any_eq_true.1 hc;obtain⟨j,q,hj,hs,hpq⟩:=h.inv.blk p (by simpa using hq);exact .meet hr hj hs hp hpq
  refine⟨⟨by simpa using h.inv.len,λj hj=>?_,λp hp=>?_,λj q hj hm=>?_⟩,λq hq=>oH _ _ _ (h.sub q hq),λhm=>?_,λhm=>?_⟩
  ·rw[List.getElem?_set]at hj;split at hj
   ·rename_i he;exact he ▸ hst
   exact h.inv.sound j hj
  ·rcases zk _ _ _ hp with hp | hp
   ·exact h.inv.blk p hp
   exact⟨i,r,hr,hst,hp⟩
  ·rw[List.getElem?_set];split
   ·rfl
   exact h.inv.ay j q hj hm
  ·rcases zn _ _ hall hm with h1 | h1
   ·exact Nat.lt_of_le_of_lt (uV (oH _ _)) (h.left h1)
   exact Nat.lt_of_lt_of_le h1 (uV h.sub)
  have he:=zl _ _ hm;have hm':s.m.more=false:=by rw[←he];exact hm
  obtain⟨h1,h2⟩:=h.same hm';refine⟨(congrArg Ql.ms he).trans h1,λj hj q hq=>?_⟩;by_cases hji:j=i
  ·subst hji;rw[hr]at hq;cases hq;refine⟨λ_=>by rw[List.getElem?_set,if_pos rfl];simp[hil],λ_ p hp=>?_⟩;have:=BZ (touches ns r) s.m p hp;rw[he,h1]at this;exact this
  rw[List.getElem?_set,if_neg (λe=>hji e.symm)];exact h2 j (by omega) q hq
 rename_i hc
 rw[Bool.not_eq_true,Bool.or_eq_false_iff]at hc;obtain⟨hc1,hc2⟩:=hc;have hsi:s.sb[i]?=some false:=by
  have:=List.getElem?_eq_getElem hil;cases hv:s.sb[i]with
  | false=>rw[this,hv]
  | true=>rw[this,hv]at hc1;simp at hc1
 have hset:s.sb.set i false=s.sb:=by
  apply List.ext_getElem?;intro j;rw[List.getElem?_set];split
  ·rename_i he;subst he;rw[hsi]
  rfl
 simp only[hset];refine⟨h.inv,h.sub,h.left,λhm=>?_⟩;obtain⟨h1,h2⟩:=h.same hm;refine⟨h1,λj hj q hq=>?_⟩;by_cases hji:j=i
 ·subst hji;rw[hr]at hq;cases hq;refine⟨?_,λhh=>by rw[hsi]at hh;cases hh⟩;rintro⟨p,hp,hpm⟩;rw[←h1]at hpm;have:=List.any_eq_false.1 hc2 p hp;simp[hpm]at this
 exact h2 j (by omega) q hq
theorem Gw.done{ms0:List (Nat×B)}{s:SvS}(h:Gw ns rules ms0 rules.length s)(hm:s.m.more=false):ni ns rules s.sb:=by
 obtain⟨h1,h2⟩:=h.same hm;have key:∀i,IE ns rules i→s.sb[i]?=some true:=by
  intro i hi
  induction hi with
  | ay hr hmd=>exact h.inv.ay _ _ hr hmd
  | meet hi hj hs p1 p2 ih=>
   have:=(h2 _ (List.getElem?_eq_some_iff.1 hj).1 _ hj).2 ih _ p2;exact(h2 _ (List.getElem?_eq_some_iff.1 hi).1 _ hi).1 ⟨_,p1,this⟩
 refine⟨h.inv.len,λi b hb=>⟨λe=>h.inv.sound i (by rw[hb,e]),λhs=>?_⟩⟩;have:=key i hs;rw[hb]at this;exact Option.some.inj this
theorem KC.start(ns:List ak)(rules:List au):KC ns rules (rules.map λr=>decide (r.ay≠[])) []:=by
 refine⟨by simp,λi hi=>?_,λp hp=>(List.not_mem_nil hp).elim,λi r hr hm=>?_⟩
 ·rw[List.getElem?_map]at hi;cases hr:rules[i]? with
  | none=>rw[hr]at hi;cases hi
  | some r=>
   rw[hr]at hi;simp only[Option.map_some,Option.some.injEq,decide_eq_true_eq]at hi;exact .ay hr hi
 rw[List.getElem?_map,hr];simp[hm]
def pW(at_:Nat)(rs:List au)(x:B×Nat):B×Nat:=rs.foldl (λx r=>if r.lo=(at_:Int) then ([32],r.hi.toNat) else x) x
def jL(at_:Nat)(t:B)(al:List bf)(x:B×Nat):B×Nat:=
 al.foldl (λx a=>if a.name≠aj∨a.lo≠(at_:Int)∨a.val=t then x else (if t=[] then [] else gq t,a.hi.toNat)) x
def tJ(at_:Nat)(t:B)(n:ak)(out:B):B:=if n.bG=(at_:Int)∧(gJ n.attrs aj).2=false∧t≠[] then out++gq t else out
def jT(at_:Nat)(tx:Nat→B):Nat→List ak→B×(B×Nat)→B×(B×Nat)
 | _,[],y=>y
 | k,n::ns,y=>jT at_ tx (k+1) ns (tJ at_ (tx k) n y.1,jL at_ (tx k) n.attrs y.2)
def zf(s:B)(gone:List au)(tx:Nat→B)(l:List ak)(at_:Nat)(out:B):B×Nat:=
 ((jT at_ tx 0 l (out,pW at_ gone (sub s at_ (at_+1),at_+1))).1++(jT at_ tx 0 l (out,pW at_ gone (sub s at_ (at_+1),at_+1))).2.1,
  (jT at_ tx 0 l (out,pW at_ gone (sub s at_ (at_+1),at_+1))).2.2)
def Cb(at_:Nat)(y:B×(B×Nat))(e:bT):B×(B×Nat):=if e.lo=at_ then (if e.lo=e.hi then (y.1++e.text,y.2) else (y.1,(e.text,e.hi))) else y
def Cc(at_:Nat)(es:List bT)(y:B×(B×Nat)):B×(B×Nat):=es.foldl (Cb at_) y
theorem SC(at_:Nat)(xs ys:List bT)(y:B×(B×Nat)):Cc at_ (xs++ys) y=Cc at_ ys (Cc at_ xs y):=List.foldl_append ..
theorem SE(at_:Nat):∀(rs:List au) (o:B) (x:B×Nat),(∀r∈rs,0≤r.lo∧r.lo<r.hi)→Cc at_ (rs.map dI) (o,x)=(o,pW at_ rs x)
 | [],_,_,_=>rfl
 | r::rs,o,x,h=>by
  have h1:=h r (by simp);have ih:=SE at_ rs o (if r.lo=(at_:Int) then ([32],r.hi.toNat) else x) (λq hq=>h q (by simp[hq]));show Cc at_ (rs.map dI) (Cb at_ (o,x) (dI r))=(o,pW at_ rs (if r.lo=(at_:Int) then ([32],r.hi.toNat) else x))
  rw[←ih];congr 1;unfold Cb dI;simp only;by_cases he:r.lo=(at_:Int)
  ·rw[if_pos he,if_pos (by omega),if_neg (by omega)]
  rw[if_neg he,if_neg (by omega)]
structure Jd(n:ak):Prop where
 at_:∃q al,n.attrs=eH q al∧n.bG=(q:Int)∧(al.map (·.1)).Nodup
theorem uX:∀(T:PT) (d c p:Nat) (par:Int),Xk d T→∀n∈fV par c p T,Jd n
 | .nil,_,_,_,_,_,n,hn=>by cases hn
 | .text _ m,d,c,p,par,hw,n,hn=>uX m d c _ par hw.2.2 n hn
 | .note _ m,d,c,p,par,hw,n,hn=>uX m d c _ par hw.2 n hn
 | .elem nm al kids m,d,c,p,par,hw,n,hn=>by
  obtain⟨h1,h2,h3,h4,h5,h6⟩:=hw;simp only[fV,List.mem_cons,List.mem_append]at hn;rcases hn with rfl | hn | hn
  ·exact⟨_,_,rfl,rfl,h4.apart⟩
  ·exact uX kids _ _ _ _ h5 n hn
  exact uX m _ _ _ _ h6 n hn
 | .style al inner m,d,c,p,par,hw,n,hn=>by
  obtain⟨h1,h4,h5,h6⟩:=hw;simp only[fV,List.mem_cons]at hn;rcases hn with rfl | hn
  ·exact⟨_,_,rfl,rfl,h4.apart⟩
  exact uX m _ _ _ _ h6 n hn
theorem Je(at_:Nat)(t:B):∀(al:List (B×B)) (q:Nat) (x:B×Nat),fD al=false→jL at_ t (eH q al) x=x
 | [],_,_,_=>rfl
 | a::al,q,x,h=>by
  rw[mZ,Bool.or_eq_false_iff]at h;have hne:a.1≠aj:=by simpa using h.1
  show jL at_ t (eH _ al) (if a.1≠aj∨_∨_ then x else _)=x
  rw[if_pos (.inl hne)];exact Je at_ t al _ x h.2
theorem L8(at_:Nat)(t:B):∀(al:List (B×B)) (q:Nat) (o:B) (x:B×Nat),fD al=true→(al.map (·.1)).Nodup→Cc at_ (kR t q al) (o,x)=(o,jL at_ t (eH q al) x)
 | [],_,_,_,h,_=>by cases h
 | a::al,q,o,x,h,hn=>by
  rw[List.map_cons,List.nodup_cons]at hn;have hp:=BO a;by_cases ha:a.1=aj
  ·have hno:fD al=false:=Af (by rw[←ha];exact hn.1);show _=(o,jL at_ t (eH _ al) (if a.1≠aj∨(q:Int)≠(at_:Int)∨a.2=t then x else (if t=[] then [] else gq t,((q+(bY a).length:Nat):Int).toNat)))
   rw[Je at_ t al _ _ hno];simp only[kR];rw[if_pos ha];by_cases hv:a.2=t
   ·rw[if_pos hv,if_pos (.inr (.inr hv))];rfl
   rw[if_neg hv];show Cb at_ (o,x) _=_
   unfold Cb;simp only;by_cases hq:q=at_
   ·rw[if_pos hq,if_neg (by omega),if_neg (show ¬(a.1≠aj∨(q:Int)≠(at_:Int)∨a.2=t) from λhh=>hh.elim (λh=>h ha) (λh=>h.elim (λh=>h (by rw[hq])) hv)),Int.toNat_natCast]
   rw[if_neg hq,if_pos (.inr (.inl (by omega)))]
  have h':fD al=true:=by rw[mZ]at h;simpa [ha] using h
  have ih:=L8 at_ t al (q+(bY a).length) o x h' hn.2;show _=(o,jL at_ t (eH _ al) (if a.1≠aj∨_∨_ then x else _))
  rw[if_pos (.inl ha),←ih];simp only[kR];rw[if_neg ha]
theorem acy(at_:Nat)(t:B){n:ak}(h:Jd n)(o:B)(x:B×Nat):Cc at_ (wO n t).toList (o,x)=(tJ at_ t n o,jL at_ t n.attrs x):=by
 obtain⟨q,al,h1,h2,h3⟩:=h.at_;obtain⟨nm,par,as',ne,i1,i2⟩:=n;simp only at h1 h2;subst h1;subst h2;rw[I7 t h3 nm par q i1 i2];unfold oU tJ;simp only;cases hs:fD al with
 | true=>
  rw[if_pos rfl];obtain⟨v,lo,hi,g1,_⟩:=Om t al q hs h3;rw[L8 at_ t al q o x hs h3,g1];simp
 | false=>
  rw[if_neg (by simp),Je at_ t al q x hs,(Ol al q hs).1];by_cases ht:t=[]
  ·rw[if_pos ht];simp[ht,Cc]
  rw[if_neg ht];show Cb at_ (o,x) _=_
  unfold Cb;simp only[ne_eq,ht,not_false_eq_true,and_true,true_and,if_true];by_cases hq:q=at_
  ·rw[if_pos hq,if_pos (by omega)]
  rw[if_neg hq,if_neg (by omega)]
theorem L9(at_:Nat)(tx:Nat→B):∀(ns:List ak) (k:Nat) (y:B×(B×Nat)),(∀n∈ns,Jd n)→Cc at_ (nP tx k ns) y=jT at_ tx k ns y
 | [],_,_,_=>rfl
 | n::ns,k,y,h=>by
  obtain⟨o,x⟩:=y;simp only[nP,jT];rw[SC,acy at_ (tx k) (h n (by simp)) o x];exact L9 at_ tx ns (k+1) _ (λm hm=>h m (by simp[hm]))
theorem Ce(at_:Nat):∀(es:List bT) (y:B×(B×Nat)),(∀e∈es,e.lo≠at_)→Cc at_ es y=y
 | [],_,_=>rfl
 | e::es,y,h=>by
  show Cc at_ es (Cb at_ y e)=y
  unfold Cb;rw[if_neg (h e (by simp))];exact Ce at_ es y (λd hd=>h d (by simp[hd]))
theorem Xq(at_:Nat):∀(es:List bT) (y:B×(B×Nat)) (e:bT),(es.map (·.lo)).Nodup→e∈es→e.lo=at_→Cc at_ es y=Cb at_ y e
 | x::es,y,e,hn,he,hl=>by
  rw[List.map_cons,List.nodup_cons]at hn;show Cc at_ es (Cb at_ y x)=_
  rcases List.mem_cons.1 he with rfl | he'
  ·exact Ce at_ es _ (λd hd hh=>hn.1 (List.mem_map.2 ⟨d,hd,by rw[hh,hl]⟩))
  have:x.lo≠at_:=λhh=>hn.1 (List.mem_map.2 ⟨e,he',by rw[hh,hl]⟩)
  rw[show Cb at_ y x=y from by unfold Cb;rw[if_neg this]];exact Xq at_ es y e hn.2 he' hl
theorem VU{es:List bT}(h:fZ es):(es.map (·.lo)).Nodup:=by
 induction h with
 | nil=>simp
 | cons h hs ih=>
  rw[List.map_cons,List.nodup_cons];refine⟨λhm=>?_,ih⟩;obtain⟨y,hy,he⟩:=List.mem_map.1 hm;have:=h y hy;omega
theorem Jf:∀ {pre:List bT} {e:bT} {rest:List bT},fZ (pre++e::rest)→∀d∈rest,e.lo<d.lo
 | [],e,rest,.cons h _,d,hd=>h d hd
 | x::pre,e,rest,.cons _ hs,d,hd=>Jf hs d hd
structure LQ(s:B)(E:List bT)(at_:Nat)(out:B):Prop where
 at_:∃pre rest,E=pre++rest∧(∀e∈pre,e.lo<at_)∧(oD s at_ rest∨(at_=s.length+1∧rest=[]))∧out++eY s at_ rest=eY s 0 E
theorem LQ.start{s:B}{E:List bT}(h:oD s 0 E):LQ s E 0 []:=⟨[],E,rfl,by simp,.inl h,rfl⟩
theorem LQ.done{s:B}{E:List bT}{at_:Nat}{out:B}(h:LQ s E at_ out)(ha:s.length<at_):out=eY s 0 E:=by
 obtain⟨pre,rest,h1,h2,h3,h4⟩:=h.at_;rcases h3 with h3 | ⟨h3,rfl⟩
 ·have:=oD.le h3;omega
 rw[←h4];simp[eY,h3]
theorem LQ.le{s:B}{E:List bT}{at_:Nat}{out:B}(h:LQ s E at_ out):at_≤s.length+1∧out.length≤(eY s 0 E).length:=by
 obtain⟨pre,rest,h1,h2,h3,h4⟩:=h.at_;refine⟨?_,?_⟩
 ·rcases h3 with h3 | ⟨h3,rfl⟩
  ·have:=oD.le h3;omega
  omega
 rw[←h4,List.length_append];omega
theorem LQ.byte{s:B}{pre rest:List bT}{E:List bT}{at_:Nat}{out:B}(hE:E=pre++rest)(hp:∀e∈pre,e.lo≤at_)(hr:∀e∈rest,at_<e.lo)(hl:at_≤s.length)(ho:oD s at_ rest)
  (hw:out++eY s at_ rest=eY s 0 E):LQ s E (at_+1) (out++sub s at_ (at_+1)):=by
 refine⟨pre,rest,hE,λe he=>Nat.lt_succ_of_le (hp e he),?_,?_⟩
 ·cases rest with
  | nil=>
   by_cases h:at_=s.length
   ·exact .inr ⟨by omega,rfl⟩
   exact .inl (show at_+1≤s.length by omega)
  | cons f rest=>
   have:=hr f (by simp);exact .inl ⟨by omega,ho.2⟩
 rw[List.append_assoc,←hw];congr 1;cases rest with
 | nil=>
  simp only[eY];by_cases h:at_=s.length
  ·subst h;simp[sub]
  rw[abj (by omega)]
 | cons f rest=>
  have:=hr f (by simp);have hok:oD s (at_+1) (f::rest):=⟨by omega,ho.2⟩;rw[II hok (by omega:at_≤at_+1)]
theorem LQ.step{s:B}{l:List ak}{gone:List au}{tx:Nat→B}{at_:Nat}{out:B}
  (hr:fZ (iP (gone.map dI++nP tx 0 l))) (hg:∀r∈gone,0≤r.lo∧r.lo<r.hi) (hn:∀n∈l,Jd n)
  (h:LQ s (iP (gone.map dI++nP tx 0 l)) at_ out) (hl:at_≤s.length) :
  LQ s (iP (gone.map dI++nP tx 0 l)) (zf s gone tx l at_ out).2 (zf s gone tx l at_ out).1∧at_<(zf s gone tx l at_ out).2:=by
 have key:jT at_ tx 0 l (out,pW at_ gone (sub s at_ (at_+1),at_+1))=Cc at_ (gone.map dI++nP tx 0 l) (out,(sub s at_ (at_+1),at_+1)):=by
  rw[SC,SE at_ gone out _ hg,L9 at_ tx l 0 _ hn]
 have hperm:=kF (gone.map dI++nP tx 0 l);have hnd:((gone.map dI++nP tx 0 l).map (·.lo)).Nodup:=(hperm.map _).nodup_iff.1 (VU hr);unfold zf;rw[key];obtain⟨pre,rest,h1,h2,h3,h4⟩:=h.at_;have h3':oD s at_ rest:=by
  rcases h3 with h3 | ⟨h3,_⟩
  ·exact h3
  omega
 have hmem:∀e,e∈(gone.map dI++nP tx 0 l)→e∈pre∨e∈rest:=λe he=>by
  have:=hperm.mem_iff.2 he;rw[h1]at this;exact List.mem_append.1 this
 have byte:(∀e∈rest,at_<e.lo)→LQ s (iP (gone.map dI++nP tx 0 l)) (at_+1) (out++sub s at_ (at_+1)):=λhr'=>
  LQ.byte h1 (λe he=>Nat.le_of_lt (h2 e he)) hr' hl h3' h4
 cases rest with
 | nil=>
  rw[Ce at_ _ _ (λe he hh=>by
   rcases hmem e he with he | he
   ·have:=h2 e he;omega
   cases he)]
  exact⟨byte (by simp),by simp⟩
 | cons f rest=>
  have hf:=h3'.1;have hs:∀d∈rest,f.lo<d.lo:=Jf (pre:=pre) (by rw[←h1];exact hr);by_cases hat:f.lo=at_
  ·have hfm:f∈(gone.map dI++nP tx 0 l):=hperm.mem_iff.1 (by rw[h1];simp);rw[Xq at_ _ _ f hnd hfm hat];unfold Cb;rw[if_pos hat];obtain⟨g1,g2,g3,g4⟩:=h3';have hw:out++f.text++eY s f.hi rest=eY s 0 (iP (gone.map dI++nP tx 0 l)):=by
    rw[←h4];simp only[eY];rw[hat,WZ];simp
   by_cases he:f.lo=f.hi
   ·rw[if_pos he];have:=LQ.byte (s:=s) (pre:=pre++[f]) (rest:=rest) (E:=iP (gone.map dI++nP tx 0 l)) (at_:=at_) (out:=out++f.text) (by rw[h1];simp) (λe he=>by
     rcases List.mem_append.1 he with he | he
     ·have:=h2 e he;omega
     have:e=f:=by simpa using he
     subst this;omega) (λd hd=>by have:=hs d hd;omega) hl (by rw[show at_=f.hi by omega];exact g4) (by rw[show at_=f.hi by omega];exact hw)
    exact⟨this,by simp⟩
   rw[if_neg he];refine⟨⟨pre++[f],rest,by rw[h1];simp,λe he=>?_,.inl g4,hw⟩,by show at_<f.hi;omega⟩;rcases List.mem_append.1 he with he | he
   ·have:=h2 e he;show e.lo<f.hi;omega
   have:e=f:=by simpa using he
   subst this;show e.lo<e.hi;omega
  have hr':∀e∈f::rest,at_<e.lo:=λe he=>by
   rcases List.mem_cons.1 he with rfl | he
   ·omega
   have:=hs e he;omega
  rw[Ce at_ _ _ (λe he hh=>by
   rcases hmem e he with he | he
   ·have:=h2 e he;omega
   have:=hr' e he;omega)]
  exact⟨byte hr',by simp⟩
theorem VW:∀(T:PT) (p:Nat),OO T→∀r∈dY p T,0≤r.lo∧r.lo<r.hi:=by
 intro T
 induction T with
 | nil=>intro p _ r hr;cases hr
 | text c n ih=>intro p h r hr;exact ih _ h r hr
 | note x n ih=>intro p h r hr;exact ih _ h r hr
 | elem nm al kids n ihk ihn=>
  intro p h r hr;simp only[dY,List.mem_append]at hr;rcases hr with hr | hr
  ·exact ihk _ h.1 r hr
  exact ihn _ h.2 r hr
 | style al inner n ih=>
  intro p h r hr;simp only[dY,List.mem_append,List.mem_map]at hr;rcases hr with⟨q,hq,rfl⟩ | hr
  ·obtain⟨rs,h1⟩:=h.1;rw[oV h1]at hq;have:∀(rs:List au) (a:Nat),Placed inner a rs→∀q∈rs,0≤q.lo∧q.lo<q.hi:=by
    intro rs
    induction rs with
    | nil=>intro a _ q hq;cases hq
    | cons x rs ih=>
     rintro a ⟨lo,hi,e1,e2,e3,e4,e5,e6,e7⟩ q hq;rcases List.mem_cons.1 hq with rfl | hq
     ·omega
     exact ih hi e7 q hq
   have:=this rs 0 (mD h1) q hq;simp only[au.shift];omega
  exact ih _ h.2 r hr
theorem Zj{s:B}{l:List ak}{rules:List au}{st:List Bool}{T:PT}{es:List bT}(h:Ak s l rules T)(hs:st.length=rules.length)(he:fE l (dQ rules st) 0 l=.ok es):
  xJ rules st es=(dQ rules st).map dI++nP (λk=>(aQ l k (dQ rules st)).1) 0 l∧fZ (iP (xJ rules st es))∧oD s 0 (iP (xJ rules st es)) ∧
  (∀r∈dQ rules st,0≤r.lo∧r.lo<r.hi)∧∀n∈l,Jd n:=by
 obtain⟨h1,h2⟩:=RV h hs he;obtain⟨rfl,_⟩:=DU he;refine⟨rfl,h1,h2,λr hr=>?_,λn hn=>?_⟩
 ·have:=qL.1 r hr;rw[h.Oo]at this;exact VW T 0 h.ok r this
 rw[h.nodes]at hn;exact uX T 1 0 0 (-1) h.wf n hn
theorem VJ(at_:Nat)(rs:List au)(r:au)(x:B×Nat):pW at_ (rs++[r]) x=if r.lo=(at_:Int) then ([32],r.hi.toNat) else pW at_ rs x:=by
 unfold pW;rw[List.foldl_append];rfl
theorem RY(at_:Nat)(t:B)(al:List bf)(a:bf)(x:B×Nat):jL at_ t (al++[a]) x=if a.name≠aj∨a.lo≠(at_:Int)∨a.val=t then jL at_ t al x else (if t=[] then [] else gq t,a.hi.toNat):=by
 unfold jL;rw[List.foldl_append];rfl
theorem EK(at_:Nat)(tx:Nat→B)(n:ak):∀(ns:List ak) (c:Nat) (y:B×(B×Nat)),jT at_ tx c (ns++[n]) y=(tJ at_ (tx (c+ns.length)) n (jT at_ tx c ns y).1,jL at_ (tx (c+ns.length)) n.attrs (jT at_ tx c ns y).2)
 | [],c,y=>rfl
 | m::ns,c,y=>by
  simp only[List.cons_append,jT,List.length_cons];rw[EK at_ tx n ns (c+1) _,show c+1+ns.length=c+(ns.length+1) by omega]
theorem acz(at_:Nat)(t:B)(n:ak)(out:B):out.length≤(tJ at_ t n out).length:=by
 unfold tJ;split<;>simp
theorem Mc(at_:Nat)(tx:Nat→B):∀(ns:List ak) (c:Nat) (y:B×(B×Nat)),y.1.length≤(jT at_ tx c ns y).1.length
 | [],c,y=>Nat.le_refl _
 | m::ns,c,y=>by
  simp only[jT];exact Nat.le_trans (acz at_ (tx c) m y.1) (Mc at_ tx ns (c+1) (tJ at_ (tx c) m y.1,jL at_ (tx c) m.attrs y.2))
theorem I4(at_:Nat)(tx:Nat→B)(ns:List ak)(k c:Nat)(y:B×(B×Nat)):(jT at_ tx c (ns.take k) y).1.length≤(jT at_ tx c ns y).1.length:=by
 have key:∀(xs ys:List ak) (c:Nat) (y:B×(B×Nat)),(jT at_ tx c xs y).1.length≤(jT at_ tx c (xs++ys) y).1.length:=by
  intro xs
  induction xs with
  | nil=>intro ys c y;exact Mc at_ tx ys c y
  | cons x xs ih=>intro ys c y;exact ih ys (c+1) _
 have:=key (ns.take k) (ns.drop k) c y
 rwa [List.take_append_drop]at this
theorem IZ(tx:Nat→B):∀(ns:List ak) (c:Nat),(∀k,c≤k→k<c+ns.length→(tx k).length≤1950)→(nP tx c ns).length≤ns.length∧∀e∈nP tx c ns,e.text.length≤2000
 | [],c,_=>by simp[nP]
 | n::ns,c,h=>by
  obtain⟨h1,h2⟩:=IZ tx ns (c+1) (λk a b=>h k (by omega) (by simp;omega));have ht:=h c (Nat.le_refl _) (by simp);simp only[nP];refine⟨?_,λe he=>?_⟩
  ·rw[List.length_append,List.length_cons];have:(wO n (tx c)).toList.length≤1:=by cases wO n (tx c)<;>simp
   omega
  rcases List.mem_append.1 he with he | he
  ·have:=BX (n:=n) (t:=tx c) (x:=e) (by cases hf:wO n (tx c)with
    | none=>rw[hf]at he;cases he
    | some y=>rw[hf]at he;simp at he;rw[he])
   omega
  exact h2 e he
structure sF(l:List ak)(gone:List au)(k:Nat):Prop where
 bad:∀f,fE l gone k (l.drop k)=.bad f→fE l gone 0 l=.bad f
 ok:∀es,fE l gone k (l.drop k)=.ok es→∃es0,fE l gone 0 l=.ok es0
theorem sF.start(l:List ak)(gone:List au):sF l gone 0:=⟨λf h=>h,λes h=>⟨es,h⟩⟩
theorem sF.fall{l:List ak}{gone:List au}{k:Nat}{n:ak}(h:sF l gone k)(hk:l[k]?=some n)(hb:(aQ l k gone).2=false∨(gJ n.attrs aj).2=false∧n.attrs.length=8∧(aQ l k gone).1≠[]):
  fE l gone 0 l=.bad ⟨5,n.bG.toNat⟩:=by
 refine h.bad _ ?_;obtain⟨h1,h2⟩:=List.getElem?_eq_some_iff.1 hk;rw[List.drop_eq_getElem_cons h1,h2,fE,if_pos hb]
theorem sF.next{l:List ak}{gone:List au}{k:Nat}{n:ak}(h:sF l gone k)(hk:l[k]?=some n)(hb:¬((aQ l k gone).2=false∨(gJ n.attrs aj).2=false∧n.attrs.length=8∧(aQ l k gone).1≠[])):sF l gone (k+1):=by
 obtain⟨h1,h2⟩:=List.getElem?_eq_some_iff.1 hk;have e:fE l gone k (l.drop k)=(fE l gone (k+1) (l.drop (k+1))).then λes=>.ok ((wO n (aQ l k gone).1).toList++es):=by
  rw[List.drop_eq_getElem_cons h1,h2,fE,if_neg hb]
 exact⟨λf hf=>h.bad f (by rw[e,hf];rfl),λes he=>h.ok _ (by rw[e,he];rfl)⟩
theorem sF.done{l:List ak}{gone:List au}(h:sF l gone l.length):∃es,fE l gone 0 l=.ok es:=h.ok [] (by rw[List.drop_length];rfl)
def jV(l:List ak)(all:List au)(as':List bf):Ans (List ak×List au):=match as'.findSome? jW with
 | some f=>.bad f
 | none=>.ok (l,all)
def o8(l:List ak)(all rs:List au):Ans (List ak×List au):=match mY rs with
 | some f=>.bad f
 | none=>jV l all (l.flatMap (·.attrs))
def pO(l:List ak)(rs:List au):Ans (List ak×List au):=if 60<rs.length then .bad ⟨5,0⟩ else o8 l rs rs
theorem wZ(s:B):rP s=(lq s).then λl=>(bF s l).then λrs=>pO l rs:=by
 rfl
theorem Bz(l:List ak)(all:List au)(r:au)(rs:List au):o8 l all (r::rs)=if (fH r.decls).isNone=true then .bad ⟨5,r.lo.toNat⟩ else o8 l all rs:=by
 unfold o8 mY;rw[List.find?_cons];cases h:(fH r.decls).isNone with
 | true=>rfl
 | false=>rfl
theorem EC(l:List ak)(all:List au):o8 l all []=jV l all (l.flatMap (·.attrs)):=rfl
theorem BA(l:List ak)(all:List au)(a:bf)(as':List bf):jV l all (a::as')=match jW a with | some f=>.bad f | none=>jV l all as':=by
 unfold jV;rw[List.findSome?_cons];cases jW a<;>rfl
theorem Hw{α:Type}(s:B)(n:ak)(ns:List ak)(rs:List au)(K:List au→Ans α):
  ((bF s (n::ns)).then λqs=>K (rs++qs))=if n.name=aj then (match iZ (sub s n.qE.toNat n.inT.toNat)with
   | .bad f=>.bad ⟨f.err,n.qE.toNat+f.pos⟩
   | .ok xs=>(bF s ns).then λqs=>K ((rs++xs.map (au.shift n.qE.toNat))++qs)) else (bF s ns).then λqs=>K (rs++qs):=by
 simp only[bF];split
 ·cases iZ (sub s n.qE.toNat n.inT.toNat)with
  | bad f=>rfl
  | ok xs=>
   simp only;cases bF s ns with
   | bad g=>rfl
   | ok qs=>simp only[Ans.aN,List.append_assoc]
 rfl
theorem sH{s:B}:∀ {ns:List ak} {f:iL},bF s ns=.bad f→f.err≠0
 | [],f,h=>by cases h
 | n::ns,f,h=>by
  simp only[bF]at h;split at h
  ·cases hs:iZ (sub s n.qE.toNat n.inT.toNat)with
   | bad g=>rw[hs]at h;cases h;exact(vk hs).1
   | ok xs=>
    rw[hs]at h;cases hq:bF s ns with
    | bad g=>rw[hq]at h;cases h;exact sH hq
    | ok qs=>rw[hq]at h;cases h
  exact sH h
theorem SH{a:bf}{f:iL}(h:jW a=some f):f.err≠0:=by
 unfold jW at h;split at h
 ·cases hd:dW a.val with
  | bad g=>rw[hd]at h;cases h;exact(kK hd).1
  | ok ds=>
   rw[hd]at h;simp only at h;split at h
   ·cases h;simp
   cases h
 cases h
theorem xg{s:B}{f:iL}(h:rP s=.bad f):f.err≠0:=by
 rw[wZ]at h;cases hp:lq s with
 | bad g=>
  rw[hp]at h;cases h;have:=He s;rw[hp]at this;exact this.1
 | ok l=>
  rw[hp,Ans.aN]at h;cases hs:bF s l with
  | bad g=>rw[hs]at h;cases h;exact sH hs
  | ok rs=>
   rw[hs,Ans.aN]at h;unfold pO at h;split at h
   ·cases h;simp
   unfold o8 at h;cases hr:mY rs with
   | some g=>
    rw[hr]at h;cases h;unfold mY at hr;rw[Option.map_eq_some_iff]at hr;obtain⟨r,_,rfl⟩:=hr;simp
   | none=>
    rw[hr]at h;simp only at h;unfold jV at h;cases hn:(l.flatMap (·.attrs)).findSome? jW with
    | some g=>
     rw[hn]at h;cases h;obtain⟨a,_,ha⟩:=List.exists_of_findSome?_eq_some hn;exact SH ha
    | none=>rw[hn]at h;cases h
def NB{α:Type}(r:Ans α):Prop:=∀f,r=.bad f→f.err≠0
theorem NB.ok{α:Type}(x:α):NB (Ans.ok x):=λf h=>by cases h
theorem NB.bad{α:Type}{f:iL}(h:f.err≠0):NB (Ans.bad f:Ans α):=λg hg=>by cases hg;exact h
theorem NB.then{α β:Type}{r:Ans α}{k:α→Ans β}(h:NB r)(hk:∀x,NB (k x)):NB (r.then k):=by
 cases r with
 | bad f=>exact λg hg=>by cases hg;exact h f rfl
 | ok x=>exact hk x
theorem Xr(l:B)(a:Nat):NB (jO l a):=by
 unfold jO;split
 ·exact NB.bad (by simp)
 split
 ·exact NB.bad (by simp)
 exact NB.ok _
theorem Ci(w l:B)(a:Nat):NB (aV w l a):=by
 unfold aV;split
 ·exact NB.ok _
 exact NB.bad (by simp)
theorem aew(al:List bf)(l:B)(a:Nat):NB (pAttr al l a):=by
 unfold pAttr;refine(Xr _ _).then ?_;rintro⟨nm,l2,a2⟩;dsimp only;split
 ·exact NB.bad (by simp;split<;>decide)
 exact(Ci _ _ _).then λy=>(Ci _ _ _).then λz=>NB.ok _
theorem SL:∀(f:Nat) (al:List bf) (l:B) (a:Nat),NB (iW f al l a)
 | 0,_,_,_=>NB.bad (by simp)
 | f+1,al,l,a=>by
  unfold iW;split
  ·exact(aew _ _ _).then λx=>SL f _ _ _
  exact NB.ok _
theorem aex(parent:Int)(deep count:Nat)(l:B)(a:Nat):NB (o9 parent deep count l a):=by
 unfold o9;split
 ·exact NB.bad (by simp)
 split
 ·exact NB.bad (by simp)
 exact(Ci _ _ _).then λx=>(Xr _ _).then λy=>(SL _ _ _ _).then λz=>(Ci _ _ _).then λu=>NB.ok _
theorem Xa(items:Int→Nat→List ak→B→Nat→Ans (List ak×B×Nat))(h:∀p d n l a,NB (items p d n l a))(parent:Int)(deep:Nat)(ns:List ak)(l:B)(a:Nat):NB (kT items parent deep ns l a):=by
 unfold kT;refine(aex _ _ _ _ _).then λx=>?_
 refine NB.then ?_ λy=>(Ci _ _ _).then λz=>NB.ok _
 unfold jq;split
 ·split
  ·exact NB.bad (by simp)
  exact NB.ok _
 exact h _ _ _ _ _
theorem rV:∀(f:Nat) (parent:Int) (deep:Nat) (ns:List ak) (l:B) (a:Nat),NB (dU f parent deep ns l a)
 | 0,_,_,_,_,_=>NB.bad (by simp)
 | f+1,parent,deep,ns,l,a=>by
  unfold dU;split
  ·exact NB.ok _
  split
  ·exact NB.ok _
  split
  ·split
   ·exact NB.bad (by simp)
   exact rV f _ _ _ _ _
  split
  ·exact(Xa _ (rV f) _ _ _ _ _).then λx=>rV f _ _ _ _ _
  split
  ·exact rV f _ _ _ _ _
  exact NB.bad (by simp)
def kM5(n:Nat)(md:B)(x:List au×B×Nat):Ans (List au×B×Nat):=(aV [125] x.2.1 x.2.2).then λy=>aP n md x.1 y.1 y.2
def kM4(n:Nat)(md:B)(rs:List au)(nm:B)(y:B×Nat):Ans (List au×B×Nat):=(aP n nm rs y.1 y.2).then (kM5 n md)
def kM3(n:Nat)(md:B)(rs:List au)(nm:B)(x:B×Nat):Ans (List au×B×Nat):=(aV [123] x.1 x.2).then (kM4 n md rs nm)
def kM2(n:Nat)(md:B)(rs:List au)(x:B×B×Nat):Ans (List au×B×Nat):=(cO x.2.1 x.2.2).then (kM3 n md rs x.1)
def kM1(n:Nat)(md:B)(rs:List au)(a:Nat)(x:B×Nat):Ans (List au×B×Nat):=if x.2=a then .bad ⟨2,x.2⟩ else (dM x.1 x.2).then (kM2 n md rs)
theorem abU{n:Nat}{md:B}{rs:List au}{l:B}{a:Nat}:
  ((fO l a).then λh=>(aP n h.1 rs h.2.1 h.2.2).then λx=>(aV [125] x.2.1 x.2.2).then λy=>aP n md x.1 y.1 y.2)=(cO l a).then (kM1 n md rs a):=by
 unfold fO;cases cO l a with
 | bad f=>rfl
 | ok x=>
  obtain⟨l1,a1⟩:=x;simp only[Ans.aN,kM1];split
  ·rfl
  cases dM l1 a1 with
  | bad f=>rfl
  | ok y=>
   obtain⟨nm,l2,a2⟩:=y;simp only[Ans.aN,kM2];cases cO l2 a2 with
   | bad f=>rfl
   | ok z=>
    obtain⟨l3,a3⟩:=z;simp only[Ans.aN,kM3];cases aV [123] l3 a3<;>rfl
theorem EH(d:aC):∀ds:List aC,dH (ds++[d])=(if ds=[] then [] else dH ds++[59,32])++printOne d
 | []=>rfl
 | [x]=>by simp[dH]
 | x::y::ds=>by
  have ih:=EH d (y::ds);rw[if_neg (by simp)]at ih ⊢;show printOne x++[59,32]++dH ((y::ds)++[d])=(printOne x++[59,32]++dH (y::ds))++[59,32]++printOne d
  rw[ih];simp
end Go.Proofs.YtplbdlgmjehckacGreatDoor


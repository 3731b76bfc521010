/-
 Lemmas for the claims of this seat: the program's functions walked, and plain laws.
-/
import Derived.Test.YtplbdlgmjehckacGreatDoorPkFoTellsFull9
import Derived.Deep.Upon
import Derived.WideMake
set_option maxRecDepth 100000
set_option maxHeartbeats 3200000
namespace Go.Proofs.YtplbdlgmjehckacGreatDoor
open Go.Lib (hid)
open Go.RowKit
set_option linter.unusedVariables false
set_option linter.unusedSimpArgs false
def TJ(w:World)(r:Ans (List au))(e:Ending)(w':World):Prop:=
 match r with
 | .bad f=>e=.returned (.tuple #[.slice none 0 0,.agg #[.int .i64 (f.err:Int),.int .i64 (f.pos:Int)]])∧Below w.heap.size w w'
 | .ok rs=>∃v vs,e=.returned (.tuple #[v,.agg #[.int .i64 0,.int .i64 0]])∧Below w.heap.size w w'∧bP w' w.heap.size v rs vs
def sStart(w:World)(s:B):World:=
 ((w.alloc (.cells #[.slice none 0 0] 23 (0,0))).alloc (.cells #[.int .i64 0,.int .i64 0] 26 (0,0))).alloc (.cells #[.string (str s),.int .i64 0] 143 (0,0))
theorem D5(w:World)(s:B):(sStart w s).heap.size=w.heap.size+3:=by simp[sStart]
theorem D6(w:World)(s:B):Kept (λ_=>False) w (sStart w s):=(((Kept.refl (λ_=>False) w).alloc _).alloc _).alloc _
theorem Z7(w:World)(s:B):(sStart w s).heap[w.heap.size]?=some (.cells #[.slice none 0 0] 23 (0,0)):=iw (iw (aI w _) _) _
theorem Z8(w:World)(s:B):(sStart w s).heap[w.heap.size+1]?=some (.cells #[.int .i64 0,.int .i64 0] 26 (0,0)):=by
 have:=aI (w.alloc (.cells #[.slice none 0 0] 23 (0,0))) (.cells #[.int .i64 0,.int .i64 0] 26 (0,0));simp only[show(w.alloc (.cells #[.slice none 0 0] 23 (0,0))).heap.size=w.heap.size+1 from by simp]at this;exact iw this _
theorem XC(w:World)(s:B)(hs:s.length≤4000):dn (sStart w s) (w.heap.size+2) s 0:=by
 refine⟨?_,Nat.zero_le _,hs⟩;have:=aI ((w.alloc (.cells #[.slice none 0 0] 23 (0,0))).alloc (.cells #[.int .i64 0,.int .i64 0] 26 (0,0))) (.cells #[.string (str s),.int .i64 0] 143 (0,0));simp only[show((w.alloc (.cells #[.slice none 0 0] 23 (0,0))).alloc (.cells #[.int .i64 0,.int .i64 0] 26 (0,0))).heap.size=w.heap.size+2 from by simp]at this;exact this
theorem TK(s:B)(b base:Nat)(m:Int)(hb0:0<b)(hbb:b<base)(g:Nat)(D7:List au)(XD:List Value)(lv:Value)(at_:Nat)(w:World)(h:dn w b s at_)(hm:w.cell? ⟨0,0,none⟩=some (.int .i64 m))(hbs:base≤w.heap.size)(how:bP w base lv D7 XD)(hfew:D7.length≤60)(hg:(s.drop at_).length<g):
  Calls Tryz.prog 73 #[.pointer (some ⟨b,0,none⟩),lv,.string ⟨#[]⟩] w (AB w base b s lv (aP g [] D7 (s.drop at_) at_)):=
 FC [] s b base m hb0 hbb (λ_ nm g rs vs lv at_ w hn h hm hbs how hfew hg=>FC nm s b base m hb0 hbb (λhh=>absurd hh hn) g rs vs lv at_ w h hm hbs how hfew hg) g D7 XD lv at_ w h hm hbs how hfew hg
theorem TL(s:B)(w:World)(m:Int)(hm:w.cell? ⟨0,0,none⟩=some (.int .i64 m))(hs:s.length≤9223372036854775807):
  Calls Tryz.prog 31 #[.string (str s)] w (TJ w (iZ s)):=by
 obtain⟨r,HR⟩:∃r,Hid (iZ s=r):=⟨_,rfl⟩;rw[HR.out];have h0:0<w.heap.size:=World.block_lt_of_cell? w _ hm;have HM:=hid hm;clear hm;have hmf:∀(fn:Fn) (first cap:Array Value) (w:World),(Instr.makeFunc fn first cap).run Tryz.prog w=.ok (.func fn first cap) w:=λ_ _ _ _=>rfl
 by_cases hl:4000<s.length
 ·obtain rfl:r=.bad ⟨4,0⟩:=by rw[←HR.out];unfold iZ;rw[if_pos hl]
  have hlI:4000<(s.length:Int):=by omega
  have hsz:((str s).size:Int)=s.length:=by rw[lG]
  go_enter_defers Tryz.func31,Tryz.ntmps31
  go_wp2
  clear hmf HR HM;simp[bodyPostD,Leaves,settle,results,Tryz.results31,go_sem];exact⟨rfl,(((Kept.refl (λ_=>False) w).alloc _).alloc _).below⟩
 have hE:(aP (s.length+1) [] [] s 0).then (λx=>if x.2.1=[] then Ans.ok x.1 else .bad ⟨2,x.2.2⟩)=r:=by
  rw[←HR.out];unfold iZ;rw[if_neg hl];unfold aP;cases cO s 0<;>rfl
 have HE:=hid hE;clear hE;have hsz:((str s).size:Int)=s.length:=by rw[lG]
 go_enter_defers Tryz.func31,Tryz.ntmps31
 go_wp2_with fail
 refine(TK s (w.heap.size+2) (w.heap.size+3) m (by omega) (by omega) (s.length+1) [] [] (.slice none 0 0) 0 _ ?_ ?_ ?_ (dB.nil _ _) (by simp) (by simp)).mono ?_
 ·exact XC w s (by omega)
 ·exact(D6 w s).cell (λh=>h) HM.out
 ·exact Nat.le_of_eq (D5 w s).symm
 rw[List.drop_zero];have hk0:=D6 w s;have hl0:=Z7 w s;have hf0:=Z8 w s;change ∀(e:Ending) (w':World),AB (sStart w s) _ _ _ _ _ e w'→_;have uq:=hid hk0;have TM:=hid hl0;have AL:=hid hf0;have hsz0:=D5 w s;clear hk0 hl0 hf0;generalize sStart w s=w0 at *;rintro e w' (⟨f,rfl,hk,hp⟩ | ⟨v',rs',vs',at',rfl,ho,hwh,hk,hrd,hfew,hp⟩)
 ·have HBAD:=hid (vk (s:=s) (f:=f) (by rw[HR.out,←HE.out,hp.out];rfl));obtain rfl:r=.bad f:=by rw[←HE.out,hp.out];rfl
  have hl1:=hk.heap (λhs=>by rcases hs with hs | hs;exact absurd hs (by omega);cases hs) TM.out;have hf1:=hk.heap (λhs=>by rcases hs with hs | hs;exact absurd hs (by omega);cases hs) AL.out;clear hmf HR HE HM hp;simp only[bodyPostD];refine leaves_cons (f:=72) (args:=#[.pointer (some ⟨w.heap.size+1,0,none⟩)]) (by simp) (by simp[go_sem]) ?_;refine(lY (w.heap.size+1) f w' _ _ hf1).mono ?_;rintro e u' w2 ⟨rfl,rfl,hk2,hf2⟩;have hl2:=hk2.heap (by omega) hl1;have hne:((f.err:Int) != 0)=true:=by have:=HBAD.out.1;simp;omega
  refine leaves_cons (f:=71) (args:=#[.pointer (some ⟨w.heap.size+1,0,none⟩),.pointer (some ⟨w.heap.size,0,none⟩)]) (by simp[settle]) (by simp[go_sem]) ?_;refine(AO (w.heap.size+1) w.heap.size f.err f.pos _ w2 _ hf2 hl2 hne).mono ?_;rintro e u' w3 ⟨rfl,rfl,hk3,hl3⟩;have hf3:=hk3.heap (by omega) hf2;have l0:=ah hl3 0 rfl;have g0:=ah hf3 0 rfl;have g1:=ah hf3 1 rfl;simp[Leaves,settle,results,Tryz.results31,go_sem,l0,g0,g1];exact⟨rfl,(((uq.out.trans' hk (λi hi hs=>by rcases hs with hs | hs;exact absurd hs (by omega);cases hs)).trans' hk2 (λi hi (hs:i=_)=>by omega)).trans' hk3 (λi hi (hs:i=_)=>by omega)).below⟩
 have hr:(if s.drop at'=[] then Ans.ok rs' else .bad ⟨2,at'⟩)=r:=by rw[←HE.out,hp.out];rfl
 obtain⟨a9,c9,rfl⟩:=ho.form;have hdone:=ho;have hat:at'≤s.length:=hrd.2.1;have c0:=hrd.c0;have c1:=hrd.c1;have hl1:=hk.heap (λhs=>by rcases hs with hs | hs;exact absurd hs (by omega);cases hs) TM.out;have hf1:=hk.heap (λhs=>by rcases hs with hs | hs;exact absurd hs (by omega);cases hs) AL.out;have l0:w'.cell? ⟨w.heap.size,0,none⟩=some (.slice none 0 0):=ah hl1 0 rfl;have l0f:=aF hl1 0;have g0:w'.cell? ⟨w.heap.size+1,0,none⟩=some (.int .i64 0):=ah hf1 0 rfl;have g1:w'.cell? ⟨w.heap.size+1,1,none⟩=some (.int .i64 0):=ah hf1 1 rfl;have g0f:=aF hf1 0;have g1f:=aF hf1 1;have HF:=hid hf1;have HL:=hid hl1;have ZJ:=hid hrd;have JR:=hid hdone;have HR0:=hid hr;clear hl1 hf1 hrd hdone hr hp ho hfew;by_cases hend:at'=s.length
 ·obtain rfl:r=.ok rs':=by rw[←HR0.out,if_pos (by rw[hend];simp)]
  have hd:decide ((at':Int)<(s.length:Int))=false:=by simp;omega
  subst hend;clear HR0;go_wp2_with fail
  go_region
  go_wp2_with fail
  clear hmf HR HM;simp only[bodyPostD];refine leaves_cons (f:=72) (args:=#[.pointer (some ⟨w.heap.size+1,0,none⟩)]) (by simp) (by simp[go_sem]) ?_;refine(D8 _ _).mono ?_;rintro e u' w2 ⟨rfl,rfl,hw2⟩;have hkF:Kept (λk=>k=w.heap.size∨k=w.heap.size+1) w' w2:=by
   rw[hw2];exact(((((Kept.refl _ w').setCell (p:=⟨w.heap.size,0,none⟩) (.inl (.inl rfl)) _).setCell (p:=⟨w.heap.size,0,none⟩) (.inl (.inl rfl)) _).setCell (p:=⟨w.heap.size+1,0,none⟩) (.inl (.inr rfl)) _).setCell (p:=⟨w.heap.size+1,1,none⟩) (.inl (.inr rfl)) _).drew
  have l1:w2.cell? ⟨w.heap.size,0,none⟩=some (.slice a9 rs'.length c9):=by
   rw[hw2];exact ah (eF (eF (aW (aW HL.out 0 (.slice a9 rs'.length c9)) 0 (.slice a9 rs'.length c9)) ⟨w.heap.size+1,0,none⟩ _ (by show w.heap.size≠w.heap.size+1;omega)) ⟨w.heap.size+1,1,none⟩ _ (by show w.heap.size≠w.heap.size+1;omega)) 0 rfl
  have hf2:w2.heap[w.heap.size+1]?=some (.cells #[.int .i64 0,.int .i64 0] 26 (0,0)):=by
   rw[hw2];exact aW (aW (eF (eF HF.out ⟨w.heap.size,0,none⟩ (.slice a9 rs'.length c9) (by show w.heap.size+1≠w.heap.size;omega)) ⟨w.heap.size,0,none⟩ (.slice a9 rs'.length c9) (by show w.heap.size+1≠w.heap.size;omega)) 0 (.int .i64 0)) 1 (.int .i64 0)
  clear hw2 l0 g0 g1;refine leaves_cons (f:=71) (args:=#[.pointer (some ⟨w.heap.size+1,0,none⟩),.pointer (some ⟨w.heap.size,0,none⟩)]) (by simp[settle]) (by simp[go_sem]) ?_;refine(AP (w.heap.size+1) w.heap.size 0 _ w2 hf2).mono ?_;rintro e u' w3 ⟨rfl,rfl,rfl⟩;have g2:w3.cell? ⟨w.heap.size+1,0,none⟩=some (.int .i64 0):=ah hf2 0 rfl;have g3:w3.cell? ⟨w.heap.size+1,1,none⟩=some (.int .i64 0):=ah hf2 1 rfl;simp[Leaves,settle,results,Tryz.results31,go_sem,l1,g2,g3];refine⟨_,vs',rfl,((uq.out.trans' hk (λi hi hs=>by rcases hs with hs | hs;exact absurd hs (by omega);cases hs)).trans' hkF (λi hi hs=>by rcases hs with hs | hs<;>omega)).below,?_⟩;refine⟨JR.out.len,(aK JR.out.own hkF (λk hk hs=>by have:=(JR.out.own.lt k hk).1;rcases hs with hs | hs<;>omega)).mono (by omega),λi x u hx hu=>?_⟩;exact bn _ _ _ _ _ _ _ (JR.out.nest i x u hx hu) hkF (λk _ hs=>.inl (by rcases hs with hs | hs<;>omega)) (λk _ hx=>by
   rcases hx with hx | hx
   ·exact .inl (by omega)
   exact .inr hx)
 obtain rfl:r=.bad ⟨2,at'⟩:=by
  rw[←HR0.out,if_neg];intro he;have:=congrArg List.length he;simp at this;omega
 have hd:(at':Int)<(s.length:Int):=by omega
 clear HR0;go_wp2_with fail
 have afr:dn (w'.setCell ⟨w.heap.size,0,none⟩ (.slice a9 rs'.length c9)) (w.heap.size+2) s at':=⟨eF ZJ.out.1 ⟨w.heap.size,0,none⟩ _ (by show w.heap.size+2≠w.heap.size;omega),ZJ.out.2⟩;refine(iG 2 _ _ s at' afr).mono ?_;rintro e w1 ⟨rfl,hq⟩;have hl3:=(hq.kept (λ_=>False)).heap id (aW HL.out 0 (.slice a9 rs'.length c9));have hf3:=(hq.kept (λ_=>False)).heap id (eF HF.out ⟨w.heap.size,0,none⟩ (.slice a9 rs'.length c9) (by show w.heap.size+1≠w.heap.size;omega));have hk3:Kept (λk=>k=w.heap.size∨k=w.heap.size+2) w0 w1:=((hk.mono (λk _ hs=>by rcases hs with hs | hs;exact .inr hs;cases hs)).setCell (p:=⟨w.heap.size,0,none⟩) (.inl (.inl rfl)) _).trans (hq.kept _);have hne:(((2:Nat):Int) != 0)=true:=by decide
 clear hmf HR HM hq;simp only[bodyPostD];refine leaves_cons (f:=72) (args:=#[.pointer (some ⟨w.heap.size+1,0,none⟩)]) (by simp) (by simp[go_sem]) ?_;refine(lY (w.heap.size+1) ⟨2,at'⟩ w1 _ _ hf3).mono ?_;rintro e u' w2 ⟨rfl,rfl,hk4,hf2⟩;have hl2:=hk4.heap (by omega) hl3;refine leaves_cons (f:=71) (args:=#[.pointer (some ⟨w.heap.size+1,0,none⟩),.pointer (some ⟨w.heap.size,0,none⟩)]) (by simp[settle]) (by simp[go_sem]) ?_;refine(AO (w.heap.size+1) w.heap.size _ _ _ w2 _ hf2 hl2 hne).mono ?_;rintro e u' w3 ⟨rfl,rfl,hk5,hl4⟩;have hf4:=hk5.heap (by omega) hf2;have l0:=ah hl4 0 rfl;have g0:=ah hf4 0 rfl;have g1:=ah hf4 1 rfl;simp[Leaves,settle,results,Tryz.results31,go_sem,l0,g0,g1];exact⟨rfl,(((uq.out.trans' hk3 (λi hi hs=>by rcases hs with hs | hs<;>omega)).trans' hk4 (λi hi (hs:i=_)=>by omega)).trans' hk5 (λi hi (hs:i=_)=>by omega)).below⟩
theorem D9(size:Nat):∀(rows:List (List Value)),(∀r∈rows,r.length=size)→∀(j:Nat) (u:Value),rows.flatten[j]?=some u→∃i k r,rows[i]?=some r∧r[k]?=some u∧j=i*size+k
 | [],_,j,u,h=>by simp at h
 | r0::rows,hl,j,u,h=>by
  have h0:=hl r0 (by simp);simp only[List.flatten_cons]at h;by_cases hj:j<r0.length
  ·rw[List.getElem?_append_left hj]at h;exact⟨0,j,r0,rfl,h,by simp⟩
  rw[List.getElem?_append_right (by omega)]at h;obtain⟨i,k,r,h1,h2,h3⟩:=D9 size rows (λr hr=>hl r (by simp[hr])) _ u h;exact⟨i+1,k,r,by simpa using h1,h2,by rw[Nat.succ_mul];omega⟩
theorem afs(b off j:Nat):((⟨b,off,none⟩:Addr).add j)=⟨b,off+j,none⟩:=by unfold Addr.add;split<;>simp_all
theorem aH.news{w:World}{size b off n cap:Nat}{rows:List (List Value)}(h:aH w size (.slice (some ⟨b,off,none⟩) n cap) rows)(hl:∀r∈rows,r.length=size):
  ∀j u,rows.flatten[j]?=some u→w.cell? ((⟨b,off,none⟩:Addr).add j)=some u:=λj u hu=>by
 obtain⟨i,k,r,h1,h2,rfl⟩:=D9 size rows hl j u hu;obtain⟨a',cap',hv,_,_,h4⟩:=h;obtain⟨b',off',hb,h5⟩:=h4 (by intro hn;subst hn;simp at h1);simp only[Value.slice.injEq]at hv;obtain⟨rfl,_,_⟩:=hv;cases hb;rw[afs,←Nat.add_assoc];exact h5 i r h1 k u h2
theorem wG(size:Nat):∀(rows:List (List Value)),(∀r∈rows,r.length=size)→rows.flatten.length=rows.length*size
 | [],_=>by simp
 | r::rows,h=>by
  rw[List.flatten_cons,List.length_append,h r (by simp),wG size rows (λx hx=>h x (by simp[hx])),List.length_cons,Nat.succ_mul];omega
theorem aH.addr{w:World}{size:Nat}{a:Option Addr}{n cap:Nat}{rows:List (List Value)}(h:aH w size (.slice a n cap) rows)(hne:rows≠[]):∃b off,a=some ⟨b,off,none⟩:=by
 obtain⟨a',cap',hv,_,_,h4⟩:=h;obtain⟨b',off',hb,_⟩:=h4 hne;simp only[Value.slice.injEq]at hv;obtain⟨rfl,_,_⟩:=hv;exact⟨b',off',hb⟩
theorem aH.len{w:World}{size:Nat}{a:Option Addr}{n cap:Nat}{rows:List (List Value)}(h:aH w size (.slice a n cap) rows):n=rows.length:=by
 obtain⟨a',cap',hv,_,_,h4⟩:=h;simp only[Value.slice.injEq]at hv;exact hv.2.1
section
variable {P:Program}
theorem kH(w:World)(t ty:TypeId)(base:Nat)(e:TypeId)(i:TypeInfo)(z:Value)(size bytes:Nat)(ht:P.underlying t=some (.slice e))(hi:P.info? e=some i)(hz:i.zero=some z)
  (hsize:i.size=size) (hby:i.bytes=bytes) (hzs:z.cells.size=size) (hsz:0<size)
  (ao:Option Addr) (n co:Nat) (xs:List Value) (hown:w.ownsRow base e size (.slice ao n co) n xs)
  (a:Option Addr) (m c:Nat) (rows:List (List Value)) (hr:aH w size (.slice a m c) rows) (hl:∀r∈rows,r.length=size) (h1:∀u∈rows.flatten,u.oneCell'=true)
  (h63:n+m≤maxLen) (hbytes:(n+m)*bytes≤140737488355328) (hbase:base≤w.heap.size) :
  ∃a' c' w',(Builtin.append_ #[t,t] ty #[.slice ao n co,.slice a m c]).run P w=.ok (.slice a' (n+m) c') w'∧w'.ownsRow base e size (.slice a' (n+m) c') (n+m) (xs++rows.flatten) ∧
   Kept (λk=>(Value.slice ao n co).ownBlock=some k) w w'∧((Value.slice a' (n+m) c').ownBlock=(Value.slice ao n co).ownBlock∨∃g,(Value.slice a' (n+m) c').ownBlock=some g∧w.heap.size≤g):=by
 have hm:m=rows.length:=hr.len;by_cases h0:rows=[]
 ·subst h0;simp only[List.length_nil]at hm;subst hm;have hle:n≤co:=by
   rcases hown.2 with⟨h,hn⟩ | ⟨g,cap,cur,hv,_,_,hnc,_⟩
   ·simp only[Value.slice.injEq]at h;omega
   simp only[Value.slice.injEq]at hv;omega
  have hs:Src P i.size t (.slice a 0 c) 0 [] w:=by
   cases a with
   | none=>exact Src.ofNil w ht c
   | some a=>exact Src.ofSlice w ht a 0 c [] (by simp) (by simp) (by simp)
  refine⟨ao,co,w,run_append_nothing w t t ty e i ht hi ao n co hle (.slice a 0 c) hs,by simpa using hown,Kept.refl _ _,.inl rfl⟩
 obtain⟨b,off,rfl⟩:=hr.addr h0;have hpos:0<m:=by rw[hm];exact List.length_pos_iff.2 h0
 obtain⟨g,cap,w',hrun,h2,h3,h4,h5⟩:=run_append_lies (P:=P) w t ty base e i z size bytes ht hi hz hsize hby hzs hsz (.slice ao n co) n xs hown ⟨b,off,none⟩ m c rows.flatten (by rw[wG size rows hl,hm]) (hr.news hl) h1 hpos h63 hbytes hbase w.heap.size rfl;refine⟨_,cap,w',hrun,h2,(Kept.refl _ w).grown h3 (λk hk=>.inl hk),?_⟩;rcases h4 with h4 | h4
 ·exact .inl h4.symm
 exact .inr ⟨g,rfl,by omega⟩
theorem gK{ops:Array Oper}{rest:List Oper}{o:Oper}{a:Act}{w:World}{Q:Exit→Act→World→Prop}(hw:Region.wanted o (yielded ops a.tmps)=true)(s x:Operand)(t:TypeId)
  (ho:o.op=.call { callee:=.builtin .append,args:=#[s,x],argTypes:=#[t,t] }) (sv xv v:Value) (hs:a.eval s=sv) (hx:a.eval x=xv) (w':World)
  (hr:(Builtin.append_ #[t,t] o.type #[sv,xv]).run P w=.ok v w') (h:wpList P ops Q rest (a.put o.dst v) w'):wpList P ops Q (o::rest) a w:=
 wpList_step λK hK=>by
  rw[if_pos hw];unfold Oper.wp execOp;simp only[ho,resolve,invoke,builtin,Sem.run_bind,Sem.run_pure,Result.andThen_ok,List.map_toArray,List.map_cons,List.map_nil,hs,hx,hr];exact hK _ _ h
end
theorem Ea(size:Nat):∀(rows:List (List Value)),(∀r∈rows,r.length=size)→∀(k j:Nat) (r:List Value) (c:Value),rows[k]?=some r→j<size→rows.flatten.set (k*size+j) c=(rows.set k (r.set j c)).flatten
 | [],_,k,j,r,c,h,_=>by simp at h
 | r0::rows,hl,k,j,r,c,h,hj=>by
  have h0:=hl r0 (by simp);cases k with
  | zero=>
   simp only[List.getElem?_cons_zero,Option.some.injEq]at h;subst h;simp only[Nat.zero_mul,Nat.zero_add,List.flatten_cons,List.set_cons_zero];rw[List.set_append_left _ _ (by omega)]
  | succ k=>
   simp only[List.getElem?_cons_succ]at h;simp only[List.flatten_cons,List.set_cons_succ];rw[List.set_append_right _ _ (by rw[h0,Nat.succ_mul];omega)];have:=Ea size rows (λr hr=>hl r (by simp[hr])) k j r c h hj;rw[←this];congr 2;rw[h0,Nat.succ_mul];omega
theorem Z9{w:World}{base e size n k j:Nat}{a:Option Addr}{m cap g:Nat}{rows:List (List Value)}{r:List Value}(h:w.ownsRow base e size (.slice (some ⟨g,0,none⟩) m cap) n rows.flatten)(hl:∀r∈rows,r.length=size)(hn:rows.length=n)(hk:rows[k]?=some r)(hj:j<size)(c:Value):
  (w.setCell ⟨g,k*size+j,none⟩ c).ownsRow base e size (.slice (some ⟨g,0,none⟩) m cap) n (rows.set k (r.set j c)).flatten:=by
 obtain⟨h1,h2⟩:=h;rw[←Ea size rows hl k j r c hk hj];refine⟨by simpa using h1,.inr ?_⟩;rcases h2 with⟨h2,_⟩ | ⟨g',cap',cur,hv,hb,hg,hnc,hcm,hcs,htake⟩
 ·cases h2
 cases hv;refine⟨g,cap,_,rfl,hb,aW hg _ c,hnc,hcm,by simpa using hcs,?_⟩;have hkn:k<n:=by rw[←hn];exact(List.getElem?_eq_some_iff.1 hk).1
 rw[Array.toList_setIfInBounds,List.take_set,htake]
theorem uD{α β γ:Type}(f:α→β→γ):∀(xs:List α) (vs:List β) (k:Nat) (x:α) (u:β),vs[k]?=some u→List.zipWith f (xs.set k x) vs=(List.zipWith f xs vs).set k (f x u)
 | [],vs,k,x,u,h=>by simp
 | y::xs,[],k,x,u,h=>by simp at h
 | y::xs,v::vs,0,x,u,h=>by simp at h;simp[h]
 | y::xs,v::vs,k+1,x,u,h=>by simp at h;simp[uD f xs vs k x u h]
theorem dB.put{α:Type}{f:α→Value→List Value}{size e:Nat}{Q:World→(Nat→Prop)→Value→α→Prop}{w:World}{base g m cap k j:Nat}{xs:List α}{vs:List Value}{x x':α}{c:Value}
  (h:dB f size e Q w base (.slice (some ⟨g,0,none⟩) m cap) xs vs) (hf:∀a v,(f a v).length=size) (hQ:pV Q) (hx:xs[k]?=some x) (hj:j<size) (hset:∀u,(f x u).set j c=f x' u) (hQx:∀w X u,Q w X u x→Q w X u x') :
  dB f size e Q (w.setCell ⟨g,k*size+j,none⟩ c) base (.slice (some ⟨g,0,none⟩) m cap) (xs.set k x') vs:=by
 have hk:=(List.getElem?_eq_some_iff.1 hx).1;have hu:vs[k]?=some (vs[k]'(by rw[h.len];exact hk)):=List.getElem?_eq_getElem _;refine⟨by rw[h.len];simp,?_,λi y u hy hu'=>?_⟩
 ·rw[uD f xs vs k x' _ hu,←hset,List.length_set];exact Z9 (a:=none) h.own (AQ hf) (by simp[h.len]) (by simp[List.getElem?_zipWith,hx,hu]) hj c
 have hkept:Kept (· = g) w (w.setCell ⟨g,k*size+j,none⟩ c):=(Kept.refl (· = g) w).setCell (p:=⟨g,k*size+j,none⟩) (.inl rfl) c;have new:∀y,Q w (λk=>k<base∨(Value.slice (some ⟨g,0,none⟩) m cap).ownBlock=some k) u y→Q (w.setCell ⟨g,k*size+j,none⟩ c) (λk=>k<base∨(Value.slice (some ⟨g,0,none⟩) m cap).ownBlock=some k) u y:=λy hq=>
  hQ _ _ _ _ _ _ _ hq hkept (λq _ (hs:q=g)=>.inr (by rw[hs];rfl)) (λ_ _ hx=>hx)
 by_cases hik:i=k
 ·subst hik;rw[List.getElem?_set_self hk]at hy;cases hy;exact new _ (hQx _ _ _ (h.nest i x u hx hu'))
 rw[List.getElem?_set_ne (λh=>hik h.symm)]at hy;exact new _ (h.nest i y u hy hu')
theorem TN{w:World}{X:Nat→Prop}{xs:List au}{vs:List Value}(h:∀(i:Nat) (x:au) (u:Value),xs[i]?=some x→vs[i]?=some u→CO w X u x):∀c∈(List.zipWith bI xs vs).flatten,c.oneCell'=true:=by
 intro c hc;obtain⟨r,hr,hc⟩:=List.mem_flatten.1 hc;obtain⟨i,hi,rfl⟩:=List.mem_iff_getElem.1 hr;simp only[List.length_zipWith]at hi;rw[List.getElem_zipWith]at hc;obtain⟨sv,dv,hu,hs,hd⟩:=h i _ _ (List.getElem?_eq_getElem (by omega)) (List.getElem?_eq_getElem (by omega));rw[hu]at hc;obtain⟨_,_,rfl,_⟩:=kJ.form hs;obtain⟨_,_,rfl,_⟩:=dD.form hd;simp only[bI,XE,XF,List.mem_cons,List.not_mem_nil,or_false]at hc;rcases hc with rfl | rfl | rfl | rfl | rfl<;>rfl
theorem bP.app{wx:World}{base Wi:Nat}{ao a:Option Addr}{co c:Nat}{rs qs:List au}{vs vs2:List Value}
  (h1:bP wx base (.slice ao rs.length co) rs vs) (h2:bP wx Wi (.slice a qs.length c) qs vs2) (hb:base≤Wi) (hb2:Wi≤wx.heap.size) (hlow:∀k,(Value.slice ao rs.length co).ownBlock=some k→k<Wi) (hlen:rs.length+qs.length≤1000000) :
  ∃a' c' w',(Builtin.append_ #[23,23] 23 #[.slice ao rs.length co,.slice a qs.length c]).run Tryz.prog wx=.ok (.slice a' (rs.length+qs.length) c') w' ∧
   bP w' base (.slice a' (rs.length+qs.length) c') (rs++qs) (vs++vs2)∧Kept (λk=>(Value.slice ao rs.length co).ownBlock=some k) wx w':=by
 obtain⟨i0,hi0,hz0,hz1,hz2⟩:=info_parts uF;have hrows:aH wx 5 (.slice a qs.length c) (List.zipWith bI qs vs2):=aS (AQ fU) (by simp[h2.len]) h2.own;obtain⟨a',c',w',hr,ho,hk,hown⟩:=kH (P:=Tryz.prog) wx 23 23 base 42 i0 _ 5 80 Tryz.underlying23 hi0 hz0 hz1 hz2 rfl (by omega) ao rs.length co _ h1.own a qs.length c _ hrows (AQ fU) (TN h2.nest) (by unfold maxLen;omega) (by omega) (by omega);refine⟨a',c',w',hr,⟨by simp[h1.len,h2.len],?_,λi x u hx hu=>?_⟩,hk⟩
 ·rw[List.zipWith_append (by rw[h1.len]),List.flatten_append,List.length_append];exact ho
 have hnew:∀k,k<wx.heap.size→(Value.slice a' (rs.length+qs.length) c').ownBlock=some k→(Value.slice ao rs.length co).ownBlock=some k:=λk hk' e=>by
  rcases hown with h | ⟨g,h,hg⟩
  ·rw[←h];exact e
  rw[h]at e;cases e;omega
 by_cases hi:i<rs.length
 ·rw[List.getElem?_append_left hi]at hx;rw[List.getElem?_append_left (by rw[h1.len];exact hi)]at hu;exact bn _ _ _ _ _ _ _ (h1.nest i x u hx hu) hk (λk _ h=>.inr h) (λk hk' h=>h.imp id (hnew k hk'))
 rw[List.getElem?_append_right (by omega)]at hx;rw[List.getElem?_append_right (by rw[h1.len];omega),h1.len]at hu;exact bn _ _ _ _ _ _ _ (h2.nest _ x u hx hu) hk (λk _ h=>.inl (hlow k h)) (λk hk' h=>.inl (by
  rcases h with h | h
  ·omega
  exact hlow k (hnew k hk' h)))
def jr(d:Nat)(bs:List au)(k:Nat):List au:=(bs.take k).map (au.shift d)++bs.drop k
theorem OV(d:Nat)(bs:List au)(k:Nat):(jr d bs k).length=bs.length:=by simp[jr];omega
theorem OW{d:Nat}{bs:List au}{k:Nat}{x:au}(hx:bs[k]?=some x):(jr d bs k)[k]?=some x:=by
 have hlt:=(List.getElem?_eq_some_iff.1 hx).1;unfold jr;rw[List.getElem?_append_right (by simp;omega)];simp only[List.length_map,List.length_take,List.getElem?_drop];rw[show k+(k-min k bs.length)=k from by omega,hx]
theorem OX{d:Nat}{bs:List au}{k:Nat}{x y:au}(hx:bs[k]?=some x):((jr d bs k).set k y).set k (x.shift d)=jr d bs (k+1):=by
 have hlt:=(List.getElem?_eq_some_iff.1 hx).1;unfold jr;rw[List.set_set,List.take_add_one,hx,List.set_append_right _ _ (by simp;omega)];have e2:k-((bs.take k).map (au.shift d)).length=0:=by simp;omega
 rw[e2];have e3:bs.drop k=x::bs.drop (k+1):=by
  obtain⟨h1,h2⟩:=List.getElem?_eq_some_iff.1 hx;rw[List.drop_eq_getElem_cons h1,h2]
 rw[e3];simp
theorem MI(d:Nat)(bs:List au):jr d bs bs.length=bs.map (au.shift d):=by simp[jr]
theorem bP.block{w:World}{base m cap k:Nat}{a:Option Addr}{xs:List au}{vs:List Value}{x:au}(h:bP w base (.slice a m cap) xs vs)(hx:xs[k]?=some x):
  ∃g cur u,a=some ⟨g,0,none⟩∧w.heap[g]?=some (.cells cur 42 (0,0))∧base≤g∧(∀j c,(bI x u)[j]?=some c→w.cell? ⟨g,k*5+j,none⟩=some c):=by
 have hk:=(List.getElem?_eq_some_iff.1 hx).1;rcases h.own.2 with⟨h1,hn⟩ | ⟨g,cap',cur,hv,hb,hg,_⟩
 ·omega
 cases hv;obtain⟨b,off,u,hbb,hc,_⟩:=kJ.at (h.done fU bn) hx;cases hbb;refine⟨g,cur,u,rfl,hg,hb,λj c hj=>?_⟩;have:=hc j c hj
 rwa [Nat.zero_add]at this
theorem ac'(w:World)(o o':Obj): { (w.alloc o)with heap:=(w.alloc o).heap.setIfInBounds w.heap.size o' }=w.alloc o':=by
 have h:((w.alloc o).heap.setIfInBounds w.heap.size o')=(w.alloc o').heap:=by
  show((w.heap.push o).setIfInBounds w.heap.size o')=w.heap.push o'
  apply Array.ext
  ·simp
  intro i h1 h2;rw[Array.getElem_setIfInBounds]
  ·by_cases hi:w.heap.size=i
   ·subst hi;simp
   have:i<w.heap.size:=by simp at h2;omega
   rw[if_neg hi,Array.getElem_push_lt this,Array.getElem_push_lt this]
  simpa using h1
 rw[h];rfl
section
variable {P:Program} {mty kt et:TypeId} {kind:TypeDesc}
theorem qW(w:World)(t:TypeId):(Instr.makeMap t none).run P w=.ok (.map (some w.heap.size)) (w.alloc (.map #[] 0)):=rfl
theorem nR(hm:P.underlying mty=some (.map kt et))(hk:P.underlying kt=some kind)(w:World){es:Array MapEntry}{c:Nat}{k v:Value}(hik:MapKept.IsKey kind k)(hf:Instr.findNow kind k es.toList 0=some none):
  (Instr.mapUpdate mty (.map (some w.heap.size)) k v).run P (w.alloc (.map es c))=.ok () (w.alloc (.map (es.push ⟨k,v,c⟩) (c+1))):=by
 have hb:(w.alloc (.map es c)).heap[w.heap.size]?=some (.map es c):=aI w _;have hc:(Instr.checkKey false 10000 kt k).run P (w.alloc (.map es c))=.ok () (w.alloc (.map es c)):=MapKept.run_checkKey hk hik false 9999;have h1:(Instr.mapUpdate mty (.map (some w.heap.size)) k v).run P (w.alloc (.map es c))=.ok () { (w.alloc (.map es c))with heap:=(w.alloc (.map es c)).heap.setIfInBounds w.heap.size (.map (es.push ⟨k,v,c⟩) (c+1)) }:=by
  simp[Instr.mapUpdate,run_underlying hm,MapKept.run_getObj_map hb,hc,MapKept.run_findKey hk hf,MapKept.run_setObj_map _ hb,Result.andThen]
 rw[h1,ac']
theorem nS(hm:P.underlying mty=some (.map kt et))(hk:P.underlying kt=some kind){w:World}{r:Nat}{es:Array MapEntry}{c i:Nat}{k v:Value}(hb:w.heap[r]?=some (.map es c))(hik:MapKept.IsKey kind k)(hf:Instr.findNow kind k es.toList 0=some (some (i,v)))(ok:Bool):
  (Instr.lookup mty (.map (some r)) k ok).run P w=.ok (if ok then .tuple #[v,.bool true] else v) w:=by
 have hc:(Instr.checkKey es.isEmpty 10000 kt k).run P w=.ok () w:=MapKept.run_checkKey hk hik _ 9999;simp[Instr.lookup,run_underlying hm,MapKept.run_getObj_map hb,hc,MapKept.run_findKey hk hf,Result.andThen]
theorem tN(hm:P.underlying mty=some (.map kt et))(hk:P.underlying kt=some kind){w:World}{r:Nat}{es:Array MapEntry}{c:Nat}{k z:Value}(hb:w.heap[r]?=some (.map es c))(hik:MapKept.IsKey kind k)(hf:Instr.findNow kind k es.toList 0=some none)(hz:(zeroValue et).run P w=.ok z w)(ok:Bool):
  (Instr.lookup mty (.map (some r)) k ok).run P w=.ok (if ok then .tuple #[z,.bool false] else z) w:=by
 have hc:(Instr.checkKey es.isEmpty 10000 kt k).run P w=.ok () w:=MapKept.run_checkKey hk hik _ 9999;simp[Instr.lookup,run_underlying hm,MapKept.run_getObj_map hb,hc,MapKept.run_findKey hk hf,hz,Result.andThen]
end
structure dL(d:TypeDesc)(w:World)(b:Nat)(f:Value→Option Value):Prop where
 ex:∃es c,w.heap[b]?=some (.map es c)∧(∀x∈es.toList,MapKept.IsKey d x.key)∧MapKept.Stamped es c∧∀k,MapKept.IsKey d k→∀v,f k=some v↔∃x∈es.toList,x.key=k∧x.val=v
theorem dL.made(d:TypeDesc)(w:World):dL d (w.alloc (.map #[] 0)) w.heap.size (λ_=>none):=
 ⟨⟨#[],0,aI w _,by simp,MapKept.stamped_empty 0,by simp⟩⟩
theorem dL.kept{d:TypeDesc}{S:Nat→Prop}{w w':World}{b:Nat}{f:Value→Option Value}(h:dL d w b f)(hk:Kept S w w')(hs:¬S b):dL d w' b f:=by
 obtain⟨es,c,h1,h2⟩:=h.ex;exact⟨⟨es,c,hk.heap hs h1,h2⟩⟩
theorem dL.lt{d:TypeDesc}{w:World}{b:Nat}{f:Value→Option Value}(h:dL d w b f):b<w.heap.size:=by
 obtain⟨es,c,h1,_⟩:=h.ex;exact gW h1
theorem qh{w:World}{b:Nat}(o:Obj):Kept (· = b) w { w with heap:=w.heap.setIfInBounds b o }:=
 ⟨rfl,rfl,rfl,by simp,λi hi hs=>by
  show(w.heap.setIfInBounds b o)[i]?=w.heap[i]?
  rw[Array.getElem?_setIfInBounds_ne (λe=>hs e.symm)]⟩
section
variable {P:Program} {mty kt et:TypeId} {kind:TypeDesc}
theorem dL.update{w:World}{b:Nat}{f f':Value→Option Value}(h:dL kind w b f)(hm:P.underlying mty=some (.map kt et))(hd:P.underlying kt=some kind){k v:Value}(hk:MapKept.IsKey kind k)
  (h1:f' k=some v) (h2:∀x,MapKept.IsKey kind x→x≠k→f' x=f x) :
  ∃w',(Instr.mapUpdate mty (.map (some b)) k v).run P w=.ok () w'∧dL kind w' b f'∧Kept (· = b) w w'∧w'.heap.size=w.heap.size:=by
 obtain⟨es,c,hb,hks,hst,hf⟩:=h.ex;rcases MapKept.findNow_spec hk es.toList 0 hks with⟨g1,g2⟩ | ⟨j,e,g1,g2,g3⟩
 ·refine⟨{ w with heap:=w.heap.setIfInBounds b (.map (es.push ⟨k,v,c⟩) (c+1)) },?_,⟨⟨_,_,(MapKept.heap_set hb).1,?_,MapKept.stamped_push hst g2,?_⟩⟩,qh _,by simp⟩
  ·simp[Instr.mapUpdate,run_underlying hm,MapKept.run_getObj_map hb,MapKept.run_checkKey hd hk,MapKept.run_findKey hd g1,MapKept.run_setObj_map _ hb,Result.andThen]
  ·intro x hx;simp only[Array.toList_push,List.mem_append,List.mem_singleton]at hx;rcases hx with hx | rfl
   ·exact hks x hx
   exact hk
  intro x hx y;simp only[Array.toList_push,List.mem_append,List.mem_singleton];by_cases hxk:x=k
  ·subst hxk;rw[h1];constructor
   ·intro e;cases e;exact⟨_,.inr rfl,rfl,rfl⟩
   rintro⟨z,hz | rfl,XG,rfl⟩
   ·exact absurd XG (g2 z hz)
   rfl
  rw[h2 x hx hxk,hf x hx y];constructor
  ·rintro⟨z,hz,e⟩;exact⟨z,.inl hz,e⟩
  rintro⟨z,hz | rfl,XG,e⟩
  ·exact⟨z,hz,XG,e⟩
  exact absurd XG.symm hxk
 have hj:es[j]?=some e:=by simpa using g2
 have hkey:∀e',es[j]?=some e'→({ e' with key:=k,val:=v }:MapEntry).key=e'.key:=λe' he'=>by rw[hj]at he';cases he';exact g3.symm
 refine⟨{ w with heap:=w.heap.setIfInBounds b (.map (es.modify j λe => { e with key:=k,val:=v }) c) },?_,⟨⟨_,_,(MapKept.heap_set hb).1,MapKept.isKey_modify hks _ _ hkey,MapKept.stamped_modify hst _ _ (λ_ _=>rfl) (λe' _ he'=>hkey e' he'),?_⟩⟩,qh _,by simp⟩
 ·simp[Instr.mapUpdate,run_underlying hm,MapKept.run_getObj_map hb,MapKept.run_checkKey hd hk,MapKept.run_findKey hd g1,hj,g3,MapKept.run_keyThatStays hk,MapKept.run_setObj_map _ hb,Result.andThen]
 have ahu:∀(i:Nat) (x:MapEntry),es[i]?=some x→x.key=k→i=j:=by
  intro i x hi hxk;have hnd:=hst.2.2;have hi':(es.toList.map (·.key))[i]?=some k:=by rw[List.getElem?_map];simp[hi,hxk]
  have hj':(es.toList.map (·.key))[j]?=some k:=by rw[List.getElem?_map];simp[hj,g3]
  exact(List.getElem?_inj (List.getElem?_eq_some_iff.1 hi').1 hnd).1 (hi'.trans hj'.symm)
 have hmem:∀z:MapEntry,z∈(es.modify j λe => { e with key:=k,val:=v }).toList↔(∃i,i≠j∧es[i]?=some z)∨z = { e with key:=k,val:=v }:=by
  intro z;rw[List.mem_iff_getElem?];constructor
  ·rintro⟨i,hi⟩;rw[Array.getElem?_toList,Array.getElem?_modify]at hi;split at hi
   ·rename_i hij
    subst hij;rw[hj]at hi;right;simpa using hi.symm
   rename_i hij
   exact .inl ⟨i,λe=>hij e.symm,hi⟩
  rintro(⟨i,hij,hi⟩ | rfl)
  ·exact⟨i,by rw[Array.getElem?_toList,Array.getElem?_modify,if_neg (λe=>hij e.symm)];exact hi⟩
  exact⟨j,by rw[Array.getElem?_toList,Array.getElem?_modify,if_pos rfl,hj];rfl⟩
 intro x hx y;by_cases hxk:x=k
 ·subst hxk;rw[h1];constructor
  ·intro e';cases e';exact⟨_,(hmem _).2 (.inr rfl),rfl,rfl⟩
  rintro⟨z,hz,XG,rfl⟩;rcases(hmem z).1 hz with⟨i,hij,hi⟩ | rfl
  ·exact absurd (ahu i z hi XG) hij
  rfl
 rw[h2 x hx hxk,hf x hx y];constructor
 ·rintro⟨z,hz,XG,e'⟩;obtain⟨i,hi⟩:=List.mem_iff_getElem?.1 hz;have hi:es[i]?=some z:=by simpa using hi
  refine⟨z,(hmem z).2 (.inl ⟨i,λhij=>hxk ?_,hi⟩),XG,e'⟩;rw[hij,hj]at hi;cases hi;rw[←XG,g3]
 rintro⟨z,hz,XG,e'⟩;rcases(hmem z).1 hz with⟨i,hij,hi⟩ | rfl
 ·exact⟨z,List.mem_iff_getElem?.2 ⟨i,by simpa using hi⟩,XG,e'⟩
 exact absurd XG.symm hxk
theorem dL.hit{w:World}{b:Nat}{f:Value→Option Value}(h:dL kind w b f)(hm:P.underlying mty=some (.map kt et))(hd:P.underlying kt=some kind){k v:Value}(hk:MapKept.IsKey kind k)(hf:f k=some v)(ok:Bool):
  (Instr.lookup mty (.map (some b)) k ok).run P w=.ok (if ok then .tuple #[v,.bool true] else v) w:=by
 obtain⟨es,c,hb,hks,hst,hff⟩:=h.ex;rcases MapKept.findNow_spec hk es.toList 0 hks with⟨g1,g2⟩ | ⟨j,e,g1,g2,g3⟩
 ·obtain⟨x,hx,hxk,_⟩:=(hff k hk v).1 hf;exact absurd hxk (g2 x hx)
 have:=(hff k hk e.val).2 ⟨e,List.mem_iff_getElem?.2 ⟨j,g2⟩,g3,rfl⟩;rw[hf]at this;cases this;exact nS hm hd hb hk g1 ok
theorem dL.miss{w:World}{b:Nat}{f:Value→Option Value}(h:dL kind w b f)(hm:P.underlying mty=some (.map kt et))(hd:P.underlying kt=some kind){k z:Value}(hk:MapKept.IsKey kind k)(hf:f k=none)(hz:(zeroValue et).run P w=.ok z w)(ok:Bool):
  (Instr.lookup mty (.map (some b)) k ok).run P w=.ok (if ok then .tuple #[z,.bool false] else z) w:=by
 obtain⟨es,c,hb,hks,hst,hff⟩:=h.ex;rcases MapKept.findNow_spec hk es.toList 0 hks with⟨g1,g2⟩ | ⟨j,e,g1,g2,g3⟩
 ·exact tN hm hd hb hk g1 hz ok
 have:=(hff k hk e.val).2 ⟨e,List.mem_iff_getElem?.2 ⟨j,g2⟩,g3,rfl⟩;rw[hf]at this;cases this
variable {ops:Array Oper} {o:Oper} {a:Act} {K:Act→World→Prop} {Q:Exit→Act→World→Prop} {E:Prop}
theorem XH{w:World}(t:TypeId)(d:TypeDesc)(h:∀b w',b=w.heap.size→w'.heap.size=w.heap.size+1→dL d w' b (λ_=>none)→Kept (λ_=>False) w w'→K (a.put o.dst (.map (some b))) w'):
  Oper.upon P o a K Q ((Sem.run P (Instr.makeMap t none) w).andThen λv w'=>.ok (.value v) w'):=by
 rw[qW];exact h _ _ rfl (by simp) (dL.made d w) ((Kept.refl _ w).alloc _)
theorem pz{w:World}{b:Nat}{f:Value→Option Value}(hm:P.underlying mty=some (.map kt et))(hd:P.underlying kt=some kind)(f':Value→Option Value)(hM:dL kind w b f){kv xv:Value}(hk:MapKept.IsKey kind kv)(h1:f' kv=some xv)(h2:∀y,MapKept.IsKey kind y→y≠kv→f' y=f y)
  (h:∀w',dL kind w' b f'→Kept (· = b) w w'→w'.heap.size=w.heap.size→K (a.put o.dst undef) w') :
  Oper.upon P o a K Q ((Sem.run P (Instr.mapUpdate mty (.map (some b)) kv xv) w).andThen λ_ w'=>.ok .skip w'):=by
 obtain⟨w',hr,hM',hk',hs'⟩:=hM.update hm hd hk h1 h2;rw[hr];exact h w' hM' hk' hs'
theorem XI{w:World}{b:Nat}{kv:Value}{ok:Bool}(v:Value)(hr:(Instr.lookup mty (.map (some b)) kv ok).run P w=.ok v w)(h:K (a.put o.dst v) w):
  Oper.upon P o a K Q ((Sem.run P (Instr.lookup mty (.map (some b)) kv ok) w).andThen λv w'=>.ok (.value v) w'):=by
 rw[hr];exact h
end
theorem OY{nm:B}{al:List bf}{k:Nat}{x:bf}(hb:∀j y,j<k→al[j]?=some y→(y.name==nm)=false)(hx:al[k]?=some x)(hn:(x.name==nm)=true):gJ al nm=(x.val,true):=by
 have hf:al.find? (λa=>a.name==nm)=some x:=by
  obtain⟨hk,hxx⟩:=List.getElem?_eq_some_iff.1 hx;rw[List.find?_eq_some_iff_getElem];refine⟨hn,k,hk,hxx,λj hj=>?_⟩;have:=hb j al[j] hj (List.getElem?_eq_getElem _);simp[this]
 unfold gJ;rw[hf]
theorem JU{nm:B}{al:List bf}(hb:∀(j:Nat) (y:bf),al[j]?=some y→(y.name==nm)=false):gJ al nm=([],false):=by
 have hf:al.find? (λa=>a.name==nm)=none:=by
  rw[List.find?_eq_none];intro x hx;obtain⟨j,hj⟩:=List.mem_iff_getElem?.1 hx;simp[hb j x hj]
 unfold gJ;rw[hf]
theorem EZ{a b:B×Bool}(h:a=b):Ending.returned (.tuple #[.string (str a.1),.bool a.2])=.returned (.tuple #[.string (str b.1),.bool b.2]):=by rw[h]
def MJ(w:World)(r:B×Bool)(e:Ending)(w':World):Prop:=e=.returned (.tuple #[.string (str r.1),.bool r.2])∧Below w.heap.size w w'
theorem get_any(w:World)(v:Value)(n:ak)(nm:B)(hv:bZ w v n.attrs):
  Calls Tryz.prog 46 #[.agg #[.string (str n.name),.int .i64 n.parent,v,.int .i64 n.bG,.int .i64 n.qE,.int .i64 n.inT],.string (str nm)] w (MJ w (gJ n.attrs nm)):=by
 have HV:=hid hv;obtain⟨a,cap,rfl,hle,hcap⟩:=hv.form;obtain⟨name,parent,al,bG,qE,inT⟩:=n;simp only at HV hle ⊢;unfold maxLen at hcap;clear hv;go_enter Tryz.func46,Tryz.ntmps46
 go_wp2
 go_loopw [11] (λi wr=>∃k:Nat,k≤al.length∧i=.int .i64 k∧Below w.heap.size w wr∧Hid (∀j y,j<k→al[j]?=some y→(y.name==nm)=false)) (λi _=>al.length-(intOf i).toNat)
 case atStart=>exact⟨0,by omega,rfl,(Below.refl _ _).alloc (Nat.le_refl _) _,λj y hj=>by omega⟩
 case round=>
  obtain⟨k,hk,rfl,hb,HH⟩:=hrel;by_cases hlt:k<al.length
  ·have hv1:=HV.out.below hb;have hx:=List.getElem?_eq_getElem hlt;generalize hgx:al[k]=x at hx;clear hgx;obtain⟨b,off,rfl,g0,g1,g2,g3⟩:=bZ.at hv1 hx;have HX:=hid hx;have HB:=hid hb;clear hx hv1 hb;have hal:=HB.out.alloc HB.out.size (.cells #[.string (str x.name),.string (str x.val),.int .i64 x.lo,.int .i64 x.hi] 47 (0,0));have vw:=hid hal;clear hal;cases hc:(x.name==nm)with
   | true=>
    go_wp2
    refine bodyPost_ret (v:=.tuple #[.string (str x.val),.bool true]) (by simp[results,Tryz.results46,go_sem]) rfl ?_;exact⟨EZ (a:=(x.val,true)) (OY HH.out HX.out hc).symm,vw.out⟩
   | false=>
    go_wp2
    go_roundw
    case rel=>
     refine⟨k+1,by omega,by go_num,vw.out,λj y hj hy=>?_⟩;by_cases hjk:j=k
     ·subst hjk;rw[HX.out]at hy;cases hy;exact hc
     exact HH.out j y (by omega) hy
    case measure=>simp[intOf];omega
  go_wp2
  refine bodyPost_ret (v:=.tuple #[.string (str []),.bool false]) (by simp[results,Tryz.results46,go_sem];rfl) rfl ?_;refine⟨EZ (b:=gJ al nm) (a:=([],false)) ?_,hb⟩;rw[JU (λj y hy=>HH.out j y (by have:=(List.getElem?_eq_some_iff.1 hy).1;omega) hy)]
def JV(w:World)(r:Int)(e:Ending)(w':World):Prop:=e=.returned (.int .i64 r)∧Qt w w'
theorem JW(w:World)(v:Value)(ns:List ak)(k:Int)(hv:aX w v ns)(hk : -9223372036854775808≤k∧k≤9223372036854775807):
  Calls Tryz.prog 183 #[v,.int .i64 k] w (JV w (jJ ns k)):=by
 have HV:=hid hv;obtain⟨a,cap,rfl,hle,hcap⟩:=hv.form;unfold maxLen at hcap;clear hv;obtain⟨hk1,hk2⟩:=hk;obtain⟨r,HR⟩:∃r,Hid (jJ ns k=r):=⟨_,rfl⟩;rw[HR.out];by_cases h0:k<0
 ·go_enter Tryz.func183,Tryz.ntmps183
  go_wp2
  go_ret
  exact⟨yB (by rw[←HR.out];unfold jJ;rw[if_pos (.inl h0)]),Qt.refl _⟩
 by_cases h1:(ns.length:Int)≤k
 ·go_enter Tryz.func183,Tryz.ntmps183
  go_wp2
  go_ret
  exact⟨yB (by rw[←HR.out];unfold jJ;rw[if_pos (.inr h1)]),Qt.refl _⟩
 obtain⟨kn,rfl⟩:∃n:Nat,k=n:=⟨k.toNat,by omega⟩;have hkl:kn<ns.length:=by omega
 have hx:=List.getElem?_eq_getElem hkl;generalize hgx:ns[kn]=x at hx;clear hgx;obtain⟨b,off,av,rfl,g0,g1,g2,g3,g4,g5,hav⟩:=HV.out.at hx;have hr:ig ns x.parent kn=r:=by
  have:=HR.out;unfold jJ at this;rw[if_neg (by omega),Int.toNat_natCast,hx]at this;exact this
 have HX:=hid hx;clear hx g0 g2 g3 g4 g5 hav;go_enter Tryz.func183,Tryz.ntmps183
 go_wp2
 have hst:Hid (ig ns x.parent kn=r):=hid hr;clear hr;go_loopw [5] (λi wr=>∃j:Nat,j≤kn∧i=.int .i64 ((j:Int)-1)∧Hid (Qt w wr)∧Hid (ig ns x.parent j=r)) (λi _=>(intOf i+1).toNat)
 case atStart=>exact⟨kn,by omega,rfl,Qt.refl _,hst⟩
 case round=>
  obtain⟨j,hj,rfl,HQ,HJ⟩:=hrel;cases j with
  | zero=>
   go_wp2
   go_ret
   exact⟨yB HJ.out,HQ.out⟩
  | succ i=>
   have hil:i<ns.length:=by omega
   have hy:=List.getElem?_eq_getElem hil;generalize qX:ns[i]=y at hy;clear qX;obtain⟨b2,off2,av2,hbb,g0,q1,g2,g3,g4,g5,hav⟩:=(HV.out.quiet HQ.out).at hy;cases hbb;obtain⟨b3,FD,av3,hbb,g0',p1,g2',g3',g4',g5',CP⟩:=(HV.out.quiet HQ.out).at HX.out;cases hbb;have HY:=hid hy;clear hy g0 g2 g3 g4 g5 hav g0' g2' g3' g4' g5' CP g1;have hi0:((i+1:Nat):Int)-1=i:=by omega
   have hJ:=HJ.out;rw[ig,HY.out]at hJ;simp only[Option.any_some]at hJ;rw[hi0];have HJJ:=hid hJ;clear hJ;cases hc:(y.parent==x.parent)with
   | true=>
    go_wp2
    go_quiet (fail)
    go_wp2
    go_ret
    exact⟨yB (by have:=HJJ.out;rw[if_pos hc]at this;exact this),Qt.trans HQ.out ⟨nq,rfl⟩⟩
   | false=>
    go_wp2
    go_quiet (fail)
    go_wp2
    go_roundw
    case rel=>exact⟨i,by omega,rfl,Qt.trans HQ.out ⟨nq,rfl⟩,hid (by have:=HJJ.out;rw[if_neg (by simp[hc])]at this;exact this)⟩
    case measure=>simp[intOf]
theorem OZ(l:B):Lib.index (32::l) [32]=0:=by rw[Lib.index];simp[List.isPrefixOf]
theorem O1{c:UInt8}(l:B)(h:c≠32):Lib.index (c::l) [32]=if Lib.index l [32] == -1 then -1 else Lib.index l [32]+1:=by
 have hp:([32]:List UInt8).isPrefixOf (c::l)=false:=by simp[List.isPrefixOf,Ne.symm h]
 rw[Lib.index,hp];simp
theorem vC:∀(l:B) (k:Nat),l.count 32=k→Lib.splitK [32] 0 k l=splitB l
 | [],k,h=>by
  have:k=0:=by rw[←h];rfl
  subst this;rfl
 | c::t,k,h=>by
  by_cases hc:c=32
  ·subst hc;rw[List.count_cons_self]at h;subst h;simp only[Lib.splitK,OZ,splitB,if_pos];rw[if_neg (by simp)];simp only[Int.toNat_zero,Nat.zero_add,List.take_zero,List.length_cons,List.length_nil,List.drop_succ_cons,List.drop_zero];rw[vC t _ rfl]
  rw[List.count_cons_of_ne (by simpa using hc)]at h;have ih:=vC t k h;simp only[splitB];rw[if_neg hc,←ih];cases k with
  | zero=>simp[Lib.splitK]
  | succ j=>
   have hi:Lib.index t [32] ≠ -1:=by
    intro hm;have:=Lib.count_miss (sub:=[32]) hm;rw[Lib.count_one]at this;omega
   have hge:=Lib.index_ge t [32];obtain⟨i,hi2⟩:∃i:Nat,Lib.index t [32]=i:=⟨(Lib.index t [32]).toNat,by omega⟩;simp only[Lib.splitK,O1 t hc,hi2];have h1:¬(((i:Int) == -1)=true):=by simp
   have h2:¬(((i:Int)+1 == -1)=true):=by simp;omega
   simp only[if_neg h1,if_neg h2];have e:((i:Int)+1).toNat=i+1:=by omega
   simp[e]
theorem Eb(l:B):Lib.splitB (str [32]) 0 (Lib.countB (str l) (str [32])) (str l)=(splitB l).map str:=by
 have h:=Lib.splitB_data (str [32]) 0 (Lib.countB (str l) (str [32])) (str l);have hc:Lib.countB (str l) (str [32])=l.count 32:=by
  show Lib.count l [32]=_
  rw[Lib.count_one]
 have h2:Lib.splitK (str [32]).data.toList 0 (Lib.countB (str l) (str [32])) (str l).data.toList=splitB l:=by
  rw[hc];exact vC l _ rfl
 rw[h2]at h;rw[←h,List.map_map]
 conv=>lhs;rw[←List.map_id (Lib.splitB (str [32]) 0 (Lib.countB (str l) (str [32])) (str l))]
 apply List.map_congr_left;intro x _;exact ZV x
theorem O4(l:B):Lib.countB (str l) (str [32])+1=(splitB l).length:=by
 have h:=Lib.splitB_all (str [32]) (by decide) 0 _ (str l) rfl;rw[Eb,List.length_map]at h;exact h.symm
theorem zB(l:B):(splitB l).length≤l.length+1:=by
 induction l with
 | nil=>simp[splitB]
 | cons c t ih=>
  simp only[splitB];split
  ·simpa using ih
  split
  ·simp
  rename_i w ws h;rw[h]at ih;simp at ih ⊢;omega
def strCells(x:B):List Value:=[.string (str x)]
theorem CQ(l:B)(m:Int)(w:World)(hl:l.length<4294967281)(hm:w.cell? ⟨0,0,none⟩=some (.int .i64 m)):
  Calls Tryz.prog 109 #[.string (str l),.string (str [32])] w λe w'=>e=.returned (.slice (some ⟨w.heap.size,0,none⟩) (splitB l).length (splitB l).length) ∧
   w'=w.alloc (.cells ((splitB l).map λx=>Value.string (str x)).toArray 9 (0,0)):=
 (Tryz.strings_Split (str l) (str [32]) m w hl hm (by decide)).mono λe w' ⟨he,hw⟩=>by
  rw[O4]at he;rw[Eb,List.map_map]at hw;exact⟨he,hw⟩
def FH(w:World)(b o:Nat)(t:bQ):Prop:=w.cell? ⟨b,o,none⟩=some (.int .i64 t.kind)∧w.cell? ⟨b,o+1,none⟩=some (.string (str t.name))∧w.cell? ⟨b,o+2,none⟩=some (.string (str t.val))
theorem FH.below{w w':World}{b o:Nat}{t:bQ}(h:FH w b o t)(hk:Kept (λ_=>False) w w'):FH w' b o t:=⟨hk.cell id h.1,hk.cell id h.2.1,hk.cell id h.2.2⟩
def Short(ns:List ak):Prop:=∀n∈ns,∀a∈n.attrs,a.val.length≤1048576
theorem xO{ns:List ak}(h:Short ns){n:ak}(hn:n∈ns)(nm:B):(gJ n.attrs nm).1.length≤1048576:=by
 unfold gJ;cases hf:n.attrs.find? (λa=>a.name==nm)with
 | none=>simp
 | some a=>exact h n hn a (List.mem_of_find?_eq_some hf)
theorem FI(l:List B)(x:B):Lib.containsS ((l.map str).take l.length) (str x)=l.contains x:=by
 rw[List.take_of_length_le (by simp),Bool.eq_iff_iff,Lib.containsS_iff,List.contains_iff_mem,List.mem_map];constructor
 ·rintro⟨y,hy,h⟩;rw[←str_inj h];exact hy
 intro h;exact⟨x,h,rfl⟩
theorem MK(w:World)(v:Value)(l:List B)(x:B)(h:jR w v l):
  Calls Tryz.prog 136 #[v,.string (str x)] w λe w'=>e=.returned (.bool (l.contains x))∧w'=w:=by
 obtain⟨a,cap,rfl,h1,h2⟩:=jR.form h;unfold maxLen at h2;by_cases h0:l=[]
 ·subst h0;exact Tryz.slices_Contains_string_empty a cap (str x) w
 obtain⟨b,off,rfl⟩:=aH.addr h (by simpa using h0);have:=Tryz.slices_Contains_string b off l.length cap (l.map str) (str x) w (by simp) (by omega) (λj hj=>by
  simp only[List.length_map]at hj;obtain⟨b',o',hbb,hc⟩:=jR.at h (List.getElem?_eq_getElem hj);cases hbb;rw[hc];simp[List.getD,List.getElem?_eq_getElem hj])
 rw[FI]at this;exact this
theorem TP{w:World}{bk:Nat}{l:List B}(hl:l.length≤maxLen)(hh:w.heap[bk]?=some (.cells (l.map λx=>Value.string (str x)).toArray 9 (0,0))):jR w (.slice (some ⟨bk,0,none⟩) l.length l.length) l:=
 ⟨_,_,by rw[List.length_map],by simp,hl,λ_=>⟨_,_,rfl,λi r hr j c hc=>by
  rw[List.getElem?_map,Option.map_eq_some_iff]at hr;obtain⟨x,hx,rfl⟩:=hr;cases j with
  | zero=>
   simp at hc;subst hc;exact ah hh _ (by simp[hx])
  | succ j=>simp at hc⟩⟩
theorem O5(l:B)(m:Int)(w:World)(hl:l.length≤1048576)(hm:w.cell? ⟨0,0,none⟩=some (.int .i64 m)):
  Calls Tryz.prog 109 #[.string (str l),.string (str [32])] w λe w'=>e=.returned (.slice (some ⟨w.heap.size,0,none⟩) (splitB l).length (splitB l).length)∧Kept (λ_=>False) w w' ∧
   jR w' (.slice (some ⟨w.heap.size,0,none⟩) (splitB l).length (splitB l).length) (splitB l):=
 (CQ l m w (by omega) hm).mono λe w' ⟨he,hw⟩=>by
  subst hw;exact⟨he,(Kept.refl _ w).alloc _,TP (by have:=zB l;unfold maxLen;omega) (aI w _)⟩
theorem wH(w:World)(v:Value)(l:List B)(x:B)(h:jR w v l):
  Calls Tryz.prog 136 #[v,.string (str x)] w λe w'=>e=.returned (.bool (l.contains x))∧Kept (λ_=>False) w w':=
 (MK w v l x h).mono λe w' ⟨h1,h2⟩=>⟨h1,by subst h2;exact Kept.refl _ _⟩
theorem JX(w:World)(v:Value)(n:ak)(nm:B)(hv:bZ w v n.attrs):
  Calls Tryz.prog 46 #[.agg #[.string (str n.name),.int .i64 n.parent,v,.int .i64 n.bG,.int .i64 n.qE,.int .i64 n.inT],.string (str nm)] w λe w'=>
   e=.returned (.tuple #[.string (str (gJ n.attrs nm).1),.bool (gJ n.attrs nm).2])∧Kept (λ_=>False) w w':=
 (get_any w v n nm hv).mono λe w' ⟨h1,h2⟩=>⟨h1,Kept.of_below h2⟩
def aj6(n:ak)(av:Value):Value:=.agg #[.string (str n.name),.int .i64 n.parent,av,.int .i64 n.bG,.int .i64 n.qE,.int .i64 n.inT]
structure akM(w:World)(c:Nat)(n:ak)(av:Value):Prop where
 heap:w.heap[c]?=some (.cells #[.string (str n.name),.int .i64 n.parent,av,.int .i64 n.bG,.int .i64 n.qE,.int .i64 n.inT] 45 (0,0))
 attrs:bZ w av n.attrs
theorem O9(w:World)(v:Value)(ns:List ak)(k:Nat)(hv:aX w v ns)(hk:k<ns.length)(hs:Short ns)(hn0:ns.length≤1048576)(b o:Nat)(t:bQ)(ht:FH w b o t)(m:Int)(hm:w.cell? ⟨0,0,none⟩=some (.int .i64 m)):
  Calls Tryz.prog 194 #[v,.int .i64 (k:Int),.pointer (some ⟨b,o,none⟩)] w λe w'=>e=.returned (.bool (uG ns k t))∧Below w.heap.size w w':=by
 obtain⟨r,HR⟩:∃r,Hid (uG ns k t=r):=⟨_,rfl⟩;rw[HR.out];obtain⟨a,cap,rfl,hle,hcap⟩:=hv.form;unfold maxLen at hcap;have hx:=List.getElem?_eq_getElem hk;generalize hgx:ns[k]=n at hx;clear hgx;obtain⟨nb,qY,av,rfl,g0,g1,g2,g3,g4,g5,hav⟩:=hv.at hx;obtain⟨aa,mG,rfl,ML,wI⟩:=hav.form;unfold maxLen at wI;have HV:=hid hv;have HX:=hid hx;have HM:=hid hm;have hR:Hid (lI ns k n t=r):=hid (by rw[←HR.out];unfold uG;rw[hx]);have Wj:=hid (xO hs (List.mem_of_getElem? hx));obtain⟨t0,t1,t2⟩:=ht;clear hx hv hm hs;go_enter Tryz.func194,Tryz.ntmps194
 go_upto_region 2 with fail
 obtain⟨wa,gX⟩:∃x',Hid (w.alloc (.cells #[.string (str n.name),.int .i64 n.parent,.slice aa n.attrs.length mG,.int .i64 n.bG,.int .i64 n.qE,.int .i64 n.inT] 45 (0,0))=x'):=⟨_,rfl⟩;have ka:Kept (λ_=>False) w wa:=by rw[←gX.out];exact(Kept.refl _ w).alloc _
 have hh:wa.heap[w.heap.size]?=some (.cells #[.string (str n.name),.int .i64 n.parent,.slice aa n.attrs.length mG,.int .i64 n.bG,.int .i64 n.qE,.int .i64 n.inT] 45 (0,0)):=by rw[←gX.out];exact aI w _
 have n0:wa.cell? ⟨w.heap.size,0,none⟩=some (.string (str n.name)):=ah hh 0 rfl;have n1:wa.cell? ⟨w.heap.size,1,none⟩=some (.int .i64 n.parent):=ah hh 1 rfl;have n2:wa.cell? ⟨w.heap.size,2,none⟩=some (.slice aa n.attrs.length mG):=ah hh 2 rfl;have n3:wa.cell? ⟨w.heap.size,3,none⟩=some (.int .i64 n.bG):=ah hh 3 rfl;have n4:wa.cell? ⟨w.heap.size,4,none⟩=some (.int .i64 n.qE):=ah hh 4 rfl;have n5:wa.cell? ⟨w.heap.size,5,none⟩=some (.int .i64 n.inT):=ah hh 5 rfl;have q0:wa.cell? ⟨b,o,none⟩=some (.int .i64 t.kind):=ka.cell id t0;have q1:wa.cell? ⟨b,o+1,none⟩=some (.string (str t.name)):=ka.cell id t1;have q2:wa.cell? ⟨b,o+2,none⟩=some (.string (str t.val)):=ka.cell id t2;have Ec:=hid (aH.below hav ka.below);have HVA:=hid (aO.kept HV.out ka);have hm1:=ka.cell id HM.out;have xP:=hid hm1;have KA:=hid ka;clear hm1 ka hh t0 t1 t2 g0 g1 g2 g3 g4 g5 hav;rw[gX.out];by_cases h1:t.kind=1
 ·have e1:(t.kind==1)=true:=by simp[h1]
  have HRR:Hid ((n.name==t.name)=r):=hid (by rw[←hR.out];unfold lI;rw[if_pos h1]);clear h1;go_wp2_with fail
  go_quiet (fail)
  go_wp2_with fail
  go_ret
  exact⟨eu HRR.out,(KA.out.drewN _).below⟩
 have e1:(t.kind==1)=false:=by simp[h1]
 by_cases h2:t.kind=2
 ·have e2:(t.kind==2)=true:=by simp[h2]
  have HRR:Hid ((!t.name.isEmpty&&(splitB (gJ n.attrs className).1).contains t.name)=r):=hid (by rw[←hR.out];unfold lI;rw[if_neg h1,if_pos h2]);have HGC:=hid (Wj.out className);clear h1 h2;go_wp2_with fail
  refine(get_any wa _ n className Ec.out).mono ?_;rintro e w2 ⟨rfl,hb2⟩;generalize gJ n.attrs className=g at *;obtain⟨gv,gb⟩:=g;simp only at HRR HGC;have q1':=(Kept.of_below (S:=λ_=>False) hb2).cell id q1;have hm2:=(Kept.of_below (S:=λ_=>False) hb2).cell id xP.out;have K2:=hid (KA.out.trans (Kept.of_below hb2));clear hb2 q0 q1 q2 n0 n1 n2 n3 n4 n5;cases hnm:t.name.isEmpty with
  | true=>
   rw[hnm]at HRR;have e3:(t.name==[])=true:=by simpa using hnm
   go_wp2_with fail
   go_quiet (fail)
   go_wp2_with fail
   go_ret
   exact⟨eu HRR.out,(K2.out.drewN _).below⟩
  | false=>
   rw[hnm]at HRR;have e3:(t.name==[])=false:=by simpa using hnm
   go_upto_region 7 with fail
   go_region_held3 (λw'=>w'.cell? ⟨b,o+1,none⟩=some (.string (str t.name))∧w'.cell? ⟨0,0,none⟩=some (.int .i64 m)) (first | go_keep | (go_split_ands;exact⟨hk6.cell id (by assumption),hk6.cell id (by assumption)⟩) | (go_split_ands;exact⟨hk5.cell id (by assumption),hk5.cell id (by assumption)⟩))
    ((first
     | (go_at_call 109;refine(O5 gv m _ (by have:=HGC.out;omega) (by assumption)).mono ?_;rintro e w5 ⟨rfl,hk5,hst5⟩)
     | (go_at_call 136;refine(wH _ _ _ t.name (by exact hst5)).mono ?_;rintro e w6 ⟨rfl,hk6⟩)))
   go_wp2_with fail
   go_ret
   exact⟨eu (by rw[←HRR.out];simp),((K2.out.drew.trans hk5).trans hk6).below⟩
 have e2:(t.kind==2)=false:=by simp[h2]
 by_cases h3:t.kind=3
 ·have e3:(t.kind==3)=true:=by simp[h3]
  have HRR:Hid (((gJ n.attrs idName).2&&(gJ n.attrs idName).1==t.name)=r):=hid (by rw[←hR.out];unfold lI;rw[if_neg h1,if_neg h2,if_pos h3]);clear h1 h2 h3;go_wp2_with fail
  refine(get_any wa (.slice aa n.attrs.length mG) n idName Ec.out).mono ?_;rintro e w2 ⟨rfl,hb2⟩;generalize gJ n.attrs idName=g at *;obtain⟨gv,gb⟩:=g;have q1':=(Kept.of_below (S:=λ_=>False) hb2).cell id q1;have K2:=hid (KA.out.trans (Kept.of_below hb2));clear hb2 q0 q1 q2 n0 n1 n2 n3 n4 n5;cases gb with
  | true=>
   go_wp2_with fail
   go_ret
   exact⟨eu HRR.out,K2.out.below⟩
  | false=>
   go_wp2_with fail
   go_ret
   exact⟨eu HRR.out,K2.out.below⟩
 have e3:(t.kind==3)=false:=by simp[h3]
 by_cases h4:t.kind=4
 ·have e4:(t.kind==4)=true:=by simp[h4]
  have HRR:Hid ((gJ n.attrs t.name).2=r):=hid (by rw[←hR.out];unfold lI;rw[if_neg h1,if_neg h2,if_neg h3,if_pos h4]);clear h1 h2 h3 h4;go_upto_region 12 with fail
  go_region_held3 (λw'=>w'.cell? ⟨w.heap.size,0,none⟩=some (.string (str n.name))∧w'.cell? ⟨w.heap.size,1,none⟩=some (.int .i64 n.parent)∧w'.cell? ⟨w.heap.size,2,none⟩=some (.slice aa n.attrs.length mG)∧w'.cell? ⟨w.heap.size,3,none⟩=some (.int .i64 n.bG)∧w'.cell? ⟨w.heap.size,4,none⟩=some (.int .i64 n.qE)∧w'.cell? ⟨w.heap.size,5,none⟩=some (.int .i64 n.inT)∧w'.cell? ⟨b,o+1,none⟩=some (.string (str t.name))∧w'.cell? ⟨b,o+2,none⟩=some (.string (str t.val))) (first | go_keep | (go_split_ands;exact⟨hk5.cell id (by assumption),hk5.cell id (by assumption),hk5.cell id (by assumption),hk5.cell id (by assumption),hk5.cell id (by assumption),hk5.cell id (by assumption),hk5.cell id (by assumption),hk5.cell id (by assumption)⟩))
   ((go_at_call 46;refine(JX _ _ n t.name (by exact Ec.out)).mono ?_;rintro e w5 ⟨rfl,hk5⟩))
  go_wp2_with fail
  go_ret
  exact⟨eu HRR.out,(KA.out.drew.trans hk5).below⟩
 have e4:(t.kind==4)=false:=by simp[h4]
 by_cases h5:t.kind=5
 ·have e5:(t.kind==5)=true:=by simp[h5]
  have HRR:Hid (((gJ n.attrs t.name).2&&(gJ n.attrs t.name).1==t.val)=r):=hid (by rw[←hR.out];unfold lI;rw[if_neg h1,if_neg h2,if_neg h3,if_neg h4,if_pos h5]);clear h1 h2 h3 h4 h5;go_upto_region 15 with fail
  go_region_held3 (λw'=>w'.cell? ⟨w.heap.size,0,none⟩=some (.string (str n.name))∧w'.cell? ⟨w.heap.size,1,none⟩=some (.int .i64 n.parent)∧w'.cell? ⟨w.heap.size,2,none⟩=some (.slice aa n.attrs.length mG)∧w'.cell? ⟨w.heap.size,3,none⟩=some (.int .i64 n.bG)∧w'.cell? ⟨w.heap.size,4,none⟩=some (.int .i64 n.qE)∧w'.cell? ⟨w.heap.size,5,none⟩=some (.int .i64 n.inT)∧w'.cell? ⟨b,o+1,none⟩=some (.string (str t.name))∧w'.cell? ⟨b,o+2,none⟩=some (.string (str t.val))) (first | go_keep | (go_split_ands;exact⟨hk5.cell id (by assumption),hk5.cell id (by assumption),hk5.cell id (by assumption),hk5.cell id (by assumption),hk5.cell id (by assumption),hk5.cell id (by assumption),hk5.cell id (by assumption),hk5.cell id (by assumption)⟩))
   ((go_at_call 46;refine(JX _ _ n t.name (by exact Ec.out)).mono ?_;rintro e w5 ⟨rfl,hk5⟩))
  have v5:w5.cell? ⟨b,o+2,none⟩=some (.string (str t.val)):=hk5.cell id q2;generalize gJ n.attrs t.name=g at *;obtain⟨gv,gb⟩:=g;cases gb with
  | true=>
   go_wp2_with fail
   go_ret
   exact⟨eu HRR.out,(KA.out.drew.trans hk5).below⟩
  | false=>
   go_wp2_with fail
   go_ret
   exact⟨eu HRR.out,(KA.out.drew.trans hk5).below⟩
 have e5:(t.kind==5)=false:=by simp[h5]
 by_cases h6:t.kind=6
 ·have e6:(t.kind==6)=true:=by simp[h6]
  have HRR:Hid (decide (jJ ns (k:Int)<0)=r):=hid (by rw[←hR.out];unfold lI;rw[if_neg h1,if_neg h2,if_neg h3,if_neg h4,if_neg h5,if_pos h6]);clear h1 h2 h3 h4 h5 h6;have hkk : -9223372036854775808≤(k:Int)∧(k:Int)≤9223372036854775807:=by omega
  have HKK:=hid hkk;go_wp2_with (go_at_call 183;refine(JW _ _ ns (k:Int) HVA.out HKK.out).mono ?_;rintro e w5 ⟨rfl,hq5⟩)
  go_ret
  exact⟨eu (by rw[←HRR.out]),(KA.out.trans (hq5.kept _)).below⟩
 have e6:(t.kind==6)=false:=by simp[h6]
 have HRR:Hid (false=r):=hid (by rw[←hR.out];unfold lI;rw[if_neg h1,if_neg h2,if_neg h3,if_neg h4,if_neg h5,if_neg h6]);clear h1 h2 h3 h4 h5 h6;go_wp2_with fail
 go_ret
 exact⟨eu HRR.out,KA.out.below⟩
end Go.Proofs.YtplbdlgmjehckacGreatDoor


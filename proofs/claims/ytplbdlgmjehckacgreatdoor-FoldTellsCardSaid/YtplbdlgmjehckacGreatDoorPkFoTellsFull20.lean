/-
 Lemmas for the claims of this seat: the program's functions walked, and plain laws.
-/
import Derived.Test.YtplbdlgmjehckacGreatDoorPkFoTellsFull19
import Derived.Test.YtplbdlgmjehckacGreatDoorPkFoTellsFull17
set_option maxRecDepth 100000
set_option maxHeartbeats 6400000
namespace Go.Proofs.YtplbdlgmjehckacGreatDoor
open Go.Lib (hid)
open Go.RowKit
set_option linter.unusedVariables false
set_option linter.unusedSimpArgs false
theorem catch_panicking(lb fb:Nat)(f:iL)(w:World)(v0 v1 v2:Value)(hl:w.heap[lb]?=some (.cells #[v0] 22 (0,0)))(hf:w.heap[fb]?=some (.cells #[v1,v2] 26 (0,0)))(hne:¬lb=fb):
  CallsD Tryz.prog 62 #[.pointer (some ⟨lb,0,none⟩),.pointer (some ⟨fb,0,none⟩)] (.panicking ({ v:=adA f,recovered:=false }::[])) w λe u' w'=>
   e=.returned (.tuple #[])∧u'=.panicking ({ v:=adA f,recovered:=true }::[])∧Kept (λk=>k=lb∨k=fb) w w' ∧
    w'.heap[lb]?=some (.cells #[.slice none 0 0] 22 (0,0))∧w'.heap[fb]?=some (.cells #[.int .i64 f.err,.int .i64 f.pos] 26 (0,0)):=by
 refine callsD_of_wpS Tryz.func62 rfl λc₀ cs hu=>?_
 apply wpS_seq;apply wpS_region;unfold adA at hu ⊢;simp[wpOpsS,go_sem,recoverD,hu,Tryz.ntmps62,Exit.thenS];refine wpS_of_wp ?_;have hg:eqGuard .eql 20 (.tmp 5) (.const .nilIface) (.iface 129 (.agg #[.int .i64 (f.err:Int),.int .i64 (f.pos:Int)])) .nilIface=pure ():=rfl;have hta:∀w,(Instr.typeAssert (.iface 129 (.agg #[.int .i64 (f.err:Int),.int .i64 (f.pos:Int)])) 20 129 true).run Tryz.prog w=.ok (.tuple #[.agg #[.int .i64 (f.err:Int),.int .i64 (f.pos:Int)],.bool true]) w:=λw=>by kernel_rfl
 simp only[Array.replicate_succ,Array.replicate_zero,List.push_toArray,List.append_toArray,List.nil_append,List.cons_append,List.setIfInBounds_toArray,List.set_cons_succ,List.set_cons_zero];have l0:=ah hl 0 rfl;have l0f:=aF hl 0;have g0:=ah hf 0 rfl;have g1:=ah hf 1 rfl;have g0f:=aF hf 0;have g1f:=aF hf 1;have hll:=gW hl;have hfl:=gW hf;go_wp2
 go_region
 go_wp2
 simp[bodyPostS,results,Tryz.results62];refine⟨?_,?_,?_⟩
 ·exact(((((Kept.refl (λk=>k=lb∨k=fb) w).setCell (p:=⟨lb,0,none⟩) (.inl (.inl rfl)) _).setCell (p:=⟨fb,0,none⟩) (.inl (.inr rfl)) _).setCell (p:=⟨fb,1,none⟩) (.inl (.inr rfl)) _).alloc _).drew
 ·have h1:=aW hl 0 (.slice none 0 0);exact iw (eF (eF h1 _ _ hne) _ _ hne) _
 have h1:=eF hf ⟨lb,0,none⟩ (.slice none 0 0) (λh=>hne h.symm);exact iw (aW (aW h1 0 (.int .i64 f.err)) 1 (.int .i64 f.pos)) _
theorem catch_idle(p q:Addr)(w:World):
  CallsD Tryz.prog 62 #[.pointer (some p),.pointer (some q)] .returning w λe u' w'=>e=.returned (.tuple #[])∧u'=.returning∧w'=w:=by
 refine callsD_of_wpS Tryz.func62 rfl λc₀ cs hu=>?_
 apply wpS_seq;apply wpS_region;simp[wpOpsS,go_sem,recoverD,hu,Tryz.ntmps62,Exit.thenS];refine wpS_of_wp ?_;have hg:eqGuard .eql 20 (.tmp 5) (.const .nilIface) .nilIface .nilIface=pure ():=rfl;simp only[Array.replicate_succ,Array.replicate_zero,List.push_toArray,List.append_toArray,List.nil_append,List.cons_append,List.setIfInBounds_toArray,List.set_cons_succ,List.set_cons_zero];go_wp2
 cases c₀;simp_all [bodyPostS,results,Tryz.results62]
theorem Hg{w:World}{base b:Nat}{v:Value}{ns:List ak}(h:og w base b v ns):aX w v ns:=by
 obtain⟨mO,h1,h2,h3⟩:=h;exact⟨mO,h1,aS Hl (by simp[h1]) h2,λi n av hn ha=>(h3 i n av hn ha).1⟩
def KU(w:World)(r:Ans (List ak))(e:Ending)(w':World):Prop:=
 match r with
 | .bad f=>e=.returned (.tuple #[.slice none 0 0,.agg #[.int .i64 (f.err:Int),.int .i64 (f.pos:Int)]])∧Below w.heap.size w w'
 | .ok ns=>∃v,e=.returned (.tuple #[v,.agg #[.int .i64 0,.int .i64 0]])∧Below w.heap.size w w'∧aX w' v ns
theorem UW{w w':World}{l f:Nat}{t1 t2:TypeId}{v:Value}{al:List bf}(hl:w.heap[l]?=some (.cells #[.slice none 0 0] t1 (0,0)))(hf:w.heap[f]?=some (.cells #[.int .i64 0,.int .i64 0] t2 (0,0)))
  (hk:Kept (λk=>k=l∨k=f) w w') (h:bZ w v al):bZ w' v al:=by
 obtain⟨a,cap,rfl,h1,h2,h3⟩:=h;refine⟨a,cap,rfl,h1,h2,λhne=>?_⟩;obtain⟨b,off,rfl,h4⟩:=h3 hne;have hb:¬(b=l∨b=f):=by
  cases al with
  | nil=>exact absurd rfl hne
  | cons a al=>
   have h5:=h4 0 (jg a) rfl 0 (.string (str a.name)) rfl;rintro(rfl | rfl)
   ·rw[cell_of_row w b _ _ _ _ hl]at h5;cases off with
    | zero=>simp at h5
    | succ n=>simp at h5
   rw[cell_of_row w b _ _ _ _ hf]at h5
   match off,h5 with
   | 0,h5=>simp at h5
   | 1,h5=>simp at h5
   | n+2,h5=>simp at h5
 exact⟨b,off,rfl,λi r hr j c hc=>hk.cell hb (h4 i r hr j c hc)⟩
theorem UY{w w':World}{base b l f:Nat}{t1 t2:TypeId}{v:Value}{ns:List ak}(hl:w.heap[l]?=some (.cells #[.slice none 0 0] t1 (0,0)))(hf:w.heap[f]?=some (.cells #[.int .i64 0,.int .i64 0] t2 (0,0)))
  (hk:Kept (λk=>k=l∨k=f) w w') (h:og w base b v ns) (hv:∀k,v.ownBlock=some k→¬(k=l∨k=f)):aX w' v ns:=by
 obtain⟨mO,h1,h2,h3⟩:=h;exact⟨mO,h1,(aS Hl (by simp[h1]) h2).kept hk hv,λi n av hn ha=>UW hl hf hk (h3 i n av hn ha).1⟩
def wY(w:World)(s:B):World:=
 ((w.alloc (.cells #[.slice none 0 0] 22 (0,0))).alloc (.cells #[.int .i64 0,.int .i64 0] 26 (0,0))).alloc (.cells #[.string (str s),.int .i64 0,.slice none 0 0] 132 (0,0))
theorem Ho(w:World)(s:B):(wY w s).heap.size=w.heap.size+3:=by simp[wY]
theorem Hq(w:World)(s:B):Kept (λ_=>False) w (wY w s):=(((Kept.refl (λ_=>False) w).alloc _).alloc _).alloc _
theorem adJ(w:World)(s:B):(wY w s).heap[w.heap.size]?=some (.cells #[.slice none 0 0] 22 (0,0)):=iw (iw (aI w _) _) _
theorem adK(w:World)(s:B):(wY w s).heap[w.heap.size+1]?=some (.cells #[.int .i64 0,.int .i64 0] 26 (0,0)):=by
 have:=aI (w.alloc (.cells #[.slice none 0 0] 22 (0,0))) (.cells #[.int .i64 0,.int .i64 0] 26 (0,0));simp only[show(w.alloc (.cells #[.slice none 0 0] 22 (0,0))).heap.size=w.heap.size+1 from by simp]at this;exact iw this _
theorem YJ(w:World)(s:B)(m:Int)(hm:w.cell? ⟨0,0,none⟩=some (.int .i64 m))(hs:s.length≤6000):Es (wY w s) (w.heap.size+3) (w.heap.size+2) s 0 (.slice none 0 0) []:=by
 have h0:0<w.heap.size:=World.block_lt_of_cell? w _ hm;refine⟨⟨?_,Nat.zero_le _,hs⟩,⟨[],rfl,⟨rfl,.inl ⟨rfl,rfl⟩⟩,λi n av hn=>by simp at hn⟩,by omega,by rw[Ho];exact Nat.le_refl _,by simp,⟨m,(Hq w s).cell (λh=>h) hm⟩,by omega⟩;have:=aI ((w.alloc (.cells #[.slice none 0 0] 22 (0,0))).alloc (.cells #[.int .i64 0,.int .i64 0] 26 (0,0))) (.cells #[.string (str s),.int .i64 0,.slice none 0 0] 132 (0,0));simp only[show((w.alloc (.cells #[.slice none 0 0] 22 (0,0))).alloc (.cells #[.int .i64 0,.int .i64 0] 26 (0,0))).heap.size=w.heap.size+2 from by simp]at this;exact this
theorem parse_any(s:B)(w:World)(m:Int)(hm:w.cell? ⟨0,0,none⟩=some (.int .i64 m))(hs:s.length≤9223372036854775807):
  Calls Tryz.prog 25 #[.string (str s)] w (KU w (lq s)):=by
 obtain⟨r,HR⟩:∃r,Hid (lq s=r):=⟨_,rfl⟩;rw[HR.out];have HM:=hid hm;clear hm;have hmf:∀(fn:Fn) (first cap:Array Value) (w:World),(Instr.makeFunc fn first cap).run Tryz.prog w=.ok (.func fn first cap) w:=λ_ _ _ _=>rfl
 by_cases hl:6000<s.length
 ·obtain rfl:r=.bad ⟨4,0⟩:=by rw[←HR.out];unfold lq;rw[if_pos hl]
  have hlI:6000<(s.length:Int):=by omega
  have hsz:((str s).size:Int)=s.length:=by rw[lG]
  go_enter_defers Tryz.func25,Tryz.ntmps25
  go_wp2
  clear hmf HR HM;simp[bodyPostD,Leaves,settle,results,Tryz.results25,go_sem];exact⟨rfl,(((Kept.refl (λ_=>False) w).alloc _).alloc _).below⟩
 have hE:=HR.out;unfold lq at hE;rw[if_neg hl]at hE;have HE:=hid hE;clear hE;have hsz:((str s).size:Int)=s.length:=by rw[lG]
 go_enter_defers Tryz.func25,Tryz.ntmps25
 go_wp2_with fail
 refine(Yy s (w.heap.size+3) (w.heap.size+2) (s.length+1) (-1) 1 [] 0 (.slice none 0 0) _ (by omega) (by omega) ?_).mono ?_
 ·exact YJ w s m HM.out (by omega)
 rw[List.drop_zero];have hk0:=Hq w s;have hl0:=adJ w s;have hf0:=adK w s;change ∀(e:Ending) (w':World),uN (wY w s) _ _ _ _ _ e w'→_;have uq:=hid hk0;have TM:=hid hl0;have AL:=hid hf0;have hsz0:=Ho w s;clear hk0 hl0 hf0;have hr:((dU (s.length+1) (-1) 1 [] s 0).then λx=>if x.2.1=[] then Ans.ok x.1 else .bad ⟨2,x.2.2⟩)=r:=HE.out;generalize wY w s=w0 at *;cases hp:dU (s.length+1) (-1) 1 [] s 0 with
 | bad f=>
  rw[hp]at hr;obtain rfl:r=.bad f:=hr.symm;rintro e w' ⟨rfl,hk⟩;clear hmf HR HE HM hp hr;simp only[bodyPostD];refine leaves_cons (f:=62) (args:=#[.pointer (some ⟨w.heap.size,0,none⟩),.pointer (some ⟨w.heap.size+1,0,none⟩)]) (by simp) (by simp[go_sem]) ?_;refine(catch_panicking w.heap.size (w.heap.size+1) f w' _ _ _ (hk.heap (λhs=>by rcases hs with hs | hs;exact absurd hs (by omega);cases hs) TM.out) (hk.heap (λhs=>by rcases hs with hs | hs;exact absurd hs (by omega);cases hs) AL.out) (by omega)).mono ?_;rintro e u' w2 ⟨rfl,rfl,hk2,hl2,hf2⟩;have l0:=ah hl2 0 rfl;have g0:=ah hf2 0 rfl;have g1:=ah hf2 1 rfl;simp[Leaves,settle,results,Tryz.results25,go_sem,l0,g0,g1];exact⟨rfl,((uq.out.trans' hk (λi hi hs=>by rcases hs with hs | hs;exact absurd hs (by omega);cases hs)).trans' hk2 (λi hi hs=>by rcases hs with hs | hs<;>omega)).below⟩
 | ok x=>
  obtain⟨ns,l',at'⟩:=x;rw[hp]at hr;simp only[Ans.aN]at hr;rintro e w' ⟨v',rfl,hk,ah',rfl,hown⟩;have hrd:Es w' (w.heap.size+3) (w.heap.size+1+1) s at' v' ns:=ah';clear ah' HE hp;obtain⟨a9,n9,aia,rfl⟩:∃a n cap,v'=.slice a n cap:=by
   obtain⟨_,_,⟨a,cap,e,_⟩,_⟩:=Hg hrd.nodes;exact⟨a,_,cap,e⟩
  have c0:=hrd.c0;have c1:=hrd.rd.c1;have c2:=hrd.rd.c2;have hl:=hk.heap (λhs=>by rcases hs with hs | hs;exact absurd hs (by omega);cases hs) TM.out;have hf:=hk.heap (λhs=>by rcases hs with hs | hs;exact absurd hs (by omega);cases hs) AL.out;have l0:w'.cell? ⟨w.heap.size,0,none⟩=some (.slice none 0 0):=ah hl 0 rfl;have l0f:=aF hl 0;have g0:w'.cell? ⟨w.heap.size+1,0,none⟩=some (.int .i64 0):=ah hf 0 rfl;have g1:w'.cell? ⟨w.heap.size+1,1,none⟩=some (.int .i64 0):=ah hf 1 rfl;have g0f:=aF hf 0;have g1f:=aF hf 1;have hlt:=hrd.rd.2.1;have HF:=hid hf;have HL:=hid hl;have ZJ:=hid hrd;clear hl hf hrd;by_cases hend:at'=s.length
  ·obtain rfl:r=.ok ns:=by rw[←hr,if_pos (by rw[hend];simp)]
   have hd:decide ((at':Int)<(s.length:Int))=false:=by simp;omega
   subst hend;clear hr;go_wp2_with fail
   go_region
   go_wp2_with fail
   clear hmf HR HM;simp only[bodyPostD];refine leaves_cons (f:=62) (args:=#[.pointer (some ⟨w.heap.size,0,none⟩),.pointer (some ⟨w.heap.size+1,0,none⟩)]) (by simp) (by simp[go_sem]) ?_;refine(catch_idle _ _ _).mono ?_;rintro e u' w2 ⟨rfl,rfl,hw2⟩;have hkF:Kept (λk=>k=w.heap.size∨k=w.heap.size+1) w' w2:=by
    rw[hw2];exact((((Kept.refl _ w').setCell (p:=⟨w.heap.size,0,none⟩) (.inl (.inl rfl)) _).setCell (p:=⟨w.heap.size+1,0,none⟩) (.inl (.inr rfl)) _).setCell (p:=⟨w.heap.size+1,1,none⟩) (.inl (.inr rfl)) _).drew
   have l1:w2.cell? ⟨w.heap.size,0,none⟩=some (.slice a9 n9 aia):=by
    rw[hw2];exact ah (eF (eF (aW HL.out 0 _) ⟨w.heap.size+1,0,none⟩ _ (by show w.heap.size≠w.heap.size+1;omega)) ⟨w.heap.size+1,1,none⟩ _ (by show w.heap.size≠w.heap.size+1;omega)) 0 rfl
   have hf1:w2.heap[w.heap.size+1]?=some (.cells #[.int .i64 0,.int .i64 0] 26 (0,0)):=by
    rw[hw2];exact aW (aW (eF HF.out ⟨w.heap.size,0,none⟩ (.slice a9 n9 aia) (by show w.heap.size+1≠w.heap.size;omega)) 0 (.int .i64 0)) 1 (.int .i64 0)
   have g2:w2.cell? ⟨w.heap.size+1,0,none⟩=some (.int .i64 0):=ah hf1 0 rfl;have g3:w2.cell? ⟨w.heap.size+1,1,none⟩=some (.int .i64 0):=ah hf1 1 rfl;clear hw2 l0 g0 g1 hf1 c0 c1 c2;simp[Leaves,settle,results,Tryz.results25,go_sem,l1,g2,g3];refine⟨_,rfl,((uq.out.trans' hk (λi hi hs=>by rcases hs with hs | hs;exact absurd hs (by omega);cases hs)).trans' hkF (λi hi hs=>by rcases hs with hs | hs<;>omega)).below,UY HL.out HF.out hkF ZJ.out.nodes ?_⟩;intro k hk' hs;rcases hown k hk' with h | h
   ·cases h
   omega
  obtain rfl:r=.bad ⟨2,at'⟩:=by
   rw[←hr,if_neg];intro he;have:=congrArg List.length he;simp at this;omega
  have hd:(at':Int)<(s.length:Int):=by omega
  clear hr;go_wp2_with fail
  refine(kW 2 _ _ s at' _ ZJ.out.rd).mono ?_;rintro e w3 ⟨rfl,hq⟩;have hl3:=(hq.kept (λ_=>False)).heap id HL.out;have hf3:=(hq.kept (λ_=>False)).heap id HF.out;have hk3:=hk.trans (hq.kept _);clear hmf HR HM hq;simp only[bodyPostD];refine leaves_cons (f:=62) (args:=#[.pointer (some ⟨w.heap.size,0,none⟩),.pointer (some ⟨w.heap.size+1,0,none⟩)]) (by simp) (by simp[go_sem]) ?_;refine(catch_panicking w.heap.size (w.heap.size+1) ⟨2,at'⟩ w3 _ _ _ hl3 hf3 (by omega)).mono ?_;rintro e u' w2 ⟨rfl,rfl,hk2,hl2,hf2⟩;have l0:=ah hl2 0 rfl;have g0:=ah hf2 0 rfl;have g1:=ah hf2 1 rfl;simp[Leaves,settle,results,Tryz.results25,go_sem,l0,g0,g1];exact⟨rfl,((uq.out.trans' hk3 (λi hi hs=>by rcases hs with hs | hs;exact absurd hs (by omega);cases hs)).trans' hk2 (λi hi hs=>by rcases hs with hs | hs<;>omega)).below⟩
def QF(f:iL):Value:=.tuple #[.slice none 0 0,.slice none 0 0,.agg #[.int .i64 (f.err:Int),.int .i64 (f.pos:Int)]]
def QG(w:World)(r:Ans (List ak×List au))(e:Ending)(w':World):Prop:=
 match r with
 | .bad f=>e=.returned (QF f)∧Kept (λ_=>False) w w'
 | .ok x=>∃lv rv,e=.returned (.tuple #[lv,rv,.agg #[.int .i64 0,.int .i64 0]])∧Kept (λ_=>False) w w'∧aX w' lv x.1∧gy w' rv x.2
theorem Hr{w w':World}{fb size:Nat}{v x y:Value}{t:TypeId}{fz:Nat×Nat}{rows:List (List Value)}(hx:∀s,x≠.string s)(hy:∀s,y≠.string s)(hf:w.heap[fb]?=some (.cells #[x,y] t fz))(hk:Kept (· = fb) w w')
  (hr:∀r∈rows,∃s,r[0]?=some (Value.string s)) (h:aH w size v rows):aH w' size v rows:=by
 obtain⟨a,cap,rfl,h1,h2,h3⟩:=h;refine⟨a,cap,rfl,h1,h2,λhne=>?_⟩;obtain⟨b,off,rfl,h4⟩:=h3 hne;have hb:b≠fb:=by
  rintro rfl;cases rows with
  | nil=>exact hne rfl
  | cons r0 rows=>
   obtain⟨s,hs⟩:=hr r0 (by simp);have:=h4 0 r0 rfl 0 _ hs;rw[cell_of_row w b _ _ _ _ hf]at this
   match h:off+0*size+0,this with
   | 0,this=>simp at this;exact hx s this
   | 1,this=>simp at this;exact hy s this
   | n+2,this=>simp at this
 exact⟨b,off,rfl,λi r hir j c hc=>hk.cell hb (h4 i r hir j c hc)⟩
theorem Ez{w w':World}{fb:Nat}{v:Value}{x y:Int}{t:TypeId}{fz:Nat×Nat}{ns:List ak}(hf:w.heap[fb]?=some (.cells #[.int .i64 x,.int .i64 y] t fz))(hk:Kept (· = fb) w w')(h:aX w v ns):aX w' v ns:=by
 obtain⟨mO,h1,h2,h3⟩:=h;refine⟨mO,h1,Hr (λs=>by simp) (λs=>by simp) hf hk (λr hr=>?_) h2,λi n av hn ha=>Hr (λs=>by simp) (λs=>by simp) hf hk (λr hr=>?_) (h3 i n av hn ha)⟩
 ·obtain⟨i,hi,rfl⟩:=List.mem_iff_getElem.1 hr;rw[List.getElem_zipWith];exact⟨_,rfl⟩
 obtain⟨a,_,rfl⟩:=List.mem_map.1 hr;exact⟨_,rfl⟩
theorem bP.still{w w':World}{base:Nat}{v:Value}{rs:List au}{vs:List Value}(h:bP w base v rs vs)(hk:Kept (λ_=>False) w w'):bP w' base v rs vs:=
 dB.other (S:=λ_=>False) (w':=w') h (λu x _ hq=>bn _ _ _ _ _ _ _ hq hk (λ_ _ h=>h.elim) (λ_ _ h=>h)) hk (λ_ _=>id)
theorem UZ{w wx:World}(hk:Kept (λ_=>False) (w.alloc (.cells #[.int .i64 0,.int .i64 0] 26 (0,0))) wx)(x y:Value):
  (((wx.setCell ⟨w.heap.size,0,none⟩ x).setCell ⟨w.heap.size,1,none⟩ y).cell? ⟨w.heap.size,0,none⟩=some x∧((wx.setCell ⟨w.heap.size,0,none⟩ x).setCell ⟨w.heap.size,1,none⟩ y).cell? ⟨w.heap.size,1,none⟩=some y ∧
   Kept (λ_=>False) w ((wx.setCell ⟨w.heap.size,0,none⟩ x).setCell ⟨w.heap.size,1,none⟩ y)) ∧
  (wx.cell? ⟨w.heap.size,0,none⟩=some (.int .i64 0)∧wx.cell? ⟨w.heap.size,1,none⟩=some (.int .i64 0)∧wx.frozen? ⟨w.heap.size,0,none⟩=false∧wx.frozen? ⟨w.heap.size,1,none⟩=false):=by
 have h0:=hk.heap id (aI w (.cells #[.int .i64 0,.int .i64 0] 26 (0,0)));have h1:=aW (aW h0 0 x) 1 y;have hk0:Kept (λ_=>False) w wx:=((Kept.refl _ w).alloc _).trans hk;exact⟨⟨ah h1 0 rfl,ah h1 1 rfl,(hk0.setCell (.inr (Nat.le_refl _)) _).setCell (.inr (Nat.le_refl _)) _⟩,ah h0 0 rfl,ah h0 1 rfl,aF h0 0,aF h0 1⟩
theorem Ht(s:B)(m:Int)(w:World)(hm:w.cell? ⟨0,0,none⟩=some (.int .i64 m))(hs:s.length≤9223372036854775807):
  Calls Tryz.prog 13 #[.string (str s)] w (QG w (rP s)):=by
 obtain⟨R,HR⟩:∃R,Hid (rP s=R):=⟨_,rfl⟩;rw[HR.out];have HM:=hid hm;obtain⟨w0,HW0⟩:∃x,Hid (w.alloc (.cells #[.int .i64 0,.int .i64 0] 26 (0,0))=x):=⟨_,rfl⟩;have uq:Hid (Kept (λ_=>False) w w0):=hid (by rw[←HW0.out];exact(Kept.refl _ w).alloc _);have zQ:Hid (∀wx,Kept (λ_=>False) w0 wx→∀x y,_):=hid (λwx hk x y=>UZ (by rw[HW0.out];exact hk) x y);obtain⟨P0,HP⟩:∃P,Hid (lq s=P):=⟨_,rfl⟩;have JD:=parse_any s w0 m (uq.out.cell id hm) hs;rw[HP.out]at JD;replace JD:=hid JD;clear hm;go_enter Tryz.func13,Tryz.ntmps13
 go_upto_region 1 with fail
 rw[HW0.out];go_wp2_with fail
 refine JD.out.mono ?_;intro e w1 he1;cases P0 with
 | bad f=>
  obtain⟨rfl,hb1⟩:=he1;have hr:Hid (R=.bad f):=hid (by rw[←HR.out,wZ,HP.out];rfl);have hne:((f.err:Int) != 0)=true:=by
   have:=xg (HR.out.trans hr.out);simp;omega
  obtain⟨wb,jo⟩:∃x,Hid (w1.alloc (.cells #[.int .i64 (f.err:Int),.int .i64 (f.pos:Int)] 26 (0,0))=x):=⟨_,rfl⟩;have hkb:Kept (λ_=>False) w0 wb:=by rw[←jo.out];exact(Kept.of_below hb1).alloc _
  have c0:wb.cell? ⟨w1.heap.size,0,none⟩=some (.int .i64 (f.err:Int)):=by rw[←jo.out];exact ah (aI w1 _) 0 rfl
  have c1:wb.cell? ⟨w1.heap.size,1,none⟩=some (.int .i64 (f.pos:Int)):=by rw[←jo.out];exact ah (aI w1 _) 1 rfl
  obtain⟨d,g0,g1,f0,f1⟩:=zQ.out wb hkb (.int .i64 (f.err:Int)) (.int .i64 (f.pos:Int));have HD:=hid d;go_upto_region 2 with fail
  rw[jo.out];clear hb1 hkb d;go_wp2_with fail
  go_region
  go_wp2_with fail
  obtain⟨q0,q1,q2⟩:=HD.out
  revert q0 q1 q2
  generalize hwf:((wb.setCell ⟨w.heap.size,0,none⟩ (.int .i64 (f.err:Int))).setCell ⟨w.heap.size,1,none⟩ (.int .i64 (f.pos:Int)))=wf;intro q0 q1 q2;have p0:wf.drew.cell? ⟨w.heap.size,0,none⟩=some (.int .i64 (f.err:Int)):=q0;have p1:wf.drew.cell? ⟨w.heap.size,1,none⟩=some (.int .i64 (f.pos:Int)):=q1;refine bodyPost_ret (v:=.tuple #[.slice none 0 0,.slice none 0 0,.agg #[.int .i64 (f.err:Int),.int .i64 (f.pos:Int)]]) (by simp[results,Tryz.results13,go_sem,p0,p1]) rfl ?_;rw[hr.out];exact⟨rfl,q2.drew⟩
 | ok l=>
  obtain⟨lv,rfl,hb1,hl1⟩:=he1;have hlim:=Hu HP.out;obtain⟨hs6,hl6,Bv,W9⟩:=hlim;have QH:=hid Bv;have anP:=hid W9;obtain⟨la,lc,rfl,PK,wM⟩:=hl1.form;unfold maxLen at wM;have HE0:Hid (((bF s l).then λqs=>pO l ([]++qs))=R):=hid (by rw[←HR.out,wZ,HP.out];rfl);have HR0:=HR;obtain⟨wb,jo⟩:∃x,Hid (w1.alloc (.cells #[.int .i64 0,.int .i64 0] 26 (0,0))=x):=⟨_,rfl⟩;have hkb:Kept (λ_=>False) w0 wb:=by rw[←jo.out];exact(Kept.of_below hb1).alloc _
  have HLV:Hid (aX wb (.slice la l.length lc) l):=hid (by rw[←jo.out];exact hl1.kept ((Kept.refl (λ_=>False) w1).alloc _).below);have c0:wb.cell? ⟨w1.heap.size,0,none⟩=some (.int .i64 0):=by rw[←jo.out];exact ah (aI w1 _) 0 rfl
  have HKB:=hid hkb;clear hb1 hl1 Bv W9 hkb;go_upto_region 2 with fail
  rw[jo.out];go_wp2_with fail
  go_loopw [7,33] (λu c wr=>∃(i:Nat) (rs:List au) (vs:List Value),i≤l.length∧rs.length≤60*i∧c=.int .i64 (i:Int)∧Hid (Kept (λ_=>False) wb wr)∧Hid (bP wr wb.heap.size u rs vs) ∧
   Hid (∀r∈rs,jQ r∧0≤r.lo∧r.lo≤r.hi∧r.hi≤s.length)∧Hid (((bF s (l.drop i)).then λqs=>pO l (rs++qs))=R)) (λ_ c _=>l.length-(intOf c).toNat)
  case atStart=>exact⟨0,[],[],by omega,by simp,rfl,hid (Kept.refl _ _),hid (dB.nil _ _),hid (by simp),HE0⟩
  case round=>
   obtain⟨i,rs,vs,hi,hrs,rfl,HK,ZP,HRL,HE⟩:=hrel;obtain⟨bU,hwr0⟩:∃x,x=wr:=⟨_,rfl⟩;subst hwr0;obtain⟨ua,uc,rfl⟩:=dw ZP.out.own;by_cases hlt:i<l.length
   ·have hx:=List.getElem?_eq_getElem hlt;have hdr:=List.drop_eq_getElem_cons hlt;generalize hgx:l[i]=n at hx hdr;clear hgx;obtain⟨nb,qY,av,rfl,g0,g1,g2,g3,g4,g5,hav⟩:=(aO.kept HLV.out HK.out).at hx;have hnl:=QH.out n (List.mem_of_getElem? hx);obtain⟨p,q,hpf,hqf,hpq,hqs⟩:=hnl.inner;have he:=HE.out;rw[hdr,Hw]at he;rw[hpf]at g4;rw[hqf]at g5;rw[hpf,hqf,Int.toNat_natCast,Int.toNat_natCast]at he;obtain⟨aa,mG,rfl,_,_⟩:=hav.form;clear hx hdr hav hnl;go_upto_region 8 with fail
    obtain⟨wn,wW⟩:∃x,Hid (bU.alloc (.cells #[.string (str n.name),.int .i64 n.parent,.slice aa n.attrs.length mG,.int .i64 n.bG,.int .i64 (p:Int),.int .i64 (q:Int)] 45 (0,0))=x):=⟨_,rfl⟩;have hn0:wn.heap[bU.heap.size]?=some (.cells #[.string (str n.name),.int .i64 n.parent,.slice aa n.attrs.length mG,.int .i64 n.bG,.int .i64 (p:Int),.int .i64 (q:Int)] 45 (0,0)):=by rw[←wW.out];exact aI bU _
    have hkn:Kept (λ_=>False) bU wn:=by rw[←wW.out];exact(Kept.refl _ bU).alloc _
    have n0:wn.cell? ⟨bU.heap.size,0,none⟩=some (.string (str n.name)):=ah hn0 0 rfl;have n4:wn.cell? ⟨bU.heap.size,4,none⟩=some (.int .i64 (p:Int)):=ah hn0 4 rfl;have n5:wn.cell? ⟨bU.heap.size,5,none⟩=some (.int .i64 (q:Int)):=ah hn0 5 rfl;have yF:=hid hn0;have Dl:=hid hkn;rw[wW.out];have U0:Hid (bP wn wb.heap.size (.slice ua rs.length uc) rs vs):=hid (dB.other (S:=λ_=>False) (w':=wn) ZP.out (λu x _ hq=>bn _ _ _ _ _ _ _ hq hkn (λ_ _ h=>h.elim) (λ_ _ h=>h)) hkn (λ_ _=>id));clear g0 g1 g2 g3 g4 g5 hn0 hkn;by_cases hnm:n.name=aj
    ·rw[if_pos hnm]at he;have hnb:(n.name==aj)=true:=by simpa using hnm
     unfold aj at hnb;obtain⟨X,HX⟩:∃X,Hid (iZ (sub s p q)=X):=⟨_,rfl⟩;rw[HX.out]at he;have hsl:(sub s p q).length=q-p:=yt s hpq hqs;have QI:=TL (sub s p q) wn m ((uq.out.trans (HKB.out.trans (HK.out.trans Dl.out))).cell id HM.out) (by omega);rw[HX.out]at QI;replace QI:=hid QI;have OM:=hid he;unfold sub at QI;clear hnm he;have hps:p≤s.length:=by omega
     have HSL:=hid hsl;clear hsl;go_wp2_with fail
     refine QI.out.mono ?_;intro e w3 he3;cases X with
     | bad g=>
      obtain⟨rfl,hb3⟩:=he3;have hgb:=vk HX.out;rw[HSL.out]at hgb;have hr:Hid (R=.bad ⟨g.err,p+g.pos⟩):=hid OM.out.symm;have hne:((g.err:Int) != 0)=true:=by have:=hgb.1;simp;omega
      have hgp:(g.pos:Int)≤6000:=by omega
      have hwr:IntKind.i64.wrap ((p:Int)+(g.pos:Int))=(p:Int)+(g.pos:Int):=by rw[IntKind.wrap_i64];omega
      obtain⟨wg,yG⟩:∃x,Hid (w3.alloc (.cells #[.int .i64 (g.err:Int),.int .i64 (g.pos:Int)] 26 (0,0))=x):=⟨_,rfl⟩;have hkg:Kept (λ_=>False) wn wg:=by rw[←yG.out];exact(Kept.of_below hb3).alloc _
      have c0:wg.cell? ⟨w3.heap.size,0,none⟩=some (.int .i64 (g.err:Int)):=by rw[←yG.out];exact ah (aI w3 _) 0 rfl
      have c1:wg.cell? ⟨w3.heap.size,1,none⟩=some (.int .i64 (g.pos:Int)):=by rw[←yG.out];exact ah (aI w3 _) 1 rfl
      have m4:=hkg.cell id n4;obtain⟨d,g0,g1,f0,f1⟩:=zQ.out wg (HKB.out.trans (HK.out.trans (Dl.out.trans hkg))) (.int .i64 (g.err:Int)) (.int .i64 ((p:Int)+(g.pos:Int)));have HD:=hid d;go_upto_region 10 with fail
      rw[yG.out];clear hb3 hkg d n0 n4 n5 hgb;go_wp2_with fail
      go_region
      go_wp2_with fail
      obtain⟨q0,q1,q2⟩:=HD.out
      revert q0 q1 q2
      generalize hwf:((wg.setCell ⟨w.heap.size,0,none⟩ (.int .i64 (g.err:Int))).setCell ⟨w.heap.size,1,none⟩ (.int .i64 ((p:Int)+(g.pos:Int))))=wf;intro q0 q1 q2;have p0:wf.drew.cell? ⟨w.heap.size,0,none⟩=some (.int .i64 (g.err:Int)):=q0;have p1:wf.drew.cell? ⟨w.heap.size,1,none⟩=some (.int .i64 ((p:Int)+(g.pos:Int))):=q1;refine bodyPost_ret (v:=.tuple #[.slice none 0 0,.slice none 0 0,.agg #[.int .i64 (g.err:Int),.int .i64 ((p:Int)+(g.pos:Int))]]) (by simp[results,Tryz.results13,go_sem,p0,p1]) rfl ?_;rw[hr.out];refine⟨?_,q2.drew⟩;unfold QF;rw[Int.natCast_add]
     | ok xs=>
      obtain⟨rv,vs2,rfl,hb3,hown3⟩:=he3;obtain⟨xa,xc,rfl⟩:=dw hown3.own;have hxl:=zS HX.out;rw[HSL.out]at hxl;obtain⟨alr,hxr⟩:=hxl;have HXR:=hid hxr;obtain⟨wg,yG⟩:∃x,Hid (w3.alloc (.cells #[.int .i64 0,.int .i64 0] 26 (0,0))=x):=⟨_,rfl⟩;have QJ:Kept (λ_=>False) w3 wg:=by rw[←yG.out];exact(Kept.refl _ w3).alloc _
      have hkg:Kept (λ_=>False) wn wg:=(Kept.of_below hb3).trans QJ;have c0:wg.cell? ⟨w3.heap.size,0,none⟩=some (.int .i64 0):=by rw[←yG.out];exact ah (aI w3 _) 0 rfl
      have HOG:Hid (bP wg wn.heap.size (.slice xa xs.length xc) (jr p xs 0) vs2):=hid (by
       have:=dB.other (S:=λ_=>False) (w':=wg) hown3 (λu x _ hq=>bn _ _ _ _ _ _ _ hq QJ (λ_ _ h=>h.elim) (λ_ _ h=>h)) QJ (λ_ _=>id);simpa [jr] using this)
      have ET:=hid hkg;have m4:=hkg.cell id n4;have aie:xs.length≤xc∧xc≤maxLen:=by
       rcases hown3.own.2 with⟨h,hn⟩ | ⟨g,cap,cur,h,_,_,h1,h2,_⟩
       ·simp only[Value.slice.injEq]at h;obtain⟨_,h1,rfl⟩:=h;exact⟨by omega,by simp[maxLen]⟩
       simp only[Value.slice.injEq]at h;obtain⟨_,_,rfl⟩:=h;exact⟨h1,h2⟩
      obtain⟨als,af6⟩:=aie;unfold maxLen at af6;go_upto_region 10 with fail
      rw[yG.out];clear hb3 QJ hkg hown3 hxr n0 n4 n5;go_wp2_with fail
      go_loopw [66] (λc wx=>∃(k:Nat) (vs':List Value),k≤xs.length∧c=.int .i64 (k:Int)∧Hid (bP wx wn.heap.size (.slice xa xs.length xc) (jr p xs k) vs')∧Hid (Kept (λb=>(Value.slice xa xs.length xc).ownBlock=some b) wg wx)) (λc _=>xs.length-(intOf c).toNat)
      case atStart=>exact⟨0,vs2,by omega,rfl,HOG,hid (Kept.refl _ _)⟩
      case round=>
       obtain⟨k,vs',hk,rfl,HO,JC⟩:=hrel;obtain⟨jk,nD⟩:∃x,x=wr:=⟨_,rfl⟩;subst nD;have hln:(jr p xs k).length=xs.length:=OV p xs k;have hlow:∀b,(Value.slice xa xs.length xc).ownBlock=some b→wn.heap.size≤b:=λb hb=>(HO.out.own.lt b hb).1
       have Ui:=hid hlow;have yQ:Hid (Kept (λ_=>False) wn jk):=hid (ET.out.trans' JC.out (λb hb hS=>by have:=hlow b hS;omega));have x4:jk.cell? ⟨bU.heap.size,4,none⟩=some (.int .i64 (p:Int)):=yQ.out.cell id (ah yF.out 4 rfl);clear hlow;by_cases QK:k<xs.length
       ·have hy:=List.getElem?_eq_getElem QK;generalize qX:xs[k]=y at hy;clear qX;have hyk:=OW (d:=p) hy;obtain⟨g,cur,u,rfl,hgh,hgb,hcs⟩:=bP.block HO.out hyk;obtain⟨_,hy0,hy1,hy2⟩:=HXR.out y (List.mem_of_getElem? hy);obtain⟨lo,hlo⟩:∃lo:Nat,y.lo=lo:=⟨y.lo.toNat,by omega⟩;obtain⟨hi',hhi⟩:∃hi:Nat,y.hi=hi:=⟨y.hi.toNat,by omega⟩;have q3:=hcs 3 (.int .i64 y.lo) rfl;have q4:=hcs 4 (.int .i64 y.hi) rfl;rw[hlo]at q3;rw[hhi]at q4;have fr3:=aF hgh (k*5+3);have hO1:=HO.out.put (j:=3) (c:=.int .i64 ((lo:Int)+(p:Int))) (x' := { y with lo:=(lo:Int)+(p:Int) }) fU bn hyk (by omega) (λu=>rfl) (λw X u h=>h);have hw1:IntKind.i64.wrap ((lo:Int)+(p:Int))=(lo:Int)+(p:Int):=by rw[IntKind.wrap_i64];omega
        have hw2:IntKind.i64.wrap ((hi':Int)+(p:Int))=(hi':Int)+(p:Int):=by rw[IntKind.wrap_i64];omega
        have hb1:(lo:Int)≤6000:=by omega
        have hb2:(hi':Int)≤6000:=by omega
        have hb3:(p:Int)≤6000:=by omega
        have K1:=JC.out.setCell (p:=⟨g,k*5+3,none⟩) (.inl rfl) (.int .i64 ((lo:Int)+(p:Int)));have HY:=hid hy;have HYK:=hid hyk;have HLO:=hid hlo;have HHI:=hid hhi;clear hy hyk hcs hy0 hy1 hy2 hlo hhi;go_upto_region 15 with fail
        go_region
        obtain⟨w9,HW9⟩:∃x,Hid ((jk.setCell ⟨g,k*5+3,none⟩ (.int .i64 ((lo:Int)+(p:Int)))).drew=x):=⟨_,rfl⟩;have hO9:bP w9 wn.heap.size (.slice (some ⟨g,0,none⟩) xs.length xc) ((jr p xs k).set k { y with lo:=(lo:Int)+(p:Int) }) vs':=by
         rw[←HW9.out];exact bP.still hO1 (Kept.refl (λ_=>False) _).drew
        have K9:Kept (λb=>(Value.slice (some ⟨g,0,none⟩) xs.length xc).ownBlock=some b) wg w9:=by rw[←HW9.out];exact K1.drew
        rw[HW9.out];have aif:Kept (λ_=>False) wn w9:=ET.out.trans' K9 (λb hb hS=>by have:=Ui.out b hS;omega);have x9:w9.cell? ⟨bU.heap.size,4,none⟩=some (.int .i64 (p:Int)):=aif.cell id (ah yF.out 4 rfl);have hkl:k<(jr p xs k).length:=by rw[hln];exact QK
        have af7:((jr p xs k).set k { y with lo:=(lo:Int)+(p:Int) })[k]?=some { y with lo:=(lo:Int)+(p:Int) }:=List.getElem?_set_self hkl;have apQ:((jr p xs k).set k { y with lo:=(lo:Int)+(p:Int) }).length=xs.length:=by rw[List.length_set,hln]
        obtain⟨g',apR,u2',hgg,aii,_,hcs2⟩:=bP.block hO9 af7;cases hgg;have r4:=hcs2 4 (.int .i64 y.hi) rfl;rw[HHI.out]at r4;have fr4:=aF aii (k*5+4);have hO2:=hO9.put (j:=4) (c:=.int .i64 ((hi':Int)+(p:Int))) (x' := { y with lo:=(lo:Int)+(p:Int),hi:=(hi':Int)+(p:Int) }) fU bn af7 (by omega) (λu=>rfl) (λw X u h=>h);have hset:((jr p xs k).set k { y with lo:=(lo:Int)+(p:Int) }).set k { y with lo:=(lo:Int)+(p:Int),hi:=(hi':Int)+(p:Int) }=jr p xs (k+1):=by
         have:=OX (d:=p) (y := { y with lo:=(lo:Int)+(p:Int) }) HY.out;rw[←this];congr 1;unfold au.shift;rw[HLO.out,HHI.out]
        rw[hset]at hO2;have K2:=hid (K9.setCell (p:=⟨g,k*5+4,none⟩) (.inl rfl) (.int .i64 ((hi':Int)+(p:Int)))).drew;have HO2:=hid (bP.still hO2 (Kept.refl (λ_=>False) _).drew);clear hO1 K1 hO9 K9 aif af7 aii hcs2 hO2 hset q3 q4 fr3 hgh x4;go_wp2_with fail
        go_region
        go_wp2_with fail
        go_roundw
        case measure=>simp[intOf];omega
        case rel=>exact⟨k+1,vs',by omega,by go_num,HO2,K2⟩
       obtain rfl:k=xs.length:=by omega
       have hO:bP jk wn.heap.size (.slice xa (xs.map (au.shift p)).length xc) (xs.map (au.shift p)) vs':=by
        have:=HO.out;rw[MI]at this;simpa using this
       have hmx:(xs.map (au.shift p)).length=xs.length:=by simp
       obtain⟨a',c',w',happ,abl,ae0⟩:=bP.app (U0.out.still yQ.out) hO (by have:=HK.out.size;have:=Dl.out.size;omega) yQ.out.size (λb hb=>(U0.out.own.lt b hb).2) (by rw[hmx];omega);rw[hmx]at happ abl;have aly:=hid happ;have HAO:Hid (bP w' wb.heap.size (.slice a' (rs++xs.map (au.shift p)).length c') (rs++xs.map (au.shift p)) (vs++vs')):=hid (by
        rw[List.length_append,hmx];exact abl)
       have HAK:Hid (Kept (λ_=>False) wb w'):=hid ((HK.out.trans (Dl.out.trans yQ.out)).trans' ae0 (λb hb hS=>by have:=(ZP.out.own.lt b hS).1;omega));have af8:Hid (∀r∈rs++xs.map (au.shift p),jQ r∧0≤r.lo∧r.lo≤r.hi∧r.hi≤s.length):=hid (by
        intro r hr;rcases List.mem_append.1 hr with hr | hr
        ·exact HRL.out r hr
        obtain⟨y,hy,rfl⟩:=List.mem_map.1 hr;obtain⟨b1,b2,b3,b4⟩:=HXR.out y hy;refine⟨b1.shift _,?_⟩;have el:(y.shift p).lo=y.lo+(p:Int):=rfl;have eh:(y.shift p).hi=y.hi+(p:Int):=rfl;rw[el,eh];omega)
       have hl2:(rs++xs.map (au.shift p)).length≤60*(i+1):=by rw[List.length_append,hmx];omega
       have hl3:(rs++xs.map (au.shift p)).length=rs.length+xs.length:=by rw[List.length_append,hmx]
       rw[hl3]at HAO;clear hO happ abl ae0;go_wp2_with (at_builtin;refine gK (by rfl) _ _ _ rfl _ _ _ rfl rfl _ aly.out ?_)
       go_roundw
       case measure=>simp[intOf];omega
       case rel=>exact⟨i+1,_,_,by omega,hl2,by go_num,HAK,HAO,af8,OM⟩
    rw[if_neg hnm]at he;have hnb:(n.name==aj)=false:=by simpa using hnm
    unfold aj at hnb;have OM:=hid he;clear hnm he;go_wp2_with fail
    go_roundw
    case measure=>simp[intOf];omega
    case rel=>exact⟨i+1,rs,vs,by omega,by omega,by go_num,hid (HK.out.trans Dl.out),U0,HRL,OM⟩
   obtain rfl:i=l.length:=by omega
   have he:pO l rs=R:=by
    have:=HE.out;rw[List.drop_length]at this;simpa [bF] using this
   have hrc:rs.length≤7200:=by omega
   have hcap2:rs.length≤uc∧uc≤maxLen:=by
    rcases ZP.out.own.2 with⟨h,hn⟩ | ⟨g,cap,cur,h,_,_,h1,h2,_⟩
    ·simp only[Value.slice.injEq]at h;obtain⟨_,h1,rfl⟩:=h;exact⟨by omega,by simp[maxLen]⟩
    simp only[Value.slice.injEq]at h;obtain⟨_,_,rfl⟩:=h;exact⟨h1,h2⟩
   obtain⟨alA,af9⟩:=hcap2;unfold maxLen at af9;have HRA:Hid (gy bU (.slice ua rs.length uc) rs):=hid (sZ (ZP.out.done fU bn));have qm:=hid (HKB.out.trans HK.out);have FU:Hid (aX bU (.slice la l.length lc) l):=hid (aO.kept HLV.out HK.out);have hsz:=rs.length;by_cases h60:60<rs.length
   ·have hr:Hid (R=.bad ⟨5,0⟩):=hid (by rw[←he];unfold pO;rw[if_pos h60]);have abm:(60:Int)<rs.length:=by omega
    obtain⟨d,g0,g1,f0,f1⟩:=zQ.out bU qm.out (.int .i64 5) (.int .i64 0);have HD:=hid d;clear d he h60;go_wp2_with fail
    obtain⟨q0,q1,q2⟩:=HD.out
    revert q0 q1 q2
    generalize hwf:((bU.setCell ⟨w.heap.size,0,none⟩ (.int .i64 5)).setCell ⟨w.heap.size,1,none⟩ (.int .i64 0))=wf;intro q0 q1 q2;have p0:wf.cell? ⟨w.heap.size,0,none⟩=some (.int .i64 5):=q0;have p1:wf.cell? ⟨w.heap.size,1,none⟩=some (.int .i64 0):=q1;refine bodyPost_ret (v:=.tuple #[.slice none 0 0,.slice none 0 0,.agg #[.int .i64 5,.int .i64 0]]) (by simp[results,Tryz.results13,go_sem,p0,p1]) rfl ?_;rw[hr.out];exact⟨rfl,q2⟩
   have he2:o8 l rs (rs.drop 0)=R:=by rw[←he];unfold pO;rw[if_neg h60];rfl
   have HE2:=hid he2;have aij:(rs.length:Int)≤60:=by omega
   clear he he2 h60;obtain⟨wA,hwA⟩:∃x,x=bU:=⟨_,rfl⟩;subst hwA;go_wp2_with fail
   go_loopw [106] (λc wx=>∃i:Nat,i≤rs.length∧c=.int .i64 (i:Int)∧Hid (Kept (λ_=>False) wA wx)∧Hid (o8 l rs (rs.drop i)=R)) (λc _=>rs.length-(intOf c).toNat)
   case atStart=>exact⟨0,by omega,rfl,hid (Kept.refl _ _),HE2⟩
   case round=>
    obtain⟨i,hi,rfl,YK,HEI⟩:=hrel;obtain⟨jk,nD⟩:∃x,x=wr:=⟨_,rfl⟩;subst nD;have af':=hid (qm.out.trans YK.out);by_cases hlt1:i<rs.length
    ·have hx:=List.getElem?_eq_getElem hlt1;have hdr:=List.drop_eq_getElem_cons hlt1;generalize hgx:rs[i]=r at hx hdr;clear hgx;have QL:=HEI.out;rw[hdr,Bz]at QL;obtain⟨rb,ro,u,rfl,hcs,PI⟩:=bH.at (eG.kept HRA.out YK.out) hx;obtain⟨sv,dv,rfl,hss,hds⟩:=PI;obtain⟨sa,sc,rfl,_,_⟩:=bH.form hss;obtain⟨da,dc,rfl,Pv,wJ⟩:=bC.form hds;obtain⟨hrl,hr0,hr1,hr2⟩:=HRL.out r (List.mem_of_getElem? hx);obtain⟨lo,hlo⟩:∃lo:Nat,r.lo=lo:=⟨r.lo.toNat,by omega⟩;have c0:jk.cell? ⟨rb,ro+i*5,none⟩=some (.string (str r.ay)):=hcs 0 _ rfl;have c1:jk.cell? ⟨rb,ro+i*5+1,none⟩=some (.slice sa r.aZ.length sc):=hcs 1 _ rfl;have c2:jk.cell? ⟨rb,ro+i*5+2,none⟩=some (.slice da r.decls.length dc):=hcs 2 _ rfl;have c3:jk.cell? ⟨rb,ro+i*5+3,none⟩=some (.int .i64 (lo:Int)):=by have:=hcs 3 _ rfl;rwa [hlo]at this
     have c4:jk.cell? ⟨rb,ro+i*5+4,none⟩=some (.int .i64 r.hi):=hcs 4 _ rfl;rw[hlo,Int.toNat_natCast]at QL;have aga:(lo:Int)≤6000:=by omega
     clear hcs hss hx hdr hr0 hr1 hr2 hlo;obtain⟨wn,wW⟩:∃x,Hid (jk.alloc (.cells #[.string (str r.ay),.slice sa r.aZ.length sc,.slice da r.decls.length dc,.int .i64 (lo:Int),.int .i64 r.hi] 42 (0,0))=x):=⟨_,rfl⟩;have hn0:wn.heap[jk.heap.size]?=some (.cells #[.string (str r.ay),.slice sa r.aZ.length sc,.slice da r.decls.length dc,.int .i64 (lo:Int),.int .i64 r.hi] 42 (0,0)):=by rw[←wW.out];exact aI jk _
     have hkn:Kept (λ_=>False) jk wn:=by rw[←wW.out];exact(Kept.refl _ jk).alloc _
     have n2:wn.cell? ⟨jk.heap.size,2,none⟩=some (.slice da r.decls.length dc):=ah hn0 2 rfl;have yF:=hid hn0;have Dl:=hid (af'.out.trans hkn);obtain⟨X,HX⟩:∃X,Hid (fH r.decls=X):=⟨_,rfl⟩;have Fb:=Bc wn _ r.decls (aH.below hds hkn.below) (by have:=hrl.decls;omega) (λd hd=>by have:=(hrl.each d hd).2;omega) m ((uq.out.trans Dl.out).cell id HM.out);rw[HX.out]at Fb QL;replace Fb:=hid Fb;have abn:=hid QL;unfold maxLen at wJ;go_upto_region 25 with fail
     rw[wW.out];clear c0 c1 c2 c3 c4 hn0 hkn hds hrl QL;go_wp2_with fail
     refine Fb.out.mono ?_;intro e w5 YD;cases X with
     | none=>
      obtain⟨rfl,hb5⟩:=YD;have hk5:Kept (λ_=>False) wn w5:=Kept.of_below hb5;have hr:Hid (R=.bad ⟨5,lo⟩):=hid abn.out.symm;have x3:w5.cell? ⟨jk.heap.size,3,none⟩=some (.int .i64 (lo:Int)):=hk5.cell id (ah yF.out 3 rfl);obtain⟨d,g0,g1,f0,f1⟩:=zQ.out w5 (Dl.out.trans hk5) (.int .i64 5) (.int .i64 (lo:Int));have HD:=hid d;clear d hb5 hk5 n2;go_wp2_with fail
      go_region
      go_wp2_with fail
      obtain⟨q0,q1,q2⟩:=HD.out
      revert q0 q1 q2
      generalize hwf:((w5.setCell ⟨w.heap.size,0,none⟩ (.int .i64 5)).setCell ⟨w.heap.size,1,none⟩ (.int .i64 (lo:Int)))=wf;intro q0 q1 q2;have p0:wf.drew.cell? ⟨w.heap.size,0,none⟩=some (.int .i64 5):=q0;have p1:wf.drew.cell? ⟨w.heap.size,1,none⟩=some (.int .i64 (lo:Int)):=q1;refine bodyPost_ret (v:=.tuple #[.slice none 0 0,.slice none 0 0,.agg #[.int .i64 5,.int .i64 (lo:Int)]]) (by simp[results,Tryz.results13,go_sem,p0,p1]) rfl ?_;rw[hr.out];exact⟨rfl,q2.drew⟩
     | some x=>
      obtain⟨xv,rfl,hb5,_⟩:=YD;have hk5:Kept (λ_=>False) wn w5:=Kept.of_below hb5;have zF:Hid (Kept (λ_=>False) wA w5):=hid (YK.out.trans (((Kept.refl _ jk).alloc _).trans (by rw[wW.out];exact hk5)));clear hb5 hk5 n2;go_wp2_with fail
      go_roundw
      case measure=>simp[intOf];omega
      case rel=>exact⟨i+1,by omega,by go_num,zF,hid (by have:=abn.out;simpa using this)⟩
    obtain rfl:i=rs.length:=by omega
    have QL:jV l rs ((l.drop 0).flatMap (·.attrs))=R:=by
     have:=HEI.out;rw[List.drop_length,EC]at this;exact this
    have WW:=hid QL;clear QL;have adL:=YK;obtain⟨wB,hwB⟩:∃x,x=jk:=⟨_,rfl⟩;subst hwB;go_wp2_with fail
    go_loopw [126] (λc wx=>∃k:Nat,k≤l.length∧c=.int .i64 (k:Int)∧Hid (Kept (λ_=>False) wB wx)∧Hid (jV l rs ((l.drop k).flatMap (·.attrs))=R)) (λc _=>l.length-(intOf c).toNat)
    case atStart=>exact⟨0,by omega,rfl,hid (Kept.refl _ _),WW⟩
    case round=>
     obtain⟨k,hk,rfl,Dl,HEN⟩:=hrel;obtain⟨wr2,hwr2⟩:∃x,x=wr:=⟨_,rfl⟩;subst hwr2;have EU:=hid (adL.out.trans Dl.out);by_cases hlt2:k<l.length
     ·have hx:=List.getElem?_eq_getElem hlt2;have hdr:=List.drop_eq_getElem_cons hlt2;generalize hgx:l[k]=n at hx hdr;clear hgx;have hen:=HEN.out;rw[hdr,List.flatMap_cons]at hen;obtain⟨nb,qY,av,rfl,g0,g1,g2,g3,g4,g5,hav⟩:=(aO.kept FU.out EU.out).at hx;have hnl:=QH.out n (List.mem_of_getElem? hx);obtain⟨aa,mG,rfl,ML,wI⟩:=hav.form;unfold maxLen at wI;have Ec:=hid hav;have vw:=hid hnl.attrs;have agb:Hid (jV l rs (n.attrs.drop 0++(l.drop (k+1)).flatMap (·.attrs))=R):=hid (by simpa using hen);clear hx hdr hen hnl hav g0 g1 g3 g4 g5;go_wp2_with fail
      go_loopw [135] (λc wx=>∃j:Nat,j≤n.attrs.length∧c=.int .i64 (j:Int)∧Hid (Kept (λ_=>False) wr2 wx)∧Hid (jV l rs (n.attrs.drop j++(l.drop (k+1)).flatMap (·.attrs))=R)) (λc _=>n.attrs.length-(intOf c).toNat)
      case atStart=>exact⟨0,by omega,rfl,hid (Kept.refl _ _),agb⟩
      case round=>
       obtain⟨j,hj,rfl,Qj,HEJ⟩:=hrel;obtain⟨wr3,Ny⟩:∃x,x=wr:=⟨_,rfl⟩;subst Ny;by_cases hlt3:j<n.attrs.length
       ·have hy:=List.getElem?_eq_getElem hlt3;have hdy:=List.drop_eq_getElem_cons hlt3;generalize qX:n.attrs[j]=y at hy hdy;clear qX;have QM:=HEJ.out;rw[hdy,List.cons_append,BA]at QM;obtain⟨ab,ao,rfl,e0,e1,e2,e3⟩:=bZ.at (Ec.out.below Qj.out.below) hy;obtain⟨y1,y2,y3,y4,y5⟩:=vw.out y (List.mem_of_getElem? hy);obtain⟨lo,hlo⟩:∃lo:Nat,y.lo=lo:=⟨y.lo.toNat,by omega⟩;rw[hlo]at e2;have aga:(lo:Int)≤6000:=by omega
        obtain⟨wn,wW⟩:∃x,Hid (wr3.alloc (.cells #[.string (str y.name),.string (str y.val),.int .i64 (lo:Int),.int .i64 y.hi] 47 (0,0))=x):=⟨_,rfl⟩;have hn0:wn.heap[wr3.heap.size]?=some (.cells #[.string (str y.name),.string (str y.val),.int .i64 (lo:Int),.int .i64 y.hi] 47 (0,0)):=by rw[←wW.out];exact aI wr3 _
        have hkn:Kept (λ_=>False) wr3 wn:=by rw[←wW.out];exact(Kept.refl _ wr3).alloc _
        have n0:wn.cell? ⟨wr3.heap.size,0,none⟩=some (.string (str y.name)):=ah hn0 0 rfl;have n1:wn.cell? ⟨wr3.heap.size,1,none⟩=some (.string (str y.val)):=ah hn0 1 rfl;have yF:=hid hn0;have abo:=hid (Qj.out.trans hkn);have U1:=hid (qm.out.trans (EU.out.trans (Qj.out.trans hkn)));go_upto_region 35 with fail
        rw[wW.out];clear hy hdy e0 e1 e2 e3 hn0 hkn;by_cases hnm:y.name=aj
        ·have hnb:(y.name==aj)=true:=by simpa using hnm
         unfold aj at hnb;have hat:jW y=match dW y.val with
           | .bad f=>some ⟨f.err,lo⟩
           | .ok ds=>if (fH ds).isNone then some ⟨5,lo⟩ else none:=by
          unfold jW;rw[if_pos hnm,hlo,Int.toNat_natCast];cases dW y.val<;>rfl
         rw[hat]at QM;obtain⟨X,HX⟩:∃X,Hid (dW y.val=X):=⟨_,rfl⟩;rw[HX.out]at QM;have Jr:=A8 y.val wn m ((uq.out.trans U1.out).cell id HM.out) (by omega);rw[HX.out]at Jr;replace Jr:=hid Jr;have NS:=hid QM;clear QM hat hnm y1 y2 y3 y4 y5 hlo;go_wp2_with fail
         refine Jr.out.mono ?_;intro e w5 YD;cases X with
         | bad g=>
          obtain⟨rfl,hb5⟩:=YD;have hgb:=(kK HX.out).1;have alB:((g.err:Int)==0)=false:=by simp;omega
          have ain:((g.err:Int) != 0)=true:=by simp;omega
          have hr:Hid (R=.bad ⟨g.err,lo⟩):=hid NS.out.symm;obtain⟨wg,yG⟩:∃x,Hid (w5.alloc (.cells #[.int .i64 (g.err:Int),.int .i64 (g.pos:Int)] 26 (0,0))=x):=⟨_,rfl⟩;have hkg:Kept (λ_=>False) wn wg:=by rw[←yG.out];exact(Kept.of_below hb5).alloc _
          have c0:wg.cell? ⟨w5.heap.size,0,none⟩=some (.int .i64 (g.err:Int)):=by rw[←yG.out];exact ah (aI w5 _) 0 rfl
          have x2:wg.cell? ⟨wr3.heap.size,2,none⟩=some (.int .i64 (lo:Int)):=hkg.cell id (ah yF.out 2 rfl);obtain⟨d,h0,h1,f0,f1⟩:=zQ.out wg (U1.out.trans hkg) (.int .i64 (g.err:Int)) (.int .i64 (lo:Int));have HD:=hid d;clear d hkg n0 n1 hgb;go_upto_region 37 with fail
          rw[yG.out];clear hb5;go_wp2_with fail
          go_region
          go_wp2_with fail
          obtain⟨q0,q1,q2⟩:=HD.out
          revert q0 q1 q2
          generalize hwf:((wg.setCell ⟨w.heap.size,0,none⟩ (.int .i64 (g.err:Int))).setCell ⟨w.heap.size,1,none⟩ (.int .i64 (lo:Int)))=wf;intro q0 q1 q2;have p0:wf.drew.cell? ⟨w.heap.size,0,none⟩=some (.int .i64 (g.err:Int)):=q0;have p1:wf.drew.cell? ⟨w.heap.size,1,none⟩=some (.int .i64 (lo:Int)):=q1;refine bodyPost_ret (v:=.tuple #[.slice none 0 0,.slice none 0 0,.agg #[.int .i64 (g.err:Int),.int .i64 (lo:Int)]]) (by simp[results,Tryz.results13,go_sem,p0,p1]) rfl ?_;rw[hr.out];exact⟨rfl,q2.drew⟩
         | ok ds=>
          obtain⟨dv,rfl,hb5,hds⟩:=YD;obtain⟨da,dc,rfl,Pv,wJ⟩:=dD.form hds;unfold maxLen at wJ;have hok:=kY HX.out;obtain⟨wg,yG⟩:∃x,Hid (w5.alloc (.cells #[.int .i64 0,.int .i64 0] 26 (0,0))=x):=⟨_,rfl⟩;have U2:Kept (λ_=>False) w5 wg:=by rw[←yG.out];exact(Kept.refl _ w5).alloc _
          have hkg:Kept (λ_=>False) wn wg:=(Kept.of_below hb5).trans U2;have MW:wn.heap.size≤w5.heap.size:=hb5.size;have hg0:wg.heap[w5.heap.size]?=some (.cells #[.int .i64 0,.int .i64 0] 26 (0,0)):=by rw[←yG.out];exact aI w5 _
          have c0:wg.cell? ⟨w5.heap.size,0,none⟩=some (.int .i64 0):=ah hg0 0 rfl;have HG0:=hid hg0;have ET:=hid hkg;obtain⟨Y,HY⟩:∃Y,Hid (fH ds=Y):=⟨_,rfl⟩;have Fb:=Bc wg _ ds (aH.below hds.1 U2.below) (by have:=hok.2;omega) (λd hd=>by have:=(rQ (hok.1 d hd)).2;omega) m ((uq.out.trans (U1.out.trans hkg)).cell id HM.out);have NT:=NS.out;simp only at NT;rw[HY.out]at Fb NT;replace Fb:=hid Fb;have abp:=hid NT;go_upto_region 37 with fail
          rw[yG.out];clear hb5 U2 hkg hg0 hds hok NT n0 n1;go_wp2_with fail
          refine Fb.out.mono ?_;intro e w6 he6;cases Y with
          | none=>
           obtain⟨rfl,hb6⟩:=he6;have hk6:Kept (λ_=>False) wg w6:=Kept.of_below hb6;have hr:Hid (R=.bad ⟨5,lo⟩):=hid abp.out.symm;have Dy:=hk6.heap id HG0.out;have d0:w6.cell? ⟨w5.heap.size,0,none⟩=some (.int .i64 0):=ah Dy 0 rfl;have fz0:w6.frozen? ⟨w5.heap.size,0,none⟩=false:=aF Dy 0;have QN:=aW Dy 0 (.int .i64 5);have d1:(w6.setCell ⟨w5.heap.size,0,none⟩ (.int .i64 5)).cell? ⟨w5.heap.size,0,none⟩=some (.int .i64 5):=ah QN 0 rfl;have jD:Kept (λ_=>False) wn (w6.setCell ⟨w5.heap.size,0,none⟩ (.int .i64 5)):=(ET.out.trans hk6).setCell (.inr MW) _;have x2:(w6.setCell ⟨w5.heap.size,0,none⟩ (.int .i64 5)).cell? ⟨wr3.heap.size,2,none⟩=some (.int .i64 (lo:Int)):=jD.cell id (ah yF.out 2 rfl);obtain⟨d,h0,h1,f0,f1⟩:=zQ.out _ (U1.out.trans jD) (.int .i64 5) (.int .i64 (lo:Int));have HD:=hid d;clear d hb6 hk6 Dy QN jD;go_upto_region 39 with fail
           generalize w6.setCell ⟨w5.heap.size,0,none⟩ (.int .i64 5)=w7 at *;go_wp2_with fail
           go_region
           go_wp2_with fail
           obtain⟨q0,q1,q2⟩:=HD.out
           revert q0 q1 q2
           generalize hwf:((w7.setCell ⟨w.heap.size,0,none⟩ (.int .i64 5)).setCell ⟨w.heap.size,1,none⟩ (.int .i64 (lo:Int)))=wf;intro q0 q1 q2;have p0:wf.drew.cell? ⟨w.heap.size,0,none⟩=some (.int .i64 5):=q0;have p1:wf.drew.cell? ⟨w.heap.size,1,none⟩=some (.int .i64 (lo:Int)):=q1;refine bodyPost_ret (v:=.tuple #[.slice none 0 0,.slice none 0 0,.agg #[.int .i64 5,.int .i64 (lo:Int)]]) (by simp[results,Tryz.results13,go_sem,p0,p1]) rfl ?_;rw[hr.out];exact⟨rfl,q2.drew⟩
          | some x=>
           obtain⟨xv,rfl,hb6,_⟩:=he6;have hk6:Kept (λ_=>False) wg w6:=Kept.of_below hb6;have Dy:=hk6.heap id HG0.out;have d0:w6.cell? ⟨w5.heap.size,0,none⟩=some (.int .i64 0):=ah Dy 0 rfl;have fz0:w6.frozen? ⟨w5.heap.size,0,none⟩=false:=aF Dy 0;have QN:=aW Dy 0 (.int .i64 0);have d1:(w6.setCell ⟨w5.heap.size,0,none⟩ (.int .i64 0)).cell? ⟨w5.heap.size,0,none⟩=some (.int .i64 0):=ah QN 0 rfl;have jD:Kept (λ_=>False) wn (w6.setCell ⟨w5.heap.size,0,none⟩ (.int .i64 0)):=(ET.out.trans hk6).setCell (.inr MW) _;have HK7:=hid (abo.out.trans jD);clear hb6 hk6 Dy QN jD;go_upto_region 39 with fail
           generalize w6.setCell ⟨w5.heap.size,0,none⟩ (.int .i64 0)=w7 at *;go_wp2_with fail
           go_roundw
           case measure=>simp[intOf];omega
           case rel=>exact⟨j+1,by omega,by go_num,HK7,hid (by have:=abp.out;simpa using this)⟩
        have hnb:(y.name==aj)=false:=by simpa using hnm
        unfold aj at hnb;have hat:jW y=none:=by unfold jW;rw[if_neg hnm]
        rw[hat]at QM;have NS:=hid QM;clear QM hat hnm;go_wp2_with fail
        go_roundw
        case measure=>simp[intOf];omega
        case rel=>exact⟨j+1,by omega,by go_num,abo,NS⟩
       obtain rfl:j=n.attrs.length:=by omega
       have HEK:Hid (jV l rs ((l.drop (k+1)).flatMap (·.attrs))=R):=hid (by
        have:=HEJ.out;rw[List.drop_length,List.nil_append]at this;exact this)
       have HKK:=hid (Dl.out.trans Qj.out);go_wp2_with fail
       go_roundw
       case measure=>simp[intOf];omega
       case rel=>exact⟨k+1,by omega,by go_num,HKK,HEK⟩
     obtain rfl:k=l.length:=by omega
     have hr:Hid (R=.ok (l,rs)):=hid (by
      have:=HEN.out;rw[List.drop_length]at this;exact this.symm)
     obtain⟨d,h0,h1,f0,f1⟩:=zQ.out wr2 (qm.out.trans EU.out) (.int .i64 0) (.int .i64 0);have HD:=hid d;have HLF:Hid (aX ((wr2.setCell ⟨w.heap.size,0,none⟩ (.int .i64 0)).setCell ⟨w.heap.size,1,none⟩ (.int .i64 0)) (.slice la l.length lc) l∧gy ((wr2.setCell ⟨w.heap.size,0,none⟩ (.int .i64 0)).setCell ⟨w.heap.size,1,none⟩ (.int .i64 0)) (.slice ua rs.length uc) rs):=hid (by
      have WH:Kept (· = w.heap.size) wr2 ((wr2.setCell ⟨w.heap.size,0,none⟩ (.int .i64 0)).setCell ⟨w.heap.size,1,none⟩ (.int .i64 0)):=((Kept.refl (· = w.heap.size) wr2).setCell (p:=⟨w.heap.size,0,none⟩) (.inl rfl) _).setCell (p:=⟨w.heap.size,1,none⟩) (.inl rfl) _;have hfb:wr2.heap[w.heap.size]?=some (.cells #[.int .i64 0,.int .i64 0] 26 (0,0)):=(qm.out.trans EU.out).heap id (by rw[←HW0.out];exact aI w _);refine⟨Ez hfb WH (aO.kept FU.out EU.out),?_⟩;have hlt:w.heap.size<wb.heap.size:=by
       have h1:w0.heap.size=w.heap.size+1:=by rw[←HW0.out];simp
       have:=HKB.out.size;omega
      exact sZ ((dB.kept (bP.still ZP.out EU.out) bn hlt WH).done fU bn))
     clear d;go_wp2_with fail
     obtain⟨q0,q1,q2⟩:=HD.out;have hlf:=HLF.out
     revert q0 q1 q2 hlf
     generalize hwf:((wr2.setCell ⟨w.heap.size,0,none⟩ (.int .i64 0)).setCell ⟨w.heap.size,1,none⟩ (.int .i64 0))=wf;intro q0 q1 q2 hlf;refine bodyPost_ret (v:=.tuple #[.slice la l.length lc,.slice ua rs.length uc,.agg #[.int .i64 0,.int .i64 0]]) (by simp[results,Tryz.results13,go_sem,q0,q1]) rfl ?_;rw[hr.out];exact⟨_,_,rfl,q2,hlf.1,hlf.2⟩
end Go.Proofs.YtplbdlgmjehckacGreatDoor


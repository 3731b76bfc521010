/-
 Lemmas for the claims of this seat: the program's functions walked, and plain laws.
-/
import Derived.Test.YtplbdlgmjehckacGreatDoorPkFoTellsFull27
namespace Go.Proofs.YtplbdlgmjehckacGreatDoor
set_option linter.unusedVariables false
set_option linter.unusedSimpArgs false
def Y3(cs:List aB)(i:Nat)(c:aB)(j:Nat):Bool:=match cs[j]? with
 | none=>true
 | some o=>if o.d.name=c.d.name then (if i<j then !gV o c else if j<i then gV c o else true) else true
def oC(cs:List aB)(i:Nat)(c:aB):Nat→Bool
 | 0=>true
 | j+1=>oC cs i c j&&Y3 cs i c j
theorem EG(cs:List aB)(i:Nat)(c:aB):∀n,oC cs i c n=true↔∀j,j<n→Y3 cs i c j=true
 | 0=>by simp[oC]
 | n+1=>by
  simp only[oC,Bool.and_eq_true,EG cs i c n];constructor
  ·rintro⟨h1,h2⟩ j hj;by_cases h:j=n
   ·exact h ▸ h2
   exact h1 j (by omega)
  intro h;exact⟨λj hj=>h j (by omega),h n (by omega)⟩
theorem LG{cs:List aB}{i:Nat}{c:aB}(hc:cs[i]?=some c):oC cs i c cs.length=true↔lM cs c.d.name cs.length=some i:=by
 rw[←abZ hc,EG];constructor
 ·intro h j o ho hon;have hj:=(List.getElem?_eq_some_iff.1 ho).1;have:=h j hj;unfold Y3 at this;rw[ho]at this;simp only[hon,if_true]at this;refine⟨λh1=>?_,λh1=>?_⟩
  ·rw[if_pos h1]at this;simpa using this
  rw[if_neg (by omega),if_pos h1]at this;exact this
 intro h j hj;have ho:=List.getElem?_eq_getElem hj;unfold Y3;rw[ho];simp only;split
 ·rename_i hon
  have:=h j _ ho hon;split
  ·rename_i h1;rw[this.1 h1];rfl
  split
  ·rename_i h1;exact this.2 h1
  rfl
 rfl
theorem Iu{cs:List aB}{i:Nat}{c:aB}(hc:cs[i]?=some c):je cs (i+1)=if oC cs i c cs.length=true then Ac c.d (je cs i) else je cs i:=by
 conv=>lhs;unfold je
 rw[hc];simp only;by_cases h:lM cs c.d.name cs.length=some i
 ·rw[if_pos h,if_pos ((LG hc).2 h)]
 rw[if_neg h,if_neg (λhh=>h ((LG hc).1 hh))]
theorem Iw(x:aC):∀ys:List aC,(Ac x ys).length=ys.length+1
 | []=>rfl
 | y::ys=>by
  unfold Ac;split
  ·simp[Iw x ys]
  simp
theorem DT(cs:List aB):∀i,(je cs i).length≤i
 | 0=>by simp[je]
 | i+1=>by
  have ih:=DT cs i;cases hc:cs[i]? with
  | none=>
   have:je cs (i+1)=je cs i:=by
    conv=>lhs;unfold je
    rw[hc]
   rw[this];omega
  | some c=>
   rw[Iu hc];split
   ·rw[Iw];omega
   omega
def yK(n:B)(ys:List aC):Nat:=(ys.takeWhile λy=>wC y.name n).length
theorem aeb(n:B)(ys:List aC):yK n ys≤ys.length:=by
 unfold yK
 induction ys with
 | nil=>simp
 | cons y ys ih=>rw[List.takeWhile_cons];split<;>simp;omega
theorem Xi(n:B):∀(ys:List aC) (j:Nat) (y:aC),j<yK n ys→ys[j]?=some y→wC y.name n=true
 | [],j,y,h,_=>by simp[yK]at h
 | x::ys,j,y,h,hy=>by
  unfold yK at h;rw[List.takeWhile_cons]at h;split at h
  ·rename_i hx
   cases j with
   | zero=>simp at hy;subst hy;exact hx
   | succ j=>exact Xi n ys j y (by unfold yK;simpa using h) (by simpa using hy)
  simp at h
theorem Rt(n:B):∀(ys:List aC) (y:aC),ys[yK n ys]?=some y→wC y.name n=false
 | [],y,hy=>by simp[yK]at hy
 | x::ys,y,hy=>by
  unfold yK at hy;rw[List.takeWhile_cons]at hy;split at hy
  ·exact Rt n ys y (by unfold yK;simpa using hy)
  rename_i hx
  simp at hy;subst hy;simpa using hx
theorem Xj(x:aC):∀ys:List aC,Ac x ys=(ys.take (yK x.name ys)++[x])++ys.drop (yK x.name ys)
 | []=>by simp[Ac,yK]
 | y::ys=>by
  have ih:=Xj x ys;unfold Ac yK;rw[List.takeWhile_cons];split
  ·rw[ih];simp[yK]
  simp
open Go.RowKit
theorem Y4{w:World}{base base' e size n:Nat}{v:Value}{xs:List Value}(h:w.ownsRow base' e size v n xs)(hb:base≤base'):w.ownsRow base e size v n xs:=by
 refine⟨h.1,?_⟩;rcases h.2 with x | ⟨g,cap,cur,hv,hg,rest⟩
 ·exact .inl x
 exact .inr ⟨g,cap,cur,hv,Nat.le_trans hb hg,rest⟩
theorem Iy{ds:List aC}:∀u∈(ds.map aA).flatten,u.oneCell'=true:=by
 intro u hu;obtain⟨r,hr,hur⟩:=List.mem_flatten.1 hu;obtain⟨d,_,rfl⟩:=List.mem_map.1 hr;simp only[aA,List.mem_cons,List.not_mem_nil,or_false]at hur;rcases hur with rfl | rfl | rfl<;>rfl
theorem LH{ds:List aC}:∀r∈ds.map aA,r.length=3:=by
 intro r hr;obtain⟨d,_,rfl⟩:=List.mem_map.1 hr
 rfl
theorem aH.takeN{w:World}{size b off len cap:Nat}{rows:List (List Value)}(h:aH w size (.slice (some ⟨b,off,none⟩) len cap) rows){n:Nat}(hn:n≤len):aH w size (.slice (some ⟨b,off,none⟩) n cap) (rows.take n):=by
 obtain⟨a',cap',hv,h1,h2,h3⟩:=h;simp only[Value.slice.injEq]at hv;obtain⟨rfl,rfl,rfl⟩:=hv;refine⟨_,_,by rw[List.length_take,Nat.min_eq_left hn],by rw[List.length_take];omega,h2,λhne=>?_⟩;have hne':rows≠[]:=λe=>hne (by rw[e];simp)
 obtain⟨b',off',hb,h5⟩:=h3 hne';cases hb;refine⟨_,_,rfl,λi r hr j c hj=>?_⟩;rw[List.getElem?_take]at hr;split at hr
 ·exact h5 i r hr j c hj
 cases hr
theorem aH.ajc{w:World}{size b off len cap:Nat}{rows:List (List Value)}(h:aH w size (.slice (some ⟨b,off,none⟩) len cap) rows){n:Nat}(hn:n≤len):aH w size (.slice (some ⟨b,off+n*size,none⟩) (len-n) (cap-n)) (rows.drop n):=by
 obtain⟨a',cap',hv,h1,h2,h3⟩:=h;simp only[Value.slice.injEq]at hv;obtain⟨rfl,rfl,rfl⟩:=hv;refine⟨_,_,by rw[List.length_drop],by rw[List.length_drop];omega,by omega,λhne=>?_⟩;have hne':rows≠[]:=λe=>hne (by rw[e];simp)
 obtain⟨b',off',hb,h5⟩:=h3 hne';cases hb;refine⟨_,_,rfl,λi r hr j c hj=>?_⟩;rw[List.getElem?_drop]at hr;have:=h5 (n+i) r hr j c hj;rw[Nat.add_mul,←Nat.add_assoc]at this;exact this
theorem Y5{w:World}{size:Nat}{a:Option Addr}{c:Nat}(hc:c≤maxLen):aH w size (.slice a 0 c) []:=⟨a,c,rfl,Nat.zero_le _,hc,λh=>absurd rfl h⟩
theorem Ru{w:World}{base G:Nat}(hG:w.heap[G]?=some (.cells #[] 53 (0,0)))(hb:base≤G):w.ownsRow base 53 3 (.slice (some ⟨G,0,none⟩) 0 0) 0 []:=
 ⟨by simp,.inr ⟨G,0, #[],rfl,hb,hG,Nat.le_refl _,by unfold maxLen;omega,by simp,by simp⟩⟩
section
variable {ops:Array Oper} {o:Oper} {a:Act} {K:Act→World→Prop} {Q:Exit→Act→World→Prop} {E:Prop} {w5 wc:World} {i0:TypeInfo}
theorem Vx(hi0:Tryz.prog.info? 53=some i0){z:Value}(hz0:i0.zero=some z)(hz3:z.cells.size=3)(hz1:i0.size=3)(hz2:i0.bytes=40)
  (hgd:o.guard=none) (s x:Operand) (ho:o.op=.call { callee:=.builtin .append,args:=#[s,x],argTypes:=#[49,49] })
  (G:Nat) (ta:Option Addr) (tc n:Nat) (rows:List (List Value)) (hs:a.eval s=.slice (some ⟨G,0,none⟩) 0 0) (hx:a.eval x=.slice ta n tc) (hG:wc.heap[G]?=some (.cells #[] 53 (0,0))) (hGw:w5.heap.size≤G) (hK:Kept (λ_=>False) w5 wc)
  (hr:aH w5 3 (.slice ta n tc) rows) (hl:∀r∈rows,r.length=3) (h1:∀u∈rows.flatten,u.oneCell'=true) (hn2:n≤1099600000000)
  (h:∀a6 c6 w6,w6.ownsRow w5.heap.size 53 3 (.slice a6 n c6) n rows.flatten→Kept (λ_=>False) w5 w6→(∀(q:Nat) (ob:Obj),q≠G→wc.heap[q]?=some ob→w6.heap[q]?=some ob)→K (a.put o.dst (.slice a6 n c6)) w6) :
  if Region.wanted o (yielded ops a.tmps)=true then Oper.wp Tryz.prog o a wc K Q else E:=by
 obtain⟨a6,c6,w6,OL,CG,k6,_⟩:=kH (P:=Tryz.prog) wc 49 o.type w5.heap.size 53 i0 z 3 40 Tryz.underlying49 hi0 hz0 hz1 hz2 hz3 (by omega) _ 0 0 [] (Ru hG hGw) ta n tc _ (aH.below hr hK.below) hl h1 (by unfold maxLen;omega) (by omega) hK.size;rw[Nat.zero_add]at OL CG;refine ng hgd s x _ ho _ _ _ hs hx w6 OL (h a6 c6 w6 (by simpa using CG) (hK.trans' k6 (λi hi hx=>?_)) (λq ob hq hob=>k6.heap (λhx=>?_) hob))
 ·simp only[Value.ownBlock,Option.some.injEq]at hx;omega
 simp only[Value.ownBlock,Option.some.injEq]at hx;omega
theorem Vy(hi0:Tryz.prog.info? 53=some i0){z:Value}(hz0:i0.zero=some z)(hz3:z.cells.size=3)(hz1:i0.size=3)(hz2:i0.bytes=40)
  (hgd:o.guard=none) (s x:Operand) (ho:o.op=.call { callee:=.builtin .append,args:=#[s,x],argTypes:=#[49,49] })
  (a6:Option Addr) (c6 n Bk:Nat) (rows:List (List Value)) (row:List Value) (hrl:row.length=3) (hr1:∀u∈row,u.oneCell'=true) (hs:a.eval s=.slice a6 n c6) (hx:a.eval x=.slice (some ⟨Bk,0,none⟩) 1 1) (CG:wc.ownsRow w5.heap.size 53 3 (.slice a6 n c6) n rows.flatten)
  (hB:wc.heap[Bk]?=some (.cells row.toArray 53 (0,0))) (hK:Kept (λ_=>False) w5 wc) (hn2:n≤1099600000000)
  (h:∀a7 c7 w7,w7.ownsRow w5.heap.size 53 3 (.slice a7 (n+1) c7) (n+1) (rows++[row]).flatten→Kept (λ_=>False) w5 w7→K (a.put o.dst (.slice a7 (n+1) c7)) w7) :
  if Region.wanted o (yielded ops a.tmps)=true then Oper.wp Tryz.prog o a wc K Q else E:=by
 obtain⟨a7,c7,w7,PY,Ue,k7,_⟩:=kH (P:=Tryz.prog) wc 49 o.type w5.heap.size 53 i0 z 3 40 Tryz.underlying49 hi0 hz0 hz1 hz2 hz3 (by omega) a6 n c6 _ CG (some ⟨Bk,0,none⟩) 1 1 [row] (rE hB (by simp) (by simpa using hrl) rfl (by simp[maxLen])) (by simpa using hrl) (by simpa using hr1) (by unfold maxLen;omega) (by omega) hK.size;refine ng hgd s x _ ho _ _ _ hs hx w7 PY (h a7 c7 w7 (by simpa using Ue) (hK.trans' k7 (λi hi hx=>?_)));have:=(CG.lt i hx).1;omega
theorem Vz(hi0:Tryz.prog.info? 53=some i0){z:Value}(hz0:i0.zero=some z)(hz3:z.cells.size=3)(hz1:i0.size=3)(hz2:i0.bytes=40)
  (hgd:o.guard=none) (s x:Operand) (ho:o.op=.call { callee:=.builtin .append,args:=#[s,x],argTypes:=#[49,49] })
  (a6:Option Addr) (c6 n:Nat) (ta:Option Addr) (tc m:Nat) (rows rows':List (List Value)) (hs:a.eval s=.slice a6 n c6) (hx:a.eval x=.slice ta m tc) (CG:wc.ownsRow w5.heap.size 53 3 (.slice a6 n c6) n rows.flatten) (hK:Kept (λ_=>False) w5 wc)
  (hr:aH w5 3 (.slice ta m tc) rows') (hl:∀r∈rows',r.length=3) (h1:∀u∈rows'.flatten,u.oneCell'=true) (hn2:n≤1099600000000) (hm2:m≤1099600000000)
  (h:∀a7 c7 w7,w7.ownsRow w5.heap.size 53 3 (.slice a7 (n+m) c7) (n+m) (rows++rows').flatten→Kept (λ_=>False) w5 w7→K (a.put o.dst (.slice a7 (n+m) c7)) w7) :
  if Region.wanted o (yielded ops a.tmps)=true then Oper.wp Tryz.prog o a wc K Q else E:=by
 obtain⟨a7,c7,w7,PY,Ue,k7,_⟩:=kH (P:=Tryz.prog) wc 49 o.type w5.heap.size 53 i0 z 3 40 Tryz.underlying49 hi0 hz0 hz1 hz2 hz3 (by omega) a6 n c6 _ CG ta m tc _ (aH.below hr hK.below) hl h1 (by unfold maxLen;omega) (by omega) hK.size;refine ng hgd s x _ ho _ _ _ hs hx w7 PY (h a7 c7 w7 (by simpa using Ue) (hK.trans' k7 (λi hi hx=>?_)));have:=(CG.lt i hx).1;omega
end
end Go.Proofs.YtplbdlgmjehckacGreatDoor


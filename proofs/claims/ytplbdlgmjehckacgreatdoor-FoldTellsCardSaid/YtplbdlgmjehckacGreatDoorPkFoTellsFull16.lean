/-
 Lemmas for the claims of this seat: the program's functions walked, and plain laws.
-/
import Derived.Test.YtplbdlgmjehckacGreatDoorPkFoTellsFull15
import Derived.Test.YtplbdlgmjehckacGreatDoorPkFoTellsFull14
set_option maxRecDepth 100000
set_option maxHeartbeats 6400000
namespace Go.Proofs.YtplbdlgmjehckacGreatDoor
open Go.Lib (hid)
open Go.RowKit
set_option linter.unusedVariables false
set_option linter.unusedSimpArgs false
def tZ(l:List (Int×Value)):Value→Option Value
 | .int .i64 k=>(l.find? λx=>x.1==k).map (·.2)
 | _=>none
theorem Um{l:List (Int×Value)}{k:Int}{v:Value}(h:∀x∈l,x.1≠k):tZ (l++[(k,v)]) (.int .i64 k)=some v:=by
 show(((l++[(k,v)]).find? λx=>x.1==k).map (·.2))=some v
 rw[List.find?_append];have:l.find? (λx=>x.1==k)=none:=by
  rw[List.find?_eq_none];intro x hx;simpa using h x hx
 rw[this];simp
theorem Qg{l:List (Int×Value)}{k:Int}{v:Value}:∀y,MapKept.IsKey (.int .i64) y→y≠.int .i64 k→tZ (l++[(k,v)]) y=tZ l y:=by
 intro y hy hne;cases y with
 | int q j=>
  have:q=.i64:=hy;subst this;have hj:¬k=j:=λe=>hne (by rw[e])
  show(((l++[(k,v)]).find? λx=>x.1==j).map (·.2))=(l.find? λx=>x.1==j).map (·.2)
  rw[List.find?_append];have:([(k,v)]:List (Int×Value)).find? (λx=>x.1==j)=none:=by simp[hj]
  rw[this];simp
 | _=>exact absurd hy (by simp[MapKept.IsKey])
theorem Un:(λ_=>none:Value→Option Value)=tZ []:=by
 funext y;cases y with
 | int q j=>cases q<;>rfl
 | _=>rfl
section
variable {P:Program} {mty kt et:TypeId}
theorem dL.push{w:World}{b:Nat}{l:List (Int×Value)}(h:dL (.int .i64) w b (tZ l))(hm:P.underlying mty=some (.map kt et))(hd:P.underlying kt=some (.int .i64))(k:Int)(v:Value)(hk:∀x∈l,x.1≠k):
  ∃w',(Instr.mapUpdate mty (.map (some b)) (.int .i64 k) v).run P w=.ok () w'∧dL (.int .i64) w' b (tZ (l++[(k,v)]))∧Kept (· = b) w w':=by
 obtain⟨w',h1,h2,h3,_⟩:=h.update hm hd (k:=.int .i64 k) (v:=v) (by trivial) (Um hk) Qg;exact⟨w',h1,h2,h3⟩
end
def Dk:List (Int×Value):=[(3,.int .i64 0),(2,.int .i64 1),(4,.int .i64 1),(5,.int .i64 1),(6,.int .i64 1),(1,.int .i64 2)]
theorem adr(w:World):∃u1 u2 u3 u4 u5 u6,
  (Instr.mapUpdate 216 (.map (some w.heap.size)) (.int .i64 3) (.int .i64 0)).run Tryz.prog (w.alloc (.map #[] 0))=.ok () u1 ∧
  (Instr.mapUpdate 216 (.map (some w.heap.size)) (.int .i64 2) (.int .i64 1)).run Tryz.prog u1=.ok () u2 ∧
  (Instr.mapUpdate 216 (.map (some w.heap.size)) (.int .i64 4) (.int .i64 1)).run Tryz.prog u2=.ok () u3 ∧
  (Instr.mapUpdate 216 (.map (some w.heap.size)) (.int .i64 5) (.int .i64 1)).run Tryz.prog u3=.ok () u4 ∧
  (Instr.mapUpdate 216 (.map (some w.heap.size)) (.int .i64 6) (.int .i64 1)).run Tryz.prog u4=.ok () u5 ∧
  (Instr.mapUpdate 216 (.map (some w.heap.size)) (.int .i64 1) (.int .i64 2)).run Tryz.prog u5=.ok () u6 ∧
  dL (.int .i64) u6 w.heap.size (tZ Dk)∧Kept (λ_=>False) w u6:=by
 have M0:dL (.int .i64) (w.alloc (.map #[] 0)) w.heap.size (tZ []):=by rw[←Un];exact dL.made _ w
 obtain⟨u1,r1,M1,k1⟩:=M0.push (P:=Tryz.prog) Tryz.underlying216 Tryz.underlying3 3 (.int .i64 0) (by simp);obtain⟨u2,r2,M2,k2⟩:=M1.push (P:=Tryz.prog) Tryz.underlying216 Tryz.underlying3 2 (.int .i64 1) (by simp);obtain⟨u3,r3,M3,k3⟩:=M2.push (P:=Tryz.prog) Tryz.underlying216 Tryz.underlying3 4 (.int .i64 1) (by simp);obtain⟨u4,r4,M4,k4⟩:=M3.push (P:=Tryz.prog) Tryz.underlying216 Tryz.underlying3 5 (.int .i64 1) (by simp);obtain⟨u5,r5,M5,k5⟩:=M4.push (P:=Tryz.prog) Tryz.underlying216 Tryz.underlying3 6 (.int .i64 1) (by simp);obtain⟨u6,r6,M6,k6⟩:=M5.push (P:=Tryz.prog) Tryz.underlying216 Tryz.underlying3 1 (.int .i64 2) (by simp);refine⟨u1,u2,u3,u4,u5,u6,r1,r2,r3,r4,r5,r6,M6,?_⟩;exact((Kept.refl _ w).alloc _).trans' (((((k1.trans k2).trans k3).trans k4).trans k5).trans k6) (λi hi (h:i=w.heap.size)=>by omega)
theorem ads(w:World):(zeroValue 3).run Tryz.prog w=.ok (.int .i64 0) w:=by kernel_rfl
theorem adt{u:World}{b:Nat}(h:dL (.int .i64) u b (tZ Dk))(k:Int):(Instr.lookup 216 (.map (some b)) (.int .i64 k) true).run Tryz.prog u =
  .ok (.tuple #[if k=3 then .int .i64 0 else if k=1 then .int .i64 2 else if k=2∨k=4∨k=5∨k=6 then .int .i64 1 else .int .i64 0,.bool (decide (k=3∨k=1∨k=2∨k=4∨k=5∨k=6))]) u:=by
 by_cases h3:k=3
 ·subst h3;exact h.hit (P:=Tryz.prog) Tryz.underlying216 Tryz.underlying3 (by trivial) rfl true
 by_cases h1:k=1
 ·subst h1;exact h.hit (P:=Tryz.prog) Tryz.underlying216 Tryz.underlying3 (by trivial) rfl true
 by_cases h2:k=2
 ·subst h2;exact h.hit (P:=Tryz.prog) Tryz.underlying216 Tryz.underlying3 (by trivial) rfl true
 by_cases h4:k=4
 ·subst h4;exact h.hit (P:=Tryz.prog) Tryz.underlying216 Tryz.underlying3 (by trivial) rfl true
 by_cases h5:k=5
 ·subst h5;exact h.hit (P:=Tryz.prog) Tryz.underlying216 Tryz.underlying3 (by trivial) rfl true
 by_cases h6:k=6
 ·subst h6;exact h.hit (P:=Tryz.prog) Tryz.underlying216 Tryz.underlying3 (by trivial) rfl true
 have hn:tZ Dk (.int .i64 k)=none:=by
  show((Dk.find? λx=>x.1==k).map (·.2))=none
  have:Dk.find? (λx=>x.1==k)=none:=by
   rw[List.find?_eq_none];intro x hx;simp only[Dk,List.mem_cons,List.not_mem_nil,or_false]at hx;rcases hx with rfl | rfl | rfl | rfl | rfl | rfl<;>simp<;>omega
  rw[this];rfl
 have:=h.miss (P:=Tryz.prog) (mty:=216) Tryz.underlying216 Tryz.underlying3 (k:=.int .i64 k) (by trivial) hn (ads u) true;rw[this];simp[h1,h2,h3,h4,h5,h6]
theorem Jl.qw{w wr wx:World}{x:lX}{n:Nat}(h:Jl w wr x n)(hk:Kept (λ_=>False) wr wx):Jl w wx x n:=⟨hk.heap id h.at_,hk.heap id h.res,h.kept.trans hk,h.low⟩
theorem Uo(s:dZ)(w:World)(sv:Value)(hp:PartsAt w sv s)(hn:iJ s≤1048576):
  Calls Tryz.prog 100 #[sv] w λe w'=>e=.returned (vX (qZ s))∧Kept (λ_=>False) w w':=by
 obtain⟨pa,MO,rfl,TQ,zC⟩:=bH.form hp;unfold maxLen at zC;have HP:=hid hp;have HN:=hid hn;clear hp hn;have hw0:Jl w ((w.alloc (.cells #[.int .i64 0,.int .i64 0,.int .i64 0] 119 (0,0))).alloc (.cells #[.int .i64 0,.int .i64 0,.int .i64 0] 119 (0,0))) ⟨0,0,0⟩ 0:=by
  refine⟨?_,iw (aI w _) _,((Kept.refl _ w).alloc _).alloc _,Nat.le_refl _,Nat.le_refl _,Nat.le_refl _⟩;have:=aI (w.alloc (.cells #[.int .i64 0,.int .i64 0,.int .i64 0] 119 (0,0))) (.cells #[.int .i64 0,.int .i64 0,.int .i64 0] 119 (0,0));simpa [pF] using this
 have HW0:=hid hw0;clear hw0;go_enter Tryz.func100,Tryz.ntmps100
 go_wp2_with fail
 go_loopw [12] (λi wr=>∃(k:Nat) (x:lX),k≤List.length s∧i=.int .i64 k∧Hid (Jl w wr x (iJ (s.take k)))∧Hid ((s.take k).foldl FT ⟨0,0,0⟩=x)) (λi _=>List.length s-(intOf i).toNat)
 case atStart=>exact⟨0,⟨0,0,0⟩,by omega,rfl,HW0,hid rfl⟩
 case round=>
  obtain⟨i,x0,hi,rfl,HL,HX0⟩:=hrel;obtain⟨bU,hwr0⟩:∃x,x=wr:=⟨_,rfl⟩;subst hwr0;by_cases hlt:i<List.length s
  ·have hx:=List.getElem?_eq_getElem hlt;generalize hgx:s[i]=p at hx;clear hgx;obtain⟨pb,po,tv,rfl,hpc,hpt⟩:=bH.at HP.out hx;have p0:bU.cell? ⟨pb,po+i*2,none⟩=some (.int .i64 p.join):=HL.out.kept.cell id (hpc 0 _ rfl);have p1:bU.cell? ⟨pb,po+i*2+1,none⟩=some tv:=HL.out.kept.cell id (hpc 1 _ rfl);obtain⟨ta,tc,rfl,ada,MN⟩:=jf.form hpt;unfold maxLen at MN;have hnt:=Ed s i hx;have hnl:=JY s (i+1);have Pm:=hid hnt;have hbase:Hid (iJ (s.take i)+p.tests.length≤1048576):=hid (by have:=HN.out;omega);have HX:=hid hx;have OE:=hid hpt;clear hx hpc hpt hnt hnl;go_upto_region 5 with fail
   obtain⟨wa,gX⟩:∃x',Hid (bU.alloc (.cells #[.int .i64 p.join,.slice ta p.tests.length tc] 156 (0,0))=x'):=⟨_,rfl⟩;have c1:wa.cell? ⟨bU.heap.size,1,none⟩=some (.slice ta p.tests.length tc):=by rw[←gX.out];exact ah (aI bU _) 1 rfl
   have FU:Hid (Jl w wa x0 (iJ (s.take i))):=hid (by rw[←gX.out];exact HL.out.alloc _);clear p0 p1;rw[gX.out];go_wp2_with fail
   go_loopw [19] (λj wx=>∃(l:Nat) (x:lX),l≤p.tests.length∧j=.int .i64 l∧Hid (Jl w wx x (iJ (s.take i)+l))∧Hid ((p.tests.take l).foldl jA x0=x)) (λj _=>p.tests.length-(intOf j).toNat)
   case atStart=>exact⟨0,x0,by omega,rfl,FU,hid rfl⟩
   case round=>
    obtain⟨l,x,hl,rfl,HM,HXJ⟩:=hrel;by_cases hlt2:l<p.tests.length
    ·have hy:=List.getElem?_eq_getElem hlt2;generalize qX:p.tests[l]=t at hy;clear qX;obtain⟨tb,to_,rfl,t0,t1,t2⟩:=jf.at (lJ.kept OE.out HM.out.kept) hy;have HY:=hid hy;clear hy;go_upto_region 8 with fail
     obtain⟨wb,jo⟩:∃x',Hid (wr.alloc (.cells #[.int .i64 t.kind,.string (str t.name),.string (str t.val)] 158 (0,0))=x'):=⟨_,rfl⟩;have d0:wb.cell? ⟨wr.heap.size,0,none⟩=some (.int .i64 t.kind):=by rw[←jo.out];exact ah (aI wr _) 0 rfl
     have Jm:Hid (Jl w wb x (iJ (s.take i)+l)):=hid (by rw[←jo.out];exact HM.out.alloc _);rw[jo.out];clear t0 t1 t2;obtain⟨u1,u2,u3,u4,u5,u6,r1,r2,r3,r4,r5,r6,M6,k6⟩:=adr wb;have e0:=qW (P:=Tryz.prog) wb 216;have d6:=k6.cell id d0;have OH:=hid (Jm.out.qw k6);have hnx:Hid ((p.tests.take (l+1)).foldl jA x0=jA x t):=hid (by
      rw[List.take_add_one,HY.out,Option.toList_some,List.foldl_append,HXJ.out];rfl)
     have E8:=hid (CV OH.out.low t);obtain⟨x1,x2,x3⟩:=OH.out.cell;have hlow:=OH.out.low;obtain⟨l1,l2,l3⟩:=hlow;have hb1:=hbase.out;have fz:=aF OH.out.at_;have f0:=fz 0;have f1:=fz 1;have f2:=fz 2;obtain⟨xa,xb,xc⟩:=x;simp only at x1 x2 x3 l1 l2 l3;have hlk:=adt M6 t.kind;clear fz k6 M6;by_cases k3:t.kind=3
     ·have hy:Hid (jA ⟨xa,xb,xc⟩ t=⟨xa+1,xb,xc⟩):=hid (by simp[jA,k3]);have hlk2:(Instr.lookup 216 (.map (some wb.heap.size)) (.int .i64 t.kind) true).run Tryz.prog u6=.ok (.tuple #[.int .i64 0,.bool true]) u6:=by rw[hlk];simp[k3]
      rw[hy.out]at hnx E8;clear k3 hlk;go_wp2_with fail
      go_roundw
      case measure=>simp[intOf];omega
      case rel=>exact⟨l+1,_,by omega,by go_num,hid (OH.out.put 0 _ (by simp) E8.out),hnx⟩
     by_cases k1:t.kind=1
     ·have hy:Hid (jA ⟨xa,xb,xc⟩ t=⟨xa,xb,xc+1⟩):=hid (by simp[jA,k1]);have hlk2:(Instr.lookup 216 (.map (some wb.heap.size)) (.int .i64 t.kind) true).run Tryz.prog u6=.ok (.tuple #[.int .i64 2,.bool true]) u6:=by rw[hlk];simp[k1]
      rw[hy.out]at hnx E8;clear k3 k1 hlk;go_wp2_with fail
      go_roundw
      case measure=>simp[intOf];omega
      case rel=>exact⟨l+1,_,by omega,by go_num,hid (OH.out.put 2 _ (by simp) E8.out),hnx⟩
     by_cases k2:t.kind=2∨t.kind=4∨t.kind=5∨t.kind=6
     ·have hy:Hid (jA ⟨xa,xb,xc⟩ t=⟨xa,xb+1,xc⟩):=hid (by unfold jA;rw[if_neg k3,if_neg k1,if_pos k2]);have hlk2:(Instr.lookup 216 (.map (some wb.heap.size)) (.int .i64 t.kind) true).run Tryz.prog u6=.ok (.tuple #[.int .i64 1,.bool true]) u6:=by rw[hlk,if_neg k3,if_neg k1,if_pos k2];simp[k2]
      rw[hy.out]at hnx E8;clear k3 k1 k2 hlk;go_wp2_with fail
      go_roundw
      case measure=>simp[intOf];omega
      case rel=>exact⟨l+1,_,by omega,by go_num,hid (OH.out.put 1 _ (by simp) E8.out),hnx⟩
     have hy:Hid (jA ⟨xa,xb,xc⟩ t=⟨xa,xb,xc⟩):=hid (by unfold jA;rw[if_neg k3,if_neg k1,if_neg k2]);have hlk2:(Instr.lookup 216 (.map (some wb.heap.size)) (.int .i64 t.kind) true).run Tryz.prog u6=.ok (.tuple #[.int .i64 0,.bool false]) u6:=by rw[hlk,if_neg k3,if_neg k1,if_neg k2];simp[k1,k3,k2]
     rw[hy.out]at hnx E8;clear k3 k1 k2 hlk;go_wp2_with fail
     go_roundw
     case measure=>simp[intOf];omega
     case rel=>exact⟨l+1,_,by omega,by go_num,hid ⟨OH.out.at_,OH.out.res,OH.out.kept,E8.out⟩,hnx⟩
    obtain rfl:l=p.tests.length:=by omega
    have hnx:Hid ((s.take (i+1)).foldl FT ⟨0,0,0⟩=x):=hid (by
     rw[List.take_add_one,HX.out,Option.toList_some,List.foldl_append,HX0.out];have:=HXJ.out;rw[List.take_length]at this;exact this)
    have hlr:Hid (Jl w wr x (iJ (s.take (i+1)))):=hid ⟨HM.out.at_,HM.out.res,HM.out.kept,by rw[Pm.out];exact HM.out.low⟩;go_wp2_with fail
    go_roundw
    case measure=>simp[intOf];omega
    case rel=>exact⟨i+1,x,by omega,by go_num,hlr,hnx⟩
  obtain rfl:i=List.length s:=by omega
  obtain⟨x1,x2,x3⟩:=HL.out.cell;have r0:=aF HL.out.res 0;have r1:=aF HL.out.res 1;have r2:=aF HL.out.res 2;have q0:bU.cell? ⟨w.heap.size,0,none⟩=some (.int .i64 ((0:Nat):Int)):=ah HL.out.res 0 rfl;have q1:bU.cell? ⟨w.heap.size,1,none⟩=some (.int .i64 ((0:Nat):Int)):=ah HL.out.res 1 rfl;have q2:bU.cell? ⟨w.heap.size,2,none⟩=some (.int .i64 ((0:Nat):Int)):=ah HL.out.res 2 rfl;have hfin:Hid (qZ s=x0):=hid (by have:=HX0.out;rw[List.take_length]at this;exact this);go_wp2_with fail
  have hz:(((bU.setCell ⟨w.heap.size,0,none⟩ (.int .i64 (x0.a:Int))).setCell ⟨w.heap.size,1,none⟩ (.int .i64 (x0.b:Int))).setCell ⟨w.heap.size,2,none⟩ (.int .i64 (x0.c:Int))).heap[w.heap.size]?=some (.cells #[.int .i64 (x0.a:Int),.int .i64 (x0.b:Int),.int .i64 (x0.c:Int)] 119 (0,0)):=by
   have:=aW (aW (aW HL.out.res 0 (.int .i64 (x0.a:Int))) 1 (.int .i64 (x0.b:Int))) 2 (.int .i64 (x0.c:Int));simpa using this
  have kz:Kept (λ_=>False) w (((bU.setCell ⟨w.heap.size,0,none⟩ (.int .i64 (x0.a:Int))).setCell ⟨w.heap.size,1,none⟩ (.int .i64 (x0.b:Int))).setCell ⟨w.heap.size,2,none⟩ (.int .i64 (x0.c:Int))):=((HL.out.kept.setCell (p:=⟨w.heap.size,0,none⟩) (.inr (Nat.le_refl _)) _).setCell (p:=⟨w.heap.size,1,none⟩) (.inr (Nat.le_refl _)) _).setCell (p:=⟨w.heap.size,2,none⟩) (.inr (Nat.le_refl _)) _;generalize (((bU.setCell ⟨w.heap.size,0,none⟩ (.int .i64 (x0.a:Int))).setCell ⟨w.heap.size,1,none⟩ (.int .i64 (x0.b:Int))).setCell ⟨w.heap.size,2,none⟩ (.int .i64 (x0.c:Int)))=wz at *;have z0:wz.cell? ⟨w.heap.size,0,none⟩=some (.int .i64 (x0.a:Int)):=ah hz 0 rfl;have z1:wz.cell? ⟨w.heap.size,1,none⟩=some (.int .i64 (x0.b:Int)):=ah hz 1 rfl;have z2:wz.cell? ⟨w.heap.size,2,none⟩=some (.int .i64 (x0.c:Int)):=ah hz 2 rfl;refine bodyPost_ret (v:=vX x0) (by simp[results,Tryz.results100,go_sem,z0,z1,z2,vX]) rfl ?_;rw[hfin.out];exact⟨rfl,kz⟩
theorem Qh(w:World)(x y:lX)(hx:x.low 1048576)(hy:y.low 1048576):
  Calls Tryz.prog 91 #[.agg #[.int .i64 (x.a:Int),.int .i64 (x.b:Int),.int .i64 (x.c:Int)],.agg #[.int .i64 (y.a:Int),.int .i64 (y.b:Int),.int .i64 (y.c:Int)]] w λe w'=>e=.returned (.bool (oI x y))∧Kept (λ_=>False) w w':=by
 have HX:=hid hx;have HY:=hid hy;obtain⟨wa,gX⟩:∃z,Hid ((w.alloc (.cells #[.int .i64 (x.a:Int),.int .i64 (x.b:Int),.int .i64 (x.c:Int)] 119 (0,0))).alloc (.cells #[.int .i64 (y.a:Int),.int .i64 (y.b:Int),.int .i64 (y.c:Int)] 119 (0,0))=z):=⟨_,rfl⟩;have hxa:pF wa w.heap.size x:=by rw[←gX.out];exact iw (aI w _) _
 have hya:pF wa (w.heap.size+1) y:=by
  rw[←gX.out];have:=aI (w.alloc (.cells #[.int .i64 (x.a:Int),.int .i64 (x.b:Int),.int .i64 (x.c:Int)] 119 (0,0))) (.cells #[.int .i64 (y.a:Int),.int .i64 (y.b:Int),.int .i64 (y.c:Int)] 119 (0,0));simpa [pF] using this
 have KA:Hid (Kept (λ_=>False) w wa):=hid (by rw[←gX.out];exact((Kept.refl _ w).alloc _).alloc _);have HXA:=hid hxa;have HYA:=hid hya;obtain⟨r,HR⟩:∃r,Hid (oI x y=r):=⟨_,rfl⟩;rw[HR.out];clear hx hy hxa hya;obtain⟨j1,hj1,hy0,hy1,hy2⟩:=info_parts (show(Tryz.prog.info? 3).map (λi=>(i.zero,i.size,i.bytes))=some (some (.int .i64 0),1,8) by kernel_rfl);go_enter Tryz.func91,Tryz.ntmps91
 go_upto_block 0 with fail
 rw[gX.out];go_wp2_with fail
 go_loopw [6] (λi wr=>∃k:Nat,k≤3∧i=.int .i64 k∧(∃n,wr=wa.drewN n)∧Hid (FW x y k)) (λi _=>3-(intOf i).toNat)
 case atStart=>exact⟨0,by omega,rfl,⟨0,rfl⟩,hid ⟨by omega,by omega,by omega⟩⟩
 case round=>
  obtain⟨k,hk,rfl,⟨n0,rfl⟩,HS⟩:=hrel;by_cases hlt:k<3
  ·obtain⟨u,v,c1,c2,hu,hv,hA,hB,hC⟩:=Pn (w:=wa) (HXA.out.ints) (HYA.out.ints) HX.out HY.out hlt HS.out;have HA:=hid hA;have HB:=hid hB;have HC:=hid hC;clear hA hB hC;have ed:decide ((k:Int)<3)=true:=by simp;omega
   have ee:decide (3≤(k:Int))=false:=by simp;omega
   have e9:(k:Int)<3:=by omega
   rw[Nat.zero_add]at c1 c2;by_cases g1:u<v
   ·have hr:Hid (true=r):=hid (by rw[←HR.out];exact(HA.out g1).2.symm);have e1:((u:Int)==(v:Int))=false:=by simp;omega
    have e2:decide ((u:Int)<(v:Int))=true:=by simp;omega
    go_upto_region 4 with fail
    go_quiet (fail)
    go_upto_region 5 with fail
    go_quiet (fail)
    go_wp2_with fail
    go_ret
    exact⟨eu hr.out,((KA.out.drewN _).drewN _).drewN _⟩
   by_cases g2:v<u
   ·have hr:Hid (false=r):=hid (by rw[←HR.out];exact(CX (HB.out g2)).symm);have e1:((u:Int)==(v:Int))=false:=by simp;omega
    have e2:decide ((u:Int)<(v:Int))=false:=by simp;omega
    go_upto_region 4 with fail
    go_quiet (fail)
    go_upto_region 5 with fail
    go_quiet (fail)
    go_wp2_with fail
    go_ret
    exact⟨eu hr.out,((KA.out.drewN _).drewN _).drewN _⟩
   have e3:u=v:=by omega
   subst e3;have hs:=HC.out rfl;go_upto_region 4 with fail
   go_quiet (fail)
   go_wp2_with fail
   go_roundw
   case measure=>simp[intOf];omega
   case rel=>exact⟨k+1,by omega,by go_num,⟨_,rfl⟩,hid hs⟩
  obtain rfl:k=3:=by omega
  go_wp2_with fail
  go_ret
  refine⟨eu ?_,KA.out.drewN _⟩;rw[←HR.out];obtain⟨s0,s1,s2⟩:=HS.out;have h1:=s0 (by omega);have h2:=s1 (by omega);have h3:=s2 (by omega);simp[oI];omega
theorem Kv(ns:List ak)(hns:AU ns)(r:au)(u:Value)(m:Int)(w:World)(v:Value)(k:Int)(hv:aX w v ns)(hr:rC w u r)(hf:ru r.aZ)(hk : -9223372036854775808≤k∧k≤9223372036854775807)(hm:w.cell? ⟨0,0,none⟩=some (.int .i64 m)):
  Calls Tryz.prog 61 #[v,.int .i64 k,MR r u] w (Po w (kD ns k r.aZ)):=by
 obtain⟨sv,dv,rfl,hs,hd⟩:=hr;obtain⟨na,qj,rfl,EM,pJ⟩:=hv.form;unfold maxLen at pJ;have apq:=hns.few;obtain⟨sa,scap,rfl,hsc1,hsc2⟩:=bH.form hs;obtain⟨da,yC,rfl,Pv,wJ⟩:=bC.form hd;unfold maxLen at hsc2 wJ;have hfew:=hf.1;have HV:=hid hv;have HSL:=hid hs;have HF:=hid hf.2;have HM:=hid hm;have HK:=hid hk;clear hv hs hd hf hm;show Calls Tryz.prog 61 #[.slice na ns.length qj,.int .i64 k,.agg #[.string (str r.ay),.slice sa r.aZ.length scap,.slice da r.decls.length yC,.int .i64 r.lo,.int .i64 r.hi]] w _
 have hb0:XK w (((w.alloc (.cells #[.string (str r.ay),.slice sa r.aZ.length scap,.slice da r.decls.length yC,.int .i64 r.lo,.int .i64 r.hi] 42 (0,0))).alloc (.cells #[.int .i64 0,.int .i64 0,.int .i64 0] 119 (0,0))).alloc (.cells #[.int .i64 0,.int .i64 0,.int .i64 0] 119 (0,0))) (w.heap.size+1) (⟨0,0,0⟩,false):=by
  refine⟨?_,?_,by omega,(((Kept.refl _ w).alloc _).alloc _).alloc _,Nat.zero_le _,Nat.zero_le _,Nat.zero_le _⟩
  ·have:=aI ((w.alloc (.cells #[.string (str r.ay),.slice sa r.aZ.length scap,.slice da r.decls.length yC,.int .i64 r.lo,.int .i64 r.hi] 42 (0,0))).alloc (.cells #[.int .i64 0,.int .i64 0,.int .i64 0] 119 (0,0))) (.cells #[.int .i64 0,.int .i64 0,.int .i64 0] 119 (0,0));simpa [pF] using this
  have:=aI (w.alloc (.cells #[.string (str r.ay),.slice sa r.aZ.length scap,.slice da r.decls.length yC,.int .i64 r.lo,.int .i64 r.hi] 42 (0,0))) (.cells #[.int .i64 0,.int .i64 0,.int .i64 0] 119 (0,0));exact iw (by simpa [pF] using this) _
 have HB0:=hid hb0;clear hb0;go_enter Tryz.func61,Tryz.ntmps61
 go_wp2_with fail
 obtain⟨i0,hi0,hz0,hz1,hz2⟩:=info_parts AX;obtain⟨j0,hj0,hy0,hy1,hy2⟩:=info_parts sN;go_loopw [9,15] (λf i wr=>∃(j:Nat) (acc:lX×Bool),j≤List.length r.aZ∧i=.int .i64 j∧f=.bool acc.2∧Hid (XK w wr (w.heap.size+1) acc)∧Hid ((r.aZ.take j).foldl (jc ns k) (⟨0,0,0⟩,false)=acc)) (λ_ i _=>List.length r.aZ-(intOf i).toNat)
 case atStart=>exact⟨0,(⟨0,0,0⟩,false),by omega,rfl,rfl,HB0,hid rfl⟩
 case round=>
  obtain⟨j,acc,hj,rfl,rfl,HL,HX0⟩:=hrel;obtain⟨bU,hwr0⟩:∃x,x=wr:=⟨_,rfl⟩;subst hwr0;by_cases hlt:j<List.length r.aZ
  ·have hx:=List.getElem?_eq_getElem hlt;generalize hgx:r.aZ[j]=s at hx;clear hgx;obtain⟨pb,po,pv,rfl,hpc,hpt⟩:=bH.at HSL.out hx;have p0:bU.cell? ⟨pb,po+j,none⟩=some pv:=HL.out.kept.cell id (by have:=hpc 0 _ rfl;simpa using this);obtain⟨pa,pc,rfl,TQ,zC⟩:=bH.form hpt;unfold maxLen at zC;have OE:=hid (fP.kept hpt HL.out.kept);have hnx:Hid ((r.aZ.take (j+1)).foldl (jc ns k) (⟨0,0,0⟩,false)=jc ns k acc s):=hid (by
    rw[List.take_add_one,hx,Option.toList_some,List.foldl_append,HX0.out];rfl)
   have Pm:=hid (HF.out s (List.mem_of_getElem? hx));obtain⟨hit,HIT⟩:∃x,Hid (mV ns k s=x):=⟨_,rfl⟩;clear hx hpc hpt;have hmm:Hid ((!s.isEmpty&&(vW ns k&&CU ns s.reverse k))=hit):=hid (by
    rw[←HIT.out];unfold mV;cases hin:vW ns k with
    | true=>simp
    | false=>rw[WQ hin];rfl)
   obtain⟨⟨xa,xb,xc⟩,done⟩:=acc;have hno:Hid (hit=false→jc ns k (⟨xa,xb,xc⟩,done) s=(⟨xa,xb,xc⟩,done)):=hid (λh=>by unfold jc;rw[HIT.out,h];rfl);by_cases hk0:k<0
   ·have hf:hit=false:=by
     rw[←hmm.out];have:vW ns k=false:=by simp[vW];omega
     rw[this];simp
    rw[hno.out hf]at hnx;clear hf;go_wp2_with fail
    go_roundw
    case measure=>simp[intOf];omega
    case rel=>exact⟨j+1,_,by omega,by go_num,by trivial,HL,hnx⟩
   by_cases hk1:(List.length ns:Int)≤k
   ·have hf:hit=false:=by
     rw[←hmm.out];have:vW ns k=false:=by simp[vW];omega
     rw[this];simp
    rw[hno.out hf]at hnx;clear hf;go_wp2_with fail
    go_roundw
    case measure=>simp[intOf];omega
    case rel=>exact⟨j+1,_,by omega,by go_num,by trivial,HL,hnx⟩
   by_cases hs0:List.length s=0
   ·have hf:hit=false:=by rw[←hmm.out,List.length_eq_zero_iff.1 hs0];rfl
    have gz:((List.length s:Int)==0)=true:=by simp[hs0]
    rw[hno.out hf]at hnx;clear hf hs0;go_wp2_with fail
    go_roundw
    case measure=>simp[intOf];omega
    case rel=>exact⟨j+1,_,by omega,by go_num,by trivial,HL,hnx⟩
   have gz:((List.length s:Int)==0)=false:=by simp;exact λh=>hs0 (by rw[h];rfl)
   obtain⟨kn,Dl⟩:∃n:Nat,Hid (k=(n:Int)):=⟨k.toNat,hid (by omega)⟩;have hkl:kn<ns.length:=by have:=Dl.out;omega
   have hsl:(List.length s:Int)-1=((List.length s-1:Nat):Int):=by omega
   have Px:=Ul ns hns s (List.length s-1) (by omega) bU _ _ kn hkl (aO.kept HV.out HL.out.kept) OE.out;rw[show List.length s-1+1=List.length s by omega,List.take_length,←Dl.out]at Px;have hmt:CU ns s.reverse k=hit:=by
    rw[←hmm.out];have h1:s.isEmpty=false:=by rw[List.isEmpty_eq_false_iff];intro h;rw[h]at hs0;exact hs0 rfl
    have h2:vW ns k=true:=by have:=Dl.out;simp[vW];omega
    rw[h1,h2];simp
   rw[hmt]at Px;replace Px:=hid Px;clear hmt hs0;cases hit with
   | false=>
    rw[hno.out rfl]at hnx;go_wp2_with (go_at_call 99;refine Px.out.mono ?_;rintro e w3 ⟨rfl,hk3⟩)
    go_roundw
    case measure=>simp[intOf];omega
    case rel=>exact⟨j+1,_,by omega,by go_num,by trivial,hid (HL.out.nT hk3),hnx⟩
   | true=>
    obtain⟨⟨ya,yb,yc⟩,JZ⟩:∃x,Hid (qZ s=x):=⟨_,rfl⟩;have HYL:Hid (lX.low ⟨ya,yb,yc⟩ 1048576):=hid (low_mono (by rw[←JZ.out];exact CW s) Pm.out);have hn2:Hid (jc ns k (⟨xa,xb,xc⟩,done) s=if (!done||oI ⟨xa,xb,xc⟩ ⟨ya,yb,yc⟩)=true then (⟨ya,yb,yc⟩,true) else (⟨xa,xb,xc⟩,done)):=hid (by unfold jc;rw[HIT.out,JZ.out];simp);rw[hn2.out]at hnx;clear hn2;have HW:Hid (∀(wz:World),Kept (λ_=>False) bU wz→Calls Tryz.prog 100 #[.slice pa s.length pc] wz λe w'=>e=.returned (.agg #[.int .i64 (ya:Int),.int .i64 (yb:Int),.int .i64 (yc:Int)])∧Kept (λ_=>False) wz w'):=hid λwz hz=>by
     have:=Uo s wz _ (fP.kept OE.out hz) Pm.out;rw[JZ.out]at this;exact this
    go_upto_region 7 with(go_at_call 99;refine Px.out.mono ?_;rintro e w3 ⟨rfl,hk3⟩)
    have oJ:=hid hk3;have vg:=hid (HL.out.nT hk3);clear hk3 p0;cases done with
    | false=>
     have hn2:(if (!false||oI ⟨xa,xb,xc⟩ ⟨ya,yb,yc⟩)=true then ((⟨ya,yb,yc⟩:lX),true) else ((⟨xa,xb,xc⟩:lX),false))=(⟨ya,yb,yc⟩,true):=rfl;rw[hn2]at hnx;clear hn2;go_wp2_with fail
     go_quiet (fail)
     go_upto_region 8 with fail
     obtain⟨w4,Dn⟩:∃z,Hid (w3.drewN nq=z):=⟨_,rfl⟩;rw[Dn.out];have k34:Kept (λ_=>False) w3 w4:=by rw[←Dn.out];exact(Kept.refl _ w3).drewN nq
     have FX:=hid (vg.out.nT k34);go_wp2_with fail
     refine(HW.out w4 (oJ.out.trans k34)).mono ?_;rintro e w5 ⟨rfl,hk5⟩;have ZM:=hid (FX.out.nT hk5);have fz:=aF ZM.out.at_;have f0:=fz 0;have f1:=fz 1;have f2:=fz 2;obtain⟨z1,z2,z3⟩:=ZM.out.at_.ints;clear fz;go_wp2_with fail
     go_roundw
     case measure=>simp[intOf];omega
     case rel=>exact⟨j+1,_,by omega,by go_num,by trivial,hid (ZM.out.put ya yb yc HYL.out true),hnx⟩
    | true=>
     obtain⟨lt,Ti⟩:∃b,Hid (oI ⟨xa,xb,xc⟩ ⟨ya,yb,yc⟩=b):=⟨_,rfl⟩;have HLS:Hid (∀(wz:World),Calls Tryz.prog 91 #[.agg #[.int .i64 (xa:Int),.int .i64 (xb:Int),.int .i64 (xc:Int)],.agg #[.int .i64 (ya:Int),.int .i64 (yb:Int),.int .i64 (yc:Int)]] wz λe w'=>e=.returned (.bool lt)∧Kept (λ_=>False) wz w'):=hid λwz=>by
      have:=Qh wz ⟨xa,xb,xc⟩ ⟨ya,yb,yc⟩ HL.out.low HYL.out;rw[Ti.out]at this;exact this
     obtain⟨x1,x2,x3⟩:=vg.out.at_.ints;go_region_held3 (λw'=>w'.cell? ⟨w.heap.size+1+1,0,none⟩=some (.int .i64 (xa:Int))∧w'.cell? ⟨w.heap.size+1+1,1,none⟩=some (.int .i64 (xb:Int))∧w'.cell? ⟨w.heap.size+1+1,2,none⟩=some (.int .i64 (xc:Int))) (first | exact⟨hk6.cell id x1,hk6.cell id x2,hk6.cell id x3⟩ | exact⟨hk5.cell id x1,hk5.cell id x2,hk5.cell id x3⟩ | go_keep)
      ((first
       | (go_at_call 100;refine(HW.out _ (by first | exact oJ.out.drew | exact oJ.out)).mono ?_;rintro e w5 ⟨rfl,hk5⟩;have hk5:Kept (λ_=>False) w3 w5:=(Kept.refl _ w3).drew.trans hk5)
       | (go_at_call 91;refine(HLS.out _).mono ?_;rintro e w6 ⟨rfl,hk6⟩;have hk6:Kept (λ_=>False) w3 w6:=hk5.trans hk6)))
     cases lt with
     | true=>
      have hn2:(if (!true||oI ⟨xa,xb,xc⟩ ⟨ya,yb,yc⟩)=true then ((⟨ya,yb,yc⟩:lX),true) else ((⟨xa,xb,xc⟩:lX),true))=(⟨ya,yb,yc⟩,true):=by rw[Ti.out];rfl
      rw[hn2]at hnx;clear hn2;go_upto_region 8 with fail
      have OH:=hid (vg.out.nT hk6);go_wp2_with fail
      refine(HW.out w6 (oJ.out.trans hk6)).mono ?_;rintro e w7 ⟨rfl,jD⟩;have HL7:=hid (OH.out.nT jD);have fz:=aF HL7.out.at_;have f0:=fz 0;have f1:=fz 1;have f2:=fz 2;obtain⟨z1,z2,z3⟩:=HL7.out.at_.ints;clear fz;go_wp2_with fail
      go_roundw
      case measure=>simp[intOf];omega
      case rel=>exact⟨j+1,_,by omega,by go_num,by trivial,hid (HL7.out.put ya yb yc HYL.out true),hnx⟩
     | false=>
      have hn2:(if (!true||oI ⟨xa,xb,xc⟩ ⟨ya,yb,yc⟩)=true then ((⟨ya,yb,yc⟩:lX),true) else ((⟨xa,xb,xc⟩:lX),true))=(⟨xa,xb,xc⟩,true):=by rw[Ti.out];rfl
      rw[hn2]at hnx;clear hn2;go_wp2_with fail
      go_roundw
      case measure=>simp[intOf];omega
      case rel=>exact⟨j+1,_,by omega,by go_num,by trivial,hid (vg.out.nT hk6),hnx⟩
  obtain⟨⟨xa,xb,xc⟩,done⟩:=acc;obtain rfl:j=List.length r.aZ:=by omega
  have HE:Hid (kD ns k r.aZ=(⟨xa,xb,xc⟩,done)):=hid (by unfold kD;rw[←HX0.out,List.take_length]);obtain⟨x1,x2,x3⟩:=HL.out.at_.ints;have hres:=HL.out.res;have fz:=aF hres;have f0:=fz 0;have f1:=fz 1;have f2:=fz 2;obtain⟨q0,q1,q2⟩:=hres.ints;simp only at x1 x2 x3 q0 q1 q2;clear fz;go_wp2_with fail
  have hz:(((bU.setCell ⟨w.heap.size+1,0,none⟩ (.int .i64 (xa:Int))).setCell ⟨w.heap.size+1,1,none⟩ (.int .i64 (xb:Int))).setCell ⟨w.heap.size+1,2,none⟩ (.int .i64 (xc:Int))).heap[w.heap.size+1]?=some (.cells #[.int .i64 (xa:Int),.int .i64 (xb:Int),.int .i64 (xc:Int)] 119 (0,0)):=by
   have:=aW (aW (aW hres 0 (.int .i64 (xa:Int))) 1 (.int .i64 (xb:Int))) 2 (.int .i64 (xc:Int));simpa using this
  have kz:Kept (λ_=>False) w (((bU.setCell ⟨w.heap.size+1,0,none⟩ (.int .i64 (xa:Int))).setCell ⟨w.heap.size+1,1,none⟩ (.int .i64 (xb:Int))).setCell ⟨w.heap.size+1,2,none⟩ (.int .i64 (xc:Int))):=((HL.out.kept.setCell (p:=⟨w.heap.size+1,0,none⟩) (.inr (by show w.heap.size≤w.heap.size+1;omega)) _).setCell (p:=⟨w.heap.size+1,1,none⟩) (.inr (by show w.heap.size≤w.heap.size+1;omega)) _).setCell (p:=⟨w.heap.size+1,2,none⟩) (.inr (by show w.heap.size≤w.heap.size+1;omega)) _;generalize (((bU.setCell ⟨w.heap.size+1,0,none⟩ (.int .i64 (xa:Int))).setCell ⟨w.heap.size+1,1,none⟩ (.int .i64 (xb:Int))).setCell ⟨w.heap.size+1,2,none⟩ (.int .i64 (xc:Int)))=wz at *;have z0:wz.cell? ⟨w.heap.size+1,0,none⟩=some (.int .i64 (xa:Int)):=ah hz 0 rfl;have z1:wz.cell? ⟨w.heap.size+1,1,none⟩=some (.int .i64 (xb:Int)):=ah hz 1 rfl;have z2:wz.cell? ⟨w.heap.size+1,2,none⟩=some (.int .i64 (xc:Int)):=ah hz 2 rfl;refine bodyPost_ret (v:=.tuple #[vX ⟨xa,xb,xc⟩,.bool done]) (by simp[results,Tryz.results61,go_sem,z0,z1,z2,vX]) rfl ?_;rw[HE.out];exact⟨rfl,kz⟩
theorem aaK{w:World}{b size:Nat}{rows:List (List Value)}{cs:Array Value}{t:TypeId}{fz:Nat×Nat}(h:w.heap[b]?=some (.cells cs t fz))(hc:cs=rows.flatten.toArray)(hl:∀r∈rows,r.length=size){n:Nat}(hn:n=rows.length)(hm:rows.length≤maxLen):
  aH w size (.slice (some ⟨b,0,none⟩) n n) rows:=by
 subst hn;refine⟨_,_,rfl,Nat.le_refl _,hm,λ_=>⟨_,_,rfl,λi r hr j c hj=>?_⟩⟩;subst hc;rw[show 0+i*size+j=i*size+j by omega];exact ah h _ (by rw[List.getElem?_toArray];exact sV size rows hl i r hr j c hj)
def jM(p:Nat×B):List Value:=[.int .i64 (p.1:Int),.string (str p.2)]
theorem Yf:(Tryz.prog.info? 86).map (λi=>(i.zero,i.size,i.bytes))=some (some (.agg #[.int .i64 0,.string ⟨#[]⟩]),2,24):=by kernel_rfl
structure TLp(w wr:World)(v:Value)(ps:List (Nat×B)):Prop where
 own:wr.ownsRow w.heap.size 86 2 v ps.length (ps.map jM).flatten
 kept:Kept (λ_=>False) w wr
theorem TLp.qw{w wr wx:World}{v:Value}{ps:List (Nat×B)}(h:TLp w wr v ps)(hk:Kept (λ_=>False) wr wx):TLp w wx v ps:=⟨aK h.own hk (λ_ _=>id),h.kept.trans hk⟩
theorem TLp.push{w wr:World}{ao:Option Addr}{ac:Nat}{ps:List (Nat×B)}(h:TLp w wr (.slice ao ps.length ac) ps)(p:Nat×B)(hq:ps.length≤4398100000000):
  ∃a' c' w',(Builtin.append_ #[81,81] 81 #[.slice ao ps.length ac,.slice (some ⟨wr.heap.size,0,none⟩) 1 1]).run Tryz.prog (wr.alloc (.cells #[.int .i64 (p.1:Int),.string (str p.2)] 86 (0,0)))=.ok (.slice a' (ps.length+1) c') w'∧TLp w w' (.slice a' (ps.length+1) c') (ps++[p]) ∧
   ∀kk o,¬(Value.slice ao ps.length ac).ownBlock=some kk→wr.heap[kk]?=some o→w'.heap[kk]?=some o:=by
 obtain⟨i0,hi0,hz0,hz1,hz2⟩:=info_parts Yf;obtain⟨wa,gX⟩:∃x,wr.alloc (.cells #[.int .i64 (p.1:Int),.string (str p.2)] 86 (0,0))=x:=⟨_,rfl⟩;have hb:wa.heap[wr.heap.size]?=some (.cells #[.int .i64 (p.1:Int),.string (str p.2)] 86 (0,0)):=by rw[←gX];exact aI wr _
 have hka:Kept (λ_=>False) wr wa:=by rw[←gX];exact(Kept.refl _ wr).alloc _
 obtain⟨h2,hk⟩:=h.qw hka;obtain⟨a',c',w',hr',ho',k',_⟩:=kH (P:=Tryz.prog) wa 81 81 w.heap.size 86 i0 _ 2 24 Tryz.underlying81 hi0 hz0 hz1 hz2 rfl (by omega) ao ps.length ac _ h2 (some ⟨wr.heap.size,0,none⟩) 1 1 [jM p] (aaK hb rfl (by simp[jM]) rfl (by simp[maxLen])) (by simp[jM]) (by simp[jM,Value.oneCell']) (by unfold maxLen;omega) (by omega) hk.size;rw[gX];refine⟨a',c',w',hr',⟨?_,hk.trans' k' (λi hi hx=>?_)⟩,λkk o hn hh=>k'.heap hn (hka.heap id hh)⟩
 ·rw[List.length_append,List.map_append,List.flatten_append];exact ho'
 have:=(h2.lt i hx).1;omega
def dJ(ns:List ak)(r:au)(i:Nat):List (Nat×B):=(List.range i).flatMap (touchAt ns r)
theorem zG(ns:List ak)(r:au)(i:Nat):dJ ns r (i+1)=dJ ns r i++touchAt ns r i:=by
 unfold dJ;rw[List.range_succ,List.flatMap_append];simp
theorem Kw(ns:List ak)(r:au):∀i,(dJ ns r i).length≤i*(iQ r).length
 | 0=>by simp[dJ]
 | i+1=>by
  have:=Kw ns r i;rw[zG,List.length_append,Nat.succ_mul];have h2:(touchAt ns r i).length≤(iQ r).length:=by unfold touchAt;split<;>simp
  omega
theorem Qi(ns:List ak)(hns:AU ns)(r:au)(hft:ru r.aZ)(hev:∀d∈r.decls,d.val.length≤1048576)(hed:r.decls.length≤1048576)(m:Int)(w:World)(v u:Value)(b o:Nat)(hv:aX w v ns)(hcs:∀(j:Nat) (c:Value),(bI r u)[j]?=some c→w.cell? ⟨b,o+j,none⟩=some c)(PI:rC w u r)(hm:w.cell? ⟨0,0,none⟩=some (.int .i64 m)):
  Calls Tryz.prog 40 #[v,.pointer (some ⟨b,o,none⟩)] w λe w'=>∃pv base,e=.returned pv∧Kept (λ_=>False) w w'∧w.heap.size≤base∧w'.ownsRow base 86 2 pv (touches ns r).length ((touches ns r).map jM).flatten:=by
 obtain⟨na,qj,rfl,EM,pJ⟩:=hv.form;unfold maxLen at pJ;have HRU:=hid PI;obtain⟨sv,dv,rfl,hss,hds⟩:=PI;obtain⟨sa,sc,rfl,hsc1,hsc2⟩:=bH.form hss;obtain⟨da,dc,rfl,Pv,wJ⟩:=bC.form hds;unfold maxLen at hsc2 wJ;have c0:w.cell? ⟨b,o,none⟩=some (.string (str r.ay)):=hcs 0 _ rfl;have c1:w.cell? ⟨b,o+1,none⟩=some (.slice sa r.aZ.length sc):=hcs 1 _ rfl;have c2:w.cell? ⟨b,o+2,none⟩=some (.slice da r.decls.length dc):=hcs 2 _ rfl;have c3:w.cell? ⟨b,o+3,none⟩=some (.int .i64 r.lo):=hcs 3 _ rfl;have c4:w.cell? ⟨b,o+4,none⟩=some (.int .i64 r.hi):=hcs 4 _ rfl;have hfew:=hns.few;have HNS:=hid hns;have HFT:=hid hft;have HV:=hid hv;have HM:=hid hm;obtain⟨dl,xW⟩:∃x,Hid (iQ r=x):=⟨_,rfl⟩;have Kq:dl.length≤4194304:=by
  rw[←xW.out];unfold iQ;cases hp:fH r.decls with
  | none=>simp
  | some d=>have:=rD hp;simp;omega
 have HAA:Hid (Calls Tryz.prog 32 #[.slice da r.decls.length dc] w λe w'=>∃xa xc er,e=.returned (.tuple #[.slice xa dl.length xc,.int .i64 er])∧Kept (λ_=>False) w w'∧bC w' (.slice xa dl.length xc) dl):=hid (by
  refine(Bc w _ r.decls hds (by omega) hev m hm).mono λe w' he=>?_
  rw[←xW.out];unfold iQ;cases hp:fH r.decls with
  | none=>
   rw[hp]at he;exact⟨none,0,5,he.1,Kept.of_below he.2,aH.nil _ _⟩
  | some d=>
   rw[hp]at he;obtain⟨xv,h1,h2,h3⟩:=he;obtain⟨xa,xc,rfl,_,_⟩:=dD.form h3;exact⟨xa,xc,0,h1,Kept.of_below h2,h3.1⟩)
 clear hns hft hv hcs hss hds hm hev;go_enter Tryz.func40,Tryz.ntmps40
 go_wp2_with fail
 refine HAA.out.mono ?_;rintro e w2 ⟨xa,xc,er,rfl,hk2,hx2⟩;obtain⟨_,_,he,ahR,aaM⟩:=bC.form hx2;cases he;unfold maxLen at aaM;have iO:=hid hk2;have HX2:=hid hx2;clear hk2 hx2;go_wp2_with fail
 go_loopw [5,23] (λv c wr=>∃i:Nat,i≤ns.length∧c=.int .i64 (i:Int)∧Hid (TLp w2 wr v (dJ ns r i))) (λ_ c _=>ns.length-(intOf c).toNat)
 case atStart=>exact⟨0,by omega,rfl,hid ⟨World.ownsRow_nil _ _ _ _,Kept.refl _ _⟩⟩
 case round=>
  obtain⟨i,hi,rfl,HL⟩:=hrel;obtain⟨bU,hwr0⟩:∃x,x=wr:=⟨_,rfl⟩;subst hwr0;obtain⟨vo,vc,rfl⟩:=dw HL.out.own;by_cases hlt:i<ns.length
  ·have HST:=hid (zG ns r i);have hql:=Kw ns r i;have hqb:(dJ ns r i).length≤4398046511104:=by
    rw[xW.out]at hql;have:i*dl.length≤1048576*4194304:=Nat.mul_le_mul (by omega) Kq;omega
   have qm:=hid (iO.out.trans HL.out.kept);have d0:=qm.out.cell id c0;have d1:=qm.out.cell id c1;have d2:=qm.out.cell id c2;have d3:=qm.out.cell id c3;have d4:=qm.out.cell id c4;obtain⟨⟨⟨ya,yb,yc⟩,ok⟩,yD⟩:∃x,Hid (kD ns (i:Int) r.aZ=x):=⟨_,rfl⟩;have XY:Hid (Calls Tryz.prog 84 #[.slice na ns.length qj,.int .i64 (i:Int),.agg #[.string (str r.ay),.slice sa r.aZ.length sc,.slice da r.decls.length dc,.int .i64 r.lo,.int .i64 r.hi]] bU λe w'=>e=.returned (.tuple #[.agg #[.int .i64 (ya:Int),.int .i64 (yb:Int),.int .i64 (yc:Int)],.bool ok])∧Kept (λ_=>False) bU w'):=hid (by
    have:=Pq ns HNS.out r (.tuple #[.slice sa r.aZ.length sc,.slice da r.decls.length dc]) m bU _ (i:Int) (aO.kept HV.out qm.out) (xX.kept HRU.out qm.out) HFT.out (by omega) (qm.out.cell id HM.out);rw[yD.out]at this;exact this)
   clear hql;go_wp2_with fail
   refine XY.out.mono ?_;rintro e w3 ⟨rfl,hk3⟩;go_upto_region 7 with fail
   obtain⟨wa,gX⟩:∃x,Hid (w3.alloc (.cells #[.int .i64 (ya:Int),.int .i64 (yb:Int),.int .i64 (yc:Int)] 119 (0,0))=x):=⟨_,rfl⟩;have FU:Hid (TLp w2 wa (.slice vo (dJ ns r i).length vc) (dJ ns r i)):=hid (HL.out.qw (by rw[←gX.out];exact hk3.alloc _));rw[gX.out];clear d0 d1 d2 d3 d4 hk3;cases ok with
   | false=>
    have hsk:Hid (dJ ns r (i+1)=dJ ns r i):=hid (by rw[HST.out];unfold touchAt;rw[yD.out];simp);go_wp2_with fail
    go_roundw
    case measure=>simp[intOf];omega
    case rel=>exact⟨i+1,by omega,by go_num,hid (by rw[hsk.out];exact FU.out)⟩
   | true=>
    have hsk:Hid (dJ ns r (i+1)=dJ ns r i++dl.map λd=>(i,d.name)):=hid (by rw[HST.out];unfold touchAt;rw[yD.out,xW.out];simp);generalize dJ ns r i=q0 at *;go_wp2_with fail
    go_loopw [5,39] (λv c wx=>∃j:Nat,j≤dl.length∧c=.int .i64 (j:Int)∧Hid (TLp w2 wx v (q0++(dl.take j).map λd=>(i,d.name)))) (λ_ c _=>dl.length-(intOf c).toNat)
    case atStart=>exact⟨0,by omega,rfl,hid (by simpa using FU.out)⟩
    case round=>
     obtain⟨j,hj,rfl,HI⟩:=hrel;obtain⟨jk,nD⟩:∃x,x=wr:=⟨_,rfl⟩;subst nD;obtain⟨ao,ac,rfl⟩:=dw HI.out.own;by_cases hjlt:j<dl.length
     ·have hy:=List.getElem?_eq_getElem hjlt;generalize qX:dl[j]=x at hy;clear qX;obtain⟨db,XZ,rfl,t0,t1,t2⟩:=bC.at (aH.below HX2.out HI.out.kept.below) hy;have hnx:Hid ((q0++(dl.take (j+1)).map λd=>(i,d.name))=(q0++(dl.take j).map λd=>(i,d.name))++[(i,x.name)]):=hid (by rw[List.take_add_one,hy,Option.toList_some];simp);have hle:(q0++(dl.take j).map λd=>(i,d.name)).length≤4398100000000:=by simp;omega
      generalize (q0++(dl.take j).map λd=>(i,d.name))=q1 at *;go_upto_region 11 with fail
      obtain⟨wd,mM⟩:∃x',Hid (jk.alloc (.cells #[.string (str x.name),.string (str x.val),.bool x.strong] 59 (0,0))=x'):=⟨_,rfl⟩;have f0:wd.cell? ⟨jk.heap.size,0,none⟩=some (.string (str x.name)):=by rw[←mM.out];exact ah (aI jk _) 0 rfl
      have Ua:Hid (TLp w2 wd (.slice ao q1.length ac) q1):=hid (HI.out.qw (by rw[←mM.out];exact(Kept.refl _ jk).alloc _));obtain⟨a',c',w',hr',hl',_⟩:=Ua.out.push (i,x.name) hle;have HR':=hid hr';have HL':=hid hl';rw[mM.out];clear t0 t1 t2 hy hr' hl';go_wp2_with (at_builtin;refine gK (by rfl) _ _ _ rfl _ _ _ rfl rfl _ HR'.out ?_)
      go_roundw
      case measure=>simp[intOf];omega
      case rel=>exact⟨j+1,by omega,by go_num,hid (by rw[hnx.out];exact HL'.out)⟩
     obtain rfl:j=dl.length:=by omega
     have hfin:Hid (TLp w2 jk (.slice ao (q0++(dl.take dl.length).map λd=>(i,d.name)).length ac) (dJ ns r (i+1))):=hid (by
      rw[hsk.out];have h1:=HI.out;rw[List.take_length]at h1 ⊢;exact h1)
     go_wp2_with fail
     go_roundw
     case measure=>simp[intOf];omega
     case rel=>exact⟨i+1,by omega,by go_num,hfin⟩
  obtain rfl:i=ns.length:=by omega
  go_wp2_with fail
  go_ret
  exact⟨_,w2.heap.size,rfl,iO.out.trans HL.out.kept,iO.out.size,HL.out.own⟩
def mX(ks:List B):Value→Option Value
 | .string s=>if s.data.toList∈ks then some (.int .i64 1) else none
 | _=>none
theorem uI(ks:List B)(k:B):mX ks (.string (str k))=if k∈ks then some (.int .i64 1) else none:=rfl
theorem Yg(ks:List B)(k:B):mX (ks++[k]) (.string (str k))=some (.int .i64 1):=by rw[uI,if_pos (by simp)]
theorem Yh(ks:List B)(k:B)(x:Value)(hx:x≠.string (str k)):mX (ks++[k]) x=mX ks x:=by
 cases x with
 | string s=>
  have hne:s.data.toList≠k:=by
   rintro rfl;exact hx (by cases s;rfl)
  simp only[mX,List.mem_append,List.mem_singleton,hne,or_false]
 | _=>rfl
theorem aaN(i:Nat)(hi:i<256)(w:World):(convert 102 9 (.slice (some ⟨w.heap.size,0,none⟩) 1 1)).run Tryz.prog (w.alloc (.cells #[.int .u8 (i:Int)] 5 (0,0)))=.ok (.string (str [UInt8.ofNat i])) (w.alloc (.cells #[.int .u8 (i:Int)] 5 (0,0))):=by
 have h:=run_convert_bytes_arg (P:=Tryz.prog) (w.alloc (.cells #[.int .u8 (i:Int)] 5 (0,0))) 102 5 Tryz.underlying102 Tryz.underlying5 w.heap.size 0 1 1 [(i:Int)] rfl (λj hj=>by
  obtain rfl:j=0:=by omega
  exact ah (aI w _) 0 rfl) 9 Tryz.underlying9
 rw[h]
 rfl
theorem Ky:∀ {ds xs:List aC} {n:Nat},fH ds=some xs→11≤n→(∀d∈ds,d.name.length≤n)→∀y∈xs,y.name.length≤n
 | [],xs,n,h,_,_,y,hy=>by cases h;cases hy
 | d::ds,xs,n,h,hn,hd,y,hy=>by
  simp only[fH]at h;cases h1:gu d with
  | none=>rw[h1]at h;cases h
  | some a=>
   cases h2:fH ds with
   | none=>rw[h1,h2]at h;cases h
   | some b=>
    rw[h1,h2]at h;cases h;rcases List.mem_append.1 hy with hy | hy
    ·unfold gu at h1;split at h1
     ·have key:∀(p q u v:B) (z:aC),z∈edges p q u v d.strong→z.name.length≤11:=by
       intro p q u v z hz;simp[edges]at hz;rcases hz with rfl | rfl | rfl | rfl<;>simp[ql,lZ,kL,nU]
      split at h1<;>first | (cases h1;have:=key _ _ _ _ y hy;omega) | cases h1
     cases h1;simp at hy;subst hy;exact hd _ (by simp)
    exact Ky h2 hn (λx hx=>hd x (by simp[hx])) y hy
theorem Ur(ns:List ak)(hns:AU ns)(hn2:ns.length≤256)(r:au)(hft:ru r.aZ)(hev:∀d∈r.decls,d.val.length≤1048576)(hen:∀d∈r.decls,d.name.length≤1048576)(hed:r.decls.length≤1048576)(m:Int)(w:World)(v u:Value)(hv:aX w v ns)(hr:rC w u r)(hm:w.cell? ⟨0,0,none⟩=some (.int .i64 m)):
  Calls Tryz.prog 43 #[v,MR r u] w λe w'=>∃b,e=.returned (.map (some b))∧Kept (λ_=>False) w w'∧w.heap.size≤b∧dL .string w' b (mX ((touches ns r).map uf)):=by
 obtain⟨sv,dv,rfl,hs,hd⟩:=hr;obtain⟨na,qj,rfl,EM,pJ⟩:=hv.form;obtain⟨sa,scap,rfl,hsc1,hsc2⟩:=bH.form hs;obtain⟨da,yC,rfl,Pv,wJ⟩:=bC.form hd;unfold maxLen at pJ hsc2 wJ;show Calls Tryz.prog 43 #[.slice na ns.length qj,.agg #[.string (str r.ay),.slice sa r.aZ.length scap,.slice da r.decls.length yC,.int .i64 r.lo,.int .i64 r.hi]] w _
 obtain⟨wb,jo⟩:∃x,Hid (w.alloc (.cells #[.string (str r.ay),.slice sa r.aZ.length scap,.slice da r.decls.length yC,.int .i64 r.lo,.int .i64 r.hi] 42 (0,0))=x):=⟨_,hid rfl⟩;obtain⟨rb,Us⟩:∃x,Hid (w.heap.size=x):=⟨_,hid rfl⟩;have hkb:Kept (λ_=>False) w wb:=by rw[←jo.out];exact(Kept.refl _ w).alloc _
 have hb0:wb.heap[rb]?=some (.cells #[.string (str r.ay),.slice sa r.aZ.length scap,.slice da r.decls.length yC,.int .i64 r.lo,.int .i64 r.hi] 42 (0,0)):=by rw[←jo.out,←Us.out];exact aI w _
 obtain⟨wm,Tj⟩:∃x,Hid (wb.alloc (.map #[] 0)=x):=⟨_,hid rfl⟩;obtain⟨mb,Jm⟩:∃x,Hid (wb.heap.size=x):=⟨_,hid rfl⟩;have e0:=qW (P:=Tryz.prog) wb 89;have hkm:Kept (λ_=>False) wb wm:=by rw[←Tj.out];exact(Kept.refl _ wb).alloc _
 have hmf:dL .string wm mb (λ_=>none):=by rw[←Tj.out,←Jm.out];exact dL.made .string wb
 rw[Tj.out,Jm.out]at e0;have hbm:=hkm.heap id hb0;obtain⟨dl,xW⟩:∃x,Hid (iQ r=x):=⟨_,hid rfl⟩;have HAA:Hid (Calls Tryz.prog 36 #[.slice da r.decls.length yC] wm λe w'=>∃xa xc er,e=.returned (.tuple #[.slice xa dl.length xc,.int .i64 er])∧Kept (λ_=>False) wm w'∧dD w' (λk=>k<wm.heap.size) (.slice xa dl.length xc) dl):=hid (by
  refine(wS wm _ r.decls (iy.kept hd (hkb.trans hkm)) (by omega) hev).mono λe w' he=>?_
  rw[←xW.out];unfold iQ;cases hp:fH r.decls with
  | none=>rw[hp]at he;exact⟨none,0,5,he.1,Kept.of_below he.2,aH.nil _ _,λk hk=>by cases hk⟩
  | some d=>
   rw[hp]at he;obtain⟨xv,h1,h2,h3⟩:=he;obtain⟨xa,xc,rfl,_,_⟩:=dD.form h3;exact⟨xa,xc,0,h1,Kept.of_below h2,h3⟩)
 have JR:Hid (∀x∈dl,x.name.length≤1048576):=hid (λx hx=>by
  rw[←xW.out]at hx;unfold iQ at hx;cases hp:fH r.decls with
  | none=>rw[hp]at hx;cases hx
  | some d=>rw[hp]at hx;exact Ky hp (by omega) hen x hx)
 have Kq:dl.length≤4194304:=by
  rw[←xW.out];unfold iQ;cases hp:fH r.decls with
  | none=>simp
  | some d=>have:=rD hp;simp;omega
 have HMF:=hid hmf;have HKM:=hid (hkb.trans hkm);have HBM:=hid hbm;have HV:=hid hv;have HS:=hid hs;have HD:=hid hd;have HM:=hid hm;have HNS:=hid hns;have HFT:=hid hft;have hrm:w.heap.size≤mb∧rb≠mb∧mb<wm.heap.size:=by
  have h1:=gW hb0;have h2:=hmf.lt;have:=Us.out;have:=Jm.out;omega
 have HRM:=hid hrm;have b2:=ah hbm 2 rfl;clear hns hft hv hs hd hm hev hen hb0 hbm hkb hkm hmf hrm;go_enter Tryz.func43,Tryz.ntmps43
 go_upto_region 1 with fail
 rw[jo.out,Us.out];go_wp2_with fail
 refine HAA.out.mono ?_;rintro e w2 ⟨xa,xc,er,rfl,hk2,hx2⟩;obtain⟨_,_,he,ahR,aaM⟩:=dD.form hx2;cases he;unfold maxLen at aaM;have HB2:=hid (hk2.heap id HBM.out);have iO:=hid (HKM.out.trans hk2);have HX2:=hid hx2;have HF2:Hid (dL .string w2 mb (mX ((dJ ns r 0).map uf))):=hid (by
  have h1:=HMF.out.kept hk2 id;have h2:(λ_:Value=>(none:Option Value))=mX ((dJ ns r 0).map uf):=by
   funext x;cases x<;>simp[mX,dJ]
  rw[←h2];exact h1)
 clear hk2 hx2 b2 e0;go_wp2_with fail
 go_loopw [22] (λc wr=>∃i:Nat,i≤ns.length∧c=.int .i64 (i:Int)∧Hid (Kept (· = mb) w2 wr)∧Hid (dL .string wr mb (mX ((dJ ns r i).map uf)))) (λc _=>ns.length-(intOf c).toNat)
 case atStart=>exact⟨0,by omega,rfl,hid (Kept.refl _ _),HF2⟩
 case round=>
  obtain⟨i,hi,rfl,HK,HF⟩:=hrel;obtain⟨bU,hwr0⟩:∃x,x=wr:=⟨_,rfl⟩;subst hwr0;have qm:Hid (Kept (λ_=>False) w bU):=hid (iO.out.trans' HK.out (λk hk hs=>by have:=HRM.out.1;omega));by_cases hlt:i<ns.length
  ·have HST:=hid (zG ns r i);have hbr:=HK.out.heap (by have:=HRM.out.2.1;omega) HB2.out;have d0:=ah hbr 0 rfl;have d1:=ah hbr 1 rfl;have d2:=ah hbr 2 rfl;have d3:=ah hbr 3 rfl;have d4:=ah hbr 4 rfl;obtain⟨⟨⟨ya,yb,yc⟩,ok⟩,yD⟩:∃x,Hid (kD ns (i:Int) r.aZ=x):=⟨_,hid rfl⟩;have XY:Hid (Calls Tryz.prog 61 #[.slice na ns.length qj,.int .i64 (i:Int),.agg #[.string (str r.ay),.slice sa r.aZ.length scap,.slice da r.decls.length yC,.int .i64 r.lo,.int .i64 r.hi]] bU λe w'=>e=.returned (.tuple #[.agg #[.int .i64 (ya:Int),.int .i64 (yb:Int),.int .i64 (yc:Int)],.bool ok])∧Kept (λ_=>False) bU w'):=hid (by
    have:=Kv ns HNS.out r (.tuple #[.slice sa r.aZ.length scap,.slice da r.decls.length yC]) m bU _ (i:Int) (aO.kept HV.out qm.out) ⟨_,_,rfl,qJ.kept HS.out qm.out,iy.kept HD.out qm.out⟩ HFT.out (by omega) (qm.out.cell id HM.out);rw[yD.out]at this;exact this)
   clear hbr;go_wp2_with fail
   refine XY.out.mono ?_;rintro e w3 ⟨rfl,hk3⟩;go_upto_region 7 with fail
   obtain⟨wa,gX⟩:∃x,Hid (w3.alloc (.cells #[.int .i64 (ya:Int),.int .i64 (yb:Int),.int .i64 (yc:Int)] 119 (0,0))=x):=⟨_,hid rfl⟩;have hka:Kept (λ_=>False) bU wa:=by rw[←gX.out];exact hk3.alloc _
   have CB:=hid (HK.out.trans (hka.mono (T:=(· = mb)) (λ_ _ h=>h.elim)));have HFA:=hid (HF.out.kept hka id);rw[gX.out];clear d0 d1 d2 d3 d4 hk3 hka;cases ok with
   | false=>
    have hsk:Hid (dJ ns r (i+1)=dJ ns r i):=hid (by rw[HST.out];unfold touchAt;rw[yD.out];simp);go_wp2_with fail
    go_roundw
    case measure=>simp[intOf];omega
    case rel=>exact⟨i+1,by omega,by go_num,CB,hid (by rw[hsk.out];exact HFA.out)⟩
   | true=>
    have hsk:Hid (dJ ns r (i+1)=dJ ns r i++dl.map λd=>(i,d.name)):=hid (by rw[HST.out];unfold touchAt;rw[yD.out,xW.out];simp);generalize dJ ns r i=q0 at *;go_wp2_with fail
    go_loopw [36] (λc wx=>∃j:Nat,j≤dl.length∧c=.int .i64 (j:Int)∧Hid (Kept (· = mb) w2 wx)∧Hid (dL .string wx mb (mX ((q0++(dl.take j).map λd=>(i,d.name)).map uf)))) (λc _=>dl.length-(intOf c).toNat)
    case atStart=>exact⟨0,by omega,rfl,CB,hid (by simpa using HFA.out)⟩
    case round=>
     obtain⟨j,hj,rfl,Qj,HFJ⟩:=hrel;obtain⟨jk,nD⟩:∃x,x=wr:=⟨_,rfl⟩;subst nD;by_cases hjlt:j<dl.length
     ·have hy:=List.getElem?_eq_getElem hjlt;generalize qX:dl[j]=x at hy;clear qX;obtain⟨db,XZ,rfl,t0,t1,t2⟩:=bC.at (jB _ _ _ (λ_=>False) _ _ _ HX2.out Qj.out (λk hk hs=>by have h1:k=mb:=hs;have:=HRM.out.2.2;show k<wm.heap.size;omega) (λ_ _ h=>h.elim)).1 hy;have hxn:=JR.out x (List.mem_of_getElem? hy);have hnx:Hid (((q0++(dl.take (j+1)).map λd=>(i,d.name)).map uf)=(q0++(dl.take j).map λd=>(i,d.name)).map uf++[UInt8.ofNat i::x.name]):=hid (by rw[List.take_add_one,hy,Option.toList_some];simp[uf]);generalize (q0++(dl.take j).map λd=>(i,d.name)).map uf=q1 at *;have hi8:i<256:=by omega
      go_upto_region 11 with fail
      obtain⟨wd,mM⟩:∃x',Hid (jk.alloc (.cells #[.string (str x.name),.string (str x.val),.bool x.strong] 59 (0,0))=x'):=⟨_,hid rfl⟩;have f0:wd.cell? ⟨jk.heap.size,0,none⟩=some (.string (str x.name)):=by rw[←mM.out];exact ah (aI jk _) 0 rfl
      have hkd:Kept (λ_=>False) jk wd:=by rw[←mM.out];exact(Kept.refl _ jk).alloc _
      have hke:Kept (λ_=>False) jk (wd.alloc (.cells #[.int .u8 (i:Int)] 5 (0,0))):=hkd.alloc _;have f1:(wd.alloc (.cells #[.int .u8 (i:Int)] 5 (0,0))).cell? ⟨jk.heap.size,0,none⟩=some (.string (str x.name)):=dX f0 _;have hct:=aaN i hi8 wd;have hw8:IntKind.u8.wrap (i:Int)=(i:Int):=by rw[IntKind.wrap_u8];omega
      obtain⟨wf,hu,hMf,hKf,_⟩:=dL.update (P:=Tryz.prog) (mty:=89) (f':=mX (q1++[UInt8.ofNat i::x.name])) (k:=.string (str (UInt8.ofNat i::x.name))) (v:=.int .i64 1) (HFJ.out.kept hke id) Tryz.underlying89 Tryz.underlying9 trivial (Yg _ _) (λy _ hy=>Yh _ _ y hy);have HMf:=hid hMf;have HKf:=hid (Qj.out.trans ((hke.mono (T:=(· = mb)) (λ_ _ h=>h.elim)).trans hKf));rw[mM.out];clear t0 t1 t2 hy hMf hKf hkd hke;go_wp2_with fail
      go_roundw
      case measure=>simp[intOf];omega
      case rel=>exact⟨j+1,by omega,by go_num,HKf,hid (by rw[hnx.out];exact HMf.out)⟩
     obtain rfl:j=dl.length:=by omega
     have hfin:Hid (dL .string jk mb (mX ((dJ ns r (i+1)).map uf))):=hid (by
      have h1:=HFJ.out;rw[hsk.out];rw[List.take_length]at h1;exact h1)
     go_wp2_with fail
     go_roundw
     case measure=>simp[intOf];omega
     case rel=>exact⟨i+1,by omega,by go_num,Qj,hfin⟩
  obtain rfl:i=ns.length:=by omega
  go_wp2_with fail
  go_ret
  exact⟨mb,rfl,qm.out,HRM.out.1,HF.out⟩
def aaO(k:B):Value×Value:=(.string (str k),.int .i64 1)
def afT(p:Value×Value):B:=match p.1 with
 | .string s=>s.data.toList
 | _=>[]
theorem aaP{ks:List B}{k v:Value}(h:mX ks k=some v):aaO (afT (k,v))=(k,v):=by
 cases k with
 | string s=>
  simp only[mX]at h;split at h
  ·cases h;cases s;rfl
  cases h
 | _=>cases h
theorem aaQ(w:World):(zeroValue 3).run Tryz.prog w=.ok (.int .i64 0) w:=by
 obtain⟨i0,hi0,hz0,hz1,hz2⟩:=info_parts (show(Tryz.prog.info? 3).map (λi=>(i.zero,i.size,i.bytes))=some (some (.int .i64 0),1,8) by kernel_rfl);simp[zeroValue,run_typeInfo w hi0,hz0,Result.andThen]
theorem Yi{w:World}{b:Nat}{ks:List B}(h:dL .string w b (mX ks))(k:B):(Instr.lookup 89 (.map (some b)) (.string (str k)) false).run Tryz.prog w=.ok (.int .i64 (if k∈ks then 1 else 0)) w:=by
 by_cases hk:k∈ks
 ·rw[if_pos hk];exact h.hit (k:=.string (str k)) Tryz.underlying89 Tryz.underlying9 trivial (by rw[uI,if_pos hk]) false
 rw[if_neg hk];exact h.miss (k:=.string (str k)) Tryz.underlying89 Tryz.underlying9 trivial (by rw[uI,if_neg hk]) (aaQ w) false
theorem Yj(ka kb:List B)(a b:Nat)(w:World)(ha:dL .string w a (mX ka))(hb:dL .string w b (mX kb)):
  Calls Tryz.prog 44 #[.map (some a),.map (some b)] w λe w'=>e=.returned (.bool (ka.any λk=>decide (k∈kb)))∧Kept (λ_=>False) w w':=by
 obtain⟨R,HR⟩:∃R,Hid ((ka.any λk=>decide (k∈kb))=R):=⟨_,hid rfl⟩;rw[HR.out];have hal:=ha.lt;have hbl:=hb.lt;obtain⟨w2,l,hrg,hst,hLl,hnd,hmm,hkk,hk2,hs2⟩:=lu.start (P:=Tryz.prog) (mty:=89) (enc:=aaO) ha Tryz.underlying89 (λl=>l.map afT) (λes hes=>by
  rw[List.map_map,List.map_map];refine List.map_congr_left λx hx=>?_
  simp only[Function.comp_apply];exact aaP (hes x hx).2)
 obtain⟨L0,TM⟩:∃x,Hid (l.map afT=x):=⟨_,hid rfl⟩;rw[TM.out]at hst hLl;have Gs:Hid (∀k∈ka,k∈L0):=hid (λk hk=>by
  have h1:=(hmm (.string (str k)) (.int .i64 1) trivial).1 (by rw[uI,if_pos hk]);rw[←TM.out];exact List.mem_map.2 ⟨_,h1,rfl⟩)
 have HOF:Hid (∀k∈L0,k∈ka):=hid (λk hk=>by
  have h1:aaO k∈l:=by rw[←hLl];exact List.mem_map.2 ⟨k,hk,rfl⟩
  have h2:=(hmm (.string (str k)) (.int .i64 1) trivial).2 h1;rw[uI]at h2;by_cases hm:k∈ka
  ·exact hm
  rw[if_neg hm]at h2;cases h2)
 obtain⟨rr,HRR⟩:∃x,Hid (w.heap.size=x):=⟨_,hid rfl⟩;rw[HRR.out]at hrg hst hal hbl;have HB2:=hid (hb.kept hk2 id);have HST:=hid hst;have iO:=hid hk2;clear ha hb hst hLl hnd hmm hkk hk2 hs2;go_enter Tryz.func44,Tryz.ntmps44
 go_wp2_with fail
 go_loopw [] (λwx=>∃L:List B,Hid (lu aaO wx a rr L)∧Hid (Kept (· = rr) w2 wx)∧Hid (∀k∈L,k∈ka)∧Hid (∀k∈ka,k∈L∨k ∉ kb)) (λwx=>wx.rangeLeft a rr)
 case atStart=>exact⟨L0,HST,hid (Kept.refl _ _),HOF,hid (λk hk=>.inl (Gs.out k hk))⟩
 case round=>
  obtain⟨L,HM,HK,HO,HA⟩:=hrel;obtain⟨jk,nD⟩:∃x,x=wr:=⟨_,rfl⟩;subst nD;have yQ:Hid (Kept (λ_=>False) w jk):=hid (iO.out.trans' HK.out (λk hk hs=>by have:=HRR.out;omega));rcases HM.out.next (P:=Tryz.prog) 0 with⟨hL,hnx⟩ | ⟨k,L',w3,hp,hnx,aas,hk3,hs3,hen⟩
  ·subst hL;have hr:Hid (R=false):=hid (by
    rw[←HR.out,List.any_eq_false];intro k hk;rcases HA.out k hk with h | h
    ·cases h
    simpa using h)
   go_wp2_with fail
   go_ret
   exact⟨eu hr.out.symm,yQ.out⟩
  have hkm:k∈L:=hp.mem_iff.2 (by simp);have hbr:¬b=rr:=by omega
  have hlk:=Yi ((HB2.out.kept HK.out hbr).kept hk3 hbr) k;have HRN:=hid aas;have HP:=hid hp;have oJ:=hid (HK.out.trans hk3);have ak8:Hid (Kept (λ_=>False) w w3):=hid (iO.out.trans' oJ.out (λk hk hs=>by have:=HRR.out;omega));have CB:=hid (HO.out k hkm);have hll:Hid (L'.length<L.length):=hid (by have:=hp.length_eq;simp at this;omega);simp only[aaO]at hnx hen;clear aas hp hkm hk3 hs3;by_cases hkb:k∈kb
  ·rw[if_pos hkb]at hlk;have hr:Hid (R=true):=hid (by
    rw[←HR.out,List.any_eq_true];exact⟨k,CB.out,by simpa using hkb⟩)
   clear hkb;go_wp2_with fail
   go_ret
   exact⟨eu hr.out.symm,ak8.out⟩
  rw[if_neg hkb]at hlk;have HA2:Hid (∀q∈ka,q∈L'∨q ∉ kb):=hid (λq hq=>by
   rcases HA.out q hq with h | h
   ·rcases List.mem_cons.1 (HP.out.mem_iff.1 h)with rfl | h
    ·exact .inr hkb
    exact .inl h
   exact .inr h)
  clear hkb;go_wp2_with fail
  go_roundw
  case measure=>rw[HM.out.Bd,HRN.out.Bd];exact hll.out
  case rel=>exact⟨L',HRN,oJ,hid (λq hq=>HO.out q (HP.out.mem_iff.2 (List.mem_cons_of_mem _ hq))),HA2⟩
end Go.Proofs.YtplbdlgmjehckacGreatDoor


/-
 Lemmas for the claims of this seat: the program's functions walked, and plain laws.
-/
import Derived.Test.YtplbdlgmjehckacGreatDoorPkFoTellsFull11
set_option maxRecDepth 100000
set_option maxHeartbeats 3200000
namespace Go.Proofs.YtplbdlgmjehckacGreatDoor
open Go.Lib (hid)
open Go.RowKit
set_option linter.unusedVariables false
set_option linter.unusedSimpArgs false
theorem Gn(w:World)(v:Value)(n:ak)(nm:B)(hv:bZ w v n.attrs):
  Calls Tryz.prog 55 #[.agg #[.string (str n.name),.int .i64 n.parent,v,.int .i64 n.bG,.int .i64 n.qE,.int .i64 n.inT],.string (str nm)] w λe w'=>e=.returned (.tuple #[.string (str (gJ n.attrs nm).1),.bool (gJ n.attrs nm).2])∧Kept (λ_=>False) w w':=by
 obtain⟨a,cap,rfl,hle,hcap⟩:=hv.form;obtain⟨name,parent,al,bG,qE,inT⟩:=n;simp only at hv hle ⊢;unfold maxLen at hcap;obtain⟨wa,gX⟩:∃x',Hid (w.alloc (.cells #[.string (str name),.int .i64 parent,.slice a al.length cap,.int .i64 bG,.int .i64 qE,.int .i64 inT] 45 (0,0))=x'):=⟨_,rfl⟩;have ka:Kept (λ_=>False) w wa:=by rw[←gX.out];exact(Kept.refl _ w).alloc _
 have hh:wa.heap[w.heap.size]?=some (.cells #[.string (str name),.int .i64 parent,.slice a al.length cap,.int .i64 bG,.int .i64 qE,.int .i64 inT] 45 (0,0)):=by rw[←gX.out];exact aI w _
 have n2:wa.cell? ⟨w.heap.size,2,none⟩=some (.slice a al.length cap):=ah hh 2 rfl;have HV:Hid (bZ wa (.slice a al.length cap) al):=hid (aH.below hv ka.below);have KA:=hid ka;clear hv ka hh;go_enter Tryz.func55,Tryz.ntmps55
 go_upto_region 1 with fail
 rw[gX.out];go_wp2_with fail
 go_loopw [10] (λi wr=>∃k:Nat,k≤al.length∧i=.int .i64 k∧wr=wa∧Hid (∀j y,j<k→al[j]?=some y→(y.name==nm)=false)) (λi _=>al.length-(intOf i).toNat)
 case atStart=>exact⟨0,by omega,rfl,rfl,hid λj y hj=>by omega⟩
 case round=>
  obtain⟨k,hk,rfl,rfl,HH⟩:=hrel;by_cases hlt:k<al.length
  ·have hx:=List.getElem?_eq_getElem hlt;generalize hgx:al[k]=x at hx;clear hgx;obtain⟨b,off,rfl,g0,g1,g2,g3⟩:=bZ.at HV.out hx;have HX:=hid hx;clear hx g2 g3;cases hc:(x.name==nm)with
   | true=>
    go_wp2_with fail
    refine bodyPost_ret (v:=.tuple #[.string (str x.val),.bool true]) (by simp[results,Tryz.results55,go_sem]) rfl ?_;exact⟨EZ (a:=(x.val,true)) (OY HH.out HX.out hc).symm,KA.out⟩
   | false=>
    go_wp2_with fail
    go_roundw
    case rel=>
     refine⟨k+1,by omega,by go_num,by trivial,hid λj y hj hy=>?_⟩;by_cases hjk:j=k
     ·subst hjk;rw[HX.out]at hy;cases hy;exact hc
     exact HH.out j y (by omega) hy
    case measure=>simp[intOf];omega
  go_wp2_with fail
  refine bodyPost_ret (v:=.tuple #[.string (str []),.bool false]) (by simp[results,Tryz.results55,go_sem];rfl) rfl ?_;refine⟨EZ (b:=gJ al nm) (a:=([],false)) ?_,KA.out⟩;rw[JU (λj y hy=>HH.out j y (by have:=(List.getElem?_eq_some_iff.1 hy).1;omega) hy)]
theorem Gp(w:World)(v:Value)(ns:List ak)(k:Int)(hv:aX w v ns)(hk : -9223372036854775808≤k∧k≤9223372036854775807):
  Calls Tryz.prog 147 #[v,.int .i64 k] w (JV w (jJ ns k)):=by
 have HV:=hid hv;obtain⟨a,cap,rfl,hle,hcap⟩:=hv.form;unfold maxLen at hcap;clear hv;obtain⟨hk1,hk2⟩:=hk;obtain⟨r,HR⟩:∃r,Hid (jJ ns k=r):=⟨_,rfl⟩;rw[HR.out];by_cases h1:(ns.length:Int)≤k
 ·have hR:Hid (-1=r):=hid (by rw[←HR.out];unfold jJ;rw[if_pos (.inr h1)]);by_cases h0:0<k
  ·go_enter Tryz.func147,Tryz.ntmps147
   go_wp2_with fail
   go_loopw [5,6] (λo i wr=>o=.int .i64 (-1)∧i=.int .i64 0∧wr=w) (λ_ i _=>0)
   case atStart=>exact⟨rfl,rfl,rfl⟩
   case round=>
    obtain⟨rfl,rfl,rfl⟩:=hrel;go_wp2_with fail
    go_ret
    exact⟨yB hR.out,Qt.refl _⟩
  go_enter Tryz.func147,Tryz.ntmps147
  go_wp2_with fail
  go_loopw [5,6] (λo i wr=>o=.int .i64 (-1)∧i=.int .i64 0∧wr=w) (λ_ i _=>0)
  case atStart=>exact⟨rfl,rfl,rfl⟩
  case round=>
   obtain⟨rfl,rfl,rfl⟩:=hrel;go_wp2_with fail
   go_ret
   exact⟨yB hR.out,Qt.refl _⟩
 by_cases h0:k<0
 ·have hR:Hid (-1=r):=hid (by rw[←HR.out];unfold jJ;rw[if_pos (.inl h0)]);go_enter Tryz.func147,Tryz.ntmps147
  go_wp2_with fail
  go_loopw [5,6] (λo i wr=>o=.int .i64 (-1)∧i=.int .i64 0∧wr=w) (λ_ i _=>0)
  case atStart=>exact⟨rfl,rfl,rfl⟩
  case round=>
   obtain⟨rfl,rfl,rfl⟩:=hrel;go_wp2_with fail
   go_ret
   exact⟨yB hR.out,Qt.refl _⟩
 obtain⟨kn,rfl⟩:∃n:Nat,k=n:=⟨k.toNat,by omega⟩;have hkl:kn<ns.length:=by omega
 have hx:=List.getElem?_eq_getElem hkl;generalize hgx:ns[kn]=x at hx;clear hgx;obtain⟨b,off,av,rfl,g0,g1,g2,g3,g4,g5,hav⟩:=HV.out.at hx;have hr:Hid (ig ns x.parent kn=r):=hid (by
  have:=HR.out;unfold jJ at this;rw[if_neg (by omega),Int.toNat_natCast,hx]at this;exact this)
 have HX:=hid hx;clear hx g0 g1 g2 g3 g4 g5 hav;go_enter Tryz.func147,Tryz.ntmps147
 go_wp2_with fail
 go_loopw [5,6] (λo i wr=>∃j:Nat,j≤kn∧i=.int .i64 (j:Int)∧o=.int .i64 (ig ns x.parent j)∧Hid (Qt w wr)) (λ_ i _=>kn-(intOf i).toNat)
 case atStart=>exact⟨0,by omega,rfl,rfl,hid (Qt.refl _)⟩
 case round=>
  obtain⟨j,hj,rfl,rfl,HQ⟩:=hrel;obtain⟨bU,hwr0⟩:∃x,x=wr:=⟨_,rfl⟩;subst hwr0;by_cases hlt:j<kn
  ·have hy:=List.getElem?_eq_getElem (show j<ns.length by omega);generalize qX:ns[j]=y at hy;clear qX;obtain⟨b2,off2,av2,hbb,g0,q1,g2,g3,g4,g5,hav⟩:=(HV.out.quiet HQ.out).at hy;cases hbb;obtain⟨b3,FD,av3,hbb,g0',p1,g2',g3',g4',g5',CP⟩:=(HV.out.quiet HQ.out).at HX.out;cases hbb;clear g0 g2 g3 g4 g5 hav g0' g2' g3' g4' g5' CP;obtain⟨q,HQL⟩:∃q,Hid (ig ns x.parent j=q):=⟨_,rfl⟩;have hnx:Hid (ig ns x.parent (j+1)=if (y.parent==x.parent)=true then (j:Int) else q):=hid (by
    rw[←HQL.out,ig,hy];rfl)
   rw[HQL.out];clear hy;cases hc:(y.parent==x.parent)with
   | true=>
    rw[hc]at hnx;go_wp2_with fail
    go_quiet (fail)
    go_wp2_with fail
    go_roundw
    case rel=>exact⟨j+1,by omega,by go_num,by rw[hnx.out];rfl,hid (Qt.trans HQ.out ⟨nq,rfl⟩)⟩
    case measure=>simp[intOf];omega
   | false=>
    rw[hc]at hnx;go_wp2_with fail
    go_quiet (fail)
    go_wp2_with fail
    go_roundw
    case rel=>exact⟨j+1,by omega,by go_num,by rw[hnx.out];rfl,hid (Qt.trans HQ.out ⟨nq,rfl⟩)⟩
    case measure=>simp[intOf];omega
  obtain rfl:j=kn:=by omega
  go_wp2_with fail
  go_ret
  exact⟨yB hr.out,HQ.out⟩
def keyOf(t:bQ):B:=if t.kind=2 then className else if t.kind=3 then idName else if t.kind=4∨t.kind=5 then t.name else []
def kv(s:B):Option Value:=some (.string (str s))
def tY(n:B)(x2 x3 x4 x5:Bool)(k:Int):Option Value:=if k=2 then (if x2 then kv className else none) else if k=3 then (if x3 then kv idName else none) else if k=4 then (if x4 then kv n else none) else if k=5 then (if x5 then kv n else none) else none
def lN(n:B)(x2 x3 x4 x5:Bool):Value→Option Value
 | .int .i64 k=>tY n x2 x3 x4 x5 k
 | _=>none
theorem Fg{n:B}{x2 x3 x4 x5 y2 y3 y4 y5:Bool}{k:Int}(h2:k=2∨x2=y2)(h3:k=3∨x3=y3)(h4:k=4∨x4=y4)(h5:k=5∨x5=y5):
  ∀y,MapKept.IsKey (.int .i64) y→y≠.int .i64 k→lN n y2 y3 y4 y5 y=lN n x2 x3 x4 x5 y:=by
 intro y hy hne;cases y with
 | int q j=>
  have:q=.i64:=hy;subst this;have hj:j≠k:=λe=>hne (by rw[e])
  show tY n y2 y3 y4 y5 j=tY n x2 x3 x4 x5 j
  unfold tY;by_cases e2:j=2
  ·rw[if_pos e2,if_pos e2,h2.resolve_left (by omega)]
  rw[if_neg e2,if_neg e2];by_cases e3:j=3
  ·rw[if_pos e3,if_pos e3,h3.resolve_left (by omega)]
  rw[if_neg e3,if_neg e3];by_cases e4:j=4
  ·rw[if_pos e4,if_pos e4,h4.resolve_left (by omega)]
  rw[if_neg e4,if_neg e4];by_cases e5:j=5
  ·rw[if_pos e5,if_pos e5,h5.resolve_left (by omega)]
  rw[if_neg e5,if_neg e5]
 | _=>exact absurd hy (by simp[MapKept.IsKey])
theorem aaz(w:World):(zeroValue 9).run Tryz.prog w=.ok (.string (str [])) w:=by kernel_rfl
theorem aaA(t:bQ)(w:World)(b:Nat)(h:dL (.int .i64) w b (lN t.name true true true true)):
  (Instr.lookup 230 (.map (some b)) (.int .i64 t.kind) false).run Tryz.prog w=.ok (.string (str (keyOf t))) w:=by
 by_cases hk:t.kind=2∨t.kind=3∨t.kind=4∨t.kind=5
 ·refine h.hit Tryz.underlying230 Tryz.underlying3 (by trivial) ?_ false;show tY t.name true true true true t.kind=_
  unfold tY keyOf;by_cases h2:t.kind=2
  ·simp[h2,kv]
  by_cases h3:t.kind=3
  ·simp[h3,kv]
  by_cases h4:t.kind=4
  ·simp[h4,kv]
  have h5:t.kind=5:=by omega
  simp[h5,kv]
 refine h.miss Tryz.underlying230 Tryz.underlying3 (by trivial) ?_ ?_ false
 ·show tY t.name true true true true t.kind=_
  unfold tY;rw[if_neg (by omega),if_neg (by omega),if_neg (by omega),if_neg (by omega)]
 have:keyOf t=[]:=by unfold keyOf;rw[if_neg (by omega),if_neg (by omega),if_neg (by omega)]
 rw[this];exact aaz w
def dh(c:UInt8):Bool := !(c==32)
def iK(x:B):Bool→B→Bool
 | _,[]=>false
 | st,c::t=>(st && !((c::t).takeWhile dh).isEmpty&&(c::t).takeWhile dh==x)||iK x (c==32) t
theorem Gq:∀l:B,(splitB l).head?=some (l.takeWhile dh)
 | []=>rfl
 | c::t=>by
  simp only[splitB];by_cases hc:c=32
  ·subst hc;rfl
  have ih:=Gq t;have hb:dh c=true:=by simp[dh,hc]
  rw[if_neg hc,List.takeWhile_cons,if_pos hb];cases hs:splitB t with
  | nil=>exact absurd hs (xR t)
  | cons w ws=>
   rw[hs]at ih;simp only[List.head?_cons,Option.some.injEq]at ih;simp[ih]
theorem Qe(x:B):∀l:B,iK x true l=(!x.isEmpty&&(splitB l).contains x)∧iK x false l=(!x.isEmpty&&(splitB l).tail.contains x)
 | []=>by
  cases x with
  | nil=>exact⟨rfl,rfl⟩
  | cons a x=>exact⟨by simp[iK,splitB],by simp[iK,splitB]⟩
 | c::t=>by
  have ih:=Qe x t;simp only[iK,splitB];by_cases hc:c=32
  ·subst hc;have e1:((32:UInt8)==32)=true:=rfl;have e2:((32::t:B).takeWhile dh)=[]:=rfl;rw[e1,ih.1,e2,if_pos rfl];cases x with
   | nil=>exact⟨rfl,rfl⟩
   | cons a x=>exact⟨by simp,by simp⟩
  have hb:dh c=true:=by simp[dh,hc]
  have e1:(c==32)=false:=by simpa using hc
  have e2:((c::t:B).takeWhile dh)=c::t.takeWhile dh:=by rw[List.takeWhile_cons,if_pos hb]
  have hh:=Gq t;rw[e1,ih.2,e2,if_neg hc];cases hs:splitB t with
  | nil=>exact absurd hs (xR t)
  | cons w ws=>
   rw[hs]at hh;simp only[List.head?_cons,Option.some.injEq]at hh;subst hh;cases x with
   | nil=>exact⟨by simp,by simp⟩
   | cons a x=>
    refine⟨?_,by simp⟩;simp only[List.isEmpty_cons,Bool.not_false,Bool.true_and,List.tail_cons,List.contains_cons];rw[show(c::List.takeWhile dh t==a::x)=(a::x==c::List.takeWhile dh t) from by rw[Bool.eq_iff_iff,beq_iff_eq,beq_iff_eq];exact eq_comm]
section
variable {ops:Array Oper} {o:Oper} {a:Act} {K:Act→World→Prop} {Q:Exit→Act→World→Prop} {E:Prop} {wa wc:World} {b:Nat} {n:B} {x2 x3 x4 x5:Bool}
theorem aaB(hM:dL (.int .i64) wc b (lN n x2 x3 x4 x5))(hK:Kept (λ_=>False) wa wc)(hb:wa.heap.size≤b)
  (h:∀w',dL (.int .i64) w' b (lN n true x3 x4 x5)→Kept (λ_=>False) wa w'→K (a.put o.dst undef) w'):Oper.upon Tryz.prog o a K Q ((Sem.run Tryz.prog (Instr.mapUpdate 230 (.map (some b)) (.int .i64 2) (.string ⟨#[99,108,97,115,115]⟩)) wc).andThen λ_ w'=>.ok .skip w'):=
 pz (P:=Tryz.prog) (mty:=230) (kt:=3) (et:=9) (kind:=.int .i64) Tryz.underlying230 Tryz.underlying3 (lN n true x3 x4 x5) hM (by trivial) rfl (Fg (.inl rfl) (.inr rfl) (.inr rfl) (.inr rfl)) λw' h1 h2 _=>h w' h1 (hK.trans' h2 λi hi hx=>by omega)
theorem aaC(hM:dL (.int .i64) wc b (lN n x2 x3 x4 x5))(hK:Kept (λ_=>False) wa wc)(hb:wa.heap.size≤b)
  (h:∀w',dL (.int .i64) w' b (lN n x2 true x4 x5)→Kept (λ_=>False) wa w'→K (a.put o.dst undef) w'):Oper.upon Tryz.prog o a K Q ((Sem.run Tryz.prog (Instr.mapUpdate 230 (.map (some b)) (.int .i64 3) (.string ⟨#[105,100]⟩)) wc).andThen λ_ w'=>.ok .skip w'):=
 pz (P:=Tryz.prog) (mty:=230) (kt:=3) (et:=9) (kind:=.int .i64) Tryz.underlying230 Tryz.underlying3 (lN n x2 true x4 x5) hM (by trivial) rfl (Fg (.inr rfl) (.inl rfl) (.inr rfl) (.inr rfl)) λw' h1 h2 _=>h w' h1 (hK.trans' h2 λi hi hx=>by omega)
theorem aaD(hM:dL (.int .i64) wc b (lN n x2 x3 x4 x5))(hK:Kept (λ_=>False) wa wc)(hb:wa.heap.size≤b)
  (h:∀w',dL (.int .i64) w' b (lN n x2 x3 true x5)→Kept (λ_=>False) wa w'→K (a.put o.dst undef) w'):Oper.upon Tryz.prog o a K Q ((Sem.run Tryz.prog (Instr.mapUpdate 230 (.map (some b)) (.int .i64 4) (.string (str n))) wc).andThen λ_ w'=>.ok .skip w'):=
 pz (P:=Tryz.prog) (mty:=230) (kt:=3) (et:=9) (kind:=.int .i64) Tryz.underlying230 Tryz.underlying3 (lN n x2 x3 true x5) hM (by trivial) rfl (Fg (.inr rfl) (.inr rfl) (.inl rfl) (.inr rfl)) λw' h1 h2 _=>h w' h1 (hK.trans' h2 λi hi hx=>by omega)
theorem aaE(hM:dL (.int .i64) wc b (lN n x2 x3 x4 x5))(hK:Kept (λ_=>False) wa wc)(hb:wa.heap.size≤b)
  (h:∀w',dL (.int .i64) w' b (lN n x2 x3 x4 true)→Kept (λ_=>False) wa w'→K (a.put o.dst undef) w'):Oper.upon Tryz.prog o a K Q ((Sem.run Tryz.prog (Instr.mapUpdate 230 (.map (some b)) (.int .i64 5) (.string (str n))) wc).andThen λ_ w'=>.ok .skip w'):=
 pz (P:=Tryz.prog) (mty:=230) (kt:=3) (et:=9) (kind:=.int .i64) Tryz.underlying230 Tryz.underlying3 (lN n x2 x3 x4 true) hM (by trivial) rfl (Fg (.inr rfl) (.inr rfl) (.inr rfl) (.inl rfl)) λw' h1 h2 _=>h w' h1 (hK.trans' h2 λi hi hx=>by omega)
theorem aaF(n:B):(λ_=>none:Value→Option Value)=lN n false false false false:=by
 funext y;cases y with
 | int q j=>
  cases q with
  | i64=>show none=tY n false false false false j;unfold tY;simp
  | _=>rfl
 | _=>rfl
theorem aaG(t:TypeId)(n:B)(hK:Kept (λ_=>False) wa wc)
  (h:∀b w',wa.heap.size≤b→dL (.int .i64) w' b (lN n false false false false)→Kept (λ_=>False) wa w'→K (a.put o.dst (.map (some b))) w'):Oper.upon Tryz.prog o a K Q ((Sem.run Tryz.prog (Instr.makeMap t none) wc).andThen λv w'=>.ok (.value v) w'):=
 XH t (.int .i64) λb w' h1 _ h3 h4=>h b w' (by rw[h1];exact hK.size) (by rw[←aaF];exact h3) (hK.trans h4)
end
def jd(v:B)(j:Nat):Bool:=j==0||(v[j-1]?==some 32)
theorem Ep(v:B){j:Nat}(h:j<v.length):jd v (j+1)=(v[j]==32):=by
 simp[jd,List.getElem?_eq_getElem h]
theorem Ye{x v:B}{j:Nat}{r:Bool}(h:iK x false (v.drop j)=r):iK x (jd v (j+1)) (v.drop (j+1))=r:=by
 by_cases hl:j<v.length
 ·rw[List.drop_eq_getElem_cons hl]at h;rw[Ep v hl,←h];simp[iK]
 rw[List.drop_of_length_le (by omega)]at h ⊢;exact h
theorem xY{x v:B}{j:Nat}{r:Bool}(h:iK x true (v.drop j)=r):
  ((!((v.drop j).takeWhile dh).isEmpty&&(v.drop j).takeWhile dh==x)||iK x (jd v (j+1)) (v.drop (j+1)))=r:=by
 by_cases hl:j<v.length
 ·rw[List.drop_eq_getElem_cons hl]at h ⊢;rw[Ep v hl,←h];simp[iK]
 rw[List.drop_of_length_le (by omega)]at h ⊢;rw[List.drop_of_length_le (by omega)];exact h
theorem Kt(w:World)(v:Value)(ns:List ak)(k:Nat)(hv:aX w v ns)(hk:k<ns.length)(hs:Short ns)(hn0:ns.length≤1048576)(t:bQ):
  Calls Tryz.prog 146 #[v,.int .i64 (k:Int),.agg #[.int .i64 t.kind,.string (str t.name),.string (str t.val)]] w λe w'=>e=.returned (.bool (uG ns k t))∧Kept (λ_=>False) w w':=by
 obtain⟨r,HR⟩:∃r,Hid (uG ns k t=r):=⟨_,rfl⟩;rw[HR.out];obtain⟨a,cap,rfl,hle,hcap⟩:=hv.form;unfold maxLen at hcap;have hx:=List.getElem?_eq_getElem hk;generalize hgx:ns[k]=n at hx;clear hgx;obtain⟨nb,qY,av,rfl,g0,g1,g2,g3,g4,g5,hav⟩:=hv.at hx;obtain⟨aa,mG,rfl,ML,wI⟩:=hav.form;unfold maxLen at wI;have hR:Hid (lI ns k n t=r):=hid (by rw[←HR.out];unfold uG;rw[hx]);have Wj:=hid (xO hs (List.mem_of_getElem? hx));have HV:=hid hv;have HX:=hid hx;obtain⟨wa,gX⟩:∃x',Hid (w.alloc (.cells #[.int .i64 t.kind,.string (str t.name),.string (str t.val)] 158 (0,0))=x'):=⟨_,rfl⟩;have ka:Kept (λ_=>False) w wa:=by rw[←gX.out];exact(Kept.refl _ w).alloc _
 have hh:wa.heap[w.heap.size]?=some (.cells #[.int .i64 t.kind,.string (str t.name),.string (str t.val)] 158 (0,0)):=by rw[←gX.out];exact aI w _
 have q0:wa.cell? ⟨w.heap.size,0,none⟩=some (.int .i64 t.kind):=ah hh 0 rfl;have q1:wa.cell? ⟨w.heap.size,1,none⟩=some (.string (str t.name)):=ah hh 1 rfl;have q2:wa.cell? ⟨w.heap.size,2,none⟩=some (.string (str t.val)):=ah hh 2 rfl;have n0:wa.cell? ⟨nb,qY+k*6,none⟩=some (.string (str n.name)):=ka.cell id g0;have n1:=ka.cell id g1;have n2:=ka.cell id g2;have n3:=ka.cell id g3;have n4:=ka.cell id g4;have n5:=ka.cell id g5;have hlt:w.heap.size<wa.heap.size:=gW hh;have Ec:=hid (aH.below hav ka.below);have KA:=hid ka;clear hx hv hs hh ka hav g0 g1 g2 g3 g4 g5;go_enter Tryz.func146,Tryz.ntmps146
 go_upto_region 1 with fail
 rw[gX.out];obtain⟨⟨gv,gb⟩,HG⟩:∃g,Hid (gJ n.attrs (keyOf t)=g):=⟨_,rfl⟩;go_cut [7,8] (λs h wx=>s=.string (str gv)∧h=.bool gb∧Hid (Kept (λ_=>False) wa wx))
 case first=>
  go_region_held3 (λw'=>w'.cell? ⟨w.heap.size,0,none⟩=some (.int .i64 t.kind)∧w'.cell? ⟨w.heap.size,1,none⟩=some (.string (str t.name))∧w'.cell? ⟨nb,qY+k*6,none⟩=some (.string (str n.name))∧w'.cell? ⟨nb,qY+k*6+1,none⟩=some (.int .i64 n.parent)∧w'.cell? ⟨nb,qY+k*6+2,none⟩=some (.slice aa n.attrs.length mG)∧w'.cell? ⟨nb,qY+k*6+3,none⟩=some (.int .i64 n.bG)∧w'.cell? ⟨nb,qY+k*6+4,none⟩=some (.int .i64 n.qE)∧w'.cell? ⟨nb,qY+k*6+5,none⟩=some (.int .i64 n.inT)) (first | exact⟨hK.cell id q0,hK.cell id q1,hK.cell id n0,hK.cell id n1,hK.cell id n2,hK.cell id n3,hK.cell id n4,hK.cell id n5⟩ | go_keep)
   ((first
    | (with_reducible refine aaG (wa:=wa) 230 t.name (by first | exact(Kept.refl _ wa).drew | exact Kept.refl _ wa) ?_;intro b1 w1 hb1 hM hK)
    | (with_reducible refine aaB (wa:=wa) hM hK hb1 ?_;clear hM hK;intro w1 hM hK)
    | (with_reducible refine aaC (wa:=wa) hM hK hb1 ?_;clear hM hK;intro w1 hM hK)
    | (with_reducible refine aaD (wa:=wa) hM hK hb1 ?_;clear hM hK;intro w1 hM hK)
    | (with_reducible refine aaE (wa:=wa) hM hK hb1 ?_;clear hM hK;intro w1 hM hK)
    | (with_reducible refine XI _ (aaA t _ _ hM) ?_)
    | (go_at_call 55;refine(Gn _ _ n (keyOf t) (by exact aH.below Ec.out hK.below)).mono ?_;rintro e w5 ⟨rfl,hk5⟩;have hK:=hK.trans hk5)))
  all_goals
   go_wp2_with fail
   go_meet
   case rel=>exact⟨by rw[HG.out],by rw[HG.out],hid hK⟩
 case rest=>
  obtain⟨rfl,rfl,JC⟩:=hcut;have c0:=JC.out.cell id q0;have c1:=JC.out.cell id q1;have c2:=JC.out.cell id q2;have m0:=JC.out.cell id n0;have HVX:=hid (aO.kept HV.out (KA.out.trans JC.out));have KX:=hid (KA.out.trans JC.out);clear q0 q1 q2 n0 n1 n2 n3 n4 n5;by_cases h1:t.kind=1
  ·have e1:(t.kind==1)=true:=by simp[h1]
   have HRR:Hid ((n.name==t.name)=r):=hid (by rw[←hR.out];unfold lI;rw[if_pos h1]);clear h1;go_wp2_with fail
   go_quiet (fail)
   go_wp2_with fail
   go_ret
   exact⟨eu HRR.out,KX.out.drewN _⟩
  have e1:(t.kind==1)=false:=by simp[h1]
  by_cases h2:t.kind=2
  ·have e2:(t.kind==2)=true:=by simp[h2]
   have iO:Hid (keyOf t=className):=hid (by unfold keyOf;rw[if_pos h2]);have HRR:Hid (iK t.name true gv=r):=hid (by
    rw[←hR.out,(Qe t.name gv).1];unfold lI;rw[if_neg h1,if_pos h2];have:=HG.out;rw[iO.out]at this;rw[this])
   have hgl:gv.length≤1048576:=by have:=Wj.out (keyOf t);rw[HG.out]at this;exact this
   clear h1 h2;go_wp2_with fail
   go_loopw [9] (λi wr=>∃j:Nat,j≤gv.length+1∧i=.int .i64 (j:Int)∧Hid (Qt wc wr)∧Hid (iK t.name (jd gv j) (gv.drop j)=r)) (λi _=>gv.length+1-(intOf i).toNat)
   case atStart=>exact⟨0,by omega,rfl,hid (Qt.refl _),HRR⟩
   case round=>
    obtain⟨j,hj,rfl,HQ,HW⟩:=hrel;obtain⟨bU,hwr0⟩:∃x,x=wr:=⟨_,rfl⟩;subst hwr0;by_cases hlast:gv.length<j
    ·have hr:r=false:=by
      rw[←HW.out,List.drop_of_length_le (by omega)];rfl
     go_wp2_with fail
     go_ret
     exact⟨eu hr.symm,KX.out.trans (HQ.out.kept _)⟩
    have hjl:j≤gv.length:=by omega
    cases hst:jd gv j with
    | false=>
     rw[hst]at HW;cases j with
     | zero=>simp[jd]at hst
     | succ i=>
      have hil:i<gv.length:=by omega
      have hc:¬gv[i]=32:=by
       intro e;simp[jd,List.getElem?_eq_getElem hil,e]at hst
      have hcI:(((gv[i]).toNat:Int) != 32)=true:=by
       simp only[bne_iff_ne,ne_eq];intro e;exact hc (UInt8.toNat_inj.1 (by have:(32:UInt8).toNat=32:=rfl;omega))
      have hnx:=Ye HW.out;have hi1:((i+1:Nat):Int)-1=(i:Int):=by omega
      clear hst hc;go_wp2_with fail
      go_roundw
      case measure=>simp[intOf];omega
      case rel=>exact⟨i+1+1,by omega,by go_num,HQ,hid hnx⟩
    | true=>
     rw[hst]at HW;have hcase:Hid (j=0)∨∃i,Hid (j=i+1)∧∃h:i<gv.length,(((gv[i]).toNat:Int) != 32)=false:=by
      cases j with
      | zero=>exact .inl (hid rfl)
      | succ i=>
       have hil:i<gv.length:=by omega
       refine .inr ⟨i,hid rfl,hil,?_⟩;have:gv[i]=32:=by simpa [jd,List.getElem?_eq_getElem hil] using hst
       rw[this];rfl
     clear hst;rcases hcase with HJ0 | ⟨i,HJ0,hil,hcI⟩
     ·have d0:decide ((0:Int)<(j:Int))=false:=by have:=HJ0.out;simp;omega
      have d0':¬0<j:=by have:=HJ0.out;omega
      have apm:(0<j)=False:=by simp;exact HJ0.out
      go_wp2_with fail
      go_loopw [10] (λe ws=>∃m:Nat,j≤m∧m≤gv.length∧e=.int .i64 (m:Int)∧Hid (Qt wc ws)∧Hid ((gv.drop j).takeWhile dh=(gv.drop j).take (m-j)++(gv.drop m).takeWhile dh)) (λe _=>gv.length-(intOf e).toNat)
      case atStart=>exact⟨j,by omega,hjl,rfl,HQ,hid (by simp)⟩
      case round=>
       obtain⟨m,hm1,hm2,rfl,rG,hT⟩:=hrel;by_cases hml:m<gv.length
       ·have hd:=List.drop_eq_getElem_cons hml;by_cases hc:gv[m]=32
        ·have afP:(((gv[m]).toNat:Int) != 32)=false:=by rw[hc];rfl
         have hend:(gv.drop m).takeWhile dh=[]:=by rw[hd,hc];rfl
         clear hd hc;have c1':=(rG.out.kept (λ_=>False)).cell id c1;have hword:(gv.drop j).takeWhile dh=(gv.drop j).take (m-j):=by rw[hT.out,hend,List.append_nil]
         have hstep:=xY HW.out;rw[hword]at hstep;by_cases hjm:j<m
         ·have hne:((gv.drop j).take (m-j)).isEmpty=false:=by
           rw[List.isEmpty_eq_false_iff];intro e;have:=congrArg List.length e;simp at this;omega
          rw[hne]at hstep;have d1:decide ((j:Int)<(m:Int))=true:=by simp;omega
          have d2:decide (j<m)=true:=by simp;omega
          have d3:((j:Int)<(m:Int))=True:=by simp;omega
          have d4:(j<m)=True:=by simp;omega
          have b1:(0:Int)≤(j:Int):=by omega
          have b2:(j:Int)≤(m:Int):=by omega
          have b3:(m:Int)≤(gv.length:Int):=by omega
          have b4:j≤m:=by omega
          cases hq:((gv.drop j).take (m-j)==t.name)with
          | true=>
           rw[hq]at hstep;have hr:Hid (true=r):=hid (by rw[←hstep];simp);clear hend hword hstep hne hjm;go_wp2_with fail
           go_quiet (fail)
           go_wp2_with fail
           go_ret
           exact⟨eu hr.out,(KX.out.trans (rG.out.kept _)).drewN _⟩
          | false=>
           rw[hq]at hstep;have hr:Hid (iK t.name (jd gv (j+1)) (gv.drop (j+1))=r):=hid (by rw[←hstep];simp);clear hend hword hstep hne hjm;go_wp2_with fail
           go_quiet (fail)
           go_wp2_with fail
           go_roundw
           case measure=>simp[intOf];omega
           case rel=>exact⟨j+1,by omega,by go_num,hid (rG.out.trans ⟨nq,rfl⟩),hr⟩
         have hmj:m=j:=by omega
         have d1:decide ((j:Int)<(m:Int))=false:=by simp;omega
         have d2:decide (j<m)=false:=by simp;omega
         have d3:((j:Int)<(m:Int))=False:=by simp;omega
         have d4:(j<m)=False:=by simp;omega
         have hne:(gv.drop j).take (m-j)=[]:=by rw[hmj];simp
         rw[hne]at hstep;have hr:Hid (iK t.name (jd gv (j+1)) (gv.drop (j+1))=r):=hid (by rw[←hstep];simp);clear hend hword hstep hne hjm hmj;go_wp2_with fail
         go_quiet (fail)
         go_wp2_with fail
         go_roundw
         case measure=>simp[intOf];omega
         case rel=>exact⟨j+1,by omega,by go_num,hid (rG.out.trans ⟨nq,rfl⟩),hr⟩
        have afP:(((gv[m]).toNat:Int) != 32)=true:=by
         simp only[bne_iff_ne,ne_eq];intro e;exact hc (UInt8.toNat_inj.1 (by have:(32:UInt8).toNat=32:=rfl;omega))
        have hnx:Hid ((gv.drop j).takeWhile dh=(gv.drop j).take (m+1-j)++(gv.drop (m+1)).takeWhile dh):=hid (by
         have hb:dh gv[m]=true:=by simp[dh,hc]
         rw[hT.out,hd,List.takeWhile_cons,if_pos hb,show m+1-j=(m-j)+1 from by omega,List.take_add_one];have:(gv.drop j)[m-j]?=some gv[m]:=by rw[List.getElem?_drop,show j+(m-j)=m from by omega,List.getElem?_eq_getElem hml]
         rw[this];simp)
        clear hd hc;go_wp2_with fail
        go_roundw
        case measure=>simp[intOf];omega
        case rel=>exact⟨m+1,by omega,by omega,by go_num,rG,hnx⟩
       have hend:(gv.drop m).takeWhile dh=[]:=by rw[List.drop_of_length_le (by omega)];rfl
       have hmy:m=gv.length:=by omega
       have hmx:(m<gv.length)=False:=by simp;omega
       have c1':=(rG.out.kept (λ_=>False)).cell id c1;have hword:(gv.drop j).takeWhile dh=(gv.drop j).take (m-j):=by rw[hT.out,hend,List.append_nil]
       have hstep:=xY HW.out;rw[hword]at hstep;by_cases hjm:j<m
       ·have hne:((gv.drop j).take (m-j)).isEmpty=false:=by
         rw[List.isEmpty_eq_false_iff];intro e;have:=congrArg List.length e;simp at this;omega
        rw[hne]at hstep;have d1:decide ((j:Int)<(m:Int))=true:=by simp;omega
        have d2:decide (j<m)=true:=by simp;omega
        have d3:((j:Int)<(m:Int))=True:=by simp;omega
        have d4:(j<m)=True:=by simp;omega
        have b1:(0:Int)≤(j:Int):=by omega
        have b2:(j:Int)≤(m:Int):=by omega
        have b3:(m:Int)≤(gv.length:Int):=by omega
        have b4:j≤m:=by omega
        cases hq:((gv.drop j).take (m-j)==t.name)with
        | true=>
         rw[hq]at hstep;have hr:Hid (true=r):=hid (by rw[←hstep];simp);clear hend hword hstep hne hjm hmy;go_wp2_with fail
         go_quiet (fail)
         go_wp2_with fail
         go_ret
         exact⟨eu hr.out,(KX.out.trans (rG.out.kept _)).drewN _⟩
        | false=>
         rw[hq]at hstep;have hr:Hid (iK t.name (jd gv (j+1)) (gv.drop (j+1))=r):=hid (by rw[←hstep];simp);clear hend hword hstep hne hjm hmy;go_wp2_with fail
         go_quiet (fail)
         go_wp2_with fail
         go_roundw
         case measure=>simp[intOf];omega
         case rel=>exact⟨j+1,by omega,by go_num,hid (rG.out.trans ⟨nq,rfl⟩),hr⟩
       have hmj:m=j:=by omega
       have d1:decide ((j:Int)<(m:Int))=false:=by simp;omega
       have d2:decide (j<m)=false:=by simp;omega
       have d3:((j:Int)<(m:Int))=False:=by simp;omega
       have d4:(j<m)=False:=by simp;omega
       have hne:(gv.drop j).take (m-j)=[]:=by rw[hmj];simp
       rw[hne]at hstep;have hr:Hid (iK t.name (jd gv (j+1)) (gv.drop (j+1))=r):=hid (by rw[←hstep];simp);clear hend hword hstep hne hjm hmj hmy;go_wp2_with fail
       go_quiet (fail)
       go_wp2_with fail
       go_roundw
       case measure=>simp[intOf];omega
       case rel=>exact⟨j+1,by omega,by go_num,hid (rG.out.trans ⟨nq,rfl⟩),hr⟩
     have d0:decide ((0:Int)<(j:Int))=true:=by have:=HJ0.out;simp;omega
     have hi1:(j:Int)-1=(i:Int):=by have:=HJ0.out;omega
     go_wp2_with fail
     go_loopw [10] (λe ws=>∃m:Nat,j≤m∧m≤gv.length∧e=.int .i64 (m:Int)∧Hid (Qt wc ws)∧Hid ((gv.drop j).takeWhile dh=(gv.drop j).take (m-j)++(gv.drop m).takeWhile dh)) (λe _=>gv.length-(intOf e).toNat)
     case atStart=>exact⟨j,by omega,hjl,rfl,HQ,hid (by simp)⟩
     case round=>
      obtain⟨m,hm1,hm2,rfl,rG,hT⟩:=hrel;by_cases hml:m<gv.length
      ·have hd:=List.drop_eq_getElem_cons hml;by_cases hc:gv[m]=32
       ·have afP:(((gv[m]).toNat:Int) != 32)=false:=by rw[hc];rfl
        have hend:(gv.drop m).takeWhile dh=[]:=by rw[hd,hc];rfl
        clear hd hc;have c1':=(rG.out.kept (λ_=>False)).cell id c1;have hword:(gv.drop j).takeWhile dh=(gv.drop j).take (m-j):=by rw[hT.out,hend,List.append_nil]
        have hstep:=xY HW.out;rw[hword]at hstep;by_cases hjm:j<m
        ·have hne:((gv.drop j).take (m-j)).isEmpty=false:=by
          rw[List.isEmpty_eq_false_iff];intro e;have:=congrArg List.length e;simp at this;omega
         rw[hne]at hstep;have d1:decide ((j:Int)<(m:Int))=true:=by simp;omega
         have d2:decide (j<m)=true:=by simp;omega
         have d3:((j:Int)<(m:Int))=True:=by simp;omega
         have d4:(j<m)=True:=by simp;omega
         have b1:(0:Int)≤(j:Int):=by omega
         have b2:(j:Int)≤(m:Int):=by omega
         have b3:(m:Int)≤(gv.length:Int):=by omega
         have b4:j≤m:=by omega
         cases hq:((gv.drop j).take (m-j)==t.name)with
         | true=>
          rw[hq]at hstep;have hr:Hid (true=r):=hid (by rw[←hstep];simp);clear hend hword hstep hne hjm;go_wp2_with fail
          go_quiet (fail)
          go_wp2_with fail
          go_ret
          exact⟨eu hr.out,(KX.out.trans (rG.out.kept _)).drewN _⟩
         | false=>
          rw[hq]at hstep;have hr:Hid (iK t.name (jd gv (j+1)) (gv.drop (j+1))=r):=hid (by rw[←hstep];simp);clear hend hword hstep hne hjm;go_wp2_with fail
          go_quiet (fail)
          go_wp2_with fail
          go_roundw
          case measure=>simp[intOf];omega
          case rel=>exact⟨j+1,by omega,by go_num,hid (rG.out.trans ⟨nq,rfl⟩),hr⟩
        have hmj:m=j:=by omega
        have d1:decide ((j:Int)<(m:Int))=false:=by simp;omega
        have d2:decide (j<m)=false:=by simp;omega
        have d3:((j:Int)<(m:Int))=False:=by simp;omega
        have d4:(j<m)=False:=by simp;omega
        have hne:(gv.drop j).take (m-j)=[]:=by rw[hmj];simp
        rw[hne]at hstep;have hr:Hid (iK t.name (jd gv (j+1)) (gv.drop (j+1))=r):=hid (by rw[←hstep];simp);clear hend hword hstep hne hjm hmj;go_wp2_with fail
        go_quiet (fail)
        go_wp2_with fail
        go_roundw
        case measure=>simp[intOf];omega
        case rel=>exact⟨j+1,by omega,by go_num,hid (rG.out.trans ⟨nq,rfl⟩),hr⟩
       have afP:(((gv[m]).toNat:Int) != 32)=true:=by
        simp only[bne_iff_ne,ne_eq];intro e;exact hc (UInt8.toNat_inj.1 (by have:(32:UInt8).toNat=32:=rfl;omega))
       have hnx:Hid ((gv.drop j).takeWhile dh=(gv.drop j).take (m+1-j)++(gv.drop (m+1)).takeWhile dh):=hid (by
        have hb:dh gv[m]=true:=by simp[dh,hc]
        rw[hT.out,hd,List.takeWhile_cons,if_pos hb,show m+1-j=(m-j)+1 from by omega,List.take_add_one];have:(gv.drop j)[m-j]?=some gv[m]:=by rw[List.getElem?_drop,show j+(m-j)=m from by omega,List.getElem?_eq_getElem hml]
        rw[this];simp)
       clear hd hc;go_wp2_with fail
       go_roundw
       case measure=>simp[intOf];omega
       case rel=>exact⟨m+1,by omega,by omega,by go_num,rG,hnx⟩
      have hend:(gv.drop m).takeWhile dh=[]:=by rw[List.drop_of_length_le (by omega)];rfl
      have hmy:m=gv.length:=by omega
      have hmx:(m<gv.length)=False:=by simp;omega
      have c1':=(rG.out.kept (λ_=>False)).cell id c1;have hword:(gv.drop j).takeWhile dh=(gv.drop j).take (m-j):=by rw[hT.out,hend,List.append_nil]
      have hstep:=xY HW.out;rw[hword]at hstep;by_cases hjm:j<m
      ·have hne:((gv.drop j).take (m-j)).isEmpty=false:=by
        rw[List.isEmpty_eq_false_iff];intro e;have:=congrArg List.length e;simp at this;omega
       rw[hne]at hstep;have d1:decide ((j:Int)<(m:Int))=true:=by simp;omega
       have d2:decide (j<m)=true:=by simp;omega
       have d3:((j:Int)<(m:Int))=True:=by simp;omega
       have d4:(j<m)=True:=by simp;omega
       have b1:(0:Int)≤(j:Int):=by omega
       have b2:(j:Int)≤(m:Int):=by omega
       have b3:(m:Int)≤(gv.length:Int):=by omega
       have b4:j≤m:=by omega
       cases hq:((gv.drop j).take (m-j)==t.name)with
       | true=>
        rw[hq]at hstep;have hr:Hid (true=r):=hid (by rw[←hstep];simp);clear hend hword hstep hne hjm hmy;go_wp2_with fail
        go_quiet (fail)
        go_wp2_with fail
        go_ret
        exact⟨eu hr.out,(KX.out.trans (rG.out.kept _)).drewN _⟩
       | false=>
        rw[hq]at hstep;have hr:Hid (iK t.name (jd gv (j+1)) (gv.drop (j+1))=r):=hid (by rw[←hstep];simp);clear hend hword hstep hne hjm hmy;go_wp2_with fail
        go_quiet (fail)
        go_wp2_with fail
        go_roundw
        case measure=>simp[intOf];omega
        case rel=>exact⟨j+1,by omega,by go_num,hid (rG.out.trans ⟨nq,rfl⟩),hr⟩
      have hmj:m=j:=by omega
      have d1:decide ((j:Int)<(m:Int))=false:=by simp;omega
      have d2:decide (j<m)=false:=by simp;omega
      have d3:((j:Int)<(m:Int))=False:=by simp;omega
      have d4:(j<m)=False:=by simp;omega
      have hne:(gv.drop j).take (m-j)=[]:=by rw[hmj];simp
      rw[hne]at hstep;have hr:Hid (iK t.name (jd gv (j+1)) (gv.drop (j+1))=r):=hid (by rw[←hstep];simp);clear hend hword hstep hne hjm hmj hmy;go_wp2_with fail
      go_quiet (fail)
      go_wp2_with fail
      go_roundw
      case measure=>simp[intOf];omega
      case rel=>exact⟨j+1,by omega,by go_num,hid (rG.out.trans ⟨nq,rfl⟩),hr⟩
  have e2:(t.kind==2)=false:=by simp[h2]
  by_cases h3:t.kind=3
  ·have e3:(t.kind==3)=true:=by simp[h3]
   have iO:keyOf t=idName:=by unfold keyOf;rw[if_neg h2,if_pos h3]
   have HRR:Hid ((gb&&gv==t.name)=r):=hid (by
    rw[←hR.out];unfold lI;rw[if_neg h1,if_neg h2,if_pos h3,←iO,HG.out])
   clear h1 h2 h3 iO;cases gb with
   | true=>
    go_wp2_with fail
    go_ret
    exact⟨eu HRR.out,KX.out⟩
   | false=>
    go_wp2_with fail
    go_ret
    exact⟨eu HRR.out,KX.out⟩
  have e3:(t.kind==3)=false:=by simp[h3]
  by_cases h4:t.kind=4
  ·have e4:(t.kind==4)=true:=by simp[h4]
   have iO:keyOf t=t.name:=by unfold keyOf;rw[if_neg h2,if_neg h3,if_pos (.inl h4)]
   have HRR:Hid (gb=r):=hid (by
    rw[←hR.out];unfold lI;rw[if_neg h1,if_neg h2,if_neg h3,if_pos h4,←iO,HG.out])
   clear h1 h2 h3 h4 iO;go_wp2_with fail
   go_ret
   exact⟨eu HRR.out,KX.out⟩
  have e4:(t.kind==4)=false:=by simp[h4]
  by_cases h5:t.kind=5
  ·have e5:(t.kind==5)=true:=by simp[h5]
   have iO:keyOf t=t.name:=by unfold keyOf;rw[if_neg h2,if_neg h3,if_pos (.inr h5)]
   have HRR:Hid ((gb&&gv==t.val)=r):=hid (by
    rw[←hR.out];unfold lI;rw[if_neg h1,if_neg h2,if_neg h3,if_neg h4,if_pos h5,←iO,HG.out])
   clear h1 h2 h3 h4 h5 iO;cases gb with
   | true=>
    go_wp2_with fail
    go_ret
    exact⟨eu HRR.out,KX.out⟩
   | false=>
    go_wp2_with fail
    go_ret
    exact⟨eu HRR.out,KX.out⟩
  have e5:(t.kind==5)=false:=by simp[h5]
  by_cases h6:t.kind=6
  ·have e6:(t.kind==6)=true:=by simp[h6]
   have HRR:Hid (decide (jJ ns (k:Int)<0)=r):=hid (by rw[←hR.out];unfold lI;rw[if_neg h1,if_neg h2,if_neg h3,if_neg h4,if_neg h5,if_pos h6]);clear h1 h2 h3 h4 h5 h6;have hkk : -9223372036854775808≤(k:Int)∧(k:Int)≤9223372036854775807:=by omega
   have HKK:=hid hkk;go_wp2_with (go_at_call 147;refine(Gp _ _ ns (k:Int) HVX.out HKK.out).mono ?_;rintro e w5 ⟨rfl,hq5⟩)
   go_ret
   exact⟨eu (by rw[←HRR.out]),KX.out.trans (hq5.kept _)⟩
  have e6:(t.kind==6)=false:=by simp[h6]
  have HRR:Hid (false=r):=hid (by rw[←hR.out];unfold lI;rw[if_neg h1,if_neg h2,if_neg h3,if_neg h4,if_neg h5,if_neg h6]);clear h1 h2 h3 h4 h5 h6;go_wp2_with fail
  go_ret
  exact⟨eu HRR.out,KX.out⟩
theorem WQ{ns:List ak}{ps:List eP}{k:Int}(h:vW ns k=false):CU ns ps k=false:=by
 cases hm:CU ns ps k with
 | false=>rfl
 | true=>rw[E5 hm]at h;cases h
theorem aaH(ns:List ak)(k:Int):jJ ns k<(ns.length:Int):=by
 have hl:∀(p:Int) (j:Nat),j≤ns.length→ig ns p j<(ns.length:Int)∨ig ns p j = -1:=by
  intro p j
  induction j with
  | zero=>intro _;exact .inr rfl
  | succ j ih=>
   intro hj;unfold ig;split
   ·exact .inl (by omega)
   exact ih (by omega)
 unfold jJ;split
 ·omega
 rename_i h0
 split
 ·rename_i n hn
  rcases hl n.parent k.toNat (by omega)with h | h<;>omega
 omega
theorem Ul(ns:List ak)(hns:AU ns)(s:dZ):∀(n:Nat),n<s.length→∀(w:World) (v sv:Value) (k:Nat),k<ns.length→aX w v ns→PartsAt w sv s →
  Calls Tryz.prog 99 #[v,.int .i64 (k:Int),sv,.int .i64 (n:Int)] w (FM w (CU ns (s.take (n+1)).reverse (k:Int))):=by
 intro n
 induction n with
 | zero=>
  intro hnl w v sv k hkl hv hp;obtain⟨n,Wp⟩:∃n:Nat,Hid (0=n):=⟨_,rfl⟩;rw[Wp.out]at hnl ⊢;obtain⟨p,hpp⟩:∃p,s[n]?=some p:=⟨_,List.getElem?_eq_getElem hnl⟩;obtain⟨q,HQ⟩:∃q,Hid (CU ns (s.take n).reverse=q):=⟨_,rfl⟩;obtain⟨r,HR⟩:∃r,Hid (CU ns (s.take (n+1)).reverse (k:Int)=r):=⟨_,rfl⟩;have hin:vW ns (k:Int)=true:=by simp[vW];omega
  have hR:Hid ((mQ ns k p&&((s.take n).reverse.isEmpty||lK ns p.join q k))=r):=hid (by
   rw[←HR.out,FP (n:=n+1) (p:=p) (by omega) (by rw[Nat.add_sub_cancel];exact hpp),Nat.add_sub_cancel,CU,HQ.out,hin,Int.toNat_natCast];simp)
  rw[HR.out];obtain⟨na,qj,rfl,EM,pJ⟩:=hv.form;obtain⟨pa,MO,rfl,TQ,zC⟩:=bH.form hp;unfold maxLen at pJ zC;obtain⟨pb,po,tv,rfl,hpc,hpt⟩:=bH.at hp hpp;have pj:w.cell? ⟨pb,po+n*2,none⟩=some (.int .i64 p.join):=hpc 0 _ rfl;have pt:w.cell? ⟨pb,po+n*2+1,none⟩=some tv:=hpc 1 _ rfl;obtain⟨ta,tc,rfl,ada,MN⟩:=jf.form hpt;unfold maxLen at MN;have HT:=hid hpt;have HV:=hid hv;have HP:=hid hp;have PJ:=hid pj;have hfew:=hns.few;clear hv hp hpp hpc hpt hin pj;go_enter Tryz.func99,Tryz.ntmps99
  go_upto_block 0 with fail
  go_cut [] (λwx=>Hid (Kept (λ_=>False) w wx)∧Hid (mQ ns k p=true))
  case first=>
   go_wp2_with fail
   go_loopw [20] (λi wr=>∃j:Nat,j≤p.tests.length∧i=.int .i64 j∧Hid (Kept (λ_=>False) w wr)∧Hid ((p.tests.take j).all (uG ns k)=true)) (λi _=>p.tests.length-(intOf i).toNat)
   case atStart=>exact⟨0,by omega,rfl,hid (Kept.refl _ _),hid rfl⟩
   case round=>
    obtain⟨j,hj,rfl,HK,HJ⟩:=hrel;obtain⟨bU,hwr0⟩:∃x,x=wr:=⟨_,rfl⟩;subst hwr0;by_cases hlt:j<p.tests.length
    ·have hx:=List.getElem?_eq_getElem hlt;generalize hgx:p.tests[j]=t at hx;clear hgx;obtain⟨tb,to_,rfl,t0,t1,t2⟩:=jf.at (lJ.kept HT.out HK.out) hx;have HX:=hid hx;clear hx;go_upto_region 4 with fail
     obtain⟨wa,gX⟩:∃x',Hid (bU.alloc (.cells #[.int .i64 t.kind,.string (str t.name),.string (str t.val)] 158 (0,0))=x'):=⟨_,rfl⟩;have ka:Kept (λ_=>False) bU wa:=by rw[←gX.out];exact(Kept.refl _ bU).alloc _
     have hh:wa.heap[bU.heap.size]?=some (.cells #[.int .i64 t.kind,.string (str t.name),.string (str t.val)] 158 (0,0)):=by rw[←gX.out];exact aI bU _
     have d0:wa.cell? ⟨bU.heap.size,0,none⟩=some (.int .i64 t.kind):=ah hh 0 rfl;have d1:wa.cell? ⟨bU.heap.size,1,none⟩=some (.string (str t.name)):=ah hh 1 rfl;have d2:wa.cell? ⟨bU.heap.size,2,none⟩=some (.string (str t.val)):=ah hh 2 rfl;have KA:=hid (HK.out.trans ka);rw[gX.out];have Jk:=Kt wa _ ns k (aO.kept HV.out KA.out) hkl hns.short hns.few t;clear t0 t1 t2 ka hh;cases vF:uG ns k t with
     | false=>
      rw[vF]at Jk;have Jk:=hid Jk;have hr:Hid (false=r):=hid (by
       rw[←hR.out];have:mQ ns k p=false:=by
        unfold mQ;rw[List.all_eq_false];exact⟨t,List.mem_of_getElem? HX.out,by simp[vF]⟩
       rw[this];rfl)
      clear vF;go_wp2_with (go_at_call 146;refine Jk.out.mono ?_;rintro e w2 ⟨rfl,hk2⟩)
      go_ret
      exact⟨eu hr.out,KA.out.trans hk2⟩
     | true=>
      rw[vF]at Jk;have Jk:=hid Jk;have HTT:=hid vF;clear vF;go_wp2_with (go_at_call 146;refine Jk.out.mono ?_;rintro e w2 ⟨rfl,hk2⟩)
      go_roundw
      case measure=>simp[intOf];omega
      case rel=>
       refine⟨j+1,by omega,by go_num,hid (KA.out.trans hk2),hid ?_⟩;rw[List.take_add_one,HX.out,Option.toList_some,List.all_append,HJ.out];simp[HTT.out]
    obtain rfl:j=p.tests.length:=by omega
    have hall:Hid (mQ ns k p=true):=hid (by have:=HJ.out;rw[List.take_length]at this;exact this);go_wp2_with fail
    go_meet
    case rel=>exact⟨HK,hall⟩
  case rest=>
   obtain⟨iO,aaI⟩:=hcut;have hR2:Hid (((s.take n).reverse.isEmpty||lK ns p.join q k)=r):=hid (by rw[←hR.out,aaI.out];simp);have pj2:=iO.out.cell id PJ.out;have MP:=hid (aO.kept HV.out iO.out);have HP2:=hid (fP.kept HP.out iO.out);have hr:Hid (true=r):=hid (by rw[←hR2.out,←Wp.out];rfl);have g:((n:Int)==0)=true:=by have:=Wp.out;simp;omega
   go_wp2_with fail
   go_ret
   exact⟨eu hr.out,iO.out⟩
 | succ n0 ih=>
  have IH:=hid ih;clear ih;intro hnl w v sv k hkl hv hp;obtain⟨n,Wp⟩:∃n:Nat,Hid (n0+1=n):=⟨_,rfl⟩;rw[Wp.out]at hnl ⊢;obtain⟨p,hpp⟩:∃p,s[n]?=some p:=⟨_,List.getElem?_eq_getElem hnl⟩;obtain⟨q,HQ⟩:∃q,Hid (CU ns (s.take n).reverse=q):=⟨_,rfl⟩;obtain⟨r,HR⟩:∃r,Hid (CU ns (s.take (n+1)).reverse (k:Int)=r):=⟨_,rfl⟩;have hin:vW ns (k:Int)=true:=by simp[vW];omega
  have hR:Hid ((mQ ns k p&&((s.take n).reverse.isEmpty||lK ns p.join q k))=r):=hid (by
   rw[←HR.out,FP (n:=n+1) (p:=p) (by omega) (by rw[Nat.add_sub_cancel];exact hpp),Nat.add_sub_cancel,CU,HQ.out,hin,Int.toNat_natCast];simp)
  rw[HR.out];obtain⟨na,qj,rfl,EM,pJ⟩:=hv.form;obtain⟨pa,MO,rfl,TQ,zC⟩:=bH.form hp;unfold maxLen at pJ zC;obtain⟨pb,po,tv,rfl,hpc,hpt⟩:=bH.at hp hpp;have pj:w.cell? ⟨pb,po+n*2,none⟩=some (.int .i64 p.join):=hpc 0 _ rfl;have pt:w.cell? ⟨pb,po+n*2+1,none⟩=some tv:=hpc 1 _ rfl;obtain⟨ta,tc,rfl,ada,MN⟩:=jf.form hpt;unfold maxLen at MN;have HT:=hid hpt;have HV:=hid hv;have HP:=hid hp;have PJ:=hid pj;have hfew:=hns.few;clear hv hp hpp hpc hpt hin pj;go_enter Tryz.func99,Tryz.ntmps99
  go_upto_block 0 with fail
  go_cut [] (λwx=>Hid (Kept (λ_=>False) w wx)∧Hid (mQ ns k p=true))
  case first=>
   go_wp2_with fail
   go_loopw [20] (λi wr=>∃j:Nat,j≤p.tests.length∧i=.int .i64 j∧Hid (Kept (λ_=>False) w wr)∧Hid ((p.tests.take j).all (uG ns k)=true)) (λi _=>p.tests.length-(intOf i).toNat)
   case atStart=>exact⟨0,by omega,rfl,hid (Kept.refl _ _),hid rfl⟩
   case round=>
    obtain⟨j,hj,rfl,HK,HJ⟩:=hrel;obtain⟨bU,hwr0⟩:∃x,x=wr:=⟨_,rfl⟩;subst hwr0;by_cases hlt:j<p.tests.length
    ·have hx:=List.getElem?_eq_getElem hlt;generalize hgx:p.tests[j]=t at hx;clear hgx;obtain⟨tb,to_,rfl,t0,t1,t2⟩:=jf.at (lJ.kept HT.out HK.out) hx;have HX:=hid hx;clear hx;go_upto_region 4 with fail
     obtain⟨wa,gX⟩:∃x',Hid (bU.alloc (.cells #[.int .i64 t.kind,.string (str t.name),.string (str t.val)] 158 (0,0))=x'):=⟨_,rfl⟩;have ka:Kept (λ_=>False) bU wa:=by rw[←gX.out];exact(Kept.refl _ bU).alloc _
     have hh:wa.heap[bU.heap.size]?=some (.cells #[.int .i64 t.kind,.string (str t.name),.string (str t.val)] 158 (0,0)):=by rw[←gX.out];exact aI bU _
     have d0:wa.cell? ⟨bU.heap.size,0,none⟩=some (.int .i64 t.kind):=ah hh 0 rfl;have d1:wa.cell? ⟨bU.heap.size,1,none⟩=some (.string (str t.name)):=ah hh 1 rfl;have d2:wa.cell? ⟨bU.heap.size,2,none⟩=some (.string (str t.val)):=ah hh 2 rfl;have KA:=hid (HK.out.trans ka);rw[gX.out];have Jk:=Kt wa _ ns k (aO.kept HV.out KA.out) hkl hns.short hns.few t;clear t0 t1 t2 ka hh;cases vF:uG ns k t with
     | false=>
      rw[vF]at Jk;have Jk:=hid Jk;have hr:Hid (false=r):=hid (by
       rw[←hR.out];have:mQ ns k p=false:=by
        unfold mQ;rw[List.all_eq_false];exact⟨t,List.mem_of_getElem? HX.out,by simp[vF]⟩
       rw[this];rfl)
      clear vF;go_wp2_with (go_at_call 146;refine Jk.out.mono ?_;rintro e w2 ⟨rfl,hk2⟩)
      go_ret
      exact⟨eu hr.out,KA.out.trans hk2⟩
     | true=>
      rw[vF]at Jk;have Jk:=hid Jk;have HTT:=hid vF;clear vF;go_wp2_with (go_at_call 146;refine Jk.out.mono ?_;rintro e w2 ⟨rfl,hk2⟩)
      go_roundw
      case measure=>simp[intOf];omega
      case rel=>
       refine⟨j+1,by omega,by go_num,hid (KA.out.trans hk2),hid ?_⟩;rw[List.take_add_one,HX.out,Option.toList_some,List.all_append,HJ.out];simp[HTT.out]
    obtain rfl:j=p.tests.length:=by omega
    have hall:Hid (mQ ns k p=true):=hid (by have:=HJ.out;rw[List.take_length]at this;exact this);go_wp2_with fail
    go_meet
    case rel=>exact⟨HK,hall⟩
  case rest=>
   obtain⟨iO,aaI⟩:=hcut;have hR2:Hid (((s.take n).reverse.isEmpty||lK ns p.join q k)=r):=hid (by rw[←hR.out,aaI.out];simp);have pj2:=iO.out.cell id PJ.out;have MP:=hid (aO.kept HV.out iO.out);have HP2:=hid (fP.kept HP.out iO.out);have g:((n:Int)==0)=false:=by have:=Wp.out;simp;omega
   have hne:(s.take n).reverse.isEmpty=false:=by
    rw[List.isEmpty_eq_false_iff];intro h;have h2:(s.take n).reverse.length=n:=by rw[List.length_reverse,List.length_take];omega
    rw[h]at h2;have:=Wp.out;simp at h2;omega
   have hR3:Hid (lK ns p.join q k=r):=hid (by rw[←hR2.out,hne];simp);have IH2:Hid (∀(w:World) (k:Nat),k<ns.length→aX w (.slice na ns.length qj) ns→PartsAt w (.slice (some ⟨pb,po,none⟩) (List.length s) MO) s →
     Calls Tryz.prog 99 #[.slice na ns.length qj,.int .i64 (k:Int),.slice (some ⟨pb,po,none⟩) (List.length s) MO,.int .i64 ((n:Int)-1)] w (FM w (q (k:Int)))):=hid (by
    intro w k h0 h1 h2;have:=IH.out (by have:=Wp.out;omega) w _ _ k h0 h1 h2;rw[show n0+1=n from Wp.out,HQ.out]at this;rw[show(n:Int)-1=(n0:Int) from by have:=Wp.out;omega];exact this)
   have hx:=List.getElem?_eq_getElem hkl;generalize hgx:ns[k]=x at hx;clear hgx;have HX:=hid hx;have hpf:=hns.fit x (List.mem_of_getElem? hx);have hpo:Hid (parentOf ns k=x.parent):=hid (sK hx);have hqo:Hid (∀z:Int,vW ns z=false→q z=false):=hid (λz hz=>by rw[←HQ.out];exact WQ hz);clear hx hne;by_cases hj2:p.join=2
   ·have e2:(p.join==2)=true:=by simp[hj2]
    have hr:Hid (q x.parent=r):=hid (by rw[←hR3.out,←hpo.out];unfold lK;rw[if_pos hj2]);clear hj2;obtain⟨nb,qY,av,rfl,g0,g1,g2,g3,g4,g5,hav⟩:=MP.out.at HX.out;clear g0 g2 g3 g4 g5 hav;by_cases hu0:x.parent<0
    ·have hr2:Hid (false=r):=hid (by rw[←hr.out,hqo.out _ (by simp[vW];omega)]);go_wp2_with fail
     go_ret
     exact⟨eu hr2.out,iO.out⟩
    by_cases hu1:(ns.length:Int)≤x.parent
    ·have hr2:Hid (false=r):=hid (by rw[←hr.out,hqo.out _ (by simp[vW];omega)]);go_wp2_with fail
     go_ret
     exact⟨eu hr2.out,iO.out⟩
    obtain⟨u,HU⟩:∃u:Nat,Hid (x.parent=(u:Int)):=⟨x.parent.toNat,hid (by omega)⟩;have hul:u<ns.length:=by have:=HU.out;omega
    rw[HU.out]at g1 hr hu0 hu1;go_wp2_with (go_at_call 99;refine(IH2.out _ u hul MP.out HP2.out).mono ?_;rintro e w3 ⟨rfl,hk3⟩)
    go_ret
    exact⟨eu hr.out,iO.out.trans hk3⟩
   have e2:(p.join==2)=false:=by simp[hj2]
   by_cases hj3:p.join=3
   ·have e3:(p.join==3)=true:=by simp[hj3]
    have hr:Hid (q (jJ ns (k:Int))=r):=hid (by rw[←hR3.out];unfold lK;rw[if_neg hj2,if_pos hj3]);have haf:=FQ ns (k:Int) hns.few;have hal:=aaH ns (k:Int);clear hj2 hj3;generalize hag:jJ ns (k:Int)=ag at *;have HAH:=Gp _ _ ns (k:Int) MP.out (by omega);rw[hag]at HAH;have HAH:=hid HAH;clear hag;go_upto_region 15 with(go_at_call 147;refine HAH.out.mono ?_;rintro e w3 ⟨rfl,hq3⟩)
    have hk3:=hq3.kept (λ_=>False);have Wq:=hid (aO.kept MP.out hk3);have HP3:=hid (fP.kept HP2.out hk3);have oJ:=hid (iO.out.trans hk3);clear hq3 hk3;by_cases ha0:ag<0
    ·have hr2:Hid (false=r):=hid (by rw[←hr.out,hqo.out _ (by simp[vW];omega)]);go_wp2_with fail
     go_ret
     exact⟨eu hr2.out,oJ.out⟩
    obtain⟨u,rfl⟩:∃u:Nat,ag=(u:Int):=⟨ag.toNat,by omega⟩;have hul:u<ns.length:=by omega
    go_wp2_with (go_at_call 99;refine(IH2.out _ u hul Wq.out HP3.out).mono ?_;rintro e w4 ⟨rfl,hk4⟩)
    go_ret
    exact⟨eu hr.out,oJ.out.trans hk4⟩
   have e3:(p.join==3)=false:=by simp[hj3]
   by_cases hj1:p.join=1
   ·have e1:(p.join==1)=true:=by simp[hj1]
    have hr:Hid ((ups ns k).any (λu=>q (u:Int))=r):=hid (by rw[←hR3.out];unfold lK;rw[if_neg hj2,if_neg hj3,if_pos hj1]);clear hj1 hj2 hj3;go_wp2_with fail
    go_loopw [13] (λu wr=>∃z:Nat,u=.int .i64 (z:Int)∧z<ns.length∧Hid (Kept (λ_=>False) wc wr)∧Hid ((ups ns z).any (λu=>q (u:Int))=r)) (λu _=>(intOf u).toNat)
    case atStart=>exact⟨k,rfl,hkl,hid (Kept.refl _ _),hr⟩
    case round=>
     obtain⟨z,rfl,hzl,Ku,HU⟩:=hrel;have hy:=List.getElem?_eq_getElem hzl;generalize qX:ns[z]=y at hy;clear qX;have hyf:=hns.fit y (List.mem_of_getElem? hy);have hyo:Hid (parentOf ns z=y.parent):=hid (sK hy);have hvr:=aO.kept MP.out Ku.out;obtain⟨Ph,ahw,av2,rfl,_,y1,_⟩:=hvr.at hy;have HVR:=hid hvr;have HPR:=hid (fP.kept HP2.out Ku.out);clear hy hvr;by_cases h0:y.parent<0
     ·have hr2:Hid (false=r):=hid (by rw[←HU.out,FN,hyo.out,if_neg (by omega)];rfl);go_wp2_with fail
      go_ret
      exact⟨eu hr2.out,iO.out.trans Ku.out⟩
     by_cases h1:(z:Int)≤y.parent
     ·have hr2:Hid (false=r):=hid (by rw[←HU.out,FN,hyo.out,if_neg (by omega)];rfl);go_wp2_with fail
      go_ret
      exact⟨eu hr2.out,iO.out.trans Ku.out⟩
     obtain⟨u,HUU⟩:∃u:Nat,Hid (y.parent=(u:Int)):=⟨y.parent.toNat,hid (by omega)⟩;have hul:u<z:=by have:=HUU.out;omega
     have hR4:Hid ((q (u:Int)||(ups ns u).any (λu=>q (u:Int)))=r):=hid (by
      rw[←HU.out,FN ns z,hyo.out,HUU.out,if_pos (by omega),Int.toNat_natCast,List.any_cons])
     rw[HUU.out]at y1 h0 h1 hyf;have AV:=hid (IH2.out wr u (by omega) HVR.out HPR.out);cases hq:q (u:Int)with
     | true=>
      rw[hq]at AV hR4;have hrr:Hid (true=r):=hid (by rw[←hR4.out];rfl);clear hq;go_wp2_with (go_at_call 99;refine AV.out.mono ?_;rintro e w3 ⟨rfl,hk3⟩)
      go_ret
      exact⟨eu hrr.out,(iO.out.trans Ku.out).trans hk3⟩
     | false=>
      rw[hq]at AV hR4;clear hq;go_wp2_with (go_at_call 99;refine AV.out.mono ?_;rintro e w3 ⟨rfl,hk3⟩)
      go_roundw
      case measure=>simp[intOf];omega
      case rel=>exact⟨u,rfl,by omega,hid (Ku.out.trans hk3),hid (by rw[←hR4.out];simp)⟩
   have e1:(p.join==1)=false:=by simp[hj1]
   have hr:Hid (false=r):=hid (by rw[←hR3.out];unfold lK;rw[if_neg hj2,if_neg hj3,if_neg hj1]);clear hj1 hj2 hj3;go_wp2_with fail
   go_ret
   exact⟨eu hr.out,iO.out⟩
end Go.Proofs.YtplbdlgmjehckacGreatDoor


/-
  Lemmas for the claims of this seat: the program's functions walked, and plain laws. In this order: ShVal ShValue ShDecls.
-/
import Derived.Test.YtplbdlgmjehckadGreatDoorPk9
import Derived.Test.YtplbdlgmjehckadGreatDoorPk3
import Derived.Deep.RegionHeld3
namespace Go.Proofs.YtplbdlgmjehckadGreatDoor
open Go.RowKit
set_option linter.unusedVariables false
set_option linter.unusedSimpArgs false
theorem index_sign (c : UInt8) : decide (0 ≤ Lib.indexByte [35, 46, 37, 45] c) = (decide (c.toNat = 35) || decide (c.toNat = 46) || decide (c.toNat = 37) || decide (c.toNat = 45)) := by
  have h : ∀ a b : UInt8, (a == b) = decide (b.toNat = a.toNat) := fun a b => by
    rw [Bool.eq_iff_iff, beq_iff_eq, decide_eq_true_eq]
    constructor
    · rintro rfl; rfl
    · intro h; exact (UInt8.toNat_inj.1 h).symm
  have e35 : (35 : UInt8).toNat = 35 := rfl
  have e46 : (46 : UInt8).toNat = 46 := rfl
  have e37 : (37 : UInt8).toNat = 37 := rfl
  have e45 : (45 : UInt8).toNat = 45 := rfl
  simp only [Lib.indexByte, h, e35, e46, e37, e45]
  by_cases h1 : c.toNat = 35
  · simp [h1]
  · by_cases h2 : c.toNat = 46
    · simp [h2]
    · by_cases h3 : c.toNat = 37
      · simp [h3]
      · by_cases h4 : c.toNat = 45
        · simp [h4]
        · simp [h1, h2, h3, h4]
set_option maxRecDepth 100000 in
set_option maxHeartbeats 800000 in
theorem word_any (c : UInt8) (w : World) :
    Calls Tryz.prog 101 #[.int .u8 (c.toNat : Int)] w fun e w' => e = .returned (.bool (isWord c)) ∧ w' = w := by
  have hc := c.toNat_lt
  have hcI : (c.toNat : Int) < 256 := by omega
  have hs : Hid (decide (0 ≤ Lib.indexByte [35, 46, 37, 45] c) = (decide (c.toNat = 35) || decide (c.toNat = 46) || decide (c.toNat = 37) || decide (c.toNat = 45))) := Lib.hid (index_sign c)
  by_cases h1 : 97 ≤ c.toNat ∧ c.toNat ≤ 122
  · have e : isWord c = true := by unfold isWord isLow; simp [h1.1, h1.2]
    have q1 : (97 : Int) ≤ (c.toNat : Int) := by omega
    have q2 : (c.toNat : Int) ≤ 122 := by omega
    rw [e]
    go_enter Tryz.func101, Tryz.ntmps101
    go_wp2_with fail
    go_ret
    exact ⟨rfl, rfl⟩
  · by_cases h2 : 48 ≤ c.toNat ∧ c.toNat ≤ 57
    · have e : isWord c = true := by unfold isWord; simp [h2.1, h2.2]
      have q1 : (48 : Int) ≤ (c.toNat : Int) := by omega
      have q2 : (c.toNat : Int) ≤ 57 := by omega
      rw [e]
      go_enter Tryz.func101, Tryz.ntmps101
      go_wp2_with fail
      go_ret
      exact ⟨rfl, rfl⟩
    · have e : isWord c = decide (0 ≤ Lib.indexByte [35, 46, 37, 45] c) := by
        rw [hs.out]
        unfold isWord isLow
        have a1 : (decide (97 ≤ c.toNat) && decide (c.toNat ≤ 122)) = false := by simp; omega
        have a2 : (decide (48 ≤ c.toNat) && decide (c.toNat ≤ 57)) = false := by simp; omega
        rw [a1, a2]; simp
      have e1 : decide ((97 : Int) ≤ (c.toNat : Int)) = decide (97 ≤ c.toNat) := by rw [Bool.eq_iff_iff]; simp; omega
      rw [e]
      clear e
      have hcall : ∀ W, Calls Tryz.prog 125 #[.string ⟨#[35, 46, 37, 45]⟩, .int .u8 (c.toNat : Int)] W fun e w' => e = .returned (.int .i64 (Lib.indexByte [35, 46, 37, 45] c)) ∧ w' = W := fun W => by
        have := Tryz.strings_IndexByte (str [35, 46, 37, 45]) (c.toNat : Int) W
        have hcc : (c.toNat : Int).toNat.toUInt8 = c := by simp
        rw [hcc] at this
        exact this
      have HC := Lib.hid hcall
      clear hcall hs
      clear e1
      by_cases h3 : 97 ≤ c.toNat
      · have q1 : decide ((97 : Int) ≤ (c.toNat : Int)) = true := by simp; omega
        have q2 : decide ((c.toNat : Int) ≤ 122) = false := by simp; omega
        have q3 : decide ((48 : Int) ≤ (c.toNat : Int)) = true := by simp; omega
        have q4 : decide ((c.toNat : Int) ≤ 57) = false := by simp; omega
        go_enter Tryz.func101, Tryz.ntmps101
        go_wp2_with fail
        refine (HC.out _).mono ?_
        rintro e w1 ⟨rfl, rfl⟩
        go_wp2_with fail
        go_ret
        exact ⟨rfl, rfl⟩
      · by_cases h4 : 48 ≤ c.toNat
        · have q1 : decide ((97 : Int) ≤ (c.toNat : Int)) = false := by simp; omega
          have q3 : decide ((48 : Int) ≤ (c.toNat : Int)) = true := by simp; omega
          have q4 : decide ((c.toNat : Int) ≤ 57) = false := by simp; omega
          go_enter Tryz.func101, Tryz.ntmps101
          go_wp2_with fail
          refine (HC.out _).mono ?_
          rintro e w1 ⟨rfl, rfl⟩
          go_wp2_with fail
          go_ret
          exact ⟨rfl, rfl⟩
        · have q1 : decide ((97 : Int) ≤ (c.toNat : Int)) = false := by simp; omega
          have q3 : decide ((48 : Int) ≤ (c.toNat : Int)) = false := by simp; omega
          go_enter Tryz.func101, Tryz.ntmps101
          go_wp2_with fail
          refine (HC.out _).mono ?_
          rintro e w1 ⟨rfl, rfl⟩
          go_wp2_with fail
          go_ret
          exact ⟨rfl, rfl⟩
theorem join_is : ∀ ws : List B, Lib.join ws [32] = joinW ws
  | [] => rfl
  | [w] => by simp [Lib.join, joinW]
  | w :: x :: ws => by
    have := join_is (x :: ws)
    rw [joinW_cons w (x :: ws) (by simp), ← this]
    simp [Lib.join, List.intercalate, List.intersperse]
end Go.Proofs.YtplbdlgmjehckadGreatDoor

namespace Go.Proofs.YtplbdlgmjehckadGreatDoor
open Go.RowKit
set_option linter.unusedVariables false
set_option linter.unusedSimpArgs false
def wordCells (x : B) : List Value := [.string (str x)]
def nW (ws : List B) : Nat := (ws.map fun w => w.length + 1).sum
theorem nW_push (ws : List B) (w : B) : nW (ws ++ [w]) = nW ws + (w.length + 1) := by simp [nW]
theorem nW_join : ∀ ws : List B, ws ≠ [] → nW ws = (joinW ws).length + 1
  | [], h => absurd rfl h
  | [w], _ => by simp [nW, joinW]
  | w :: x :: ws, _ => by
    have := nW_join (x :: ws) (by simp)
    rw [joinW_cons w (x :: ws) (by simp)]
    simp only [nW, List.map_cons, List.sum_cons, List.length_append, List.length_cons, List.length_nil] at this ⊢
    omega
theorem word_rows {ws : List B} : ∀ r ∈ ws.map wordCells, r.length = 1 := by
  intro r hr
  obtain ⟨a, _, rfl⟩ := List.mem_map.1 hr
  rfl
theorem word_is (q : Bool) (c : UInt8) (w : World) (h : isWord c = q) :
    Calls Tryz.prog 101 #[.int .u8 (c.toNat : Int)] w fun e w' => e = .returned (.bool q) ∧ w' = w := by
  subst h; exact word_any c w
theorem sValL_step {f : Nat} {ws : List B} {l : B} {a : Nat} {r : Ans (B × B × Nat)} (h : sValL (f + 1) ws l a = r) :
    (if l.takeWhile isWord = [] then (if ws = [] then .bad ⟨2, a⟩ else .ok (joinW ws, l, a))
    else if 60 < (joinW (ws ++ [l.takeWhile isWord])).length then .bad ⟨4, a⟩
    else (sGap (l.drop (l.takeWhile isWord).length) (a + (l.takeWhile isWord).length)).then fun x => sValL f (ws ++ [l.takeWhile isWord]) x.1 x.2) = r := by
  rw [← h, sValL]
theorem own_grow2 {w0 w wm w' : World} {b base e size n : Nat} {v : Value} {xs : List Value} (hk : Kept (· = b) w0 w) (hb : w0.heap.size = base) (hown : w.ownsRow base e size v n xs) (hm : Kept (fun _ => False) w wm) (hg : wm.grownBy w' v.ownBlock) : Kept (· = b) w0 w' :=
  (hk.trans (hm.mono (fun _ _ h => h.elim))).grown hg (fun k hk => .inr (by have := (hown.lt k hk).1; omega))
theorem own_rd2 {w wm w' : World} {b base e size n at_ : Nat} {s : B} {v : Value} {xs : List Value} (h : SdAt w b s at_) (hb : b < base) (hown : w.ownsRow base e size v n xs) (hm : Kept (fun _ => False) w wm) (hg : wm.grownBy w' v.ownBlock) : SdAt w' b s at_ :=
  h.kept ((hm.mono (T := fun k => v.ownBlock = some k) (fun _ _ h => h.elim)).grown hg (fun k hk => .inl hk)) (fun hk => by have := (hown.lt b hk).1; omega)
structure VLoop (w wr : World) (b : Nat) (s : B) (base : Nat) (r : Ans (B × B × Nat)) (l : Value) (ws : List B) (at' : Nat) : Prop where
  rd : SdAt wr b s at'
  own : wr.ownsRow base 9 1 l ws.length (ws.map wordCells).flatten
  few : nW ws ≤ 61
  kept : Kept (· = b) w wr
  rest : ∃ f, (s.drop at').length < f ∧ sValL f ws (s.drop at') at' = r
set_option maxRecDepth 100000 in
set_option maxHeartbeats 3200000 in
theorem sval_sum (w : World) (b : Nat) (s : B) (at_ : Nat) (m : Int) (h : SdAt w b s at_) (hm : w.cell? ⟨0, 0, none⟩ = some (.int .i64 m)) (hb0 : 0 < b) :
    Calls Tryz.prog 76 #[.pointer (some ⟨b, 0, none⟩)] w (SSum (sVal (s.drop at_) at_) w b s (fun w' v e => e = .returned (.string (str v)))) := by
  obtain ⟨r, HR⟩ : ∃ r, Hid (sVal (s.drop at_) at_ = r) := ⟨_, rfl⟩
  rw [HR.out]
  have HM := Lib.hid hm
  obtain ⟨i0, hi0, hz0, hz1, hz2⟩ := info_parts info_str
  obtain ⟨base, HBASE⟩ : ∃ base, Hid (w.heap.size = base) := ⟨_, rfl⟩
  have hbb : b < base := by have := h.lt; have := HBASE.out; omega
  have H := Lib.hid h
  have hl := h.2.1
  have hmx := h.2.2
  clear h hm
  have HP0 : Hid (VLoop w w b s base r (.slice none 0 0) [] at_) := Lib.hid ⟨H.out, World.ownsRow_nil _ _ _ _, by simp [nW], Kept.refl _ _, _, Nat.lt_succ_self _, HR.out⟩
  go_enter Tryz.func76, Tryz.ntmps76
  go_upto_block 0 with fail
  go_cut [3] (fun l wx => ∃ ws at', VLoop w wx b s base r l ws at' ∧ Hid ((s.drop at').takeWhile isWord = []))
  case first =>
    go_wp2_with fail
    go_loopg [3, 4] (s.length - at_) (fun k l n wr => ∃ ws at', VLoop w wr b s base r l ws at' ∧ n = .int .i64 (nW ws : Int) ∧ k = s.length - at')
    case atStart => exact ⟨[], at_, HP0.out, rfl, rfl⟩
    case round =>
      obtain ⟨ws, at', hL, rfl, hk⟩ := hrel
      have HL := Lib.hid hL
      have hfew := hL.few
      have hl' := hL.rd.2.1
      have c0 := hL.rd.c0
      have c1 := hL.rd.c1
      have hform : ∃ vo vc, u3 = .slice vo ws.length vc := by
        rcases hL.own.2 with ⟨h, hn⟩ | ⟨g, cap, cur, h, _⟩
        · exact ⟨none, 0, by rw [h, hn]⟩
        · exact ⟨_, cap, h⟩
      obtain ⟨lo, lc, rfl⟩ := hform
      clear hL
      obtain ⟨n, HN⟩ : ∃ n, Hid (((s.drop at').takeWhile isWord).length = n) := ⟨_, rfl⟩
      have hnle : at' + n ≤ s.length := by
        have := takeWhile_len_le isWord (s.drop at'); rw [HN.out, List.length_drop] at this; omega
      by_cases h0 : n = 0
      · subst h0
        have HE : Hid ((s.drop at').takeWhile isWord = []) := Lib.hid (List.length_eq_zero_iff.1 HN.out)
        by_cases hlt : at' < s.length
        · have e0 : decide ((at' : Int) < (s.length : Int)) = true := by simp; omega
          have hw : Hid (isWord (s[at']'hlt) = false) := Lib.hid (by
            have := takeWhile_stop isWord (s.drop at') (by rw [HN.out, List.length_drop]; omega)
            simp only [HN.out] at this
            simpa using this)
          go_wp2_with fail
          go_quiet ((go_at_call 101; exact Calls.quiet_of_same (word_is false _ _ hw.out)))
          go_wp2_with fail
          go_meet
          case rel => exact ⟨ws, at', ⟨HL.out.rd.drewN _, (owns_kept (S := fun _ => False) HL.out.own ((Kept.refl _ _).drewN _) (fun _ _ => id)), HL.out.few, HL.out.kept.drewN _, HL.out.rest⟩, HE⟩
        · have e0 : decide ((at' : Int) < (s.length : Int)) = false := by simp; omega
          go_wp2_with fail
          go_quiet (fail)
          go_wp2_with fail
          go_meet
          case rel => exact ⟨ws, at', ⟨HL.out.rd.drewN _, (owns_kept (S := fun _ => False) HL.out.own ((Kept.refl _ _).drewN _) (fun _ _ => id)), HL.out.few, HL.out.kept.drewN _, HL.out.rest⟩, HE⟩
      · have hlt : at' < s.length := by omega
        have e0 : decide ((at' : Int) < (s.length : Int)) = true := by simp; omega
        have hin : Hid (∀ j, j < n → ∃ h : at' + j < s.length, isWord (s[at' + j]'h) = true) := Lib.hid (fun j hj => by
          obtain ⟨h1, h2⟩ := takeWhile_in isWord (s.drop at') j (by rw [HN.out]; exact hj)
          refine ⟨by omega, ?_⟩
          simpa using h2)
        have hw : Hid (isWord (s[at']'hlt) = true) := Lib.hid (by obtain ⟨_, h⟩ := hin.out 0 (by omega); exact h)
        go_wp2_with fail
        go_quiet ((go_at_call 101; exact Calls.quiet_of_same (word_is true _ _ hw.out)))
        go_upto_block 2 with fail
        obtain ⟨w1, HW1⟩ : ∃ w1, Hid (wr.drewN nq = w1) := ⟨_, rfl⟩
        have hq1 : Qt wr w1 := ⟨nq, HW1.out.symm⟩
        rw [HW1.out]
        have H1 := Lib.hid (HL.out.rd.quiet hq1)
        have K1 := Lib.hid (HL.out.kept.trans (hq1.kept _))
        have how := owns_kept HL.out.own (hq1.kept (fun _ => False)) (fun _ _ => id)
        have hsz : base ≤ w1.heap.size := by have := K1.out.size; have := HBASE.out; omega
        have HOW := Lib.hid how
        clear c0 c1 hq1 how e0
        have c0 := H1.out.c0
        have c1 := H1.out.c1
        obtain ⟨q, HQ⟩ : ∃ q, Hid (at' + n = q) := ⟨_, rfl⟩
        have hqn : q = at' + n := HQ.out.symm
        go_cut [5] (fun k wx => k = .int .i64 (q : Int) ∧ wx = w1)
        case first =>
          go_wp2_with fail
          go_loop [5] (fun k => ∃ j : Nat, j ≤ n ∧ k = .int .i64 ((at' + j : Nat) : Int)) (fun k => s.length - (intOf k).toNat)
          case atStart => exact ⟨0, by omega, rfl⟩
          case round =>
            obtain ⟨j, hj, rfl⟩ := hrel
            by_cases hjn : j < n
            · obtain ⟨h3, h2⟩ := hin.out j hjn
              have e0 : decide ((at' : Int) + (j : Int) < (s.length : Int)) = true := by simp; omega
              have HW := Lib.hid h2
              clear h2
              go_wp2_with (go_at_call 101; refine (word_is true _ _ HW.out).mono ?_; rintro e w2 ⟨rfl, rfl⟩)
              go_round
              case rel => exact ⟨j + 1, by omega, by go_num⟩
              case measure => simp [intOf]; omega
            · obtain rfl : j = n := by omega
              by_cases hl2 : at' + j < s.length
              · have e0 : decide ((at' : Int) + (j : Int) < (s.length : Int)) = true := by simp; omega
                have HW : Hid (isWord (s[at' + j]'hl2) = false) := Lib.hid (by
                  have := takeWhile_stop isWord (s.drop at') (by rw [HN.out, List.length_drop]; omega)
                  simp only [HN.out] at this
                  simpa using this)
                go_wp2_with (go_at_call 101; refine (word_is false _ _ HW.out).mono ?_; rintro e w2 ⟨rfl, rfl⟩)
                go_meet
                case rel => exact ⟨by rw [hqn]; simp, rfl⟩
              · have e0 : decide ((at' : Int) + (j : Int) < (s.length : Int)) = false := by simp; omega
                go_wp2_with fail
                go_meet
                case rel => exact ⟨by rw [hqn]; simp, rfl⟩
        case rest =>
          obtain ⟨rfl, rfl⟩ := hcut
          have HNO : Hid (some b ≠ (Value.slice lo ws.length lc).ownBlock) := Lib.hid fun hx => by
            have := (HOW.out.lt b hx.symm).1; omega
          have hblt := H1.out.lt
          have e1 : (0 : Int) ≤ (at' : Int) := by omega
          have e2 : (at' : Int) ≤ (q : Int) := by omega
          have e3 : (q : Int) ≤ (s.length : Int) := by omega
          have hqle : q ≤ s.length := by omega
          have hqlt : at' < q := by omega
          have hwn : ws.length ≤ nW ws := by
            have : ∀ l : List B, l.length ≤ nW l := fun l => by
              induction l with
              | nil => simp [nW]
              | cons x l ih => simp only [nW, List.map_cons, List.sum_cons, List.length_cons] at ih ⊢; omega
            exact this ws
          have h63 : ws.length + 1 ≤ maxLen := by unfold maxLen; omega
          clear hqn
          go_upto_region 7 with fail
          have how1 := HOW.out
          go_region_held3 (fun w' => w'.cell? ⟨b, 0, none⟩ = some (.string (str s)) ∧ w'.cell? ⟨b, 1, none⟩ = some (.int .i64 (at' : Int))) (first | go_keep | (go_split_ands; refine ⟨?_, ?_⟩ <;> (rw [hgrow.cell_far _ (by simp; omega) HNO.out]; assumption)))
            ((refine step_append_lies _ (by rfl) _ _ _ (by rfl) base 9 i0 _ 1 16 Tryz.underlying37 hi0 hz0 hz1 hz2 rfl (by omega) _ ws.length _ (by rfl) (how1.alloc _) ⟨wc.heap.size, 0, none⟩ 1 1 (wordCells ((s.drop at').take (q - at'))) (by rfl) (by rfl) (World.news_of_block (cs := (wordCells ((s.drop at').take (q - at'))).toArray) (t := 9) (fr := (0, 0)) (heap_alloc_new wc _)) (by simp [wordCells, Value.oneCell']) (by omega) h63 (by omega) (by simp; omega) (wc.heap.size + 1) (by simp) ?_; intro gg cap w5 hown5 hgrow hat hlt5))
          all_goals
            have HWT : Hid ((s.drop at').takeWhile isWord = (s.drop at').take (q - at')) := Lib.hid (by
              have := takeWhile_take isWord (s.drop at')
              rw [HN.out] at this
              rw [← this, ← HQ.out, Nat.add_sub_cancel_left])
            obtain ⟨W, HWD⟩ : ∃ W, Hid ((s.drop at').take (q - at') = W) := ⟨_, rfl⟩
            have HWL : Hid (W.length = q - at') := Lib.hid (by rw [← HWD.out]; simp; omega)
            have HJL : Hid (nW ws + (q - at' + 1) = (joinW (ws ++ [W])).length + 1) := Lib.hid (by
              rw [← nW_join _ (by simp), nW_push, HWL.out])
            rw [HWD.out] at hown5
            have H5 := Lib.hid (own_rd2 H1.out hbb HOW.out ((Kept.refl _ _).alloc _).drew hgrow)
            have K5 := Lib.hid (own_grow2 K1.out HBASE.out HOW.out ((Kept.refl _ _).alloc _).drew hgrow)
            have c0' := H5.out.c0
            have c1' := H5.out.c1
            have f1' := H5.out.free 1
            have HST : Hid (∃ f, (s.drop at').length < f + 1 ∧ (if 60 < (joinW (ws ++ [W])).length then Ans.bad ⟨4, at'⟩ else (sGap (s.drop q) q).then fun x => sValL f (ws ++ [W]) x.1 x.2) = r) := Lib.hid (by
              obtain ⟨f, hf, hr⟩ := HL.out.rest
              cases f with
              | zero => omega
              | succ f =>
                have hst := sValL_step hr
                rw [HWT.out, HWD.out] at hst
                have hne : W ≠ [] := fun h => by have := HWL.out; rw [h] at this; simp at this; omega
                rw [if_neg hne, HWL.out, List.drop_drop, show at' + (q - at') = q from by omega] at hst
                exact ⟨f, hf, hst⟩)
            have HOWN5 := Lib.hid hown5
            clear c0 c1 hown5 how1
            by_cases hbig : 60 < nW ws + (q - at' + 1) - 1
            · have hR : Hid (r = .bad ⟨4, at'⟩) := Lib.hid (by
                obtain ⟨f, hf, hr⟩ := HST.out
                rw [← hr, if_pos (by have := HJL.out; omega)])
              have q4 : (60 : Int) < (nW ws : Int) + ((q : Int) - (at' : Int) + 1) - 1 := by omega
              clear hbig
              go_wp2_with fail
              refine (sfail_any 4 _ _ _ _ H5.out).mono ?_
              rintro e w9 ⟨rfl, hq9⟩
              go_wp2_with fail
              exact ⟨rfl, .bad (K5.out.trans (hq9.kept _)) hR.out⟩
            · have q4 : (nW ws : Int) + ((q : Int) - (at' : Int) + 1) - 1 ≤ 60 := by omega
              have HST2 : Hid (∃ f, (s.drop at').length < f + 1 ∧ ((sGap (s.drop q) q).then fun x => sValL f (ws ++ [W]) x.1 x.2) = r) := Lib.hid (by
                obtain ⟨f, hf, hr⟩ := HST.out
                rw [if_neg (by have := HJL.out; omega)] at hr
                exact ⟨f, hf, hr⟩)
              have H6 := Lib.hid (H5.out.set (x := (q : Int)) rfl hqle)
              have K6 := Lib.hid (K5.out.setCell (p := ⟨b, 1, none⟩) (.inl rfl) (.int .i64 (q : Int)))
              have HOW6 := Lib.hid (owns_kept HOWN5.out ((Kept.refl (· = b) _).setCell (p := ⟨b, 1, none⟩) (.inl rfl) (.int .i64 (q : Int))) (fun k hk => by have := (HOWN5.out.lt k hk).1; omega))
              have HM6 := Lib.hid (K6.out.cell (by show ¬ (0 = b); omega) HM.out)
              have HNW : Hid (((nW ws : Int) + ((q : Int) - (at' : Int) + 1)) = ((nW (ws ++ [W]) : Nat) : Int)) := Lib.hid (by rw [nW_push, HWL.out]; omega)
              have hnw : nW (ws ++ [W]) ≤ 61 := by rw [nW_push, HWL.out]; omega
              go_wp2_with fail
              generalize (w5.setCell ⟨b, 1, none⟩ (.int .i64 (q : Int))) = w6 at *
              refine (sblank_sum _ _ _ _ m H6.out HM6.out hb0).mono ?_
              rintro e w7 (⟨g, rfl, hk7, hp7⟩ | ⟨at7, rfl, hk7, h7, hp7⟩)
              · have hR : Hid (r = .bad g) := Lib.hid (by
                  obtain ⟨f, hf, hr⟩ := HST2.out
                  rw [← hr, hp7.out]; rfl)
                have K7 := Lib.hid (K6.out.trans hk7)
                clear hk7
                go_wp2_with fail
                exact ⟨rfl, .bad K7.out hR.out⟩
              · have hl7 := h7.2.1
                have hle7 : q ≤ at7 := by
                  obtain ⟨g, _, h1, h2, _⟩ := gap_loc hp7.out
                  omega
                have K7 := Lib.hid (K6.out.trans hk7)
                have H7 := Lib.hid h7
                have HOW7 := Lib.hid (owns_kept HOW6.out hk7 (fun k hk => by have := (HOW6.out.lt k hk).1; omega))
                have hR : Hid (∃ f, (s.drop at7).length < f ∧ sValL f (ws ++ [W]) (s.drop at7) at7 = r) := Lib.hid (by
                  obtain ⟨f, hf, hr⟩ := HST2.out
                  rw [hp7.out, Ans.ok_then] at hr
                  exact ⟨f, by rw [List.length_drop] at hf ⊢; omega, hr⟩)
                clear hk7 h7
                go_wp2_with fail
                go_roundg (s.length - at7)
                case measure => omega
                case rel => exact ⟨ws ++ [W], at7, ⟨H7.out, by simpa using HOW7.out, hnw, K7.out, hR.out⟩, by rw [HNW.out], rfl⟩
  case rest =>
    obtain ⟨ws, at', hL, HE⟩ := hcut
    have HL := Lib.hid hL
    have hfew := hL.few
    have hwn : ws.length ≤ nW ws := by
      have : ∀ l : List B, l.length ≤ nW l := fun l => by
        induction l with
        | nil => simp [nW]
        | cons x l ih => simp only [nW, List.map_cons, List.sum_cons, List.length_cons] at ih ⊢; omega
      exact this ws
    have HR' : Hid ((if ws = [] then Ans.bad ⟨2, at'⟩ else .ok (joinW ws, s.drop at', at')) = r) := Lib.hid (by
      obtain ⟨f, hf, hr⟩ := HL.out.rest
      cases f with
      | zero => omega
      | succ f =>
        have := sValL_step hr
        rw [HE.out, if_pos rfl] at this
        exact this)
    have hrows := rowsAt_of_owns word_rows (by simp) hL.own
    obtain ⟨va, vc, hv, hle, hcap, hcell⟩ := hrows
    simp only [List.length_map] at hv hle
    subst hv
    have HCELL := Lib.hid hcell
    clear hL hcell
    by_cases h0 : ws = []
    · subst h0
      have hR : Hid (r = .bad ⟨2, at'⟩) := Lib.hid (by rw [← HR'.out]; rfl)
      have e0 : (((([] : List B).length : Nat) : Int) == 0) = true := by simp
      go_wp2_with fail
      refine (sfail_any 2 _ _ _ _ HL.out.rd).mono ?_
      rintro e w9 ⟨rfl, hq9⟩
      go_wp2_with fail
      exact ⟨rfl, .bad (HL.out.kept.trans (hq9.kept _)) hR.out⟩
    · have hR : Hid (r = .ok (joinW ws, s.drop at', at')) := Lib.hid (by rw [← HR'.out, if_neg h0])
      have hpos : 0 < ws.length := List.length_pos_iff.2 h0
      have e0 : ((ws.length : Int) == 0) = false := by simp; exact h0
      obtain ⟨vb, vo, rfl, hc⟩ := HCELL.out (by simpa using h0)
      have hlt : vb < wc.heap.size := by
        have h1 := hc 0 (wordCells (ws[0]'hpos)) (by simp [List.getElem?_eq_getElem hpos]) 0 _ rfl
        exact World.block_lt_of_cell? wc _ h1
      have HJOIN : Hid (Calls Tryz.prog 53 #[.slice (some ⟨vb, vo, none⟩) ws.length vc, .string ⟨#[32]⟩] wc fun e w' => e = .returned (.string (str (joinW ws))) ∧ Below wc.heap.size wc w') := Lib.hid (by
        have hx : (ws.map str).map (·.data.toList) = ws := by rw [List.map_map]; exact (List.map_congr_left (fun x _ => rfl)).trans (List.map_id ws)
        have := Tryz.strings_Join vb vo vc (ws.map str) ⟨#[32]⟩ wc (fun j x hx => by
          simp only [List.getElem?_map, Option.map_eq_some_iff] at hx
          obtain ⟨y, hy, rfl⟩ := hx
          have := hc j (wordCells y) (by simp [hy]) 0 _ rfl
          simpa using this) hlt (by simp; omega) (by simpa using hle) (by
          rw [hx]
          show (Lib.join ws [32]).length ≤ _
          rw [join_is]
          have := nW_join ws h0
          omega)
        rw [hx] at this
        rw [show Lib.join ws (⟨#[32]⟩ : ByteArray).data.toList = joinW ws from join_is ws, List.length_map] at this
        exact this)
      clear h0
      go_wp2_with fail
      refine HJOIN.out.mono ?_
      rintro e w9 ⟨rfl, hb9⟩
      have K9 := Lib.hid (Kept.of_below (S := (· = b)) hb9)
      have H9 := Lib.hid (HL.out.rd.kept (Kept.of_below (S := fun _ => False) hb9) id)
      clear hb9
      go_wp2_with fail
      go_ret
      exact .inr ⟨joinW ws, at', rfl, HL.out.kept.trans K9.out, H9.out, hR⟩
end Go.Proofs.YtplbdlgmjehckadGreatDoor

namespace Go.Proofs.YtplbdlgmjehckadGreatDoor
open Go.RowKit
set_option linter.unusedVariables false
set_option linter.unusedSimpArgs false
theorem sDeclsL_step {f : Nat} {ds : List PDecl} {l : B} {a : Nat} {r : Ans (List PDecl × B × Nat)} (h : sDeclsL (f + 1) ds l a = r) :
    (if (l.isEmpty || ([125] : B).isPrefixOf l) = true then .ok (ds, l, a) else if ds.length = 20 then .bad ⟨5, a⟩ else
    (sName l a).then fun x1 => (sGap x1.2.1 x1.2.2).then fun x2 => (pMust [58] x2.1 x2.2).then fun x3 => (sGap x3.1 x3.2).then fun x4 => (sVal x4.1 x4.2).then fun x5 => (sStrong x5.2.1 x5.2.2).then fun x6 =>
      if ([59] : B).isPrefixOf x6.2.1 then (sGap (x6.2.1.drop 1) (x6.2.2 + 1)).then fun y => sDeclsL f (ds ++ [⟨x1.1, x5.1, x6.1⟩]) y.1 y.2 else .ok (ds ++ [⟨x1.1, x5.1, x6.1⟩], x6.2.1, x6.2.2)) = r := by
  rw [← h, sDeclsL]
  split
  · rfl
  · split
    · rfl
    · unfold sDecl
      cases sName l a with
      | bad f => rfl
      | ok x1 =>
        simp only [Ans.ok_then]
        cases sGap x1.2.1 x1.2.2 with
        | bad f => rfl
        | ok x2 =>
          simp only [Ans.ok_then]
          cases pMust [58] x2.1 x2.2 with
          | bad f => rfl
          | ok x3 =>
            simp only [Ans.ok_then]
            cases sGap x3.1 x3.2 with
            | bad f => rfl
            | ok x4 =>
              simp only [Ans.ok_then]
              cases sVal x4.1 x4.2 with
              | bad f => rfl
              | ok x5 =>
                simp only [Ans.ok_then]
                cases sStrong x5.2.1 x5.2.2 <;> rfl
structure DLoop (w wr : World) (b : Nat) (s : B) (base : Nat) (r : Ans (List PDecl × B × Nat)) (l : Value) (ds : List PDecl) (at' : Nat) : Prop where
  rd : SdAt wr b s at'
  own : wr.ownsRow base 98 3 l ds.length (ds.map declCells).flatten
  few : ds.length ≤ 20
  kept : Kept (· = b) w wr
  rest : ∃ f, (s.drop at').length < f ∧ sDeclsL f ds (s.drop at') at' = r
structure DDone (w wr : World) (b : Nat) (s : B) (base : Nat) (r : Ans (List PDecl × B × Nat)) (l : Value) (ds : List PDecl) (at' : Nat) : Prop where
  rd : SdAt wr b s at'
  own : wr.ownsRow base 98 3 l ds.length (ds.map declCells).flatten
  kept : Kept (· = b) w wr
  ok : r = .ok (ds, s.drop at', at')
theorem brace_no {l t : B} {c : UInt8} (h : l = c :: t) (hc : ¬ c = 125) : ¬ (l.isEmpty || ([125] : B).isPrefixOf l) = true := by
  rw [h, one_prefix]; simp [hc]
theorem drop_in {s : B} {a b : Nat} (h : a ≤ b) : (s.drop b).length ≤ (s.drop a).length := by simp; omega
set_option maxRecDepth 100000 in
set_option maxHeartbeats 6400000 in
theorem sdecls_sum (w : World) (b : Nat) (s : B) (at_ : Nat) (m : Int) (h : SdAt w b s at_) (hm : w.cell? ⟨0, 0, none⟩ = some (.int .i64 m)) (hb0 : 0 < b) :
    Calls Tryz.prog 45 #[.pointer (some ⟨b, 0, none⟩)] w (SSum (sDecls (s.drop at_) at_) w b s (fun w' ds e => ∃ v, e = .returned v ∧ DeclsIn w' (fun k => k < w.heap.size) v ds)) := by
  obtain ⟨r, HR⟩ : ∃ r, Hid (sDecls (s.drop at_) at_ = r) := ⟨_, rfl⟩
  rw [HR.out]
  have HM := Lib.hid hm
  obtain ⟨i0, hi0, hz0, hz1, hz2⟩ := info_parts info_decl
  obtain ⟨base, HBASE⟩ : ∃ base, Hid (w.heap.size = base) := ⟨_, rfl⟩
  have hbb : b < base := by have := h.lt; have := HBASE.out; omega
  have H := Lib.hid h
  have hl := h.2.1
  have hmx := h.2.2
  clear h hm
  rw [HBASE.out]
  go_enter Tryz.func45, Tryz.ntmps45
  go_wp2_with fail
  refine (sblank_sum _ _ _ _ m H.out HM.out hb0).mono ?_
  rintro e w1 (⟨g, rfl, hk1, hp1⟩ | ⟨at1, rfl, hk1, h1, hp1⟩)
  · have hR : Hid (r = .bad g) := Lib.hid (by rw [← HR.out]; unfold sDecls; rw [hp1.out]; rfl)
    have K1 := Lib.hid hk1
    clear hk1
    go_wp2_with fail
    exact ⟨rfl, .bad K1.out hR.out⟩
  · have HP0 : Hid (DLoop w w1 b s base r (.slice none 0 0) [] at1) := Lib.hid ⟨h1, World.ownsRow_nil _ _ _ _, by simp, hk1, _, Nat.lt_succ_self _, by rw [← HR.out]; unfold sDecls; rw [hp1.out]; rfl⟩
    have hl1 := h1.2.1
    clear hk1 h1 hp1 HR
    go_upto_block 0 with fail
    go_cut [3] (fun l wx => ∃ ds at', DDone w wx b s base r l ds at')
    case first =>
      go_wp2_with fail
      go_loopg [3] (s.length - at1) (fun k l wr => ∃ ds at', DLoop w wr b s base r l ds at' ∧ k = s.length - at')
      case atStart => exact ⟨[], at1, HP0.out, rfl⟩
      case round =>
        obtain ⟨ds, at', hL, hk⟩ := hrel
        have HL := Lib.hid hL
        have hfew := hL.few
        have hl' := hL.rd.2.1
        have c0 := hL.rd.c0
        have c1 := hL.rd.c1
        obtain ⟨lo, lc, rfl⟩ : ∃ vo vc, u3 = .slice vo ds.length vc := by
          rcases hL.own.2 with ⟨h, hn⟩ | ⟨g, cap, cur, h, _⟩
          · exact ⟨none, 0, by rw [h, hn]⟩
          · exact ⟨_, cap, h⟩
        obtain ⟨f0, hf0, hr0⟩ := hL.rest
        cases f0 with
        | zero => omega
        | succ f =>
        have hst := sDeclsL_step hr0
        have HF := Lib.hid hf0
        have HST := Lib.hid hst
        clear hL hr0 hf0 hst
        by_cases hlt : at' < s.length
        · have hd := List.drop_eq_getElem_cons hlt
          have HD := Lib.hid hd
          have e0 : decide ((at' : Int) < (s.length : Int)) = true := by simp; omega
          clear hd
          cases e1 : (((s[at']'hlt).toNat : Int) != 125) with
          | false =>
            have hR : Hid (r = .ok (ds, s.drop at', at')) := Lib.hid (by
              rw [← HST.out, if_pos]
              have : s[at']'hlt = 125 := UInt8.toNat_inj.1 (by simp at e1; have : (125 : UInt8).toNat = 125 := rfl; omega)
              rw [HD.out, this]; rfl)
            go_wp2_with fail
            go_quiet (fail)
            go_wp2_with fail
            go_meet
            case rel => exact ⟨ds, at', HL.out.rd.drewN _, owns_kept (S := fun _ => False) HL.out.own ((Kept.refl _ _).drewN _) (fun _ _ => id), HL.out.kept.drewN _, hR.out⟩
          | true =>
            have hne : ¬ s[at']'hlt = 125 := fun h => by rw [h] at e1; cases e1
            have hst := HST.out
            rw [if_neg (brace_no HD.out hne)] at hst
            have HST1 := Lib.hid hst
            clear hst hne
            go_wp2_with fail
            go_quiet (fail)
            obtain ⟨w2, HW2⟩ : ∃ w2, Hid (wr.drewN nq = w2) := ⟨_, rfl⟩
            have hq1 : Qt wr w2 := ⟨nq, HW2.out.symm⟩
            have H2 := Lib.hid (HL.out.rd.quiet hq1)
            have K2 := Lib.hid (HL.out.kept.trans (hq1.kept _))
            have HOW2 := Lib.hid (owns_kept HL.out.own (hq1.kept (fun _ => False)) (fun _ _ => id))
            clear hq1 c0 c1
            by_cases h20 : ds.length = 20
            · have e20 : ((ds.length : Int) == 20) = true := by simp; omega
              have hR : Hid (r = .bad ⟨5, at'⟩) := Lib.hid (by rw [← HST1.out, if_pos h20])
              clear h20
              go_wp2_with fail
              rw [HW2.out]
              refine (sfail_any 5 _ _ _ _ H2.out).mono ?_
              rintro e w9 ⟨rfl, hq9⟩
              go_wp2_with fail
              exact ⟨rfl, .bad (K2.out.trans (hq9.kept _)) hR.out⟩
            · have e20 : ((ds.length : Int) == 20) = false := by simp; omega
              have hst := HST1.out
              rw [if_neg h20] at hst
              have HE2 := Lib.hid hst
              have hfew20 : ds.length + 1 ≤ 20 := by omega
              clear hst h20
              go_wp2_with fail
              rw [HW2.out]
              refine (sname_sum _ _ _ _ H2.out).mono ?_
              rintro e w3 (⟨g, rfl, hk, hp⟩ | ⟨nm, at3, rfl, hk, h3, hp⟩)
              · have hR : Hid (r = .bad g) := Lib.hid (by rw [← HE2.out, hp.out]; rfl)
                have KB := Lib.hid (K2.out.trans hk)
                clear hk
                go_wp2_with fail
                exact ⟨rfl, .bad KB.out hR.out⟩
              · have HE3 : Hid (((sGap (s.drop at3) at3).then fun x2 => (pMust [58] x2.1 x2.2).then fun x3 => (sGap x3.1 x3.2).then fun x4 => (sVal x4.1 x4.2).then fun x5 => (sStrong x5.2.1 x5.2.2).then fun x6 =>
                    if ([59] : B).isPrefixOf x6.2.1 then (sGap (x6.2.1.drop 1) (x6.2.2 + 1)).then fun y => sDeclsL f (ds ++ [⟨nm, x5.1, x6.1⟩]) y.1 y.2 else .ok (ds ++ [⟨nm, x5.1, x6.1⟩], x6.2.1, x6.2.2)) = r) := Lib.hid (by rw [← HE2.out, hp.out]; rfl)
                have hlt3 : at' < at3 := by
                  obtain ⟨h1, h2, h3, _⟩ := name_pos hp.out
                  omega
                have K3 := Lib.hid (K2.out.trans hk)
                have H3 := Lib.hid h3
                have HKF := Lib.hid hk
                clear hk h3
                obtain ⟨nb, HNB⟩ : ∃ nb, Hid (w3.heap.size = nb) := ⟨_, rfl⟩
                obtain ⟨w4, HW4⟩ : ∃ x, Hid (w3.alloc (.cells #[.string (str nm), .string ⟨#[]⟩, .bool false] 98 (0, 0)) = x) := ⟨_, rfl⟩
                have H4 : Hid (SdAt w4 b s at3) := Lib.hid (by rw [← HW4.out]; exact H3.out.alloc _)
                have K4 : Hid (Kept (· = b) w w4) := Lib.hid (by rw [← HW4.out]; exact K3.out.alloc _)
                have J4 : Hid (Kept (· = b) w3 w4) := Lib.hid (by rw [← HW4.out]; exact (Kept.refl _ _).alloc _)
                have N4 : Hid (w4.heap[nb]? = some (.cells #[.string (str nm), .string ⟨#[]⟩, .bool false] 98 (0, 0))) := Lib.hid (by rw [← HW4.out, ← HNB.out]; exact newIn _ _)
                have hnb : ¬ nb = b := by have := H3.out.lt; have := HNB.out; omega
                have hnbb : b ≠ nb := fun hh => hnb hh.symm
                have hnb2 : w3.heap.size ≤ nb := by have := HNB.out; omega
                have HM4 := Lib.hid (K4.out.cell (by show ¬ (0 = b); omega) HM.out)
                go_wp2_with fail
                rw [HW4.out, HNB.out]
                clear HW4
                have HE4 := HE3
                refine (sblank_sum _ _ _ _ m H4.out HM4.out hb0).mono ?_
                rintro e w5 (⟨g, rfl, hk, hp⟩ | ⟨at5, rfl, hk, h5, hp⟩)
                · have hR : Hid (r = .bad g) := Lib.hid (by rw [← HE4.out, hp.out]; rfl)
                  have KB := Lib.hid (K4.out.trans hk)
                  clear hk
                  go_wp2_with fail
                  exact ⟨rfl, .bad KB.out hR.out⟩
                · have HE5 : Hid (((pMust [58] (s.drop at5) at5).then fun x3 => (sGap x3.1 x3.2).then fun x4 => (sVal x4.1 x4.2).then (fun x5 : B × B × Nat => (sStrong x5.2.1 x5.2.2).then fun x6 => if ([59] : B).isPrefixOf x6.2.1 then (sGap (x6.2.1.drop 1) (x6.2.2 + 1)).then fun y => sDeclsL f (ds ++ [⟨nm, x5.1, x6.1⟩]) y.1 y.2 else .ok (ds ++ [⟨nm, x5.1, x6.1⟩], x6.2.1, x6.2.2))) = r) := Lib.hid (by rw [← HE4.out, hp.out]; rfl)
                  have hl5 := h5.2.1
                  have hle5 : at3 ≤ at5 := by obtain ⟨_, _, h1, h2, _⟩ := gap_loc hp.out; omega
                  have K5 := Lib.hid (K4.out.trans hk)
                  have J5 := Lib.hid (J4.out.trans hk)
                  have H5 := Lib.hid h5
                  have N5 := Lib.hid (hk.heap hnb N4.out)
                  have HM5 := Lib.hid (K5.out.cell (by show ¬ (0 = b); omega) HM.out)
                  clear hk h5
                  go_wp2_with fail
                  refine (smust_sum [58] _ _ _ _ H5.out).mono ?_
                  rintro e w6 (⟨g, rfl, hk, hp⟩ | ⟨at6, rfl, hk, h6, hp⟩)
                  · have hR : Hid (r = .bad g) := Lib.hid (by rw [← HE5.out, hp.out]; rfl)
                    have KB := Lib.hid (K5.out.trans hk)
                    clear hk
                    go_wp2_with fail
                    exact ⟨rfl, .bad KB.out hR.out⟩
                  · have HE6 : Hid (((sGap (s.drop at6) at6).then fun x4 => (sVal x4.1 x4.2).then (fun x5 : B × B × Nat => (sStrong x5.2.1 x5.2.2).then fun x6 => if ([59] : B).isPrefixOf x6.2.1 then (sGap (x6.2.1.drop 1) (x6.2.2 + 1)).then fun y => sDeclsL f (ds ++ [⟨nm, x5.1, x6.1⟩]) y.1 y.2 else .ok (ds ++ [⟨nm, x5.1, x6.1⟩], x6.2.1, x6.2.2))) = r) := Lib.hid (by rw [← HE5.out, hp.out]; rfl)
                    have hl6 := h6.2.1
                    have hle6 : at5 ≤ at6 := by have := (must_loc hp.out).2.1; omega
                    have K6 := Lib.hid (K5.out.trans hk)
                    have J6 := Lib.hid (J5.out.trans hk)
                    have H6 := Lib.hid h6
                    have N6 := Lib.hid (hk.heap hnb N5.out)
                    have HM6 := Lib.hid (K6.out.cell (by show ¬ (0 = b); omega) HM.out)
                    clear hk h6
                    go_wp2_with fail
                    refine (sblank_sum _ _ _ _ m H6.out HM6.out hb0).mono ?_
                    rintro e w7 (⟨g, rfl, hk, hp⟩ | ⟨at7, rfl, hk, h7, hp⟩)
                    · have hR : Hid (r = .bad g) := Lib.hid (by rw [← HE6.out, hp.out]; rfl)
                      have KB := Lib.hid (K6.out.trans hk)
                      clear hk
                      go_wp2_with fail
                      exact ⟨rfl, .bad KB.out hR.out⟩
                    · have HE7 : Hid (((sVal (s.drop at7) at7).then (fun x5 : B × B × Nat => (sStrong x5.2.1 x5.2.2).then fun x6 => if ([59] : B).isPrefixOf x6.2.1 then (sGap (x6.2.1.drop 1) (x6.2.2 + 1)).then fun y => sDeclsL f (ds ++ [⟨nm, x5.1, x6.1⟩]) y.1 y.2 else .ok (ds ++ [⟨nm, x5.1, x6.1⟩], x6.2.1, x6.2.2))) = r) := Lib.hid (by rw [← HE6.out, hp.out]; rfl)
                      have hl7 := h7.2.1
                      have hle7 : at6 ≤ at7 := by obtain ⟨_, _, h1, h2, _⟩ := gap_loc hp.out; omega
                      have K7 := Lib.hid (K6.out.trans hk)
                      have J7 := Lib.hid (J6.out.trans hk)
                      have H7 := Lib.hid h7
                      have N7 := Lib.hid (hk.heap hnb N6.out)
                      have HM7 := Lib.hid (K7.out.cell (by show ¬ (0 = b); omega) HM.out)
                      clear hk h7
                      go_wp2_with fail
                      refine (sval_sum _ _ _ _ m H7.out HM7.out hb0).mono ?_
                      rintro e w8 (⟨g, rfl, hk, hp⟩ | ⟨v, at8, rfl, hk, h8, hp⟩)
                      · have hR : Hid (r = .bad g) := Lib.hid (by rw [← HE7.out, hp.out]; rfl)
                        have KB := Lib.hid (K7.out.trans hk)
                        clear hk
                        go_wp2_with fail
                        exact ⟨rfl, .bad KB.out hR.out⟩
                      · have HE8 : Hid (((sStrong (s.drop at8) at8).then (fun x6 : Bool × B × Nat => if ([59] : B).isPrefixOf x6.2.1 then (sGap (x6.2.1.drop 1) (x6.2.2 + 1)).then fun y => sDeclsL f (ds ++ [⟨nm, v, x6.1⟩]) y.1 y.2 else .ok (ds ++ [⟨nm, v, x6.1⟩], x6.2.1, x6.2.2))) = r) := Lib.hid (by rw [← HE7.out, hp.out]; rfl)
                        have hl8 := h8.2.1
                        have hle8 : at7 ≤ at8 := by obtain ⟨_, h1, h2, _⟩ := val_loc _ _ _ _ _ hp.out; omega
                        have K8 := Lib.hid (K7.out.trans hk)
                        have J8 := Lib.hid (J7.out.trans hk)
                        have H8 := Lib.hid h8
                        have hn8 := hk.heap hnb N7.out
                        have n1 := cellIn hn8 1 rfl
                        have nf1 := freeIn hn8 1
                        have N8 := Lib.hid hn8
                        clear hk h8 hn8
                        go_upto_region 11 with fail
                        have H9 := Lib.hid (H8.out.other (p := ⟨nb, 1, none⟩) (x := .string (str v)) hnbb)
                        have K9 := Lib.hid (K8.out.setCell (p := ⟨nb, 1, none⟩) (.inr (by show w.heap.size ≤ nb; have := K3.out.size; omega)) (.string (str v)))
                        have J9 := Lib.hid (J8.out.setCell (p := ⟨nb, 1, none⟩) (.inr hnb2) (.string (str v)))
                        have hn9 : (w8.setCell ⟨nb, 1, none⟩ (.string (str v))).heap[nb]? = some (.cells #[.string (str nm), .string (str v), .bool false] 98 (0, 0)) := by
                          have := setIn N8.out 1 (.string (str v))
                          simpa using this
                        have N9 := Lib.hid hn9
                        clear n1 nf1 hn9
                        generalize (w8.setCell ⟨nb, 1, none⟩ (.string (str v))) = w9 at *
                        have HM9 := Lib.hid (K9.out.cell (by show ¬ (0 = b); omega) HM.out)
                        obtain ⟨q9, HQ9⟩ : ∃ q, Hid (([33] : B).isPrefixOf (s.drop at8) = q) := ⟨_, rfl⟩
                        go_wp2_with fail
                        refine (seat_is q9 [33] _ _ _ _ H9.out HQ9.out).mono ?_
                        rintro e w10 ⟨rfl, hk10, h10⟩
                        have H10 := Lib.hid h10
                        have J10 := Lib.hid (J9.out.trans hk10)
                        have N10 := Lib.hid (hk10.heap hnb N9.out)
                        clear hk10 h10
                        go_upto_if 47 with fail
                        go_cut [] (fun wx => ∃ (st : Bool) (at6 : Nat), SdAt wx b s at6 ∧ Kept (· = b) w3 wx ∧ wx.heap[nb]? = some (.cells #[.string (str nm), .string (str v), .bool st] 98 (0, 0)) ∧ Hid (sStrong (s.drop at8) at8 = .ok (st, s.drop at6, at6)))
                        case first =>
                          cases q9 with
                          | false =>
                            have HS : Hid (sStrong (s.drop at8) at8 = .ok (false, s.drop at8, at8)) := Lib.hid (by unfold sStrong; rw [HQ9.out, if_neg (by simp)])
                            go_wp2_with fail
                            go_meet
                            case rel => exact ⟨false, at8, H10.out, J10.out, N10.out, HS⟩
                          | true =>
                            have H10' : Hid (SdAt w10 b s (at8 + 1)) := Lib.hid H10.out
                            have HSS : Hid (((pMust importantWord (s.drop (at8 + 1)) (at8 + 1)).then fun x => (sGap x.1 x.2).then fun y => Ans.ok (true, y.1, y.2)) = sStrong (s.drop at8) at8) := Lib.hid (by unfold sStrong; rw [if_pos HQ9.out, List.drop_drop])
                            go_wp2_with fail
                            refine (smust_sum importantWord _ _ _ _ H10'.out).mono ?_
                            rintro e w11 (⟨g, rfl, hk, hp⟩ | ⟨at11, rfl, hk, h11, hp⟩)
                            · have hR : Hid (r = .bad g) := Lib.hid (by rw [← HE8.out, ← HSS.out, hp.out]; rfl)
                              have KB := Lib.hid ((K3.out.trans J10.out).trans hk)
                              clear hk
                              go_wp2_with fail
                              exact ⟨rfl, .bad KB.out hR.out⟩
                            · have HSS2 : Hid (((sGap (s.drop at11) at11).then fun y => Ans.ok (true, y.1, y.2)) = sStrong (s.drop at8) at8) := Lib.hid (by rw [← HSS.out, hp.out]; rfl)
                              have J11 := Lib.hid (J10.out.trans hk)
                              have H11 := Lib.hid h11
                              have hn11 := hk.heap hnb N10.out
                              have n2 := cellIn hn11 2 rfl
                              have nf2 := freeIn hn11 2
                              have N11 := Lib.hid hn11
                              clear hk h11 hn11
                              go_upto_region 14 with fail
                              have H12 := Lib.hid (H11.out.other (p := ⟨nb, 2, none⟩) (x := .bool true) hnbb)
                              have J12 := Lib.hid (J11.out.setCell (p := ⟨nb, 2, none⟩) (.inr hnb2) (.bool true))
                              have hn12 : (w11.setCell ⟨nb, 2, none⟩ (.bool true)).heap[nb]? = some (.cells #[.string (str nm), .string (str v), .bool true] 98 (0, 0)) := by
                                have := setIn N11.out 2 (.bool true)
                                simpa using this
                              have N12 := Lib.hid hn12
                              clear n2 nf2 hn12
                              generalize (w11.setCell ⟨nb, 2, none⟩ (.bool true)) = w12 at *
                              have HM12 := Lib.hid ((K3.out.trans J12.out).cell (by show ¬ (0 = b); omega) HM.out)
                              go_wp2_with fail
                              refine (sblank_sum _ _ _ _ m H12.out HM12.out hb0).mono ?_
                              rintro e w13 (⟨g, rfl, hk, hp⟩ | ⟨at13, rfl, hk, h13, hp⟩)
                              · have hR : Hid (r = .bad g) := Lib.hid (by rw [← HE8.out, ← HSS2.out, hp.out]; rfl)
                                have KB := Lib.hid ((K3.out.trans J12.out).trans hk)
                                clear hk
                                go_wp2_with fail
                                exact ⟨rfl, .bad KB.out hR.out⟩
                              · have HS : Hid (sStrong (s.drop at8) at8 = .ok (true, s.drop at13, at13)) := Lib.hid (by rw [← HSS2.out, hp.out]; rfl)
                                have J13 := Lib.hid (J12.out.trans hk)
                                have H13 := Lib.hid h13
                                have N13 := Lib.hid (hk.heap hnb N12.out)
                                clear hk h13
                                go_wp2_with fail
                                go_meet
                                case rel => exact ⟨true, at13, H13.out, J13.out, N13.out, HS⟩
                        case rest =>
                          obtain ⟨st, at14, h14, j14, hn14, HS⟩ := hcut
                          have hle14 : at8 ≤ at14 := by obtain ⟨_, h1, h2, _⟩ := strong_loc _ _ _ _ _ HS.out; omega
                          have hl14 := h14.2.1
                          have HE14 : Hid ((if ([59] : B).isPrefixOf (s.drop at14) then (sGap (s.drop (at14 + 1)) (at14 + 1)).then fun y => sDeclsL f (ds ++ [⟨nm, v, st⟩]) y.1 y.2 else .ok (ds ++ [⟨nm, v, st⟩], s.drop at14, at14)) = r) := Lib.hid (by
                            rw [← HE8.out, HS.out, Ans.ok_then]; simp only [List.drop_drop])
                          have n0 := cellIn hn14 0 rfl
                          have n1 := cellIn hn14 1 rfl
                          have n2 := cellIn hn14 2 rfl
                          have K14 := Lib.hid (K3.out.trans j14)
                          have how14 := owns_kept HOW2.out (HKF.out.trans j14) (fun k hk => by have := (HOW2.out.lt k hk).1; omega)
                          have hsz14 : base ≤ wc.heap.size := by have := K14.out.size; have := HBASE.out; omega
                          have H14 := Lib.hid h14
                          clear h14 j14 hn14
                          go_wp2_with (at_builtin; refine wpList_append_lies _ rfl _ _ _ rfl base 98 i0 _ 3 40 Tryz.underlying45 hi0 hz0 hz1 hz2 rfl (by omega) _ ds.length _ (by rfl) (how14.alloc _) ⟨wc.heap.size, 0, none⟩ 1 1 (declCells ⟨nm, v, st⟩) (by rfl) (by rfl) (World.news_of_block (cs := (declCells ⟨nm, v, st⟩).toArray) (t := 98) (fr := (0, 0)) (heap_alloc_new wc _)) (by simp [declCells, Value.oneCell']) (by omega) (by unfold maxLen; omega) (by omega) (by simp; omega) (wc.heap.size + 1) (by simp) ?_; intro gg cap w15 hown15 hgrow15 hat15 hlt15)
                          have H15 := Lib.hid (own_rd H14.out hbb how14 hgrow15)
                          have K15 := Lib.hid (own_grow K14.out HBASE.out how14 hgrow15)
                          have HOW15 : Hid (w15.ownsRow base 98 3 (.slice (some ⟨gg, 0, none⟩) (ds.length + 1) cap) (ds ++ [(⟨nm, v, st⟩ : PDecl)]).length ((ds ++ [(⟨nm, v, st⟩ : PDecl)]).map declCells).flatten) := Lib.hid (by simpa [declCells] using hown15)
                          clear n0 n1 n2 how14 hown15
                          cases p59 : ([59] : B).isPrefixOf (s.drop at14) with
                          | false =>
                            have hR : Hid (r = .ok (ds ++ [⟨nm, v, st⟩], s.drop at14, at14)) := Lib.hid (by rw [← HE14.out, p59, if_neg (by simp)])
                            refine (seat_is false [59] _ _ _ _ H15.out p59).mono ?_
                            rintro e w16 ⟨rfl, hk16, h16⟩
                            have h16' : SdAt w16 b s at14 := h16
                            have HOW16 := Lib.hid (owns_kept HOW15.out hk16 (fun k hk => by have := (HOW15.out.lt k hk).1; omega))
                            have K16 := Lib.hid (K15.out.trans hk16)
                            have H16 := Lib.hid h16'
                            clear hk16 h16 h16' p59
                            go_wp2_with fail
                            go_meet
                            case rel => exact ⟨ds ++ [⟨nm, v, st⟩], at14, H16.out, HOW16.out, K16.out, hR.out⟩
                          | true =>
                            have HE16 : Hid (((sGap (s.drop (at14 + 1)) (at14 + 1)).then fun y => sDeclsL f (ds ++ [⟨nm, v, st⟩]) y.1 y.2) = r) := Lib.hid (by rw [← HE14.out, if_pos p59])
                            refine (seat_is true [59] _ _ _ _ H15.out p59).mono ?_
                            rintro e w16 ⟨rfl, hk16, h16⟩
                            have h16' : SdAt w16 b s (at14 + 1) := h16
                            have HOW16 := Lib.hid (owns_kept HOW15.out hk16 (fun k hk => by have := (HOW15.out.lt k hk).1; omega))
                            have K16 := Lib.hid (K15.out.trans hk16)
                            have H16 := Lib.hid h16'
                            have HM16 := Lib.hid (K16.out.cell (by show ¬ (0 = b); omega) HM.out)
                            clear hk16 h16 h16' p59
                            go_wp2_with fail
                            refine (sblank_sum _ _ _ _ m H16.out HM16.out hb0).mono ?_
                            rintro e w17 (⟨g, rfl, hk, hp⟩ | ⟨at17, rfl, hk, h17, hp⟩)
                            · have hR : Hid (r = .bad g) := Lib.hid (by rw [← HE16.out, hp.out]; rfl)
                              have KB := Lib.hid (K16.out.trans hk)
                              clear hk
                              go_wp2_with fail
                              exact ⟨rfl, .bad KB.out hR.out⟩
                            · have hl17 := h17.2.1
                              have hle17 : at14 + 1 ≤ at17 := by obtain ⟨_, _, h1, h2, _⟩ := gap_loc hp.out; omega
                              have hR : Hid (∃ f, (s.drop at17).length < f ∧ sDeclsL f (ds ++ [⟨nm, v, st⟩]) (s.drop at17) at17 = r) := Lib.hid (by
                                have h1 := HE16.out
                                rw [hp.out, Ans.ok_then] at h1
                                have := HF.out
                                exact ⟨f, by rw [List.length_drop] at this ⊢; omega, h1⟩)
                              have K17 := Lib.hid (K16.out.trans hk)
                              have H17 := Lib.hid h17
                              have HOW17 := Lib.hid (owns_kept HOW16.out hk (fun k hk => by have := (HOW16.out.lt k hk).1; omega))
                              clear hk h17
                              go_wp2_with fail
                              go_roundg (s.length - at17)
                              case measure => omega
                              case rel => exact ⟨ds ++ [⟨nm, v, st⟩], at17, ⟨H17.out, HOW17.out, by simpa using hfew20, K17.out, hR.out⟩, rfl⟩
        · have e0 : decide ((at' : Int) < (s.length : Int)) = false := by simp; omega
          have hR : Hid (r = .ok (ds, s.drop at', at')) := Lib.hid (by
            rw [← HST.out, if_pos]
            rw [List.drop_eq_nil_of_le (by omega)]; rfl)
          go_wp2_with fail
          go_quiet (fail)
          go_wp2_with fail
          go_meet
          case rel => exact ⟨ds, at', HL.out.rd.drewN _, owns_kept (S := fun _ => False) HL.out.own ((Kept.refl _ _).drewN _) (fun _ _ => id), HL.out.kept.drewN _, hR.out⟩
    case rest =>
      obtain ⟨ds, at', hD⟩ := hcut
      have HD := Lib.hid hD
      clear hD
      go_wp2_with fail
      go_ret
      refine .inr ⟨ds, at', ⟨_, rfl, rowsAt_of_owns decl_rows (by simp) HD.out.own, fun k hk => ⟨?_, (HD.out.own.lt k hk).2⟩⟩, HD.out.kept, HD.out.rd, Lib.hid HD.out.ok⟩
      have := (HD.out.own.lt k hk).1
      omega
end Go.Proofs.YtplbdlgmjehckadGreatDoor


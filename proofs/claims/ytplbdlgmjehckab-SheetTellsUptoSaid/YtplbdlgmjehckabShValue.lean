/-
  The reader of sheets: a value, word by word.
-/
import Derived.Test.YtplbdlgmjehckabShVal
import Derived.Deep.RegionHeld3
namespace Go.Proofs.Ytplbdlgmjehckab
open Go.RowKit
set_option linter.unusedVariables false
set_option linter.unusedSimpArgs false

def wordCells (x : B) : List Value := [.string (str x)]
def nW (ws : List B) : Nat := (ws.map fun w => w.length + 1).sum
theorem nW_push (ws : List B) (w : B) : nW (ws ++ [w]) = nW ws + (w.length + 1) := by simp [nW]
theorem nW_join : ∀ ws : List B, ws ≠ [] → nW ws = (joinW ws).length + 1
  | [], h => absurd rfl h
  | [w], _ => by simp [nW, joinW]
  | w :: x :: ws, _ => by
    have := nW_join (x :: ws) (by simp)
    rw [joinW_cons w (x :: ws) (by simp)]
    simp only [nW, List.map_cons, List.sum_cons, List.length_append, List.length_cons, List.length_nil] at this ⊢
    omega
theorem word_rows {ws : List B} : ∀ r ∈ ws.map wordCells, r.length = 1 := by
  intro r hr
  obtain ⟨a, _, rfl⟩ := List.mem_map.1 hr
  rfl
theorem word_is (q : Bool) (c : UInt8) (w : World) (h : isWord c = q) :
    Calls Try.prog 55 #[.int .u8 (c.toNat : Int)] w fun e w' => e = .returned (.bool q) ∧ w' = w := by
  subst h; exact word_any c w

theorem sValL_step {f : Nat} {ws : List B} {l : B} {a : Nat} {r : Ans (B × B × Nat)} (h : sValL (f + 1) ws l a = r) :
    (if l.takeWhile isWord = [] then (if ws = [] then .bad ⟨2, a⟩ else .ok (joinW ws, l, a))
    else if 60 < (joinW (ws ++ [l.takeWhile isWord])).length then .bad ⟨4, a⟩
    else (sGap (l.drop (l.takeWhile isWord).length) (a + (l.takeWhile isWord).length)).then fun x => sValL f (ws ++ [l.takeWhile isWord]) x.1 x.2) = r := by
  rw [← h, sValL]

theorem own_grow2 {w0 w wm w' : World} {b base e size n : Nat} {v : Value} {xs : List Value} (hk : Kept (· = b) w0 w) (hb : w0.heap.size = base) (hown : w.ownsRow base e size v n xs) (hm : Kept (fun _ => False) w wm) (hg : wm.grownBy w' v.ownBlock) : Kept (· = b) w0 w' :=
  (hk.trans (hm.mono (fun _ _ h => h.elim))).grown hg (fun k hk => .inr (by have := (hown.lt k hk).1; omega))
theorem own_rd2 {w wm w' : World} {b base e size n at_ : Nat} {s : B} {v : Value} {xs : List Value} (h : SdAt w b s at_) (hb : b < base) (hown : w.ownsRow base e size v n xs) (hm : Kept (fun _ => False) w wm) (hg : wm.grownBy w' v.ownBlock) : SdAt w' b s at_ :=
  h.kept ((hm.mono (T := fun k => v.ownBlock = some k) (fun _ _ h => h.elim)).grown hg (fun k hk => .inl hk)) (fun hk => by have := (hown.lt b hk).1; omega)

structure VLoop (w wr : World) (b : Nat) (s : B) (base : Nat) (r : Ans (B × B × Nat)) (l : Value) (ws : List B) (at' : Nat) : Prop where
  rd : SdAt wr b s at'
  own : wr.ownsRow base 9 1 l ws.length (ws.map wordCells).flatten
  few : nW ws ≤ 61
  kept : Kept (· = b) w wr
  rest : ∃ f, (s.drop at').length < f ∧ sValL f ws (s.drop at') at' = r

set_option maxRecDepth 100000 in
set_option maxHeartbeats 3200000 in
theorem sval_sum (w : World) (b : Nat) (s : B) (at_ : Nat) (m : Int) (h : SdAt w b s at_) (hm : w.cell? ⟨0, 0, none⟩ = some (.int .i64 m)) (hb0 : 0 < b) :
    Calls Try.prog 42 #[.pointer (some ⟨b, 0, none⟩)] w (SSum (sVal (s.drop at_) at_) w b s (fun w' v e => e = .returned (.string (str v)))) := by
  obtain ⟨r, HR⟩ : ∃ r, Hid (sVal (s.drop at_) at_ = r) := ⟨_, rfl⟩
  rw [HR.out]
  have HM := Lib.hid hm
  obtain ⟨i0, hi0, hz0, hz1, hz2⟩ := info_parts info_str
  obtain ⟨base, HBASE⟩ : ∃ base, Hid (w.heap.size = base) := ⟨_, rfl⟩
  have hbb : b < base := by have := h.lt; have := HBASE.out; omega
  have H := Lib.hid h
  have hl := h.2.1
  have hmx := h.2.2
  clear h hm
  have HP0 : Hid (VLoop w w b s base r (.slice none 0 0) [] at_) := Lib.hid ⟨H.out, World.ownsRow_nil _ _ _ _, by simp [nW], Kept.refl _ _, _, Nat.lt_succ_self _, HR.out⟩
  go_enter Try.func42, Try.ntmps42
  go_upto_block 0 with fail
  go_cut [3] (fun l wx => ∃ ws at', VLoop w wx b s base r l ws at' ∧ Hid ((s.drop at').takeWhile isWord = []))
  case first =>
    go_wp2_with fail
    go_loopg [3, 4] (s.length - at_) (fun k l n wr => ∃ ws at', VLoop w wr b s base r l ws at' ∧ n = .int .i64 (nW ws : Int) ∧ k = s.length - at')
    case atStart => exact ⟨[], at_, HP0.out, rfl, rfl⟩
    case round =>
      obtain ⟨ws, at', hL, rfl, hk⟩ := hrel
      have HL := Lib.hid hL
      have hfew := hL.few
      have hl' := hL.rd.2.1
      have c0 := hL.rd.c0
      have c1 := hL.rd.c1
      have hform : ∃ vo vc, u3 = .slice vo ws.length vc := by
        rcases hL.own.2 with ⟨h, hn⟩ | ⟨g, cap, cur, h, _⟩
        · exact ⟨none, 0, by rw [h, hn]⟩
        · exact ⟨_, cap, h⟩
      obtain ⟨lo, lc, rfl⟩ := hform
      clear hL
      obtain ⟨n, HN⟩ : ∃ n, Hid (((s.drop at').takeWhile isWord).length = n) := ⟨_, rfl⟩
      have hnle : at' + n ≤ s.length := by
        have := takeWhile_len_le isWord (s.drop at'); rw [HN.out, List.length_drop] at this; omega
      by_cases h0 : n = 0
      · subst h0
        have HE : Hid ((s.drop at').takeWhile isWord = []) := Lib.hid (List.length_eq_zero_iff.1 HN.out)
        by_cases hlt : at' < s.length
        · have e0 : decide ((at' : Int) < (s.length : Int)) = true := by simp; omega
          have hw : Hid (isWord (s[at']'hlt) = false) := Lib.hid (by
            have := takeWhile_stop isWord (s.drop at') (by rw [HN.out, List.length_drop]; omega)
            simp only [HN.out] at this
            simpa using this)
          go_wp2_with fail
          go_quiet ((go_at_call 55; exact Calls.quiet_of_same (word_is false _ _ hw.out)))
          go_wp2_with fail
          go_meet
          case rel => exact ⟨ws, at', ⟨HL.out.rd.drewN _, (owns_kept (S := fun _ => False) HL.out.own ((Kept.refl _ _).drewN _) (fun _ _ => id)), HL.out.few, HL.out.kept.drewN _, HL.out.rest⟩, HE⟩
        · have e0 : decide ((at' : Int) < (s.length : Int)) = false := by simp; omega
          go_wp2_with fail
          go_quiet (fail)
          go_wp2_with fail
          go_meet
          case rel => exact ⟨ws, at', ⟨HL.out.rd.drewN _, (owns_kept (S := fun _ => False) HL.out.own ((Kept.refl _ _).drewN _) (fun _ _ => id)), HL.out.few, HL.out.kept.drewN _, HL.out.rest⟩, HE⟩
      · have hlt : at' < s.length := by omega
        have e0 : decide ((at' : Int) < (s.length : Int)) = true := by simp; omega
        have hin : Hid (∀ j, j < n → ∃ h : at' + j < s.length, isWord (s[at' + j]'h) = true) := Lib.hid (fun j hj => by
          obtain ⟨h1, h2⟩ := takeWhile_in isWord (s.drop at') j (by rw [HN.out]; exact hj)
          refine ⟨by omega, ?_⟩
          simpa using h2)
        have hw : Hid (isWord (s[at']'hlt) = true) := Lib.hid (by obtain ⟨_, h⟩ := hin.out 0 (by omega); exact h)
        go_wp2_with fail
        go_quiet ((go_at_call 55; exact Calls.quiet_of_same (word_is true _ _ hw.out)))
        go_upto_block 2 with fail
        obtain ⟨w1, HW1⟩ : ∃ w1, Hid (wr.drewN nq = w1) := ⟨_, rfl⟩
        have hq1 : Qt wr w1 := ⟨nq, HW1.out.symm⟩
        rw [HW1.out]
        have H1 := Lib.hid (HL.out.rd.quiet hq1)
        have K1 := Lib.hid (HL.out.kept.trans (hq1.kept _))
        have how := owns_kept HL.out.own (hq1.kept (fun _ => False)) (fun _ _ => id)
        have hsz : base ≤ w1.heap.size := by have := K1.out.size; have := HBASE.out; omega
        have HOW := Lib.hid how
        clear c0 c1 hq1 how e0
        have c0 := H1.out.c0
        have c1 := H1.out.c1
        obtain ⟨q, HQ⟩ : ∃ q, Hid (at' + n = q) := ⟨_, rfl⟩
        have hqn : q = at' + n := HQ.out.symm
        go_cut [5] (fun k wx => k = .int .i64 (q : Int) ∧ wx = w1)
        case first =>
          go_wp2_with fail
          go_loop [5] (fun k => ∃ j : Nat, j ≤ n ∧ k = .int .i64 ((at' + j : Nat) : Int)) (fun k => s.length - (intOf k).toNat)
          case atStart => exact ⟨0, by omega, rfl⟩
          case round =>
            obtain ⟨j, hj, rfl⟩ := hrel
            by_cases hjn : j < n
            · obtain ⟨h3, h2⟩ := hin.out j hjn
              have e0 : decide ((at' : Int) + (j : Int) < (s.length : Int)) = true := by simp; omega
              have HW := Lib.hid h2
              clear h2
              go_wp2_with (go_at_call 55; refine (word_is true _ _ HW.out).mono ?_; rintro e w2 ⟨rfl, rfl⟩)
              go_round
              case rel => exact ⟨j + 1, by omega, by go_num⟩
              case measure => simp [intOf]; omega
            · obtain rfl : j = n := by omega
              by_cases hl2 : at' + j < s.length
              · have e0 : decide ((at' : Int) + (j : Int) < (s.length : Int)) = true := by simp; omega
                have HW : Hid (isWord (s[at' + j]'hl2) = false) := Lib.hid (by
                  have := takeWhile_stop isWord (s.drop at') (by rw [HN.out, List.length_drop]; omega)
                  simp only [HN.out] at this
                  simpa using this)
                go_wp2_with (go_at_call 55; refine (word_is false _ _ HW.out).mono ?_; rintro e w2 ⟨rfl, rfl⟩)
                go_meet
                case rel => exact ⟨by rw [hqn]; simp, rfl⟩
              · have e0 : decide ((at' : Int) + (j : Int) < (s.length : Int)) = false := by simp; omega
                go_wp2_with fail
                go_meet
                case rel => exact ⟨by rw [hqn]; simp, rfl⟩
        case rest =>
          obtain ⟨rfl, rfl⟩ := hcut
          have HNO : Hid (some b ≠ (Value.slice lo ws.length lc).ownBlock) := Lib.hid fun hx => by
            have := (HOW.out.lt b hx.symm).1; omega
          have hblt := H1.out.lt
          have e1 : (0 : Int) ≤ (at' : Int) := by omega
          have e2 : (at' : Int) ≤ (q : Int) := by omega
          have e3 : (q : Int) ≤ (s.length : Int) := by omega
          have hqle : q ≤ s.length := by omega
          have hqlt : at' < q := by omega
          have hwn : ws.length ≤ nW ws := by
            have : ∀ l : List B, l.length ≤ nW l := fun l => by
              induction l with
              | nil => simp [nW]
              | cons x l ih => simp only [nW, List.map_cons, List.sum_cons, List.length_cons] at ih ⊢; omega
            exact this ws
          have h63 : ws.length + 1 ≤ maxLen := by unfold maxLen; omega
          clear hqn
          go_upto_region 7 with fail
          have how1 := HOW.out
          go_region_held3 (fun w' => w'.cell? ⟨b, 0, none⟩ = some (.string (str s)) ∧ w'.cell? ⟨b, 1, none⟩ = some (.int .i64 (at' : Int))) (first | go_keep | (go_split_ands; refine ⟨?_, ?_⟩ <;> (rw [hgrow.cell_far _ (by simp; omega) HNO.out]; assumption)))
            ((refine step_append_lies _ (by rfl) _ _ _ (by rfl) base 9 i0 _ 1 16 Try.underlying63 hi0 hz0 hz1 hz2 rfl (by omega) _ ws.length _ (by rfl) (how1.alloc _) ⟨wc.heap.size, 0, none⟩ 1 1 (wordCells ((s.drop at').take (q - at'))) (by rfl) (by rfl) (World.news_of_block (cs := (wordCells ((s.drop at').take (q - at'))).toArray) (t := 9) (fr := (0, 0)) (heap_alloc_new wc _)) (by simp [wordCells, Value.oneCell']) (by omega) h63 (by omega) (by simp; omega) (wc.heap.size + 1) (by simp) ?_; intro gg cap w5 hown5 hgrow hat hlt5))
          all_goals
            have HWT : Hid ((s.drop at').takeWhile isWord = (s.drop at').take (q - at')) := Lib.hid (by
              have := takeWhile_take isWord (s.drop at')
              rw [HN.out] at this
              rw [← this, ← HQ.out, Nat.add_sub_cancel_left])
            obtain ⟨W, HWD⟩ : ∃ W, Hid ((s.drop at').take (q - at') = W) := ⟨_, rfl⟩
            have HWL : Hid (W.length = q - at') := Lib.hid (by rw [← HWD.out]; simp; omega)
            have HJL : Hid (nW ws + (q - at' + 1) = (joinW (ws ++ [W])).length + 1) := Lib.hid (by
              rw [← nW_join _ (by simp), nW_push, HWL.out])
            rw [HWD.out] at hown5
            have H5 := Lib.hid (own_rd2 H1.out hbb HOW.out ((Kept.refl _ _).alloc _).drew hgrow)
            have K5 := Lib.hid (own_grow2 K1.out HBASE.out HOW.out ((Kept.refl _ _).alloc _).drew hgrow)
            have c0' := H5.out.c0
            have c1' := H5.out.c1
            have f1' := H5.out.free 1
            have HST : Hid (∃ f, (s.drop at').length < f + 1 ∧ (if 60 < (joinW (ws ++ [W])).length then Ans.bad ⟨4, at'⟩ else (sGap (s.drop q) q).then fun x => sValL f (ws ++ [W]) x.1 x.2) = r) := Lib.hid (by
              obtain ⟨f, hf, hr⟩ := HL.out.rest
              cases f with
              | zero => omega
              | succ f =>
                have hst := sValL_step hr
                rw [HWT.out, HWD.out] at hst
                have hne : W ≠ [] := fun h => by have := HWL.out; rw [h] at this; simp at this; omega
                rw [if_neg hne, HWL.out, List.drop_drop, show at' + (q - at') = q from by omega] at hst
                exact ⟨f, hf, hst⟩)
            have HOWN5 := Lib.hid hown5
            clear c0 c1 hown5 how1
            by_cases hbig : 60 < nW ws + (q - at' + 1) - 1
            · have hR : Hid (r = .bad ⟨4, at'⟩) := Lib.hid (by
                obtain ⟨f, hf, hr⟩ := HST.out
                rw [← hr, if_pos (by have := HJL.out; omega)])
              have q4 : (60 : Int) < (nW ws : Int) + ((q : Int) - (at' : Int) + 1) - 1 := by omega
              clear hbig
              go_wp2_with fail
              refine (sfail_any 4 _ _ _ _ H5.out).mono ?_
              rintro e w9 ⟨rfl, hq9⟩
              go_wp2_with fail
              exact ⟨rfl, .bad (K5.out.trans (hq9.kept _)) hR.out⟩
            · have q4 : (nW ws : Int) + ((q : Int) - (at' : Int) + 1) - 1 ≤ 60 := by omega
              have HST2 : Hid (∃ f, (s.drop at').length < f + 1 ∧ ((sGap (s.drop q) q).then fun x => sValL f (ws ++ [W]) x.1 x.2) = r) := Lib.hid (by
                obtain ⟨f, hf, hr⟩ := HST.out
                rw [if_neg (by have := HJL.out; omega)] at hr
                exact ⟨f, hf, hr⟩)
              have H6 := Lib.hid (H5.out.set (x := (q : Int)) rfl hqle)
              have K6 := Lib.hid (K5.out.setCell (p := ⟨b, 1, none⟩) (.inl rfl) (.int .i64 (q : Int)))
              have HOW6 := Lib.hid (owns_kept HOWN5.out ((Kept.refl (· = b) _).setCell (p := ⟨b, 1, none⟩) (.inl rfl) (.int .i64 (q : Int))) (fun k hk => by have := (HOWN5.out.lt k hk).1; omega))
              have HM6 := Lib.hid (K6.out.cell (by show ¬ (0 = b); omega) HM.out)
              have HNW : Hid (((nW ws : Int) + ((q : Int) - (at' : Int) + 1)) = ((nW (ws ++ [W]) : Nat) : Int)) := Lib.hid (by rw [nW_push, HWL.out]; omega)
              have hnw : nW (ws ++ [W]) ≤ 61 := by rw [nW_push, HWL.out]; omega
              go_wp2_with fail
              generalize (w5.setCell ⟨b, 1, none⟩ (.int .i64 (q : Int))) = w6 at *
              refine (sblank_sum _ _ _ _ m H6.out HM6.out hb0).mono ?_
              rintro e w7 (⟨g, rfl, hk7, hp7⟩ | ⟨at7, rfl, hk7, h7, hp7⟩)
              · have hR : Hid (r = .bad g) := Lib.hid (by
                  obtain ⟨f, hf, hr⟩ := HST2.out
                  rw [← hr, hp7.out]; rfl)
                have K7 := Lib.hid (K6.out.trans hk7)
                clear hk7
                go_wp2_with fail
                exact ⟨rfl, .bad K7.out hR.out⟩
              · have hl7 := h7.2.1
                have hle7 : q ≤ at7 := by
                  obtain ⟨g, _, h1, h2, _⟩ := gap_loc hp7.out
                  omega
                have K7 := Lib.hid (K6.out.trans hk7)
                have H7 := Lib.hid h7
                have HOW7 := Lib.hid (owns_kept HOW6.out hk7 (fun k hk => by have := (HOW6.out.lt k hk).1; omega))
                have hR : Hid (∃ f, (s.drop at7).length < f ∧ sValL f (ws ++ [W]) (s.drop at7) at7 = r) := Lib.hid (by
                  obtain ⟨f, hf, hr⟩ := HST2.out
                  rw [hp7.out, Ans.ok_then] at hr
                  exact ⟨f, by rw [List.length_drop] at hf ⊢; omega, hr⟩)
                clear hk7 h7
                go_wp2_with fail
                go_roundg (s.length - at7)
                case measure => omega
                case rel => exact ⟨ws ++ [W], at7, ⟨H7.out, by simpa using HOW7.out, hnw, K7.out, hR.out⟩, by rw [HNW.out], rfl⟩
  case rest =>
    obtain ⟨ws, at', hL, HE⟩ := hcut
    have HL := Lib.hid hL
    have hfew := hL.few
    have hwn : ws.length ≤ nW ws := by
      have : ∀ l : List B, l.length ≤ nW l := fun l => by
        induction l with
        | nil => simp [nW]
        | cons x l ih => simp only [nW, List.map_cons, List.sum_cons, List.length_cons] at ih ⊢; omega
      exact this ws
    have HR' : Hid ((if ws = [] then Ans.bad ⟨2, at'⟩ else .ok (joinW ws, s.drop at', at')) = r) := Lib.hid (by
      obtain ⟨f, hf, hr⟩ := HL.out.rest
      cases f with
      | zero => omega
      | succ f =>
        have := sValL_step hr
        rw [HE.out, if_pos rfl] at this
        exact this)
    have hrows := rowsAt_of_owns word_rows (by simp) hL.own
    obtain ⟨va, vc, hv, hle, hcap, hcell⟩ := hrows
    simp only [List.length_map] at hv hle
    subst hv
    have HCELL := Lib.hid hcell
    clear hL hcell
    by_cases h0 : ws = []
    · subst h0
      have hR : Hid (r = .bad ⟨2, at'⟩) := Lib.hid (by rw [← HR'.out]; rfl)
      have e0 : (((([] : List B).length : Nat) : Int) == 0) = true := by simp
      go_wp2_with fail
      refine (sfail_any 2 _ _ _ _ HL.out.rd).mono ?_
      rintro e w9 ⟨rfl, hq9⟩
      go_wp2_with fail
      exact ⟨rfl, .bad (HL.out.kept.trans (hq9.kept _)) hR.out⟩
    · have hR : Hid (r = .ok (joinW ws, s.drop at', at')) := Lib.hid (by rw [← HR'.out, if_neg h0])
      have hpos : 0 < ws.length := List.length_pos_iff.2 h0
      have e0 : ((ws.length : Int) == 0) = false := by simp; exact h0
      obtain ⟨vb, vo, rfl, hc⟩ := HCELL.out (by simpa using h0)
      have hlt : vb < wc.heap.size := by
        have h1 := hc 0 (wordCells (ws[0]'hpos)) (by simp [List.getElem?_eq_getElem hpos]) 0 _ rfl
        exact World.block_lt_of_cell? wc _ h1
      have HJOIN : Hid (Calls Try.prog 29 #[.slice (some ⟨vb, vo, none⟩) ws.length vc, .string ⟨#[32]⟩] wc fun e w' => e = .returned (.string (str (joinW ws))) ∧ Below wc.heap.size wc w') := Lib.hid (by
        have hx : (ws.map str).map (·.data.toList) = ws := by rw [List.map_map]; exact (List.map_congr_left (fun x _ => rfl)).trans (List.map_id ws)
        have := Try.strings_Join vb vo vc (ws.map str) ⟨#[32]⟩ wc (fun j x hx => by
          simp only [List.getElem?_map, Option.map_eq_some_iff] at hx
          obtain ⟨y, hy, rfl⟩ := hx
          have := hc j (wordCells y) (by simp [hy]) 0 _ rfl
          simpa using this) hlt (by simp; omega) (by simpa using hle) (by
          rw [hx]
          show (Lib.join ws [32]).length ≤ _
          rw [join_is]
          have := nW_join ws h0
          omega)
        rw [hx] at this
        rw [show Lib.join ws (⟨#[32]⟩ : ByteArray).data.toList = joinW ws from join_is ws, List.length_map] at this
        exact this)
      clear h0
      go_wp2_with fail
      refine HJOIN.out.mono ?_
      rintro e w9 ⟨rfl, hb9⟩
      have K9 := Lib.hid (Kept.of_below (S := (· = b)) hb9)
      have H9 := Lib.hid (HL.out.rd.kept (Kept.of_below (S := fun _ => False) hb9) id)
      clear hb9
      go_wp2_with fail
      go_ret
      exact .inr ⟨joinW ws, at', rfl, HL.out.kept.trans K9.out, H9.out, hR⟩

end Go.Proofs.Ytplbdlgmjehckab

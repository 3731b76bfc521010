/-
  Plain Lean, no program: told twice is told once; who is strong wins; media that no rule names; selector by selector.
-/
import Derived.Test.YtplbdlgmjehckacDoorCaSpec
namespace Go.Proofs.YtplbdlgmjehckacDoor
set_option linter.unusedVariables false
set_option linter.unusedSimpArgs false

theorem ruleClaims_app (l : List PNode) (k : Int) (media : List B) : ∀ (xs ys : List PRule), ruleClaims l k media (xs ++ ys) = (ruleClaims l k media xs).then fun a => (ruleClaims l k media ys).then fun b => .ok (a ++ b)
  | [], ys => by
    simp only [List.nil_append, ruleClaims, Ans.ok_then]
    cases ruleClaims l k media ys <;> rfl
  | r :: rs, ys => by
    simp only [List.cons_append, ruleClaims]
    split
    · cases pAll r.decls with
      | none => rfl
      | some d =>
        simp only [ruleClaims_app l k media rs ys]
        cases ruleClaims l k media rs with
        | bad f => rfl
        | ok a =>
          simp only [Ans.ok_then]
          cases ruleClaims l k media ys with
          | bad f => rfl
          | ok b => simp
    · exact ruleClaims_app l k media rs ys
/-- what one rule claims -/
def oneRule (l : List PNode) (k : Int) (media : List B) (r : PRule) : Ans (List PClaim) := ruleClaims l k media [r]
theorem ruleClaims_cons (l : List PNode) (k : Int) (media : List B) (r : PRule) (rs : List PRule) : ruleClaims l k media (r :: rs) = (oneRule l k media r).then fun a => (ruleClaims l k media rs).then fun b => .ok (a ++ b) := by
  have := ruleClaims_app l k media [r] rs
  simpa [oneRule] using this
/-- two ways to tell claims that come to the same -/
inductive AnsSame : Ans (List PClaim) → Ans (List PClaim) → Prop
  | bad (f : Flt) : AnsSame (.bad f) (.bad f)
  | ok {a b : List PClaim} (h : ∀ n, (winner a n) = (winner b n)) : AnsSame (.ok a) (.ok b)
theorem AnsSame.refl (a : Ans (List PClaim)) : AnsSame a a := by
  cases a with
  | bad f => exact .bad f
  | ok a => exact .ok fun _ => rfl
theorem AnsSame.trans {a b c : Ans (List PClaim)} (h : AnsSame a b) (g : AnsSame b c) : AnsSame a c := by
  cases h with
  | bad f => exact g
  | ok h =>
    cases g with
    | ok g => exact .ok fun n => (h n).trans (g n)
theorem AnsSame.app {a b c d : Ans (List PClaim)} (h : AnsSame a b) (g : AnsSame c d) : AnsSame (a.then fun x => c.then fun y => .ok (x ++ y)) (b.then fun x => d.then fun y => .ok (x ++ y)) := by
  cases h with
  | bad f => exact .bad f
  | ok h =>
    cases g with
    | bad f => exact .bad f
    | ok g => exact .ok fun n => by rw [winner_app, winner_app, h, g]
theorem declared_same {l : List PNode} {k : Int} {rs qs : List PRule} {m m' : List B} (h : AnsSame (ruleClaims l k m rs) (ruleClaims l k m' qs)) : cDeclared l k rs m = cDeclared l k qs m' := by
  unfold cDeclared
  split
  · cases l[k.toNat]? with
    | none => rfl
    | some n =>
      simp only
      unfold cClaims
      generalize ruleClaims l k m rs = A at *
      generalize ruleClaims l k m' qs = A' at *
      cases h with
      | bad f => rfl
      | ok h =>
        simp only [Ans.ok_then]
        cases ownDecls n with
        | bad f => rfl
        | ok b =>
          simp only [Ans.ok_then]
          congr 1
          exact look_ext fun n => by rw [winner_app, winner_app, h]
  · rfl
/-- a rule that is told twice in a row -/
theorem declared_twice (l : List PNode) (k : Int) (xs ys : List PRule) (r : PRule) (m : List B) : cDeclared l k (xs ++ (r :: r :: ys)) m = cDeclared l k (xs ++ (r :: ys)) m := by
  apply declared_same
  rw [ruleClaims_app, ruleClaims_app]
  refine (AnsSame.refl _).app ?_
  rw [ruleClaims_cons, ruleClaims_cons]
  cases oneRule l k m r with
  | bad f => exact .bad f
  | ok a =>
    simp only [Ans.ok_then]
    cases ruleClaims l k m ys with
    | bad f => exact .bad f
    | ok b =>
      simp only [Ans.ok_then]
      exact .ok fun n => by rw [winner_app, winner_app, ← comb_assoc, comb_idem]
theorem oneRule_no {l : List PNode} {k : Int} {r : PRule} {m : List B} (h : (mBest l k r.sels).2 = false) : oneRule l k m r = .ok [] := by
  simp [oneRule, ruleClaims, h]
/-- a rule that means another element -/
theorem declared_other {l : List PNode} {k : Int} {r : PRule} (h : (mBest l k r.sels).2 = false) (xs ys : List PRule) (m : List B) : cDeclared l k (xs ++ (r :: ys)) m = cDeclared l k (xs ++ ys) m := by
  apply declared_same
  rw [ruleClaims_app, ruleClaims_app]
  refine (AnsSame.refl _).app ?_
  rw [ruleClaims_cons, oneRule_no h]
  simp only [Ans.ok_then]
  cases ruleClaims l k m ys with
  | bad f => exact .bad f
  | ok b => exact AnsSame.refl _

/-! ### who is strong wins -/
theorem mem_ruleClaims {l : List PNode} {k : Int} {m : List B} : ∀ {rs : List PRule} {cs : List PClaim}, ruleClaims l k m rs = .ok cs → ∀ r ∈ rs, ((mBest l k r.sels).2 && counts r m) = true →
    ∃ d, pAll r.decls = some d ∧ ∀ x ∈ d, (⟨x, false, (mBest l k r.sels).1⟩ : PClaim) ∈ cs
  | [], cs, _, r, hr, _ => by cases hr
  | q :: qs, cs, h, r, hr, hc => by
    simp only [ruleClaims] at h
    split at h
    · rename_i hq
      cases hd : pAll q.decls with
      | none => rw [hd] at h; cases h
      | some d =>
        rw [hd] at h
        simp only at h
        cases hrc : ruleClaims l k m qs with
        | bad f => rw [hrc] at h; cases h
        | ok a =>
          rw [hrc] at h
          cases h
          rcases List.mem_cons.1 hr with rfl | hr
          · exact ⟨d, hd, fun x hx => by simp [hx]⟩
          · obtain ⟨d', h1, h2⟩ := mem_ruleClaims hrc r hr hc
            exact ⟨d', h1, fun x hx => by have := h2 x hx; simp [this]⟩
    · rename_i hq
      rcases List.mem_cons.1 hr with rfl | hr
      · exact absurd hc hq
      · exact mem_ruleClaims h r hr hc
theorem declared_ok {l : List PNode} {k : Int} {rs : List PRule} {m : List B} {look : List PDecl} (h : cDeclared l k rs m = .ok look) :
    inR l k = true ∧ ∃ n a b, l[k.toNat]? = some n ∧ ruleClaims l k m rs = .ok a ∧ ownDecls n = .ok b ∧ look = cLook (a ++ ownClaims b) := by
  unfold cDeclared at h
  split at h
  · rename_i hr
    refine ⟨hr, ?_⟩
    cases hn : l[k.toNat]? with
    | none => rw [hn] at h; cases h
    | some n =>
      rw [hn] at h
      simp only at h
      unfold cClaims at h
      cases ha : ruleClaims l k m rs with
      | bad f => rw [ha] at h; cases h
      | ok a =>
        rw [ha] at h
        simp only [Ans.ok_then] at h
        cases hb : ownDecls n with
        | bad f => rw [hb] at h; cases h
        | ok b =>
          rw [hb] at h
          cases h
          exact ⟨n, a, b, rfl, rfl, hb, rfl⟩
  · cases h
theorem beats_strong {w c : PClaim} (h : beats w c = true) (hs : c.d.strong = true) : w.d.strong = true := by
  unfold beats at h
  split at h
  · rename_i e; rw [← e, hs]
  · exact h
/-- what a rule declares that means the element, out of media: it wins there, or what is no less strong -/
theorem declared_strong {l : List PNode} {k : Int} {rs : List PRule} {m : List B} {look : List PDecl} (h : cDeclared l k rs m = .ok look) {r : PRule} (hr : r ∈ rs) (hb : (mBest l k r.sels).2 = true) (hm : r.media = []) :
    ∃ d, pAll r.decls = some d ∧ ∀ x ∈ d, ∃ y ∈ look, y.name = x.name ∧ (x.strong = true → y.strong = true) := by
  obtain ⟨_, n, a, b, hn, ha, hbb, rfl⟩ := declared_ok h
  obtain ⟨d, h1, h2⟩ := mem_ruleClaims ha r hr (by simp [hb, counts, hm])
  refine ⟨d, h1, fun x hx => ?_⟩
  have hin : (⟨x, false, (mBest l k r.sels).1⟩ : PClaim) ∈ a ++ ownClaims b := by simp [h2 x hx]
  have hf := winner_fact (a ++ ownClaims b) x.name
  cases hw : winner (a ++ ownClaims b) x.name with
  | none => rw [hw] at hf; exact absurd rfl (hf _ hin)
  | some w =>
    rw [hw] at hf
    refine ⟨w.d, look_mem.2 ⟨w, by rw [hf.2.1]; exact hw, rfl⟩, hf.2.1, fun hs => ?_⟩
    exact beats_strong (hf.2.2 _ hin rfl) hs

/-! ### media that no rule names -/
theorem ruleClaims_media {l : List PNode} {k : Int} {m m' : List B} : ∀ {rs : List PRule}, (∀ r ∈ rs, counts r m = counts r m') → ruleClaims l k m rs = ruleClaims l k m' rs
  | [], _ => rfl
  | r :: rs, h => by
    simp only [ruleClaims]
    rw [h r (by simp), ruleClaims_media (fun x hx => h x (by simp [hx]))]
theorem counts_more {r : PRule} {m : List B} {x : B} (h : r.media ≠ x) : counts r (m ++ [x]) = counts r m := by
  unfold counts
  rw [Bool.eq_iff_iff]
  simp only [Bool.or_eq_true, List.contains_iff_mem, List.mem_append, List.mem_singleton]
  constructor
  · rintro (h1 | h1 | h1)
    · exact .inl h1
    · exact .inr h1
    · exact absurd h1 h
  · rintro (h1 | h1)
    · exact .inl h1
    · exact .inr (.inl h1)
theorem declared_media {l : List PNode} {k : Int} {rs : List PRule} {m : List B} {x : B} (h : ∀ r ∈ rs, r.media ≠ x) : cDeclared l k rs m = cDeclared l k rs (m ++ [x]) := by
  apply declared_same
  rw [ruleClaims_media (m := m) (m' := m ++ [x]) (fun r hr => (counts_more (h r hr)).symm)]
  exact AnsSame.refl _

/-! ### selector by selector -/
def splitRule (r : PRule) : List PRule := r.sels.map fun s => { r with sels := [s] }
/-- claims of one rule's declarations at a weight: the same one wins, whatever that is -/
def ruleCl (d : List PDecl) (w : PWt) : List PClaim := d.map fun x => ⟨x, false, w⟩
def lastBest (d : List PDecl) (n : B) : Option PDecl := (winner (ruleCl d ⟨0, 0, 0⟩) n).map (·.d)
theorem beats_same_w (x y : PDecl) (w v : PWt) : beats ⟨x, false, w⟩ ⟨y, false, w⟩ = beats ⟨x, false, v⟩ ⟨y, false, v⟩ := by
  simp [beats, wLt_irrefl]
theorem ruleCl_winner (n : B) (w : PWt) : ∀ d : List PDecl, winner (ruleCl d w) n = (lastBest d n).map fun x => ⟨x, false, w⟩
  | [] => rfl
  | x :: d => by
    have ih := ruleCl_winner n w d
    have ih0 := ruleCl_winner n ⟨0, 0, 0⟩ d
    have e : ∀ v, ruleCl (x :: d) v = ⟨x, false, v⟩ :: ruleCl d v := fun v => rfl
    unfold lastBest
    rw [e, e, winner_cons, winner_cons, ih, ih0]
    simp only
    cases hl : lastBest d n with
    | none =>
      simp only [Option.map_none, comb_none]
      split <;> rfl
    | some y =>
      simp only [Option.map_some]
      split
      · simp only [comb]
        rw [beats_same_w y x w ⟨0, 0, 0⟩]
        split <;> rfl
      · rfl
theorem counts_split {r : PRule} {s : PSel} {m : List B} : counts { r with sels := [s] } m = counts r m := rfl
theorem best_one (l : List PNode) (k : Int) (s : PSel) : mBest l k [s] = if mMatches l k s then (mWeigh s, true) else (⟨0, 0, 0⟩, false) := by
  simp only [mBest, List.foldl_cons, List.foldl_nil, bestStep, Bool.not_false, Bool.true_or, Bool.and_true]
/-- what a rule's selectors told one by one claim -/
theorem split_claims (l : List PNode) (k : Int) (m : List B) (md : B) (ds : List PDecl) (lo hi : Int) : ∀ (sels : List PSel),
    AnsSame (oneRule l k m ⟨md, sels, ds, lo, hi⟩) (ruleClaims l k m (splitRule ⟨md, sels, ds, lo, hi⟩)) := by
  intro sels
  -- from the last one on
  have key : ∀ (xs : List PSel), AnsSame (oneRule l k m ⟨md, xs, ds, lo, hi⟩) (ruleClaims l k m (xs.map fun s => (⟨md, [s], ds, lo, hi⟩ : PRule))) := by
    intro xs
    have hrec : ∀ (n : Nat) (xs : List PSel), xs.length = n → AnsSame (oneRule l k m ⟨md, xs, ds, lo, hi⟩) (ruleClaims l k m (xs.map fun s => (⟨md, [s], ds, lo, hi⟩ : PRule))) := by
      intro n
      induction n with
      | zero =>
        intro xs hx
        obtain rfl := List.length_eq_zero_iff.1 hx
        exact AnsSame.refl _
      | succ n ih =>
        intro xs hx
        have hne : xs ≠ [] := by rintro rfl; simp at hx
        obtain ⟨ys, s, rfl⟩ : ∃ ys s, xs = ys ++ [s] := ⟨xs.dropLast, xs.getLast hne, (List.dropLast_concat_getLast hne).symm⟩
        have ihy := ih ys (by simpa using hx)
        rw [List.map_append, ruleClaims_app]
        have hs : ruleClaims l k m ([s].map fun s => (⟨md, [s], ds, lo, hi⟩ : PRule)) = oneRule l k m ⟨md, [s], ds, lo, hi⟩ := rfl
        rw [hs]
        refine AnsSame.trans ?_ (ihy.app (AnsSame.refl _))
        have hb : mBest l k (ys ++ [s]) = bestStep l k (mBest l k ys) s := by simp [mBest, List.foldl_append]
        have hct : ∀ xs : List PSel, counts ⟨md, xs, ds, lo, hi⟩ m = counts ⟨md, [], ds, lo, hi⟩ m := fun _ => rfl
        simp only [oneRule, ruleClaims, hb, best_one, hct]
        cases hc : counts ⟨md, [], ds, lo, hi⟩ m with
        | false => simp only [Bool.and_false, Bool.false_eq_true, if_false, Ans.ok_then]; exact AnsSame.refl _
        | true =>
          simp only [Bool.and_true]
          unfold bestStep
          obtain ⟨w, b⟩ := mBest l k ys
          cases hm : mMatches l k s with
          | false =>
            simp only [Bool.false_and, Bool.false_eq_true, if_false, Ans.ok_then]
            cases b with
            | false => simp only [Bool.false_eq_true, if_false, Ans.ok_then]; exact AnsSame.refl _
            | true =>
              simp only [if_true]
              cases pAll ds with
              | none => exact .bad _
              | some d => simp only [Ans.ok_then, List.append_nil]; exact AnsSame.refl _
          | true =>
            simp only [Bool.true_and, if_true]
            cases b with
            | false =>
              simp only [Bool.not_false, Bool.true_or, if_true, Bool.false_eq_true, if_false, Ans.ok_then]
              cases pAll ds with
              | none => exact .bad _
              | some d => simp only [Ans.ok_then, List.append_nil, List.nil_append]; exact AnsSame.refl _
            | true =>
              simp only [Bool.not_true, Bool.false_or, if_true]
              cases hl : wLt w (mWeigh s) with
              | true =>
                simp only [if_true]
                cases pAll ds with
                | none => exact .bad _
                | some d =>
                  simp only [Ans.ok_then, List.append_nil]
                  refine .ok fun nm => ?_
                  have e1 := ruleCl_winner nm (mWeigh s) d
                  have e2 := ruleCl_winner nm w d
                  unfold ruleCl at e1 e2
                  rw [winner_app, e1, e2]
                  cases lastBest d nm with
                  | none => rfl
                  | some y =>
                    simp only [Option.map_some, comb, beats, wLt_asymm hl]
                    simp
              | false =>
                simp only [Bool.false_eq_true, if_false, if_true]
                cases pAll ds with
                | none => exact .bad _
                | some d =>
                  simp only [Ans.ok_then, List.append_nil]
                  refine .ok fun nm => ?_
                  have e1 := ruleCl_winner nm (mWeigh s) d
                  have e2 := ruleCl_winner nm w d
                  unfold ruleCl at e1 e2
                  rw [winner_app, e1, e2]
                  cases lastBest d nm with
                  | none => rfl
                  | some y =>
                    simp only [Option.map_some, comb, beats]
                    cases hg : wLt (mWeigh s) w with
                    | true => simp
                    | false => simp [wLt_total hl hg]
    exact hrec _ xs rfl
  exact key sels
theorem declared_split {l : List PNode} {k : Int} {rs : List PRule} {m : List B} : cDeclared l k rs m = cDeclared l k (rs.flatMap splitRule) m := by
  apply declared_same
  induction rs with
  | nil => exact AnsSame.refl _
  | cons r rs ih =>
    rw [ruleClaims_cons, List.flatMap_cons, ruleClaims_app]
    exact (split_claims l k m r.media r.decls r.lo r.hi r.sels).app ih

end Go.Proofs.YtplbdlgmjehckacDoor

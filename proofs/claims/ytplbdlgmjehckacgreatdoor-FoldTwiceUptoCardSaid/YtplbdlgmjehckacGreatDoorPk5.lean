/-
  Lemmas for the claims of this seat: the program's functions walked, and plain laws. In this order: CaSpec CaLaws PgTree.
-/
import Derived.Test.YtplbdlgmjehckacGreatDoorPk4
import Derived.Test.YtplbdlgmjehckacGreatDoorPk3
namespace Go.Proofs.YtplbdlgmjehckacGreatDoor
set_option linter.unusedVariables false
set_option linter.unusedSimpArgs false
def bLt : B → B → Bool
  | [], [] => false
  | [], _ :: _ => true
  | _ :: _, [] => false
  | a :: x, b :: y => decide (a.toNat < b.toNat) || (decide (a.toNat = b.toNat) && bLt x y)
theorem bLt_irrefl : ∀ x, bLt x x = false
  | [] => rfl
  | a :: x => by simp [bLt, bLt_irrefl x]
theorem bLt_trans : ∀ {x y z : B}, bLt x y = true → bLt y z = true → bLt x z = true
  | [], [], z, h, _ => by cases h
  | [], _ :: _, [], _, h => by cases h
  | [], _ :: _, _ :: _, _, _ => rfl
  | _ :: _, [], _, h, _ => by cases h
  | _ :: _, _ :: _, [], _, h => by cases h
  | a :: x, b :: y, c :: z, h, g => by
    simp only [bLt, Bool.or_eq_true, Bool.and_eq_true, decide_eq_true_eq] at h g ⊢
    rcases h with h | ⟨h, h'⟩ <;> rcases g with g | ⟨g, g'⟩
    · left; omega
    · left; omega
    · left; omega
    · right; exact ⟨by omega, bLt_trans h' g'⟩
theorem bLt_total : ∀ {x y : B}, bLt x y = false → bLt y x = false → x = y
  | [], [], _, _ => rfl
  | [], _ :: _, h, _ => by cases h
  | _ :: _, [], _, h => by cases h
  | a :: x, b :: y, h, g => by
    simp only [bLt, Bool.or_eq_false_iff, Bool.and_eq_false_iff, decide_eq_false_iff_not] at h g
    have e : a.toNat = b.toNat := by omega
    have h2 := h.2.resolve_left (by omega)
    have g2 := g.2.resolve_left (by omega)
    rw [UInt8.toNat_inj.1 e, bLt_total h2 g2]
structure PClaim where
  d : PDecl
  own : Bool
  w : PWt
  deriving DecidableEq
def beats (b a : PClaim) : Bool :=
  if a.d.strong = b.d.strong then (if a.own = b.own then !wLt b.w a.w else b.own) else b.d.strong
def comb : Option PClaim → Option PClaim → Option PClaim
  | none, b => b
  | some a, none => some a
  | some a, some b => if beats b a then some b else some a
def winStep (n : B) (acc : Option PClaim) (c : PClaim) : Option PClaim := if c.d.name = n then comb acc (some c) else acc
def winner (cs : List PClaim) (n : B) : Option PClaim := cs.foldl (winStep n) none
def insName (n : B) : List B → List B
  | [] => [n]
  | x :: xs => if bLt n x then n :: x :: xs else if bLt x n then x :: insName n xs else x :: xs
def namesOf (cs : List PClaim) : List B := cs.foldl (fun acc c => insName c.d.name acc) []
def cLook (cs : List PClaim) : List PDecl := (namesOf cs).filterMap fun n => (winner cs n).map (·.d)
def counts (r : PRule) (media : List B) : Bool := r.media.isEmpty || media.contains r.media
def ruleClaims (l : List PNode) (k : Int) (media : List B) : List PRule → Ans (List PClaim)
  | [] => .ok []
  | r :: rs =>
    if (mBest l k r.sels).2 && counts r media then
      match pAll r.decls with
      | none => .bad ⟨5, 0⟩
      | some d => (ruleClaims l k media rs).then fun cs => .ok (d.map (fun x => ⟨x, false, (mBest l k r.sels).1⟩) ++ cs)
    else ruleClaims l k media rs
def ownDecls (n : PNode) : Ans (List PDecl) :=
  match sDeclsOf (pGet n.attrs styleName).1 with
  | .bad f => .bad ⟨f.err, 0⟩
  | .ok ds => match pAll ds with
    | none => .bad ⟨5, 0⟩
    | some d => .ok d
def ownClaims (ds : List PDecl) : List PClaim := ds.map fun x => ⟨x, true, ⟨0, 0, 0⟩⟩
def cClaims (l : List PNode) (k : Int) (n : PNode) (rules : List PRule) (media : List B) : Ans (List PClaim) :=
  (ruleClaims l k media rules).then fun a => (ownDecls n).then fun b => .ok (a ++ ownClaims b)
def cDeclared (l : List PNode) (k : Int) (rules : List PRule) (media : List B) : Ans (List PDecl) :=
  if inR l k then
    match l[k.toNat]? with
    | none => .bad ⟨6, 0⟩
    | some n => (cClaims l k n rules media).then fun cs => .ok (cLook cs)
  else .bad ⟨6, 0⟩
def lookFind (look : List PDecl) (name : B) : Option PDecl := look.find? fun d => d.name == name
def cValueF : Nat → List PNode → Int → List PRule → List B → B → Ans B
  | 0, _, _, _, _, _ => .bad ⟨6, 0⟩
  | f + 1, l, k, rules, media, name =>
    (cDeclared l k rules media).then fun look =>
    match lookFind look name with
    | some d => .ok d.val
    | none => if pInherits name && decide (0 ≤ parentOf l k.toNat) && decide (parentOf l k.toNat < k) then cValueF f l (parentOf l k.toNat) rules media name else .ok (pInitial name)
def cValue (l : List PNode) (k : Int) (rules : List PRule) (media : List B) (name : B) : Ans B := cValueF (k.toNat + 1) l k rules media name
theorem beats_refl (a : PClaim) : beats a a = true := by simp [beats, wLt_irrefl]
theorem beats_trans {a b c : PClaim} (h : beats b a = true) (g : beats c b = true) : beats c a = true := by
  unfold beats at h g ⊢
  obtain ⟨⟨_, _, sa⟩, oa, wa⟩ := a
  obtain ⟨⟨_, _, sb⟩, ob, wb⟩ := b
  obtain ⟨⟨_, _, sc⟩, oc, wc⟩ := c
  simp only at h g ⊢
  have hw : (!wLt wb wa) = true → (!wLt wc wb) = true → (!wLt wc wa) = true := by
    simp only [Bool.not_eq_true']
    intro h1 h2
    cases h3 : wLt wc wa with
    | false => rfl
    | true =>
      exfalso
      simp [wLt] at h1 h2 h3
      omega
  cases sa <;> cases sb <;> cases sc <;> cases oa <;> cases ob <;> cases oc <;> simp at h g ⊢ <;> first
    | exact hw (by simpa using h) (by simpa using g) |> fun x => by simpa using x
    | trivial
theorem beats_total (a b : PClaim) : beats b a = true ∨ beats a b = true := by
  unfold beats
  obtain ⟨⟨_, _, sa⟩, oa, wa⟩ := a
  obtain ⟨⟨_, _, sb⟩, ob, wb⟩ := b
  simp only
  cases h : wLt wb wa with
  | false => cases sa <;> cases sb <;> cases oa <;> cases ob <;> simp
  | true =>
    have := wLt_asymm h
    cases sa <;> cases sb <;> cases oa <;> cases ob <;> simp [this]
theorem comb_none (a : Option PClaim) : comb a none = a := by cases a <;> rfl
theorem comb_assoc (a b c : Option PClaim) : comb (comb a b) c = comb a (comb b c) := by
  cases a with
  | none => rfl
  | some a =>
    cases b with
    | none => rfl
    | some b =>
      cases c with
      | none => rw [comb_none, comb_none]
      | some c =>
        simp only [comb]
        cases h1 : beats b a <;> cases h2 : beats c b <;> simp only [comb, Bool.false_eq_true, if_false, if_true, h1, h2]
        · cases h3 : beats c a with
          | false => simp
          | true =>
            exfalso
            have := (beats_total a b).resolve_left (by rw [h1]; simp)
            have := beats_trans this h3
            rw [h2] at this; cases this
        · cases h3 : beats c a with
          | true => rfl
          | false =>
            have := beats_trans h1 h2
            rw [h3] at this; cases this
theorem comb_idem (a : Option PClaim) : comb a a = a := by
  cases a with
  | none => rfl
  | some a => simp [comb, beats_refl]
theorem winner_from (n : B) : ∀ (cs : List PClaim) (acc : Option PClaim), cs.foldl (winStep n) acc = comb acc (winner cs n)
  | [], acc => (comb_none acc).symm
  | c :: cs, acc => by
    unfold winner
    simp only [List.foldl_cons]
    rw [winner_from n cs (winStep n acc c), winner_from n cs (winStep n none c)]
    unfold winStep
    split
    · rw [comb_assoc]; rfl
    · rfl
theorem winner_app (a b : List PClaim) (n : B) : winner (a ++ b) n = comb (winner a n) (winner b n) := by
  unfold winner
  rw [List.foldl_append, winner_from]; rfl
theorem winner_cons (c : PClaim) (b : List PClaim) (n : B) : winner (c :: b) n = comb (if c.d.name = n then some c else none) (winner b n) := by
  have := winner_app [c] b n
  simp only [List.singleton_append] at this
  rw [this]
  congr 1
theorem winner_fact : ∀ (cs : List PClaim) (n : B), match winner cs n with
    | none => ∀ c ∈ cs, c.d.name ≠ n
    | some w => w ∈ cs ∧ w.d.name = n ∧ ∀ c ∈ cs, c.d.name = n → beats w c = true
  | [], n => by intro c hc; cases hc
  | c :: cs, n => by
    have ih := winner_fact cs n
    rw [winner_cons]
    cases hw : winner cs n with
    | none =>
      rw [hw] at ih
      simp only [comb_none]
      split
      · rename_i w hn
        split at hn
        · cases hn
        · rename_i h
          intro x hx
          rcases List.mem_cons.1 hx with rfl | hx
          · exact h
          · exact ih x hx
      · rename_i w hn
        split at hn
        · rename_i h
          cases hn
          refine ⟨by simp, h, fun x hx hxn => ?_⟩
          rcases List.mem_cons.1 hx with rfl | hx
          · exact beats_refl _
          · exact absurd hxn (ih x hx)
        · cases hn
    | some w =>
      rw [hw] at ih
      obtain ⟨h1, h2, h3⟩ := ih
      by_cases hc : c.d.name = n
      · rw [if_pos hc]
        simp only [comb]
        cases hb : beats w c with
        | true =>
          simp only [if_true]
          refine ⟨by simp [h1], h2, fun x hx hxn => ?_⟩
          rcases List.mem_cons.1 hx with rfl | hx
          · exact hb
          · exact h3 x hx hxn
        | false =>
          simp only [Bool.false_eq_true, if_false]
          have hcw := (beats_total w c).resolve_right (by rw [hb]; simp)
          refine ⟨by simp, hc, fun x hx hxn => ?_⟩
          rcases List.mem_cons.1 hx with rfl | hx
          · exact beats_refl _
          · exact beats_trans (h3 x hx hxn) hcw
      · rw [if_neg hc]
        simp only [comb]
        refine ⟨by simp [h1], h2, fun x hx hxn => ?_⟩
        rcases List.mem_cons.1 hx with rfl | hx
        · exact absurd hxn hc
        · exact h3 x hx hxn
inductive Rising : List B → Prop
  | nil : Rising []
  | cons {x : B} {xs : List B} (h : ∀ y ∈ xs, bLt x y = true) (hs : Rising xs) : Rising (x :: xs)
theorem mem_insName {n y : B} : ∀ {xs : List B}, y ∈ insName n xs ↔ y = n ∨ y ∈ xs
  | [] => by simp [insName]
  | x :: xs => by
    simp only [insName]
    split
    · simp
    · split
      · simp only [List.mem_cons, mem_insName (xs := xs)]
        constructor
        · rintro (h | h | h) <;> simp [h]
        · rintro (h | h | h) <;> simp [h]
      · rename_i h1 h2
        have : n = x := bLt_total (by simpa using h1) (by simpa using h2)
        subst this
        simp
theorem ins_rising {n : B} : ∀ {xs : List B}, Rising xs → Rising (insName n xs)
  | [], _ => .cons (by simp) .nil
  | x :: xs, h => by
    cases h with
    | cons h hs =>
      simp only [insName]
      split
      · rename_i h1
        refine .cons ?_ (.cons h hs)
        intro y hy
        rcases List.mem_cons.1 hy with rfl | hy
        · exact h1
        · exact bLt_trans h1 (h y hy)
      · split
        · rename_i h1 h2
          refine .cons ?_ (ins_rising hs)
          intro y hy
          rcases mem_insName.1 hy with rfl | hy
          · exact h2
          · exact h y hy
        · exact .cons h hs
theorem namesFrom (cs : List PClaim) : ∀ (acc : List B), Rising acc → Rising (cs.foldl (fun acc c => insName c.d.name acc) acc) ∧ ∀ n, n ∈ cs.foldl (fun acc c => insName c.d.name acc) acc ↔ n ∈ acc ∨ ∃ c ∈ cs, c.d.name = n := by
  induction cs with
  | nil => intro acc h; exact ⟨h, by simp⟩
  | cons c cs ih =>
    intro acc h
    have := ih _ (ins_rising (n := c.d.name) h)
    refine ⟨this.1, fun n => ?_⟩
    simp only [List.foldl_cons]
    rw [this.2, mem_insName]
    simp only [List.mem_cons, exists_eq_or_imp]
    constructor
    · rintro ((h | h) | h)
      · exact .inr (.inl h.symm)
      · exact .inl h
      · exact .inr (.inr h)
    · rintro (h | h | h)
      · exact .inl (.inr h)
      · exact .inl (.inl h.symm)
      · exact .inr h
theorem names_rising (cs : List PClaim) : Rising (namesOf cs) := (namesFrom cs [] .nil).1
theorem mem_names (cs : List PClaim) (n : B) : n ∈ namesOf cs ↔ ∃ c ∈ cs, c.d.name = n := by
  have := (namesFrom cs [] .nil).2 n
  unfold namesOf
  simpa using this
theorem rising_ext : ∀ {xs ys : List B}, Rising xs → Rising ys → (∀ n, n ∈ xs ↔ n ∈ ys) → xs = ys
  | [], [], _, _, _ => rfl
  | [], y :: ys, _, _, h => by have := (h y).2 (by simp); cases this
  | x :: xs, [], _, _, h => by have := (h x).1 (by simp); cases this
  | x :: xs, y :: ys, .cons h1 h2, .cons g1 g2, h => by
    have hxy : x = y := by
      rcases List.mem_cons.1 ((h x).1 (by simp)) with e | e
      · exact e
      · rcases List.mem_cons.1 ((h y).2 (by simp)) with e' | e'
        · exact e'.symm
        · have := bLt_trans (h1 y e') (g1 x e)
          rw [bLt_irrefl] at this; cases this
    subst hxy
    congr 1
    refine rising_ext h2 g2 fun n => ?_
    have hn := h n
    simp only [List.mem_cons] at hn
    constructor
    · intro hx
      rcases hn.1 (.inr hx) with e | e
      · subst e; have := h1 n hx; rw [bLt_irrefl] at this; cases this
      · exact e
    · intro hx
      rcases hn.2 (.inr hx) with e | e
      · subst e; have := g1 n hx; rw [bLt_irrefl] at this; cases this
      · exact e
theorem winner_some {cs : List PClaim} {n : B} : (∃ c ∈ cs, c.d.name = n) ↔ winner cs n ≠ none := by
  have := winner_fact cs n
  cases h : winner cs n with
  | none =>
    rw [h] at this
    simp only [ne_eq, not_true_eq_false, iff_false]
    rintro ⟨c, hc, hn⟩
    exact this c hc hn
  | some w =>
    rw [h] at this
    simp only [ne_eq, reduceCtorEq, not_false_eq_true, iff_true]
    exact ⟨w, this.1, this.2.1⟩
theorem look_ext {cs ds : List PClaim} (h : ∀ n, (winner cs n).map (·.d) = (winner ds n).map (·.d)) : cLook cs = cLook ds := by
  have hn : namesOf cs = namesOf ds := rising_ext (names_rising cs) (names_rising ds) fun n => by
    rw [mem_names, mem_names, winner_some, winner_some]
    have := h n
    cases h1 : winner cs n <;> cases h2 : winner ds n <;> rw [h1, h2] at this <;> simp at this ⊢
  unfold cLook
  rw [hn]
  congr 1
  funext n
  exact h n
theorem look_mem {cs : List PClaim} {d : PDecl} : d ∈ cLook cs ↔ ∃ c, winner cs d.name = some c ∧ c.d = d := by
  unfold cLook
  simp only [List.mem_filterMap, Option.map_eq_some_iff]
  constructor
  · rintro ⟨n, _, c, hc, rfl⟩
    have := winner_fact cs n
    rw [hc] at this
    exact ⟨c, by rw [this.2.1]; exact hc, rfl⟩
  · rintro ⟨c, hc, rfl⟩
    refine ⟨c.d.name, ?_, c, hc, rfl⟩
    rw [mem_names, winner_some, hc]; simp
theorem look_names (cs : List PClaim) : (cLook cs).map (·.name) = namesOf cs := by
  have : ∀ ns : List B, (∀ n ∈ ns, winner cs n ≠ none) → (ns.filterMap fun n => (winner cs n).map (·.d)).map (·.name) = ns := by
    intro ns
    induction ns with
    | nil => intro _; rfl
    | cons n ns ih =>
      intro h
      have h1 := h n (by simp)
      have h2 := winner_fact cs n
      cases hw : winner cs n with
      | none => exact absurd hw h1
      | some c =>
        rw [hw] at h2
        simp only [List.filterMap_cons, hw, Option.map_some, List.map_cons, h2.2.1]
        rw [ih (fun m hm => h m (by simp [hm]))]
  exact this _ fun n hn => winner_some.1 ((mem_names cs n).1 hn)
theorem look_find {cs : List PClaim} (n : B) : lookFind (cLook cs) n = (winner cs n).map (·.d) := by
  unfold lookFind
  cases hw : winner cs n with
  | none =>
    simp only [Option.map_none]
    rw [List.find?_eq_none]
    intro d hd
    obtain ⟨c, hc, rfl⟩ := look_mem.1 hd
    intro e
    have e' : c.d.name = n := by simpa using e
    rw [e', hw] at hc; cases hc
  | some c =>
    have h2 := winner_fact cs n
    rw [hw] at h2
    obtain ⟨h3, h4, h5⟩ := h2
    have hmem : c.d ∈ cLook cs := look_mem.2 ⟨c, by rw [h4]; exact hw, rfl⟩
    cases hf : (cLook cs).find? (fun d => d.name == n) with
    | none =>
      rw [List.find?_eq_none] at hf
      exact absurd (by simp [h4]) (hf _ hmem)
    | some d =>
      have hd := List.mem_of_find?_eq_some hf
      have hn := List.find?_some hf
      have hn' : d.name = n := by simpa using hn
      obtain ⟨c', hc', rfl⟩ := look_mem.1 hd
      rw [hn', hw] at hc'
      cases hc'; rfl
end Go.Proofs.YtplbdlgmjehckacGreatDoor
namespace Go.Proofs.YtplbdlgmjehckacGreatDoor
set_option linter.unusedVariables false
set_option linter.unusedSimpArgs false
theorem ruleClaims_app (l : List PNode) (k : Int) (media : List B) : ∀ (xs ys : List PRule), ruleClaims l k media (xs ++ ys) = (ruleClaims l k media xs).then fun a => (ruleClaims l k media ys).then fun b => .ok (a ++ b)
  | [], ys => by
    simp only [List.nil_append, ruleClaims, Ans.ok_then]
    cases ruleClaims l k media ys <;> rfl
  | r :: rs, ys => by
    simp only [List.cons_append, ruleClaims]
    split
    · cases pAll r.decls with
      | none => rfl
      | some d =>
        simp only [ruleClaims_app l k media rs ys]
        cases ruleClaims l k media rs with
        | bad f => rfl
        | ok a =>
          simp only [Ans.ok_then]
          cases ruleClaims l k media ys with
          | bad f => rfl
          | ok b => simp
    · exact ruleClaims_app l k media rs ys
def oneRule (l : List PNode) (k : Int) (media : List B) (r : PRule) : Ans (List PClaim) := ruleClaims l k media [r]
theorem ruleClaims_cons (l : List PNode) (k : Int) (media : List B) (r : PRule) (rs : List PRule) : ruleClaims l k media (r :: rs) = (oneRule l k media r).then fun a => (ruleClaims l k media rs).then fun b => .ok (a ++ b) := by
  have := ruleClaims_app l k media [r] rs
  simpa [oneRule] using this
inductive AnsSame : Ans (List PClaim) → Ans (List PClaim) → Prop
  | bad (f : Flt) : AnsSame (.bad f) (.bad f)
  | ok {a b : List PClaim} (h : ∀ n, (winner a n) = (winner b n)) : AnsSame (.ok a) (.ok b)
theorem AnsSame.refl (a : Ans (List PClaim)) : AnsSame a a := by
  cases a with
  | bad f => exact .bad f
  | ok a => exact .ok fun _ => rfl
theorem AnsSame.trans {a b c : Ans (List PClaim)} (h : AnsSame a b) (g : AnsSame b c) : AnsSame a c := by
  cases h with
  | bad f => exact g
  | ok h =>
    cases g with
    | ok g => exact .ok fun n => (h n).trans (g n)
theorem AnsSame.app {a b c d : Ans (List PClaim)} (h : AnsSame a b) (g : AnsSame c d) : AnsSame (a.then fun x => c.then fun y => .ok (x ++ y)) (b.then fun x => d.then fun y => .ok (x ++ y)) := by
  cases h with
  | bad f => exact .bad f
  | ok h =>
    cases g with
    | bad f => exact .bad f
    | ok g => exact .ok fun n => by rw [winner_app, winner_app, h, g]
theorem declared_same {l : List PNode} {k : Int} {rs qs : List PRule} {m m' : List B} (h : AnsSame (ruleClaims l k m rs) (ruleClaims l k m' qs)) : cDeclared l k rs m = cDeclared l k qs m' := by
  unfold cDeclared
  split
  · cases l[k.toNat]? with
    | none => rfl
    | some n =>
      simp only
      unfold cClaims
      generalize ruleClaims l k m rs = A at *
      generalize ruleClaims l k m' qs = A' at *
      cases h with
      | bad f => rfl
      | ok h =>
        simp only [Ans.ok_then]
        cases ownDecls n with
        | bad f => rfl
        | ok b =>
          simp only [Ans.ok_then]
          congr 1
          exact look_ext fun n => by rw [winner_app, winner_app, h]
  · rfl
theorem declared_twice (l : List PNode) (k : Int) (xs ys : List PRule) (r : PRule) (m : List B) : cDeclared l k (xs ++ (r :: r :: ys)) m = cDeclared l k (xs ++ (r :: ys)) m := by
  apply declared_same
  rw [ruleClaims_app, ruleClaims_app]
  refine (AnsSame.refl _).app ?_
  rw [ruleClaims_cons, ruleClaims_cons]
  cases oneRule l k m r with
  | bad f => exact .bad f
  | ok a =>
    simp only [Ans.ok_then]
    cases ruleClaims l k m ys with
    | bad f => exact .bad f
    | ok b =>
      simp only [Ans.ok_then]
      exact .ok fun n => by rw [winner_app, winner_app, ← comb_assoc, comb_idem]
theorem oneRule_no {l : List PNode} {k : Int} {r : PRule} {m : List B} (h : (mBest l k r.sels).2 = false) : oneRule l k m r = .ok [] := by
  simp [oneRule, ruleClaims, h]
theorem declared_other {l : List PNode} {k : Int} {r : PRule} (h : (mBest l k r.sels).2 = false) (xs ys : List PRule) (m : List B) : cDeclared l k (xs ++ (r :: ys)) m = cDeclared l k (xs ++ ys) m := by
  apply declared_same
  rw [ruleClaims_app, ruleClaims_app]
  refine (AnsSame.refl _).app ?_
  rw [ruleClaims_cons, oneRule_no h]
  simp only [Ans.ok_then]
  cases ruleClaims l k m ys with
  | bad f => exact .bad f
  | ok b => exact AnsSame.refl _
theorem mem_ruleClaims {l : List PNode} {k : Int} {m : List B} : ∀ {rs : List PRule} {cs : List PClaim}, ruleClaims l k m rs = .ok cs → ∀ r ∈ rs, ((mBest l k r.sels).2 && counts r m) = true →
    ∃ d, pAll r.decls = some d ∧ ∀ x ∈ d, (⟨x, false, (mBest l k r.sels).1⟩ : PClaim) ∈ cs
  | [], cs, _, r, hr, _ => by cases hr
  | q :: qs, cs, h, r, hr, hc => by
    simp only [ruleClaims] at h
    split at h
    · rename_i hq
      cases hd : pAll q.decls with
      | none => rw [hd] at h; cases h
      | some d =>
        rw [hd] at h
        simp only at h
        cases hrc : ruleClaims l k m qs with
        | bad f => rw [hrc] at h; cases h
        | ok a =>
          rw [hrc] at h
          cases h
          rcases List.mem_cons.1 hr with rfl | hr
          · exact ⟨d, hd, fun x hx => by simp [hx]⟩
          · obtain ⟨d', h1, h2⟩ := mem_ruleClaims hrc r hr hc
            exact ⟨d', h1, fun x hx => by have := h2 x hx; simp [this]⟩
    · rename_i hq
      rcases List.mem_cons.1 hr with rfl | hr
      · exact absurd hc hq
      · exact mem_ruleClaims h r hr hc
theorem declared_ok {l : List PNode} {k : Int} {rs : List PRule} {m : List B} {look : List PDecl} (h : cDeclared l k rs m = .ok look) :
    inR l k = true ∧ ∃ n a b, l[k.toNat]? = some n ∧ ruleClaims l k m rs = .ok a ∧ ownDecls n = .ok b ∧ look = cLook (a ++ ownClaims b) := by
  unfold cDeclared at h
  split at h
  · rename_i hr
    refine ⟨hr, ?_⟩
    cases hn : l[k.toNat]? with
    | none => rw [hn] at h; cases h
    | some n =>
      rw [hn] at h
      simp only at h
      unfold cClaims at h
      cases ha : ruleClaims l k m rs with
      | bad f => rw [ha] at h; cases h
      | ok a =>
        rw [ha] at h
        simp only [Ans.ok_then] at h
        cases hb : ownDecls n with
        | bad f => rw [hb] at h; cases h
        | ok b =>
          rw [hb] at h
          cases h
          exact ⟨n, a, b, rfl, rfl, hb, rfl⟩
  · cases h
theorem beats_strong {w c : PClaim} (h : beats w c = true) (hs : c.d.strong = true) : w.d.strong = true := by
  unfold beats at h
  split at h
  · rename_i e; rw [← e, hs]
  · exact h
theorem declared_strong {l : List PNode} {k : Int} {rs : List PRule} {m : List B} {look : List PDecl} (h : cDeclared l k rs m = .ok look) {r : PRule} (hr : r ∈ rs) (hb : (mBest l k r.sels).2 = true) (hm : r.media = []) :
    ∃ d, pAll r.decls = some d ∧ ∀ x ∈ d, ∃ y ∈ look, y.name = x.name ∧ (x.strong = true → y.strong = true) := by
  obtain ⟨_, n, a, b, hn, ha, hbb, rfl⟩ := declared_ok h
  obtain ⟨d, h1, h2⟩ := mem_ruleClaims ha r hr (by simp [hb, counts, hm])
  refine ⟨d, h1, fun x hx => ?_⟩
  have hin : (⟨x, false, (mBest l k r.sels).1⟩ : PClaim) ∈ a ++ ownClaims b := by simp [h2 x hx]
  have hf := winner_fact (a ++ ownClaims b) x.name
  cases hw : winner (a ++ ownClaims b) x.name with
  | none => rw [hw] at hf; exact absurd rfl (hf _ hin)
  | some w =>
    rw [hw] at hf
    refine ⟨w.d, look_mem.2 ⟨w, by rw [hf.2.1]; exact hw, rfl⟩, hf.2.1, fun hs => ?_⟩
    exact beats_strong (hf.2.2 _ hin rfl) hs
theorem ruleClaims_media {l : List PNode} {k : Int} {m m' : List B} : ∀ {rs : List PRule}, (∀ r ∈ rs, counts r m = counts r m') → ruleClaims l k m rs = ruleClaims l k m' rs
  | [], _ => rfl
  | r :: rs, h => by
    simp only [ruleClaims]
    rw [h r (by simp), ruleClaims_media (fun x hx => h x (by simp [hx]))]
theorem counts_more {r : PRule} {m : List B} {x : B} (h : r.media ≠ x) : counts r (m ++ [x]) = counts r m := by
  unfold counts
  rw [Bool.eq_iff_iff]
  simp only [Bool.or_eq_true, List.contains_iff_mem, List.mem_append, List.mem_singleton]
  constructor
  · rintro (h1 | h1 | h1)
    · exact .inl h1
    · exact .inr h1
    · exact absurd h1 h
  · rintro (h1 | h1)
    · exact .inl h1
    · exact .inr (.inl h1)
theorem declared_media {l : List PNode} {k : Int} {rs : List PRule} {m : List B} {x : B} (h : ∀ r ∈ rs, r.media ≠ x) : cDeclared l k rs m = cDeclared l k rs (m ++ [x]) := by
  apply declared_same
  rw [ruleClaims_media (m := m) (m' := m ++ [x]) (fun r hr => (counts_more (h r hr)).symm)]
  exact AnsSame.refl _
def splitRule (r : PRule) : List PRule := r.sels.map fun s => { r with sels := [s] }
def ruleCl (d : List PDecl) (w : PWt) : List PClaim := d.map fun x => ⟨x, false, w⟩
def lastBest (d : List PDecl) (n : B) : Option PDecl := (winner (ruleCl d ⟨0, 0, 0⟩) n).map (·.d)
theorem beats_same_w (x y : PDecl) (w v : PWt) : beats ⟨x, false, w⟩ ⟨y, false, w⟩ = beats ⟨x, false, v⟩ ⟨y, false, v⟩ := by
  simp [beats, wLt_irrefl]
theorem ruleCl_winner (n : B) (w : PWt) : ∀ d : List PDecl, winner (ruleCl d w) n = (lastBest d n).map fun x => ⟨x, false, w⟩
  | [] => rfl
  | x :: d => by
    have ih := ruleCl_winner n w d
    have ih0 := ruleCl_winner n ⟨0, 0, 0⟩ d
    have e : ∀ v, ruleCl (x :: d) v = ⟨x, false, v⟩ :: ruleCl d v := fun v => rfl
    unfold lastBest
    rw [e, e, winner_cons, winner_cons, ih, ih0]
    simp only
    cases hl : lastBest d n with
    | none =>
      simp only [Option.map_none, comb_none]
      split <;> rfl
    | some y =>
      simp only [Option.map_some]
      split
      · simp only [comb]
        rw [beats_same_w y x w ⟨0, 0, 0⟩]
        split <;> rfl
      · rfl
theorem counts_split {r : PRule} {s : PSel} {m : List B} : counts { r with sels := [s] } m = counts r m := rfl
theorem best_one (l : List PNode) (k : Int) (s : PSel) : mBest l k [s] = if mMatches l k s then (mWeigh s, true) else (⟨0, 0, 0⟩, false) := by
  simp only [mBest, List.foldl_cons, List.foldl_nil, bestStep, Bool.not_false, Bool.true_or, Bool.and_true]
theorem split_claims (l : List PNode) (k : Int) (m : List B) (md : B) (ds : List PDecl) (lo hi : Int) : ∀ (sels : List PSel),
    AnsSame (oneRule l k m ⟨md, sels, ds, lo, hi⟩) (ruleClaims l k m (splitRule ⟨md, sels, ds, lo, hi⟩)) := by
  intro sels
  have key : ∀ (xs : List PSel), AnsSame (oneRule l k m ⟨md, xs, ds, lo, hi⟩) (ruleClaims l k m (xs.map fun s => (⟨md, [s], ds, lo, hi⟩ : PRule))) := by
    intro xs
    have hrec : ∀ (n : Nat) (xs : List PSel), xs.length = n → AnsSame (oneRule l k m ⟨md, xs, ds, lo, hi⟩) (ruleClaims l k m (xs.map fun s => (⟨md, [s], ds, lo, hi⟩ : PRule))) := by
      intro n
      induction n with
      | zero =>
        intro xs hx
        obtain rfl := List.length_eq_zero_iff.1 hx
        exact AnsSame.refl _
      | succ n ih =>
        intro xs hx
        have hne : xs ≠ [] := by rintro rfl; simp at hx
        obtain ⟨ys, s, rfl⟩ : ∃ ys s, xs = ys ++ [s] := ⟨xs.dropLast, xs.getLast hne, (List.dropLast_concat_getLast hne).symm⟩
        have ihy := ih ys (by simpa using hx)
        rw [List.map_append, ruleClaims_app]
        have hs : ruleClaims l k m ([s].map fun s => (⟨md, [s], ds, lo, hi⟩ : PRule)) = oneRule l k m ⟨md, [s], ds, lo, hi⟩ := rfl
        rw [hs]
        refine AnsSame.trans ?_ (ihy.app (AnsSame.refl _))
        have hb : mBest l k (ys ++ [s]) = bestStep l k (mBest l k ys) s := by simp [mBest, List.foldl_append]
        have hct : ∀ xs : List PSel, counts ⟨md, xs, ds, lo, hi⟩ m = counts ⟨md, [], ds, lo, hi⟩ m := fun _ => rfl
        simp only [oneRule, ruleClaims, hb, best_one, hct]
        cases hc : counts ⟨md, [], ds, lo, hi⟩ m with
        | false => simp only [Bool.and_false, Bool.false_eq_true, if_false, Ans.ok_then]; exact AnsSame.refl _
        | true =>
          simp only [Bool.and_true]
          unfold bestStep
          obtain ⟨w, b⟩ := mBest l k ys
          cases hm : mMatches l k s with
          | false =>
            simp only [Bool.false_and, Bool.false_eq_true, if_false, Ans.ok_then]
            cases b with
            | false => simp only [Bool.false_eq_true, if_false, Ans.ok_then]; exact AnsSame.refl _
            | true =>
              simp only [if_true]
              cases pAll ds with
              | none => exact .bad _
              | some d => simp only [Ans.ok_then, List.append_nil]; exact AnsSame.refl _
          | true =>
            simp only [Bool.true_and, if_true]
            cases b with
            | false =>
              simp only [Bool.not_false, Bool.true_or, if_true, Bool.false_eq_true, if_false, Ans.ok_then]
              cases pAll ds with
              | none => exact .bad _
              | some d => simp only [Ans.ok_then, List.append_nil, List.nil_append]; exact AnsSame.refl _
            | true =>
              simp only [Bool.not_true, Bool.false_or, if_true]
              cases hl : wLt w (mWeigh s) with
              | true =>
                simp only [if_true]
                cases pAll ds with
                | none => exact .bad _
                | some d =>
                  simp only [Ans.ok_then, List.append_nil]
                  refine .ok fun nm => ?_
                  have e1 := ruleCl_winner nm (mWeigh s) d
                  have e2 := ruleCl_winner nm w d
                  unfold ruleCl at e1 e2
                  rw [winner_app, e1, e2]
                  cases lastBest d nm with
                  | none => rfl
                  | some y =>
                    simp only [Option.map_some, comb, beats, wLt_asymm hl]
                    simp
              | false =>
                simp only [Bool.false_eq_true, if_false, if_true]
                cases pAll ds with
                | none => exact .bad _
                | some d =>
                  simp only [Ans.ok_then, List.append_nil]
                  refine .ok fun nm => ?_
                  have e1 := ruleCl_winner nm (mWeigh s) d
                  have e2 := ruleCl_winner nm w d
                  unfold ruleCl at e1 e2
                  rw [winner_app, e1, e2]
                  cases lastBest d nm with
                  | none => rfl
                  | some y =>
                    simp only [Option.map_some, comb, beats]
                    cases hg : wLt (mWeigh s) w with
                    | true => simp
                    | false => simp [wLt_total hl hg]
    exact hrec _ xs rfl
  exact key sels
theorem declared_split {l : List PNode} {k : Int} {rs : List PRule} {m : List B} : cDeclared l k rs m = cDeclared l k (rs.flatMap splitRule) m := by
  apply declared_same
  induction rs with
  | nil => exact AnsSame.refl _
  | cons r rs ih =>
    rw [ruleClaims_cons, List.flatMap_cons, ruleClaims_app]
    exact (split_claims l k m r.media r.decls r.lo r.hi r.sels).app ih
end Go.Proofs.YtplbdlgmjehckacGreatDoor
namespace Go.Proofs.YtplbdlgmjehckacGreatDoor
set_option linter.unusedVariables false
set_option linter.unusedSimpArgs false
inductive PT where
  | nil
  | text (c : UInt8) (next : PT)
  | note (x : B) (next : PT)
  | elem (nm : B) (al : List (B × B)) (kids next : PT)
  | style (al : List (B × B)) (inner : B) (next : PT)
def attrText (a : B × B) : B := [32] ++ (a.1 ++ ([61, 34] ++ (a.2 ++ [34])))
def attrsText : List (B × B) → B
  | [] => []
  | a :: al => attrText a ++ attrsText al
def openText (nm : B) (al : List (B × B)) : B := [60] ++ (nm ++ (attrsText al ++ [62]))
def closeText (nm : B) : B := [60, 47] ++ (nm ++ [62])
def textP : PT → B
  | .nil => []
  | .text c n => c :: textP n
  | .note x n => noteBegin ++ (x ++ (noteEnd ++ textP n))
  | .elem nm al kids n => openText nm al ++ (textP kids ++ (closeText nm ++ textP n))
  | .style al inner n => openText styleName al ++ (inner ++ (closeText styleName ++ textP n))
def sizeP : PT → Nat
  | .nil => 0
  | .text _ n => sizeP n
  | .note _ n => sizeP n
  | .elem _ _ kids n => 1 + sizeP kids + sizeP n
  | .style _ _ n => 1 + sizeP n
def attrsAt : Nat → List (B × B) → List PAttr
  | _, [] => []
  | p, a :: al => ⟨a.1, a.2, (p : Int), ((p + (attrText a).length : Nat) : Int)⟩ :: attrsAt (p + (attrText a).length) al
def nodesP : Int → Nat → Nat → PT → List PNode
  | _, _, _, .nil => []
  | par, c, p, .text _ n => nodesP par c (p + 1) n
  | par, c, p, .note x n => nodesP par c (p + (4 + x.length + 3)) n
  | par, c, p, .elem nm al kids n =>
    ⟨nm, par, attrsAt (p + 1 + nm.length) al, ((p + 1 + nm.length : Nat) : Int), 0, 0⟩ ::
      (nodesP (c : Int) (c + 1) (p + (openText nm al).length) kids ++ nodesP par (c + 1 + sizeP kids) (p + (openText nm al).length + (textP kids).length + (closeText nm).length) n)
  | par, c, p, .style al inner n =>
    ⟨styleName, par, attrsAt (p + 1 + styleName.length) al, ((p + 1 + styleName.length : Nat) : Int), ((p + (openText styleName al).length : Nat) : Int), ((p + (openText styleName al).length + inner.length : Nat) : Int)⟩ ::
      nodesP par (c + 1) (p + (openText styleName al).length + inner.length + (closeText styleName).length) n
theorem nodesP_len : ∀ (T : PT) (par : Int) (c p : Nat), (nodesP par c p T).length = sizeP T
  | .nil, _, _, _ => rfl
  | .text _ n, _, _, _ => by simp only [nodesP, sizeP, nodesP_len n]
  | .note _ n, _, _, _ => by simp only [nodesP, sizeP, nodesP_len n]
  | .elem _ _ kids n, _, _, _ => by simp only [nodesP, sizeP, List.length_cons, List.length_append, nodesP_len n, nodesP_len kids]; omega
  | .style _ _ n, _, _, _ => by simp only [nodesP, sizeP, List.length_cons, nodesP_len n]; omega
structure AttrsOk (al : List (B × B)) : Prop where
  name : ∀ a ∈ al, NameOk a.1
  val : ∀ a ∈ al, ∀ c ∈ a.2, isVal c = true
  few : al.length ≤ 8
  apart : (al.map (·.1)).Nodup
def wfP : Nat → PT → Prop
  | _, .nil => True
  | d, .text c n => pTextOk c = true ∧ c ≠ 60 ∧ wfP d n
  | d, .note x n => findSub noteEnd (x ++ noteEnd) = some x.length ∧ wfP d n
  | d, .elem nm al kids n => d ≤ 20 ∧ NameOk nm ∧ nm ≠ styleName ∧ AttrsOk al ∧ wfP (d + 1) kids ∧ wfP d n
  | d, .style al inner n => d ≤ 20 ∧ AttrsOk al ∧ findSub styleEnd (inner ++ styleEnd) = some inner.length ∧ wfP d n
theorem pName_eq {l nm l' : B} {a a' : Nat} (h : sName l a = .ok (nm, l', a')) : pName l a = .ok (nm, l', a') := by
  unfold sName at h
  unfold pName
  split at h
  · cases h
  · rename_i hn
    rw [if_neg (by omega), if_neg (by omega)]; exact h
theorem sName_eq {l nm l' : B} {a a' : Nat} (h : pName l a = .ok (nm, l', a')) : sName l a = .ok (nm, l', a') := by
  unfold pName at h
  unfold sName
  split at h
  · cases h
  · split at h
    · cases h
    · rw [if_neg (by omega)]; exact h
theorem pName_read {nm m : B} (h : NameOk nm) (hm : m.head?.any isMore = false) (b : Nat) : pName (nm ++ m) b = .ok (nm, m, b + nm.length) := pName_eq (name_read h hm b)
theorem pMust_read (w m : B) (b : Nat) : pMust w (w ++ m) b = .ok (m, b + w.length) := by
  unfold pMust; rw [if_pos (prefix_pos _ _)]; simp
theorem any_name {as : List PAttr} {nm : B} : (as.any fun a => a.name == nm) = true ↔ nm ∈ as.map (·.name) := by
  simp only [List.any_eq_true, List.mem_map, beq_iff_eq]
theorem attr_read {as : List PAttr} {a : B × B} (hn : NameOk a.1) (hv : ∀ c ∈ a.2, isVal c = true) (hx : a.1 ∉ as.map (·.name)) (hl : as.length < 8) (m : B) (p : Nat) :
    pAttr as (attrText a ++ m) p = .ok (⟨a.1, a.2, (p : Int), ((p + (attrText a).length : Nat) : Int)⟩, m, p + (attrText a).length) := by
  obtain ⟨nm, v⟩ := a
  simp only at hn hv hx
  unfold pAttr attrText
  have e : ([32] ++ (nm ++ ([61, 34] ++ (v ++ [34]))) ++ m).drop 1 = nm ++ ([61, 34] ++ (v ++ ([34] ++ m))) := by simp
  simp only at e ⊢
  rw [e, then_of (pName_read hn (by rfl) _)]
  simp only
  have h1 : (as.any fun a => a.name == nm) = false := by
    rw [← Bool.not_eq_true, any_name]; exact hx
  rw [h1, show (as.length == 8) = false from by simp; omega, if_neg (by simp), then_of (pMust_read _ _ _)]
  simp only
  have hpv : pVal (v ++ ([34] ++ m)) = v := takeWhile_ext hv (by rfl)
  rw [hpv, List.drop_left, then_of (pMust_read _ _ _)]
  have hl : ([32] ++ (nm ++ ([61, 34] ++ (v ++ [34])))).length = 1 + (nm.length + (2 + (v.length + 1))) := by simp; omega
  simp only [hl, List.length_cons, List.length_nil]
  rw [show p + 1 + nm.length + (0 + 1 + 1) + v.length + (0 + 1) = p + (1 + (nm.length + (2 + (v.length + 1)))) from by omega]
theorem attrsAt_names : ∀ (al : List (B × B)) (p : Nat), (attrsAt p al).map (·.name) = al.map (·.1)
  | [], _ => rfl
  | a :: al, p => by simp only [attrsAt, List.map_cons, attrsAt_names al]
theorem attrsAt_len : ∀ (al : List (B × B)) (p : Nat), (attrsAt p al).length = al.length
  | [], _ => rfl
  | a :: al, p => by simp only [attrsAt, List.length_cons, attrsAt_len al]
theorem attrText_pos (a : B × B) : 0 < (attrText a).length := by simp [attrText]
theorem attrs_read : ∀ (al : List (B × B)) (as : List PAttr) (f p : Nat) (m : B), (∀ a ∈ al, NameOk a.1) → (∀ a ∈ al, ∀ c ∈ a.2, isVal c = true) → as.length + al.length ≤ 8 → (as.map (·.name) ++ al.map (·.1)).Nodup →
    (attrsText al).length < f → ([32] : B).isPrefixOf m = false → pAttrs f as (attrsText al ++ m) p = .ok (as ++ attrsAt p al, m, p + (attrsText al).length)
  | [], as, f, p, m, _, _, _, _, hf, hm => by
    cases f with
    | zero => omega
    | succ f => simp only [attrsText, List.nil_append, pAttrs, hm, Bool.false_eq_true, if_false, attrsAt, List.append_nil, List.length_nil, Nat.add_zero]
  | a :: al, as, f, p, m, hn, hv, hl, hd, hf, hm => by
    cases f with
    | zero => omega
    | succ f =>
      have hpos := attrText_pos a
      simp only [attrsText, List.length_append, List.append_assoc] at hf ⊢
      have hp : ([32] : B).isPrefixOf (attrText a ++ (attrsText al ++ m)) = true := by unfold attrText; rw [List.append_assoc]; exact prefix_pos _ _
      have hx : a.1 ∉ as.map (·.name) := by
        intro hx
        rw [List.nodup_append] at hd
        exact hd.2.2 _ hx _ (by simp) rfl
      rw [pAttrs, if_pos hp, then_of (attr_read (hn a (by simp)) (hv a (by simp)) hx (by simp at hl; omega) _ p)]
      simp only
      rw [attrs_read al _ f _ m (fun x hx => hn x (by simp [hx])) (fun x hx => hv x (by simp [hx])) (by simp at hl ⊢; omega) (by simpa using hd) (by omega) hm]
      simp [attrsAt, Nat.add_assoc]
theorem open_read {nm : B} {al : List (B × B)} (hn : NameOk nm) (ha : AttrsOk al) {deep count : Nat} (hd : deep ≤ 20) (hc : count ≠ 120) (parent : Int) (m : B) (p : Nat) :
    pOpen parent deep count (openText nm al ++ m) p = .ok (⟨nm, parent, attrsAt (p + 1 + nm.length) al, ((p + 1 + nm.length : Nat) : Int), 0, 0⟩, m, p + (openText nm al).length) := by
  unfold pOpen openText
  rw [if_neg (by omega), if_neg hc]
  have e : [60] ++ (nm ++ (attrsText al ++ [62])) ++ m = [60] ++ (nm ++ (attrsText al ++ ([62] ++ m))) := by simp
  rw [e, then_of (pMust_read _ _ _)]
  simp only
  have hh : (attrsText al ++ ([62] ++ m)).head?.any isMore = false := by
    cases al with
    | nil => rfl
    | cons a al => rfl
  rw [then_of (pName_read hn hh _)]
  simp only
  rw [then_of (attrs_read al [] _ _ ([62] ++ m) ha.name ha.val (by simpa using ha.few) (by simpa using ha.apart) (by simp; omega) (by rfl))]
  simp only [List.nil_append]
  rw [then_of (pMust_read _ _ _)]
  simp; omega
theorem attr_inv {as : List PAttr} {l l' : B} {p p' : Nat} {x : PAttr} (hp : ([32] : B).isPrefixOf l = true) (h : pAttr as l p = .ok (x, l', p')) :
    ∃ a : B × B, NameOk a.1 ∧ (∀ c ∈ a.2, isVal c = true) ∧ a.1 ∉ as.map (·.name) ∧ as.length ≠ 8 ∧ l = attrText a ++ l' ∧ p' = p + (attrText a).length ∧ x = ⟨a.1, a.2, (p : Int), ((p + (attrText a).length : Nat) : Int)⟩ := by
  obtain ⟨r, rfl, hd⟩ := prefix_split hp
  rw [show ([32] : B).length = 1 from rfl] at hd
  unfold pAttr at h
  rw [hd] at h
  obtain ⟨⟨nm, l1, p1⟩, h1, h⟩ := then_ok h
  have h1' := sName_eq h1
  obtain ⟨hpos, rfl, rfl, _, _⟩ := name_pos h1'
  simp only at h
  split at h
  · cases h
  · rename_i hb
    rw [Bool.or_eq_true, not_or, any_name] at hb
    obtain ⟨⟨l2, p2⟩, h2, h⟩ := then_ok h
    obtain ⟨rfl, rfl, _⟩ := must_loc h2
    obtain ⟨⟨l3, p3⟩, h3, h⟩ := then_ok h
    simp only at h3
    have hsplit : l2 = pVal l2 ++ l2.drop (pVal l2).length := by
      conv => lhs; rw [← List.take_append_drop (pVal l2).length l2]
      unfold pVal; rw [takeWhile_take]
    obtain ⟨e3, rfl, _⟩ := must_loc h3
    cases h
    refine ⟨(nm, pVal l2), name_ok_of h1', fun c hc => List.all_eq_true.1 (List.all_takeWhile (p := isVal) (l := l2)) c hc, hb.1, by simpa using hb.2, ?_, ?_, ?_⟩
    · unfold attrText
      conv => lhs; rw [hsplit, e3]
      simp
    · simp [attrText]; omega
    · congr 2
      simp [attrText]; omega
theorem attrs_inv : ∀ (f : Nat) (as : List PAttr) (l : B) (p : Nat) (as' : List PAttr) (l' : B) (p' : Nat), pAttrs f as l p = .ok (as', l', p') → (as.map (·.name)).Nodup → as.length ≤ 8 →
    ∃ al : List (B × B), (∀ a ∈ al, NameOk a.1) ∧ (∀ a ∈ al, ∀ c ∈ a.2, isVal c = true) ∧ as.length + al.length ≤ 8 ∧ (as.map (·.name) ++ al.map (·.1)).Nodup ∧ l = attrsText al ++ l' ∧ p' = p + (attrsText al).length ∧ as' = as ++ attrsAt p al ∧ ([32] : B).isPrefixOf l' = false := by
  intro f
  induction f with
  | zero => intro as l p as' l' p' h; cases h
  | succ f ih =>
    intro as l p as' l' p' h hnd hle
    rw [pAttrs] at h
    split at h
    · rename_i hp
      obtain ⟨⟨x, l1, p1⟩, h1, h⟩ := then_ok h
      obtain ⟨a, h2, h3, h4, h5, rfl, rfl, rfl⟩ := attr_inv hp h1
      obtain ⟨al, g1, g2, g3, g4, rfl, rfl, rfl, g5⟩ := ih _ _ _ _ _ _ h (by
        rw [List.map_append, List.nodup_append]
        refine ⟨hnd, by simp, ?_⟩
        intro y hy z hz
        simp at hz; subst hz
        rintro rfl; exact h4 hy) (by simp; omega)
      refine ⟨a :: al, ?_, ?_, by simp at g3 ⊢; omega, by simpa using g4, by simp [attrsText], by simp [attrsText]; omega, by simp [attrsAt], g5⟩
      · intro y hy; rcases List.mem_cons.1 hy with rfl | hy
        · exact h2
        · exact g1 y hy
      · intro y hy; rcases List.mem_cons.1 hy with rfl | hy
        · exact h3
        · exact g2 y hy
    · rename_i hp
      cases h
      exact ⟨[], by simp, by simp, by simpa using hle, by simpa using hnd, rfl, rfl, by simp [attrsAt], by rw [Bool.not_eq_true] at hp; exact hp⟩
theorem open_inv {parent : Int} {deep count : Nat} {l l' : B} {p p' : Nat} {n : PNode} (h : pOpen parent deep count l p = .ok (n, l', p')) :
    deep ≤ 20 ∧ count ≠ 120 ∧ ∃ (nm : B) (al : List (B × B)), NameOk nm ∧ AttrsOk al ∧ l = openText nm al ++ l' ∧ p' = p + (openText nm al).length ∧ n = ⟨nm, parent, attrsAt (p + 1 + nm.length) al, ((p + 1 + nm.length : Nat) : Int), 0, 0⟩ := by
  unfold pOpen at h
  split at h
  · cases h
  · split at h
    · cases h
    · rename_i hd hc
      refine ⟨by omega, hc, ?_⟩
      obtain ⟨⟨l1, p1⟩, h1, h⟩ := then_ok h
      obtain ⟨rfl, rfl, _⟩ := must_loc h1
      obtain ⟨⟨nm, l2, p2⟩, h2, h⟩ := then_ok h
      have h2' := sName_eq h2
      obtain ⟨hpos, rfl, rfl, _, _⟩ := name_pos h2'
      obtain ⟨⟨as, l3, p3⟩, h3, h⟩ := then_ok h
      obtain ⟨al, g1, g2, g3, g4, rfl, rfl, rfl, g5⟩ := attrs_inv _ _ _ _ _ _ _ h3 (by simp) (by simp)
      obtain ⟨⟨l4, p4⟩, h4, h⟩ := then_ok h
      obtain ⟨rfl, rfl, _⟩ := must_loc h4
      cases h
      refine ⟨nm, al, name_ok_of h2', ⟨g1, g2, by simpa using g3, by simpa using g4⟩, by simp [openText], by simp [openText]; omega, ?_⟩
      simp
def pEnds (m : B) : Bool := m.isEmpty || ([60, 47] : B).isPrefixOf m
theorem close_ends (nm m : B) : pEnds (closeText nm ++ m) = true := by simp [pEnds, closeText, List.isPrefixOf]
theorem find_ext {w x m : B} (hw : w ≠ []) (h : findSub w (x ++ w) = some x.length) : findSub w (x ++ (w ++ m)) = some x.length := by
  have := findSub_take hw m h
  rw [List.take_of_length_le (by simp)] at this
  rw [← List.append_assoc]; exact this
theorem open_head (nm : B) (al : List (B × B)) (hn : NameOk nm) (m : B) : ∃ c t, openText nm al ++ m = 60 :: c :: t ∧ isLow c = true := by
  obtain ⟨⟨c, t, rfl, hc⟩, _⟩ := name_all hn
  exact ⟨c, _, rfl, hc⟩
theorem not_close {c : UInt8} {t : B} (hc : isLow c = true) : ([60, 47] : B).isPrefixOf (60 :: c :: t) = false ∧ noteBegin.isPrefixOf (60 :: c :: t) = false ∧ ([60] : B).isPrefixOf (60 :: c :: t) = true := by
  simp [isLow] at hc
  have h1 : ¬ (47 : UInt8) = c := fun e => by have : c.toNat = 47 := by rw [← e]; rfl
                                              omega
  have h2 : ¬ (33 : UInt8) = c := fun e => by have : c.toNat = 33 := by rw [← e]; rfl
                                              omega
  exact ⟨by simp [List.isPrefixOf, h1], by simp [noteBegin, List.isPrefixOf, h2], by simp [List.isPrefixOf]⟩
theorem items_read : ∀ (T : PT) (f : Nat) (parent : Int) (deep : Nat) (ns : List PNode) (m : B) (p : Nat), wfP deep T → ns.length + sizeP T ≤ 120 → (textP T).length < f → pEnds m = true →
    pItems f parent deep ns (textP T ++ m) p = .ok (ns ++ nodesP parent ns.length p T, m, p + (textP T).length)
  | .nil, f, parent, deep, ns, m, p, _, _, hf, hm => by
    cases f with
    | zero => omega
    | succ f =>
      simp only [textP, List.nil_append, nodesP, List.append_nil, List.length_nil, Nat.add_zero]
      cases m with
      | nil => rfl
      | cons c t =>
        have : ([60, 47] : B).isPrefixOf (c :: t) = true := by simpa [pEnds] using hm
        rw [pItems, if_pos this]
  | .text c n, f, parent, deep, ns, m, p, hw, hc, hf, hm => by
    obtain ⟨h1, h2, h3⟩ := hw
    cases f with
    | zero => omega
    | succ f =>
      have hx : ¬ (60 : UInt8) = c := fun e => h2 e.symm
      simp only [textP, List.cons_append, nodesP, List.length_cons] at hf ⊢
      rw [pItems, if_neg (by simp [List.isPrefixOf, hx]), if_neg (by simp [noteBegin, List.isPrefixOf, hx]), if_neg (by simp [List.isPrefixOf, hx]), if_pos h1]
      rw [items_read n f parent deep ns m (p + 1) h3 hc (by omega) hm]
      congr 3; omega
  | .note x n, f, parent, deep, ns, m, p, hw, hc, hf, hm => by
    obtain ⟨h1, h3⟩ := hw
    cases f with
    | zero => omega
    | succ f =>
      have h4 : noteBegin.length = 4 := rfl
      have h5 : noteEnd.length = 3 := rfl
      simp only [textP, List.append_assoc, nodesP, List.length_append, h4, h5] at hf ⊢
      obtain ⟨r, hr⟩ : ∃ r, noteBegin ++ (x ++ (noteEnd ++ (textP n ++ m))) = 60 :: r := ⟨_, rfl⟩
      have hd : (noteBegin ++ (x ++ (noteEnd ++ (textP n ++ m)))).drop 4 = x ++ (noteEnd ++ (textP n ++ m)) := rfl
      have hd2 : (noteBegin ++ (x ++ (noteEnd ++ (textP n ++ m)))).drop (4 + x.length + 3) = textP n ++ m := by
        rw [show 4 + x.length + 3 = 4 + (x.length + 3) from by omega, ← List.drop_drop, hd, ← List.drop_drop, List.drop_left]
        rfl
      have hnot : ([60, 47] : B).isPrefixOf (noteBegin ++ (x ++ (noteEnd ++ (textP n ++ m)))) = false := by simp [noteBegin, List.isPrefixOf]
      have hyes := prefix_pos noteBegin (x ++ (noteEnd ++ (textP n ++ m)))
      rw [hr] at hd hd2 hnot hyes ⊢
      rw [pItems, hnot, if_neg (by simp), if_pos hyes, hd, find_ext (by simp [noteEnd]) h1]
      simp only
      rw [hd2, items_read n f parent deep ns m _ h3 hc (by omega) hm]
      congr 3; omega
  | .elem nm al kids n, f, parent, deep, ns, m, p, hw, hc, hf, hm => by
    obtain ⟨h1, h2, h3, h4, h5, h6⟩ := hw
    cases f with
    | zero => omega
    | succ f =>
      simp only [sizeP] at hc
      simp only [textP, List.append_assoc, nodesP, List.length_append] at hf ⊢
      obtain ⟨c, r, hr, hcl⟩ := open_head nm al h2 (textP kids ++ (closeText nm ++ (textP n ++ m)))
      have hol : 0 < (openText nm al).length := by simp [openText]
      have hop := open_read h2 h4 h1 (by omega : ns.length ≠ 120) parent (textP kids ++ (closeText nm ++ (textP n ++ m))) p
      obtain ⟨n1, n2, n3⟩ := not_close (t := r) hcl
      rw [hr] at hop ⊢
      rw [pItems, n1, if_neg (by simp), n2, if_neg (by simp), n3, if_pos rfl]
      have hk := items_read kids f (ns.length : Int) (deep + 1) (ns ++ [⟨nm, parent, attrsAt (p + 1 + nm.length) al, ((p + 1 + nm.length : Nat) : Int), 0, 0⟩]) (closeText nm ++ (textP n ++ m)) (p + (openText nm al).length) h5 (by simp; omega) (by omega) (close_ends _ _)
      have hel : pElem (pItems f) parent deep ns (60 :: c :: r) p = .ok (ns ++ [⟨nm, parent, attrsAt (p + 1 + nm.length) al, ((p + 1 + nm.length : Nat) : Int), 0, 0⟩] ++ nodesP (ns.length : Int) (ns.length + 1) (p + (openText nm al).length) kids, textP n ++ m, p + (openText nm al).length + (textP kids).length + (closeText nm).length) := by
        unfold pElem
        rw [then_of hop]
        simp only
        unfold pInside
        simp only
        rw [if_neg h3, then_of hk]
        simp only
        have : closeText nm ++ (textP n ++ m) = ([60, 47] ++ nm ++ [62]) ++ (textP n ++ m) := by simp [closeText]
        rw [this, then_of (pMust_read _ _ _)]
        simp [closeText]
      rw [then_of hel]
      simp only
      rw [items_read n f parent deep _ m _ h6 (by simp [nodesP_len]; omega) (by omega) hm]
      simp only [List.append_assoc, List.length_append, List.length_cons, List.length_nil, nodesP_len, List.cons_append, List.nil_append]
      rw [show ns.length + (sizeP kids + 1) = ns.length + 1 + sizeP kids from by omega]
      congr 3; omega
  | .style al inner n, f, parent, deep, ns, m, p, hw, hc, hf, hm => by
    obtain ⟨h1, h4, h5, h6⟩ := hw
    have h2 : NameOk styleName := ⟨by decide, by decide, by decide⟩
    cases f with
    | zero => omega
    | succ f =>
      simp only [sizeP] at hc
      simp only [textP, List.append_assoc, nodesP, List.length_append] at hf ⊢
      obtain ⟨c, r, hr, hcl⟩ := open_head styleName al h2 (inner ++ (closeText styleName ++ (textP n ++ m)))
      have hol : 0 < (openText styleName al).length := by simp [openText]
      have hop := open_read h2 h4 h1 (by omega : ns.length ≠ 120) parent (inner ++ (closeText styleName ++ (textP n ++ m))) p
      obtain ⟨n1, n2, n3⟩ := not_close (t := r) hcl
      rw [hr] at hop ⊢
      rw [pItems, n1, if_neg (by simp), n2, if_neg (by simp), n3, if_pos rfl]
      have hfs : findSub styleEnd (inner ++ (closeText styleName ++ (textP n ++ m))) = some inner.length := find_ext (w := styleEnd) (by simp [styleEnd]) h5
      have hel : pElem (pItems f) parent deep ns (60 :: c :: r) p = .ok (ns ++ [⟨styleName, parent, attrsAt (p + 1 + styleName.length) al, ((p + 1 + styleName.length : Nat) : Int), ((p + (openText styleName al).length : Nat) : Int), ((p + (openText styleName al).length + inner.length : Nat) : Int)⟩], textP n ++ m, p + (openText styleName al).length + inner.length + (closeText styleName).length) := by
        unfold pElem
        rw [then_of hop]
        simp only
        unfold pInside
        simp only
        rw [if_pos trivial, hfs]
        simp only [Ans.ok_then]
        have : (inner ++ (closeText styleName ++ (textP n ++ m))).drop inner.length = ([60, 47] ++ styleName ++ [62]) ++ (textP n ++ m) := by simp [closeText]
        rw [this, then_of (pMust_read _ _ _)]
        simp [closeText]
      rw [then_of hel]
      simp only
      rw [items_read n f parent deep _ m _ h6 (by simp; omega) (by omega) hm]
      simp only [List.append_assoc, List.length_append, List.length_cons, List.length_nil, List.cons_append, List.nil_append, Nat.zero_add]
      congr 3; omega
theorem note_find {l : B} {e : Nat} {w : B} (hw : w ≠ []) (h : findSub w l = some e) : ∃ x r, x.length = e ∧ l = x ++ (w ++ r) ∧ findSub w (x ++ w) = some x.length := by
  obtain ⟨r, hr⟩ := findSub_at h
  have hle := findSub_le _ _ _ h
  have hx : (l.take e).length = e := by simp; omega
  refine ⟨l.take e, r, hx, by rw [← List.append_assoc]; exact hr, ?_⟩
  have := findSub_take hw [] h
  rw [List.append_nil] at this
  have e1 : l.take (e + w.length) = l.take e ++ w := by
    conv => lhs; rw [hr]
    rw [List.take_append_of_le_length (by simp [hx])]
    rw [List.take_of_length_le (by simp [hx])]
  rw [e1] at this
  rw [hx]; exact this
theorem items_inv : ∀ (f : Nat) (parent : Int) (deep : Nat) (ns : List PNode) (l : B) (p : Nat) (ns' : List PNode) (l' : B) (p' : Nat), pItems f parent deep ns l p = .ok (ns', l', p') → ns.length ≤ 120 →
    ∃ T : PT, wfP deep T ∧ l = textP T ++ l' ∧ p' = p + (textP T).length ∧ ns' = ns ++ nodesP parent ns.length p T ∧ pEnds l' = true ∧ ns'.length ≤ 120 := by
  intro f
  induction f with
  | zero => intro parent deep ns l p ns' l' p' h; cases h
  | succ f ih =>
    intro parent deep ns l p ns' l' p' h hn
    cases l with
    | nil => cases h; exact ⟨.nil, trivial, rfl, rfl, by simp [nodesP], rfl, hn⟩
    | cons c t =>
      rw [pItems] at h
      split at h
      · rename_i hp
        cases h
        exact ⟨.nil, trivial, rfl, rfl, by simp [nodesP], by simp [pEnds, hp], hn⟩
      · rename_i hp1
        split at h
        · rename_i hp
          obtain ⟨r, hr⟩ := List.isPrefixOf_iff_prefix.1 hp
          rw [← hr] at h ⊢
          have hd : (noteBegin ++ r).drop 4 = r := rfl
          rw [hd] at h
          split at h
          · cases h
          · rename_i e hf
            obtain ⟨x, r2, rfl, rfl, hx⟩ := note_find (by simp [noteEnd]) hf
            have hd2 : (noteBegin ++ (x ++ (noteEnd ++ r2))).drop (4 + x.length + 3) = r2 := by
              rw [show 4 + x.length + 3 = 4 + (x.length + 3) from by omega, ← List.drop_drop, hd, ← List.drop_drop, List.drop_left]
              rfl
            rw [hd2] at h
            obtain ⟨T, h1, rfl, rfl, rfl, h5, h6⟩ := ih _ _ _ _ _ _ _ _ h hn
            have h4 : noteBegin.length = 4 := rfl
            have h7 : noteEnd.length = 3 := rfl
            exact ⟨.note x T, ⟨hx, h1⟩, by simp [textP], by simp [textP, h4, h7]; omega, rfl, h5, h6⟩
        · rename_i hp2
          split at h
          · rename_i hp3
            obtain ⟨⟨ns1, l1, p1⟩, h1, h⟩ := then_ok h
            unfold pElem at h1
            obtain ⟨⟨n, l2, p2⟩, h2, h1⟩ := then_ok h1
            obtain ⟨hd, hc, nm, al, hnm, hal, hl, rfl, rfl⟩ := open_inv h2
            obtain ⟨⟨ns3, l3, p3⟩, h3, h1⟩ := then_ok h1
            obtain ⟨⟨l4, p4⟩, h4, h1⟩ := then_ok h1
            obtain ⟨e4, e5, _⟩ := must_loc h4
            simp only at e4 e5
            cases h1
            unfold pInside at h3
            simp only at h3
            split at h3
            · rename_i hst
              split at h3
              · cases h3
              · rename_i e hf
                obtain ⟨x, r2, rfl, hl2, hx⟩ := note_find (by simp [styleEnd]) hf
                cases h3
                obtain ⟨T, t1, rfl, rfl, rfl, t5, t6⟩ := ih _ _ _ _ _ _ _ _ h (by simp; omega)
                rw [hst] at e4 hl e5 hnm t6 ⊢
                refine ⟨.style al x T, ⟨hd, hal, hx, t1⟩, ?_, ?_, ?_, t5, t6⟩
                · rw [hl]
                  have : l2 = x ++ (closeText styleName ++ (textP T ++ l')) := by
                    conv => lhs; rw [← List.take_append_drop x.length l2, e4]
                    rw [hl2, List.take_left]
                    simp [closeText]
                  rw [this]; simp [textP]
                · rw [e5]; simp [textP, closeText]; omega
                · rw [e5]
                  simp only [nodesP, List.append_assoc, List.length_append, List.length_cons, List.length_nil, List.cons_append, List.nil_append, Nat.zero_add]
                  congr 3
            · rename_i hst
              subst e4 e5
              obtain ⟨K, k1, rfl, rfl, rfl, k5, k6⟩ := ih _ _ _ _ _ _ _ _ h3 (by simp; omega)
              obtain ⟨T, t1, rfl, rfl, rfl, t5, t6⟩ := ih _ _ _ _ _ _ _ _ h k6
              refine ⟨.elem nm al K T, ⟨hd, hnm, hst, hal, k1, t1⟩, ?_, ?_, ?_, t5, t6⟩
              · rw [hl]; simp [textP, closeText]
              · simp [textP, closeText]; omega
              · simp only [nodesP, List.append_assoc, List.length_append, List.length_cons, List.length_nil, nodesP_len, List.cons_append, List.nil_append, Nat.zero_add]
                rw [show ns.length + (sizeP K + 1) = ns.length + 1 + sizeP K from by omega]
                rw [show (closeText nm).length = nm.length + 1 + 1 + 1 from by simp [closeText]]
          · rename_i hp3
            split at h
            · rename_i hok
              obtain ⟨T, t1, rfl, rfl, rfl, t5, t6⟩ := ih _ _ _ _ _ _ _ _ h hn
              refine ⟨.text c T, ⟨hok, ?_, t1⟩, rfl, by simp [textP]; omega, rfl, t5, t6⟩
              rintro rfl
              exact hp3 (by simp [List.isPrefixOf])
            · cases h
theorem page_read {T : PT} (hw : wfP 1 T) (hl : (textP T).length ≤ 6000) (hc : sizeP T ≤ 120) : pParse (textP T) = .ok (nodesP (-1) 0 0 T) := by
  unfold pParse
  have := items_read T ((textP T).length + 1) (-1) 1 [] [] 0 hw (by simpa using hc) (by omega) rfl
  rw [List.append_nil] at this
  rw [if_neg (by omega), then_of this]
  simp
theorem page_inv {s : B} {ns : List PNode} (h : pParse s = .ok ns) : s.length ≤ 6000 ∧ ∃ T : PT, wfP 1 T ∧ sizeP T ≤ 120 ∧ s = textP T ∧ ns = nodesP (-1) 0 0 T := by
  unfold pParse at h
  split at h
  · cases h
  · rename_i hl
    obtain ⟨⟨ns1, l1, p1⟩, h1, h⟩ := then_ok h
    obtain ⟨T, t1, rfl, rfl, rfl, t5, t6⟩ := items_inv _ _ _ _ _ _ _ _ _ h1 (by simp)
    simp only at h
    split at h
    · rename_i he
      cases h
      subst he
      refine ⟨by omega, T, t1, by simpa [nodesP_len] using t6, by simp, by simp⟩
    · cases h
end Go.Proofs.YtplbdlgmjehckacGreatDoor

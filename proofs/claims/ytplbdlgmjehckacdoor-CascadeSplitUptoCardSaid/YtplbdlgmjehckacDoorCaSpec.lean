/-
  Plain Lean, no program: what is declared for each element (chapter 5), as functions.
-/
import Derived.Test.YtplbdlgmjehckacDoorMtLaws
namespace Go.Proofs.YtplbdlgmjehckacDoor
set_option linter.unusedVariables false
set_option linter.unusedSimpArgs false

/-! ### texts in order -/
def bLt : B → B → Bool
  | [], [] => false
  | [], _ :: _ => true
  | _ :: _, [] => false
  | a :: x, b :: y => decide (a.toNat < b.toNat) || (decide (a.toNat = b.toNat) && bLt x y)
theorem bLt_irrefl : ∀ x, bLt x x = false
  | [] => rfl
  | a :: x => by simp [bLt, bLt_irrefl x]
theorem bLt_trans : ∀ {x y z : B}, bLt x y = true → bLt y z = true → bLt x z = true
  | [], [], z, h, _ => by cases h
  | [], _ :: _, [], _, h => by cases h
  | [], _ :: _, _ :: _, _, _ => rfl
  | _ :: _, [], _, h, _ => by cases h
  | _ :: _, _ :: _, [], _, h => by cases h
  | a :: x, b :: y, c :: z, h, g => by
    simp only [bLt, Bool.or_eq_true, Bool.and_eq_true, decide_eq_true_eq] at h g ⊢
    rcases h with h | ⟨h, h'⟩ <;> rcases g with g | ⟨g, g'⟩
    · left; omega
    · left; omega
    · left; omega
    · right; exact ⟨by omega, bLt_trans h' g'⟩
theorem bLt_total : ∀ {x y : B}, bLt x y = false → bLt y x = false → x = y
  | [], [], _, _ => rfl
  | [], _ :: _, h, _ => by cases h
  | _ :: _, [], _, h => by cases h
  | a :: x, b :: y, h, g => by
    simp only [bLt, Bool.or_eq_false_iff, Bool.and_eq_false_iff, decide_eq_false_iff_not] at h g
    have e : a.toNat = b.toNat := by omega
    have h2 := h.2.resolve_left (by omega)
    have g2 := g.2.resolve_left (by omega)
    rw [UInt8.toNat_inj.1 e, bLt_total h2 g2]

/-! ### claims, and what wins -/
structure PClaim where
  d : PDecl
  own : Bool
  w : PWt
  deriving DecidableEq

/-- does a later one (b) take the place of an earlier one (a)? -/
def beats (b a : PClaim) : Bool :=
  if a.d.strong = b.d.strong then (if a.own = b.own then !wLt b.w a.w else b.own) else b.d.strong
def comb : Option PClaim → Option PClaim → Option PClaim
  | none, b => b
  | some a, none => some a
  | some a, some b => if beats b a then some b else some a
def winStep (n : B) (acc : Option PClaim) (c : PClaim) : Option PClaim := if c.d.name = n then comb acc (some c) else acc
/-- what wins, of a property -/
def winner (cs : List PClaim) (n : B) : Option PClaim := cs.foldl (winStep n) none

/-- a name among names that rise -/
def insName (n : B) : List B → List B
  | [] => [n]
  | x :: xs => if bLt n x then n :: x :: xs else if bLt x n then x :: insName n xs else x :: xs
def namesOf (cs : List PClaim) : List B := cs.foldl (fun acc c => insName c.d.name acc) []
/-- what wins of each property, as names rise -/
def cLook (cs : List PClaim) : List PDecl := (namesOf cs).filterMap fun n => (winner cs n).map (·.d)

/-! ### what is declared -/
def counts (r : PRule) (media : List B) : Bool := r.media.isEmpty || media.contains r.media
def ruleClaims (l : List PNode) (k : Int) (media : List B) : List PRule → Ans (List PClaim)
  | [] => .ok []
  | r :: rs =>
    if (mBest l k r.sels).2 && counts r media then
      match pAll r.decls with
      | none => .bad ⟨5, 0⟩
      | some d => (ruleClaims l k media rs).then fun cs => .ok (d.map (fun x => ⟨x, false, (mBest l k r.sels).1⟩) ++ cs)
    else ruleClaims l k media rs
def ownDecls (n : PNode) : Ans (List PDecl) :=
  match sDeclsOf (pGet n.attrs styleName).1 with
  | .bad f => .bad ⟨f.err, 0⟩
  | .ok ds => match pAll ds with
    | none => .bad ⟨5, 0⟩
    | some d => .ok d
def ownClaims (ds : List PDecl) : List PClaim := ds.map fun x => ⟨x, true, ⟨0, 0, 0⟩⟩
def cClaims (l : List PNode) (k : Int) (n : PNode) (rules : List PRule) (media : List B) : Ans (List PClaim) :=
  (ruleClaims l k media rules).then fun a => (ownDecls n).then fun b => .ok (a ++ ownClaims b)
def cDeclared (l : List PNode) (k : Int) (rules : List PRule) (media : List B) : Ans (List PDecl) :=
  if inR l k then
    match l[k.toNat]? with
    | none => .bad ⟨6, 0⟩
    | some n => (cClaims l k n rules media).then fun cs => .ok (cLook cs)
  else .bad ⟨6, 0⟩
def lookFind (look : List PDecl) (name : B) : Option PDecl := look.find? fun d => d.name == name
def cValueF : Nat → List PNode → Int → List PRule → List B → B → Ans B
  | 0, _, _, _, _, _ => .bad ⟨6, 0⟩
  | f + 1, l, k, rules, media, name =>
    (cDeclared l k rules media).then fun look =>
    match lookFind look name with
    | some d => .ok d.val
    | none => if pInherits name && decide (0 ≤ parentOf l k.toNat) && decide (parentOf l k.toNat < k) then cValueF f l (parentOf l k.toNat) rules media name else .ok (pInitial name)
def cValue (l : List PNode) (k : Int) (rules : List PRule) (media : List B) (name : B) : Ans B := cValueF (k.toNat + 1) l k rules media name

/-! ### who wins -/
theorem beats_refl (a : PClaim) : beats a a = true := by simp [beats, wLt_irrefl]
/-- 'a is no stronger than b' -/
theorem beats_trans {a b c : PClaim} (h : beats b a = true) (g : beats c b = true) : beats c a = true := by
  unfold beats at h g ⊢
  obtain ⟨⟨_, _, sa⟩, oa, wa⟩ := a
  obtain ⟨⟨_, _, sb⟩, ob, wb⟩ := b
  obtain ⟨⟨_, _, sc⟩, oc, wc⟩ := c
  simp only at h g ⊢
  have hw : (!wLt wb wa) = true → (!wLt wc wb) = true → (!wLt wc wa) = true := by
    simp only [Bool.not_eq_true']
    intro h1 h2
    cases h3 : wLt wc wa with
    | false => rfl
    | true =>
      exfalso
      simp [wLt] at h1 h2 h3
      omega
  cases sa <;> cases sb <;> cases sc <;> cases oa <;> cases ob <;> cases oc <;> simp at h g ⊢ <;> first
    | exact hw (by simpa using h) (by simpa using g) |> fun x => by simpa using x
    | trivial
theorem beats_total (a b : PClaim) : beats b a = true ∨ beats a b = true := by
  unfold beats
  obtain ⟨⟨_, _, sa⟩, oa, wa⟩ := a
  obtain ⟨⟨_, _, sb⟩, ob, wb⟩ := b
  simp only
  cases h : wLt wb wa with
  | false => cases sa <;> cases sb <;> cases oa <;> cases ob <;> simp
  | true =>
    have := wLt_asymm h
    cases sa <;> cases sb <;> cases oa <;> cases ob <;> simp [this]
theorem comb_none (a : Option PClaim) : comb a none = a := by cases a <;> rfl
theorem comb_assoc (a b c : Option PClaim) : comb (comb a b) c = comb a (comb b c) := by
  cases a with
  | none => rfl
  | some a =>
    cases b with
    | none => rfl
    | some b =>
      cases c with
      | none => rw [comb_none, comb_none]
      | some c =>
        simp only [comb]
        cases h1 : beats b a <;> cases h2 : beats c b <;> simp only [comb, Bool.false_eq_true, if_false, if_true, h1, h2]
        · cases h3 : beats c a with
          | false => simp
          | true =>
            exfalso
            have := (beats_total a b).resolve_left (by rw [h1]; simp)
            have := beats_trans this h3
            rw [h2] at this; cases this
        · cases h3 : beats c a with
          | true => rfl
          | false =>
            have := beats_trans h1 h2
            rw [h3] at this; cases this
theorem comb_idem (a : Option PClaim) : comb a a = a := by
  cases a with
  | none => rfl
  | some a => simp [comb, beats_refl]
theorem winner_from (n : B) : ∀ (cs : List PClaim) (acc : Option PClaim), cs.foldl (winStep n) acc = comb acc (winner cs n)
  | [], acc => (comb_none acc).symm
  | c :: cs, acc => by
    unfold winner
    simp only [List.foldl_cons]
    rw [winner_from n cs (winStep n acc c), winner_from n cs (winStep n none c)]
    unfold winStep
    split
    · rw [comb_assoc]; rfl
    · rfl
theorem winner_app (a b : List PClaim) (n : B) : winner (a ++ b) n = comb (winner a n) (winner b n) := by
  unfold winner
  rw [List.foldl_append, winner_from]; rfl
theorem winner_cons (c : PClaim) (b : List PClaim) (n : B) : winner (c :: b) n = comb (if c.d.name = n then some c else none) (winner b n) := by
  have := winner_app [c] b n
  simp only [List.singleton_append] at this
  rw [this]
  congr 1
/-- it is one of them, and no other one is stronger -/
theorem winner_fact : ∀ (cs : List PClaim) (n : B), match winner cs n with
    | none => ∀ c ∈ cs, c.d.name ≠ n
    | some w => w ∈ cs ∧ w.d.name = n ∧ ∀ c ∈ cs, c.d.name = n → beats w c = true
  | [], n => by intro c hc; cases hc
  | c :: cs, n => by
    have ih := winner_fact cs n
    rw [winner_cons]
    cases hw : winner cs n with
    | none =>
      rw [hw] at ih
      simp only [comb_none]
      split
      · rename_i w hn
        split at hn
        · cases hn
        · rename_i h
          intro x hx
          rcases List.mem_cons.1 hx with rfl | hx
          · exact h
          · exact ih x hx
      · rename_i w hn
        split at hn
        · rename_i h
          cases hn
          refine ⟨by simp, h, fun x hx hxn => ?_⟩
          rcases List.mem_cons.1 hx with rfl | hx
          · exact beats_refl _
          · exact absurd hxn (ih x hx)
        · cases hn
    | some w =>
      rw [hw] at ih
      obtain ⟨h1, h2, h3⟩ := ih
      by_cases hc : c.d.name = n
      · rw [if_pos hc]
        simp only [comb]
        cases hb : beats w c with
        | true =>
          simp only [if_true]
          refine ⟨by simp [h1], h2, fun x hx hxn => ?_⟩
          rcases List.mem_cons.1 hx with rfl | hx
          · exact hb
          · exact h3 x hx hxn
        | false =>
          simp only [Bool.false_eq_true, if_false]
          have hcw := (beats_total w c).resolve_right (by rw [hb]; simp)
          refine ⟨by simp, hc, fun x hx hxn => ?_⟩
          rcases List.mem_cons.1 hx with rfl | hx
          · exact beats_refl _
          · exact beats_trans (h3 x hx hxn) hcw
      · rw [if_neg hc]
        simp only [comb]
        refine ⟨by simp [h1], h2, fun x hx hxn => ?_⟩
        rcases List.mem_cons.1 hx with rfl | hx
        · exact absurd hxn hc
        · exact h3 x hx hxn

/-! ### names that rise -/
inductive Rising : List B → Prop
  | nil : Rising []
  | cons {x : B} {xs : List B} (h : ∀ y ∈ xs, bLt x y = true) (hs : Rising xs) : Rising (x :: xs)
theorem mem_insName {n y : B} : ∀ {xs : List B}, y ∈ insName n xs ↔ y = n ∨ y ∈ xs
  | [] => by simp [insName]
  | x :: xs => by
    simp only [insName]
    split
    · simp
    · split
      · simp only [List.mem_cons, mem_insName (xs := xs)]
        constructor
        · rintro (h | h | h) <;> simp [h]
        · rintro (h | h | h) <;> simp [h]
      · rename_i h1 h2
        have : n = x := bLt_total (by simpa using h1) (by simpa using h2)
        subst this
        simp
theorem ins_rising {n : B} : ∀ {xs : List B}, Rising xs → Rising (insName n xs)
  | [], _ => .cons (by simp) .nil
  | x :: xs, h => by
    cases h with
    | cons h hs =>
      simp only [insName]
      split
      · rename_i h1
        refine .cons ?_ (.cons h hs)
        intro y hy
        rcases List.mem_cons.1 hy with rfl | hy
        · exact h1
        · exact bLt_trans h1 (h y hy)
      · split
        · rename_i h1 h2
          refine .cons ?_ (ins_rising hs)
          intro y hy
          rcases mem_insName.1 hy with rfl | hy
          · exact h2
          · exact h y hy
        · exact .cons h hs
theorem namesFrom (cs : List PClaim) : ∀ (acc : List B), Rising acc → Rising (cs.foldl (fun acc c => insName c.d.name acc) acc) ∧ ∀ n, n ∈ cs.foldl (fun acc c => insName c.d.name acc) acc ↔ n ∈ acc ∨ ∃ c ∈ cs, c.d.name = n := by
  induction cs with
  | nil => intro acc h; exact ⟨h, by simp⟩
  | cons c cs ih =>
    intro acc h
    have := ih _ (ins_rising (n := c.d.name) h)
    refine ⟨this.1, fun n => ?_⟩
    simp only [List.foldl_cons]
    rw [this.2, mem_insName]
    simp only [List.mem_cons, exists_eq_or_imp]
    constructor
    · rintro ((h | h) | h)
      · exact .inr (.inl h.symm)
      · exact .inl h
      · exact .inr (.inr h)
    · rintro (h | h | h)
      · exact .inl (.inr h)
      · exact .inl (.inl h.symm)
      · exact .inr h
theorem names_rising (cs : List PClaim) : Rising (namesOf cs) := (namesFrom cs [] .nil).1
theorem mem_names (cs : List PClaim) (n : B) : n ∈ namesOf cs ↔ ∃ c ∈ cs, c.d.name = n := by
  have := (namesFrom cs [] .nil).2 n
  unfold namesOf
  simpa using this
theorem rising_ext : ∀ {xs ys : List B}, Rising xs → Rising ys → (∀ n, n ∈ xs ↔ n ∈ ys) → xs = ys
  | [], [], _, _, _ => rfl
  | [], y :: ys, _, _, h => by have := (h y).2 (by simp); cases this
  | x :: xs, [], _, _, h => by have := (h x).1 (by simp); cases this
  | x :: xs, y :: ys, .cons h1 h2, .cons g1 g2, h => by
    have hxy : x = y := by
      rcases List.mem_cons.1 ((h x).1 (by simp)) with e | e
      · exact e
      · rcases List.mem_cons.1 ((h y).2 (by simp)) with e' | e'
        · exact e'.symm
        · have := bLt_trans (h1 y e') (g1 x e)
          rw [bLt_irrefl] at this; cases this
    subst hxy
    congr 1
    refine rising_ext h2 g2 fun n => ?_
    have hn := h n
    simp only [List.mem_cons] at hn
    constructor
    · intro hx
      rcases hn.1 (.inr hx) with e | e
      · subst e; have := h1 n hx; rw [bLt_irrefl] at this; cases this
      · exact e
    · intro hx
      rcases hn.2 (.inr hx) with e | e
      · subst e; have := g1 n hx; rw [bLt_irrefl] at this; cases this
      · exact e

/-! ### what wins of each property -/
theorem winner_some {cs : List PClaim} {n : B} : (∃ c ∈ cs, c.d.name = n) ↔ winner cs n ≠ none := by
  have := winner_fact cs n
  cases h : winner cs n with
  | none =>
    rw [h] at this
    simp only [ne_eq, not_true_eq_false, iff_false]
    rintro ⟨c, hc, hn⟩
    exact this c hc hn
  | some w =>
    rw [h] at this
    simp only [ne_eq, reduceCtorEq, not_false_eq_true, iff_true]
    exact ⟨w, this.1, this.2.1⟩
/-- two lists of claims tell the same, if the same wins of each property -/
theorem look_ext {cs ds : List PClaim} (h : ∀ n, (winner cs n).map (·.d) = (winner ds n).map (·.d)) : cLook cs = cLook ds := by
  have hn : namesOf cs = namesOf ds := rising_ext (names_rising cs) (names_rising ds) fun n => by
    rw [mem_names, mem_names, winner_some, winner_some]
    have := h n
    cases h1 : winner cs n <;> cases h2 : winner ds n <;> rw [h1, h2] at this <;> simp at this ⊢
  unfold cLook
  rw [hn]
  congr 1
  funext n
  exact h n
theorem look_mem {cs : List PClaim} {d : PDecl} : d ∈ cLook cs ↔ ∃ c, winner cs d.name = some c ∧ c.d = d := by
  unfold cLook
  simp only [List.mem_filterMap, Option.map_eq_some_iff]
  constructor
  · rintro ⟨n, _, c, hc, rfl⟩
    have := winner_fact cs n
    rw [hc] at this
    exact ⟨c, by rw [this.2.1]; exact hc, rfl⟩
  · rintro ⟨c, hc, rfl⟩
    refine ⟨c.d.name, ?_, c, hc, rfl⟩
    rw [mem_names, winner_some, hc]; simp
/-- names of what wins: those of the claims, as they rise -/
theorem look_names (cs : List PClaim) : (cLook cs).map (·.name) = namesOf cs := by
  have : ∀ ns : List B, (∀ n ∈ ns, winner cs n ≠ none) → (ns.filterMap fun n => (winner cs n).map (·.d)).map (·.name) = ns := by
    intro ns
    induction ns with
    | nil => intro _; rfl
    | cons n ns ih =>
      intro h
      have h1 := h n (by simp)
      have h2 := winner_fact cs n
      cases hw : winner cs n with
      | none => exact absurd hw h1
      | some c =>
        rw [hw] at h2
        simp only [List.filterMap_cons, hw, Option.map_some, List.map_cons, h2.2.1]
        rw [ih (fun m hm => h m (by simp [hm]))]
  exact this _ fun n hn => winner_some.1 ((mem_names cs n).1 hn)
theorem look_find {cs : List PClaim} (n : B) : lookFind (cLook cs) n = (winner cs n).map (·.d) := by
  unfold lookFind
  cases hw : winner cs n with
  | none =>
    simp only [Option.map_none]
    rw [List.find?_eq_none]
    intro d hd
    obtain ⟨c, hc, rfl⟩ := look_mem.1 hd
    intro e
    have e' : c.d.name = n := by simpa using e
    rw [e', hw] at hc; cases hc
  | some c =>
    have h2 := winner_fact cs n
    rw [hw] at h2
    obtain ⟨h3, h4, h5⟩ := h2
    have hmem : c.d ∈ cLook cs := look_mem.2 ⟨c, by rw [h4]; exact hw, rfl⟩
    cases hf : (cLook cs).find? (fun d => d.name == n) with
    | none =>
      rw [List.find?_eq_none] at hf
      exact absurd (by simp [h4]) (hf _ hmem)
    | some d =>
      have hd := List.mem_of_find?_eq_some hf
      have hn := List.find?_some hf
      have hn' : d.name = n := by simpa using hn
      obtain ⟨c', hc', rfl⟩ := look_mem.1 hd
      rw [hn', hw] at hc'
      cases hc'; rfl

end Go.Proofs.YtplbdlgmjehckacDoor

/- Chains of directories: the plain law. -/
namespace Go.Proofs.Ytdjahdipaffajaa
/-- A directory's parent: the first place counts. -/
def par (l : List (Int × Int)) (k : Int) : Option Int := (l.find? fun u => u.1 == k).map (·.2)
/-- Going up: the directories that are passed, and how it ends (0: at a root; 5: there is no parent; 50: a ring). -/
def climb (m : Int → Option Int) : Nat → Int → List Int → List Int × Int
  | 0, _, acc => (acc, 0)
  | f + 1, ino, acc => match m ino with
    | none => (acc, 5)
    | some p => if ino ∈ acc then (acc, 50) else if p = ino then (acc ++ [ino], 0) else climb m f p (acc ++ [ino])
def goUp (l : List (Int × Int)) (ino : Int) : List Int × Int := climb (par l) (l.length + 1) ino []
theorem par_mem {l : List (Int × Int)} {k p : Int} (h : par l k = some p) : k ∈ l.map (·.1) := by
  unfold par at h
  obtain ⟨u, hu, _⟩ := Option.map_eq_some_iff.1 h
  have hk : u.1 = k := by simpa using List.find?_some hu
  exact hk ▸ List.mem_map_of_mem (List.mem_of_find?_eq_some hu)
/-- Numbers, none twice, all among some, are at most as many. -/
theorem nodup_sub : ∀ {a b : List Int}, a.Nodup → (∀ x ∈ a, x ∈ b) → a.length ≤ b.length
  | [], _, _, _ => by simp
  | x :: a, b, hn, hs => by
    obtain ⟨h1, h2⟩ := List.nodup_cons.1 hn
    have hx := hs x (List.mem_cons_self ..)
    have h := nodup_sub (b := b.erase x) h2 fun y hy => by
      have hne : y ≠ x := fun e => h1 (e ▸ hy)
      exact (List.mem_erase_of_ne hne).2 (hs y (List.mem_cons_of_mem _ hy))
    rw [List.length_erase_of_mem hx] at h
    have := List.length_pos_of_mem hx
    simp only [List.length_cons]
    omega
/-- What is so while going up. -/
structure Going (l : List (Int × Int)) (R : List Int × Int) (ino : Int) (acc : List Int) : Prop where
  nd : acc.Nodup
  sub : ∀ x ∈ acc, x ∈ l.map (·.1)
  res : ∃ f, l.length < f + acc.length ∧ climb (par l) f ino acc = R
theorem Going.start (l : List (Int × Int)) (ino : Int) : Going l (goUp l ino) ino [] := ⟨List.nodup_nil, (fun x hx => by cases hx), l.length + 1, by simp, rfl⟩
theorem Going.len {l : List (Int × Int)} {R : List Int × Int} {ino : Int} {acc : List Int} (h : Going l R ino acc) : acc.length ≤ l.length := by
  have := nodup_sub h.nd h.sub
  simpa using this
theorem Going.none {l : List (Int × Int)} {R : List Int × Int} {ino : Int} {acc : List Int} (h : Going l R ino acc) (hp : par l ino = none) : R = (acc, 5) := by
  obtain ⟨f, hf, hr⟩ := h.res
  have := h.len
  obtain ⟨g, rfl⟩ : ∃ g, f = g + 1 := ⟨f - 1, by omega⟩
  rw [climb, hp] at hr
  exact hr.symm
theorem Going.ring {l : List (Int × Int)} {R : List Int × Int} {ino p : Int} {acc : List Int} (h : Going l R ino acc) (hp : par l ino = some p) (hm : ino ∈ acc) : R = (acc, 50) := by
  obtain ⟨f, hf, hr⟩ := h.res
  have := h.len
  obtain ⟨g, rfl⟩ : ∃ g, f = g + 1 := ⟨f - 1, by omega⟩
  rw [climb, hp] at hr
  simp only [if_pos hm] at hr
  exact hr.symm
theorem Going.root {l : List (Int × Int)} {R : List Int × Int} {ino : Int} {acc : List Int} (h : Going l R ino acc) (hp : par l ino = some ino) (hm : ino ∉ acc) : R = (acc ++ [ino], 0) := by
  obtain ⟨f, hf, hr⟩ := h.res
  have := h.len
  obtain ⟨g, rfl⟩ : ∃ g, f = g + 1 := ⟨f - 1, by omega⟩
  rw [climb, hp] at hr
  simp only [if_neg hm] at hr
  exact hr.symm
theorem Going.step {l : List (Int × Int)} {R : List Int × Int} {ino p : Int} {acc : List Int} (h : Going l R ino acc) (hp : par l ino = some p) (hm : ino ∉ acc) (hne : p ≠ ino) : Going l R p (acc ++ [ino]) := by
  obtain ⟨f, hf, hr⟩ := h.res
  have := h.len
  obtain ⟨g, rfl⟩ : ∃ g, f = g + 1 := ⟨f - 1, by omega⟩
  rw [climb, hp] at hr
  simp only [if_neg hm, if_neg hne] at hr
  refine ⟨?_, ?_, g, by simp; omega, hr⟩
  · rw [List.nodup_append]
    exact ⟨h.nd, by simp, fun a ha b hb => by simp at hb; subst hb; exact fun e => hm (e ▸ ha)⟩
  · intro x hx
    rcases List.mem_append.1 hx with hx | hx
    · exact h.sub x hx
    · simp at hx; subst hx; exact par_mem hp
/-- What Depth and Moves tell. -/
def depN (R : List Int × Int) : Int := if R.2 = 0 then (R.1.length : Int) - 1 else 0
def movE (R : List Int × Int) (ino : Int) : Int := if R.2 = 0 then (if ino ∈ R.1 then 58 else 0) else R.2
/-- A path to a root. -/
inductive Path (m : Int → Option Int) : Int → List Int → Prop
  | root {x : Int} : m x = some x → Path m x [x]
  | step {x p : Int} {L : List Int} : m x = some p → p ≠ x → x ∉ L → Path m p L → Path m x (x :: L)
theorem Path.some {m : Int → Option Int} {x : Int} {L : List Int} (h : Path m x L) : ∀ y ∈ L, ∃ p, m y = some p := by
  induction h with
  | root hx => intro y hy; simp at hy; subst hy; exact ⟨_, hx⟩
  | step hx _ _ _ ih =>
    intro y hy
    rcases List.mem_cons.1 hy with rfl | hy
    · exact ⟨_, hx⟩
    · exact ih y hy
theorem Path.head {m : Int → Option Int} {x : Int} {L : List Int} (h : Path m x L) : x ∈ L := by cases h <;> simp
theorem Path.climb {m : Int → Option Int} {x : Int} {L : List Int} (h : Path m x L) : ∀ (f : Nat) (acc : List Int), L.length ≤ f → (∀ y ∈ L, y ∉ acc) → climb m f x acc = (acc ++ L, 0) := by
  induction h with
  | root hx =>
    intro f acc hf ha
    obtain ⟨g, rfl⟩ : ∃ g, f = g + 1 := ⟨f - 1, by simp at hf; omega⟩
    rw [Ytdjahdipaffajaa.climb, hx]
    simp only [if_neg (ha _ (List.mem_cons_self ..)), if_true]
  | @step x p L hx hne hn hL ih =>
    intro f acc hf ha
    simp at hf
    obtain ⟨g, rfl⟩ : ∃ g, f = g + 1 := ⟨f - 1, by omega⟩
    rw [Ytdjahdipaffajaa.climb, hx]
    simp only [if_neg (ha x (List.mem_cons_self ..)), if_neg hne]
    rw [ih g _ (by omega) fun y hy hm => ?_, List.append_assoc, List.singleton_append]
    rcases List.mem_append.1 hm with hm | hm
    · exact ha y (List.mem_cons_of_mem _ hy) hm
    · simp at hm; subst hm; exact hn hy
theorem Path.nodup {m : Int → Option Int} {x : Int} {L : List Int} (h : Path m x L) : L.Nodup := by
  induction h with
  | root _ => simp
  | step _ _ hn _ ih => exact List.nodup_cons.2 ⟨hn, ih⟩
theorem Path.res {l : List (Int × Int)} {x : Int} {L : List Int} (h : Path (par l) x L) : goUp l x = (L, 0) := by
  have hl : L.length ≤ l.length := by
    have := nodup_sub (b := l.map (·.1)) h.nodup fun y hy => by
      obtain ⟨p, hp⟩ := h.some y hy
      exact par_mem hp
    simpa using this
  unfold goUp
  rw [h.climb _ [] (by omega) (fun _ _ h => by cases h)]
  simp
theorem path_of {l : List (Int × Int)} : ∀ (f : Nat) (x : Int) (acc A : List Int), acc.Nodup → (∀ y ∈ acc, y ∈ l.map (·.1)) → l.length < f + acc.length → climb (par l) f x acc = (A, 0) → ∃ L, A = acc ++ L ∧ Path (par l) x L ∧ ∀ y ∈ L, y ∉ acc := by
  intro f
  induction f with
  | zero =>
    intro x acc A h1 h2 h3 _
    have := nodup_sub h1 h2
    simp at this h3
    omega
  | succ g ih =>
    intro x acc A h1 h2 h3 hr
    rw [climb] at hr
    cases hp : par l x with
    | none => rw [hp] at hr; simp at hr
    | some p =>
      rw [hp] at hr
      simp only [] at hr
      split at hr
      · simp at hr
      · rename_i hm
        split at hr
        · rename_i he
          subst he
          simp only [Prod.mk.injEq, and_true] at hr
          exact ⟨[p], hr.symm, .root hp, fun y hy => by simp at hy; subst hy; exact hm⟩
        · rename_i hne
          have h1' : (acc ++ [x]).Nodup := by
            rw [List.nodup_append]
            exact ⟨h1, by simp, fun a ha b hb => by simp at hb; subst hb; exact fun e => hm (e ▸ ha)⟩
          have h2' : ∀ y ∈ acc ++ [x], y ∈ l.map (·.1) := by
            intro y hy
            rcases List.mem_append.1 hy with hy | hy
            · exact h2 y hy
            · simp at hy; subst hy; exact par_mem hp
          obtain ⟨L, rfl, hL, ha⟩ := ih p (acc ++ [x]) A h1' h2' (by simp; omega) hr
          refine ⟨x :: L, by simp, .step hp hne (fun hx => ha x hx (by simp)) hL, fun y hy => ?_⟩
          rcases List.mem_cons.1 hy with rfl | hy
          · exact hm
          · exact fun h => ha y hy (List.mem_append_left _ h)
theorem path_goUp {l : List (Int × Int)} {x : Int} {A : List Int} (h : goUp l x = (A, 0)) : Path (par l) x A := by
  obtain ⟨L, rfl, hL, _⟩ := path_of _ _ _ _ List.nodup_nil (fun y hy => by cases hy) (by simp) h
  simpa using hL
/-- NameNoRing's law. -/
theorem no_ring {m m' : Int → Option Int} {ino to : Int} {T : List Int} (hT : Path m to T) (hi : ino ∉ T) (hm : m' ino = some to) (ho : ∀ k, k ≠ ino → m' k = m k) :
    (∃ L, Path m' ino L) ∧ ∀ x A, Path m x A → ∃ L, Path m' x L := by
  have same : ∀ x A, Path m x A → ino ∉ A → Path m' x A := by
    intro x A hA
    induction hA with
    | root hx => intro hn; exact .root ((ho _ (fun e => hn (by simp [e]))).trans hx)
    | step hx hne hn _ ih =>
      intro hni
      simp at hni
      exact .step ((ho _ (fun e => hni.1 e.symm)).trans hx) hne hn (ih hni.2)
  have hT' := same to T hT hi
  have hin : Path m' ino (ino :: T) := .step hm (fun e => hi (e ▸ hT.head)) hi hT'
  refine ⟨⟨_, hin⟩, fun x A hA => ?_⟩
  induction hA with
  | @root x hx =>
    by_cases e : x = ino
    · subst e; exact ⟨_, hin⟩
    · exact ⟨_, .root ((ho _ e).trans hx)⟩
  | @step x p L hx hne hn hL ih =>
    by_cases e : x = ino
    · subst e; exact ⟨_, hin⟩
    · obtain ⟨L', hL'⟩ := ih
      by_cases hxl : x ∈ L'
      · -- it is passed already: from it a root is reached
        obtain ⟨L1, L2, hx2⟩ : ∃ L1 L2, L' = L1 ++ x :: L2 := List.append_of_mem hxl
        have tail : ∀ (L1 : List Int) (y : Int) (A : List Int), Path m' y A → A = L1 ++ x :: L2 → Path m' x (x :: L2) := by
          intro L1
          induction L1 with
          | nil =>
            intro y A hA he
            have hy : y = x := by cases hA <;> simp at he <;> exact he.1
            subst hy
            simp at he
            subst he
            exact hA
          | cons z L1 ih2 =>
            intro y A hA he
            cases hA with
            | root _ => simp at he
            | step _ _ _ hA' =>
              simp at he
              exact ih2 _ _ hA' he.2
        exact ⟨_, tail L1 _ _ hL' hx2⟩
      · exact ⟨_, .step ((ho _ e).trans hx) hne hxl hL'⟩
end Go.Proofs.Ytdjahdipaffajaa

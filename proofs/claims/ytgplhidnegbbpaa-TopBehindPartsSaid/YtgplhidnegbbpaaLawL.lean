/-
  The plain laws on logs: no program in sight.
-/
import Derived.Test.YtgplhidnegbbpaaSpecL
namespace Go.Proofs.Ytgplhidnegbbpaa

theorem firstErr_zero {f : Nat → Int} {n : Nat} (h : firstErr f n = 0) : ∀ i, i < n → f i = 0 := by
  intro i hi
  unfold firstErr at h
  cases hf : ((List.range n).map f).find? (fun e => !(e == 0)) with
  | none =>
    have := List.find?_eq_none.1 hf (f i) (List.mem_map.2 ⟨i, List.mem_range.2 hi, rfl⟩)
    simpa using this
  | some e =>
    rw [hf] at h
    have := List.find?_some hf
    simp at h
    simp [h] at this

theorem firstErr_of {f : Nat → Int} {n : Nat} (h : ∀ i, i < n → f i = 0) : firstErr f n = 0 :=
  firstErr_none (List.all_eq_true.2 fun i hi => by simpa using h i (List.mem_range.1 hi))

theorem logCheck_iff {l : Lg} : logCheck l = 0 ↔ 0 ≤ l.base ∧ l.base ≤ 1073741424 ∧ l.entries.length ≤ 400 ∧ ∀ s ∈ l.entries, (decode s).2 = 0 := by
  unfold logCheck
  constructor
  · intro h
    split at h
    · cases h
    · split at h
      · cases h
      · refine ⟨by omega, by omega, by omega, fun s hs => ?_⟩
        obtain ⟨i, hi, rfl⟩ := List.mem_iff_getElem.1 hs
        have := firstErr_zero h i hi
        simpa [List.getD_eq_getElem?_getD, hi] using this
  · rintro ⟨h1, h2, h3, h4⟩
    rw [if_neg (by omega), if_neg (by omega)]
    refine firstErr_of fun i hi => ?_
    simp only [List.getD_eq_getElem?_getD, List.getElem?_eq_getElem hi, Option.getD_some]
    exact h4 _ (List.getElem_mem hi)

/-! ### log.Put -/
theorem putStep_at {out : List ByteArray} {k : Nat} {s : ByteArray} (hk : k ≤ out.length) : (putStep out k s)[k]? = some s ∧ (putStep out k s).take k = out.take k ∧ k + 1 ≤ (putStep out k s).length ∧
    (putStep out k s).length ≤ max out.length (k + 1) ∧ ∀ x ∈ putStep out k s, x ∈ out ∨ x = s := by
  unfold putStep
  split
  · rename_i h
    have hlt : k < out.length := (List.getElem?_eq_some_iff.1 h).1
    exact ⟨h, rfl, by omega, by omega, fun x hx => Or.inl hx⟩
  · have hl : (out.take k).length = k := by simp; omega
    refine ⟨?_, ?_, by simp; omega, by simp; omega, ?_⟩
    · rw [List.getElem?_append_right (by omega), hl]; simp
    · rw [List.take_append_of_le_length (by omega), List.take_take]; simp
    · intro x hx
      rcases List.mem_append.1 hx with h | h
      · exact Or.inl (List.mem_of_mem_take h)
      · exact Or.inr (List.mem_singleton.1 h)

theorem putAll_err {out : List ByteArray} {k : Nat} {more : List ByteArray} (h : (putAll out k more).2 = 0) : ∀ s ∈ more, (decode s).2 = 0 := by
  induction more generalizing out k with
  | nil => intro s hs; cases hs
  | cons x rest ih =>
    intro s hs
    by_cases hx : (decode x).2 = 0
    · rw [putAll, if_pos hx] at h
      rcases List.mem_cons.1 hs with rfl | hs
      · exact hx
      · exact ih h s hs
    · rw [putAll, if_neg hx] at h
      exact absurd h hx

theorem putAll_ok {more : List ByteArray} : ∀ {out : List ByteArray} {k : Nat}, k ≤ out.length → (∀ s ∈ more, (decode s).2 = 0) →
    (putAll out k more).2 = 0 ∧ k + more.length ≤ (putAll out k more).1.length ∧ (putAll out k more).1.length ≤ max out.length (k + more.length) ∧ (putAll out k more).1.take k = out.take k ∧
      (∀ i, i < more.length → (putAll out k more).1[k + i]? = more[i]?) ∧ ∀ x ∈ (putAll out k more).1, x ∈ out ∨ x ∈ more := by
  induction more with
  | nil => intro out k hk _; exact ⟨rfl, by simpa [putAll] using hk, by simp [putAll]; omega, rfl, fun i hi => by simp at hi, fun x hx => Or.inl hx⟩
  | cons s rest ih =>
    intro out k hk hd
    obtain ⟨p1, p2, p3, p4, p5⟩ := putStep_at (s := s) hk
    obtain ⟨q1, q2, q3, q4, q5, q6⟩ := ih (out := putStep out k s) (k := k + 1) p3 (fun x hx => hd x (List.mem_cons_of_mem _ hx))
    rw [putAll, if_pos (hd s (List.mem_cons_self ..))]
    refine ⟨q1, by simp only [List.length_cons]; omega, by simp only [List.length_cons]; omega, ?_, ?_, ?_⟩
    · have := congrArg (List.take k) q4
      rw [List.take_take, List.take_take, Nat.min_eq_left (by omega), p2] at this
      exact this
    · intro i hi
      cases i with
      | zero =>
        have h1 : ((putAll (putStep out k s) (k + 1) rest).1.take (k + 1))[k]? = ((putStep out k s).take (k + 1))[k]? := by rw [q4]
        rw [List.getElem?_take_of_lt (by omega), List.getElem?_take_of_lt (by omega), p1] at h1
        simpa using h1
      | succ i =>
        have := q5 i (by simpa using hi)
        rw [show k + (i + 1) = k + 1 + i by omega, this]
        simp
    · intro x hx
      rcases q6 x hx with h | h
      · rcases p5 x h with h | rfl
        · exact Or.inl h
        · exact Or.inr (List.mem_cons_self ..)
      · exact Or.inr (List.mem_cons_of_mem _ h)

/-- What is there already stays. -/
theorem putAll_again {more : List ByteArray} : ∀ {out : List ByteArray} {k : Nat}, (∀ s ∈ more, (decode s).2 = 0) → (∀ i, i < more.length → out[k + i]? = more[i]?) → putAll out k more = (out, 0) := by
  induction more with
  | nil => intro out k _ _; rfl
  | cons s rest ih =>
    intro out k hd h
    have h0 := h 0 (by simp)
    simp only [Nat.add_zero, List.getElem?_cons_zero] at h0
    rw [putAll, if_pos (hd s (List.mem_cons_self ..)), putStep, if_pos h0]
    refine ih (fun x hx => hd x (List.mem_cons_of_mem _ hx)) fun i hi => ?_
    have := h (i + 1) (by simpa using hi)
    rw [show k + 1 + i = k + (i + 1) by omega, this]
    simp

theorem putAll_append {m1 m2 : List ByteArray} : ∀ {out : List ByteArray} {k : Nat}, putAll out k (m1 ++ m2) = if (putAll out k m1).2 = 0 then putAll (putAll out k m1).1 (k + m1.length) m2 else putAll out k m1 := by
  induction m1 with
  | nil => intro out k; simp [putAll]
  | cons s rest ih =>
    intro out k
    by_cases hs : (decode s).2 = 0
    · simp only [List.cons_append, putAll, if_pos hs]
      rw [ih]
      simp only [List.length_cons]
      rw [show k + 1 + rest.length = k + (rest.length + 1) by omega]
    · simp only [List.cons_append, putAll, if_neg hs]

/-- What a Put that is no error comes to. -/
theorem logPut_ok {l : Lg} {bh : Int} {more : List ByteArray} {a : Lg} (h : logPut l bh more = (a, 0)) :
    logCheck l = 0 ∧ 0 ≤ bh ∧ bh ≤ 1073741824 ∧ more.length ≤ 400 ∧ bh ≤ l.base + l.entries.length ∧
      (putAll l.entries (bh + putSkip l bh more - l.base).toNat (more.drop (putSkip l bh more))).2 = 0 ∧
      a = ⟨l.base, (putAll l.entries (bh + putSkip l bh more - l.base).toNat (more.drop (putSkip l bh more))).1⟩ ∧ a.entries.length ≤ 400 := by
  unfold logPut at h
  by_cases h0 : logCheck l = 0
  · rw [if_pos h0] at h
    by_cases h1 : bh < 0 ∨ 1073741824 < bh
    · rw [if_pos h1] at h; injection h with _ h; cases h
    · rw [if_neg h1] at h
      by_cases h2 : 400 < more.length
      · rw [if_pos h2] at h; injection h with _ h; cases h
      · rw [if_neg h2] at h
        by_cases h3 : l.base + l.entries.length < bh
        · rw [if_pos h3] at h; injection h with _ h; cases h
        · rw [if_neg h3] at h
          generalize putAll l.entries (bh + putSkip l bh more - l.base).toNat (more.drop (putSkip l bh more)) = p at h ⊢
          unfold putEnd at h
          by_cases h4 : p.2 = 0
          · rw [if_pos h4] at h
            by_cases h5 : 400 < p.1.length
            · rw [if_pos h5] at h; injection h with _ h; cases h
            · rw [if_neg h5] at h
              injection h with h _
              subst h
              exact ⟨h0, by omega, by omega, by omega, by omega, h4, rfl, by dsimp only; omega⟩
          · rw [if_neg h4] at h
            injection h with _ h
            exact absurd h h4
  · rw [if_neg h0] at h
    injection h with _ h
    exact absurd h h0

theorem logPut_mk {l : Lg} {bh : Int} {more : List ByteArray} {out : List ByteArray} (h0 : logCheck l = 0) (h1 : 0 ≤ bh) (h2 : bh ≤ 1073741824) (h3 : more.length ≤ 400) (h4 : bh ≤ l.base + l.entries.length)
    (hp : putAll l.entries (bh + putSkip l bh more - l.base).toNat (more.drop (putSkip l bh more)) = (out, 0)) (h5 : out.length ≤ 400) : logPut l bh more = (⟨l.base, out⟩, 0) := by
  rw [logPut, if_pos h0, if_neg (by omega), if_neg (by omega), if_neg (by omega), hp, putEnd, if_pos rfl, if_neg (by dsimp only; omega)]

theorem putSkip_le (l : Lg) (bh : Int) (more : List ByteArray) : putSkip l bh more ≤ more.length := by
  unfold putSkip; split
  · exact Nat.min_le_right _ _
  · omega
/-- The place of the first entry lies within the log. -/
theorem put_place {l : Lg} {bh : Int} {more : List ByteArray} (h4 : bh ≤ l.base + l.entries.length) : (bh + putSkip l bh more - l.base).toNat ≤ l.entries.length := by
  unfold putSkip; split <;> omega

/-- ENTRIES THAT ARE PUT TWICE are put once. -/
theorem put_twice {l : Lg} {bh : Int} {more : List ByteArray} {a : Lg} (h : logPut l bh more = (a, 0)) : logPut a bh more = (a, 0) := by
  obtain ⟨h0, h1, h2, h3, h4, h5, h6, h7⟩ := logPut_ok h
  have hd : ∀ s ∈ more.drop (putSkip l bh more), (decode s).2 = 0 := putAll_err h5
  obtain ⟨_, q2, q3, q4, q5, q6⟩ := putAll_ok (put_place h4) hd
  have hb : a.base = l.base := by rw [h6]
  have hs : putSkip a bh more = putSkip l bh more := by unfold putSkip; rw [hb]
  have hl : (putAll l.entries (bh + putSkip l bh more - l.base).toNat (more.drop (putSkip l bh more))).1 = a.entries := by rw [h6]
  rw [hl] at q2 q3 q4 q5 q6
  obtain ⟨c1, c2, c3, c4⟩ := logCheck_iff.1 h0
  have hsk := putSkip_le l bh more
  have hfin : a = ⟨a.base, a.entries⟩ := rfl
  rw [hfin]
  refine logPut_mk (l := ⟨a.base, a.entries⟩) ?_ h1 h2 h3 ?_ ?_ h7
  · refine logCheck_iff.2 ⟨by rw [hb]; exact c1, by rw [hb]; exact c2, h7, fun s hs => ?_⟩
    rcases q6 s hs with h | h
    · exact c4 s h
    · exact hd s h
  · have hdl : (more.drop (putSkip l bh more)).length = more.length - putSkip l bh more := by simp
    show bh ≤ a.base + a.entries.length
    rw [hb]
    by_cases hlt : bh < l.base
    · omega
    · have : putSkip l bh more = 0 := by unfold putSkip; rw [if_neg hlt]
      rw [this] at q2
      simp at q2
      omega
  · show putAll a.entries (bh + putSkip a bh more - a.base).toNat (more.drop (putSkip a bh more)) = (a.entries, 0)
    rw [hs, hb]
    exact putAll_again hd q5

end Go.Proofs.Ytgplhidnegbbpaa

/-
  Entries put in parts, a log that begins later, a log that is cut twice: the plain laws.
-/
import Derived.Test.YtgplhidnegbbpaaLawL
namespace Go.Proofs.Ytgplhidnegbbpaa

theorem take_drop_cut (more : List ByteArray) (t s : Nat) : (more.take t).drop s = (more.drop s).take (t - s) := by
  rw [List.drop_take]

/-- ENTRIES can be put in two parts, one behind the other. -/
theorem put_parts {l : Lg} {bh : Int} {more : List ByteArray} {a : Lg} (h : logPut l bh more = (a, 0)) (t : Nat) (ht : t ≤ more.length) :
    ∃ b, logPut l bh (more.take t) = (b, 0) ∧ logCheck b = 0 ∧ bh + t ≤ b.base + b.entries.length ∧ logPut b (bh + t) (more.drop t) = (a, 0) := by
  obtain ⟨h0, h1, h2, h3, h4, h5, h6, h7⟩ := logPut_ok h
  have hd := putAll_err h5
  obtain ⟨c1, c2, c3, c4⟩ := logCheck_iff.1 h0
  have hlt : (more.take t).length = t := by simp; omega
  have hld : (more.drop t).length = more.length - t := by simp
  -- the parts of what is put
  obtain ⟨j, k, e1, e2, e3, e4, e5, e6, e7, e8⟩ : ∃ j k : Nat, (bh + putSkip l bh more - l.base).toNat = k ∧ (bh + putSkip l bh (more.take t) - l.base).toNat = k ∧
      (more.take t).drop (putSkip l bh (more.take t)) = (more.drop (putSkip l bh more)).take j ∧
      (∀ es, (bh + t + putSkip ⟨l.base, es⟩ (bh + t) (more.drop t) - l.base).toNat = k + j) ∧
      (∀ es, (more.drop t).drop (putSkip ⟨l.base, es⟩ (bh + t) (more.drop t)) = (more.drop (putSkip l bh more)).drop j) ∧ j ≤ (more.drop (putSkip l bh more)).length ∧ k ≤ l.entries.length ∧ bh + t ≤ l.base + (k + j : Nat) := by
    by_cases hb : bh < l.base
    · by_cases hm : bh + t < l.base
      · refine ⟨0, 0, ?_, ?_, ?_, ?_, ?_, Nat.zero_le _, Nat.zero_le _, by omega⟩
        · rw [putSkip, if_pos hb]; omega
        · rw [putSkip, if_pos hb]; omega
        · rw [putSkip, if_pos hb, hlt, Nat.min_eq_right (by omega), List.take_zero, List.drop_eq_nil_of_le (by rw [hlt]; exact Nat.le_refl _)]
        · intro es; rw [putSkip, if_pos hm, hld]; dsimp only; omega
        · intro es
          rw [putSkip, if_pos hm, hld, putSkip, if_pos hb, List.drop_drop]
          simp only [List.drop_zero]
          congr 1
          omega
      · have hsk : putSkip l bh more = (l.base - bh).toNat := by rw [putSkip, if_pos hb]; omega
        have hsk1 : putSkip l bh (more.take t) = (l.base - bh).toNat := by rw [putSkip, if_pos hb]; omega
        have hsk2 : ∀ es, putSkip ⟨l.base, es⟩ (bh + t) (more.drop t) = 0 := fun es => by rw [putSkip, if_neg (by simpa using hm)]
        refine ⟨t - (l.base - bh).toNat, 0, by omega, by omega, ?_, ?_, ?_, ?_, Nat.zero_le _, by omega⟩
        · rw [hsk1, hsk, take_drop_cut]
        · intro es; rw [hsk2]; omega
        · intro es; rw [hsk2, hsk, List.drop_zero, List.drop_drop]; congr 1; omega
        · rw [hsk, List.length_drop]; omega
    · have hsk : putSkip l bh more = 0 := by rw [putSkip, if_neg hb]
      have hsk1 : putSkip l bh (more.take t) = 0 := by rw [putSkip, if_neg hb]
      have hsk2 : ∀ es, putSkip ⟨l.base, es⟩ (bh + t) (more.drop t) = 0 := fun es => by rw [putSkip, if_neg (by dsimp only; omega)]
      refine ⟨t, (bh - l.base).toNat, by omega, by omega, ?_, ?_, ?_, ?_, by omega, by omega⟩
      · rw [hsk1, hsk]; simp
      · intro es; rw [hsk2]; omega
      · intro es; rw [hsk2, hsk]; simp
      · rw [hsk]; simpa using ht
  generalize more.drop (putSkip l bh more) = ms at *
  rw [e1] at h5 h6
  have hms : ms = ms.take j ++ ms.drop j := (List.take_append_drop j ms).symm
  have hd1 : ∀ s ∈ ms.take j, (decode s).2 = 0 := fun s hs => hd s (List.mem_of_mem_take hs)
  obtain ⟨p1, p2, p3, p4, p5, p6⟩ := putAll_ok (more := ms.take j) e7 hd1
  obtain ⟨q1, q2, q3, q4, q5, q6⟩ := putAll_ok (more := ms) e7 hd
  have hjl : (ms.take j).length = j := by simp; omega
  have hA : putAll l.entries k ms = putAll (putAll l.entries k (ms.take j)).1 (k + j) (ms.drop j) := by
    conv => lhs; rw [hms]
    rw [putAll_append, if_pos p1, hjl]
  have hl6 : a.entries = (putAll l.entries k ms).1 := by rw [h6]
  have hb6 : a.base = l.base := by rw [h6]
  rw [hjl] at p2 p3
  rw [hl6] at h7
  have hle : (putAll l.entries k (ms.take j)).1.length ≤ 400 := by omega
  refine ⟨⟨l.base, (putAll l.entries k (ms.take j)).1⟩, ?_, ?_, ?_, ?_⟩
  · refine logPut_mk h0 h1 h2 (by omega) h4 ?_ hle
    rw [e2, e3]
    exact Prod.ext rfl p1
  · refine logCheck_iff.2 ⟨c1, c2, hle, fun s hs => ?_⟩
    rcases p6 s hs with h | h
    · exact c4 s h
    · exact hd1 s h
  · show bh + t ≤ l.base + (putAll l.entries k (ms.take j)).1.length
    omega
  · have hout : a = ⟨l.base, (putAll l.entries k ms).1⟩ := h6
    rw [hout]
    refine logPut_mk (l := ⟨l.base, (putAll l.entries k (ms.take j)).1⟩) ?_ (by omega) ?_ (by omega) ?_ ?_ h7
    · refine logCheck_iff.2 ⟨c1, c2, hle, fun s hs => ?_⟩
      rcases p6 s hs with h | h
      · exact c4 s h
      · exact hd1 s h
    · omega
    · show bh + t ≤ l.base + (putAll l.entries k (ms.take j)).1.length
      omega
    · rw [e5]
      show putAll (putAll l.entries k (ms.take j)).1 (bh + t + putSkip ⟨l.base, _⟩ (bh + t) (more.drop t) - l.base).toNat (ms.drop j) = _
      rw [e4, ← hA]
      exact Prod.ext rfl h5

/-! ### A log that begins later -/
def later (l : Lg) (d : Int) : Lg := ⟨l.base + d, l.entries⟩
def laterIf (p : Lg × Int) (d : Int) : Lg × Int := if p.2 = 0 then (later p.1 d, 0) else p

theorem logCheck_later {l : Lg} {d : Int} (h0 : 0 ≤ l.base) (h1 : l.base ≤ 1073739424) (hd : 0 ≤ d) (hd1 : d < 1000) : logCheck (later l d) = logCheck l := by
  unfold logCheck later
  rw [if_neg (c := l.base < 0 ∨ 1073741424 < l.base) (by omega), if_neg (by dsimp only; omega)]

theorem putSkip_later {l : Lg} {bh d : Int} {more : List ByteArray} : putSkip (later l d) (bh + d) more = putSkip l bh more := by
  unfold putSkip
  by_cases h : bh < l.base
  · rw [if_pos h, if_pos (by show bh + d < l.base + d; omega), show (later l d).base - (bh + d) = l.base - bh by show l.base + d - (bh + d) = _; omega]
  · rw [if_neg h, if_neg (by show ¬ bh + d < l.base + d; omega)]

theorem put_later {l : Lg} {bh d : Int} {more : List ByteArray} (h0 : 0 ≤ l.base) (h1 : l.base ≤ 1073739424) (hb0 : 0 ≤ bh) (hb : bh ≤ 1073739424) (hd : 0 ≤ d) (hd1 : d < 1000) :
    logPut (later l d) (bh + d) more = laterIf (logPut l bh more) d := by
  unfold logPut
  rw [logCheck_later h0 h1 hd hd1, putSkip_later]
  by_cases hc : logCheck l = 0
  · rw [if_pos hc, if_pos hc, if_neg (c := bh + d < 0 ∨ 1073741824 < bh + d) (by omega), if_neg (c := bh < 0 ∨ 1073741824 < bh) (by omega)]
    by_cases hm : 400 < more.length
    · rw [if_pos hm, if_pos hm]; simp [laterIf]
    · rw [if_neg hm, if_neg hm]
      by_cases hl : l.base + l.entries.length < bh
      · rw [if_pos hl, if_pos (by show l.base + d + l.entries.length < bh + d; omega)]; simp [laterIf]
      · rw [if_neg hl, if_neg (by show ¬ l.base + d + l.entries.length < bh + d; omega)]
        rw [show (later l d).entries = l.entries from rfl, show (bh + d + (putSkip l bh more : Int) - (later l d).base) = bh + putSkip l bh more - l.base by show bh + d + _ - (l.base + d) = _; omega]
        generalize putAll l.entries _ _ = p
        unfold putEnd
        by_cases hp : p.2 = 0
        · rw [if_pos hp, if_pos hp]
          by_cases h4 : 400 < p.1.length
          · rw [if_pos h4, if_pos h4]; simp [laterIf]
          · rw [if_neg h4, if_neg h4]; simp [laterIf, later]
        · rw [if_neg hp, if_neg hp]; simp [laterIf, hp]
  · rw [if_neg hc, if_neg hc]; simp [laterIf, hc]

theorem cut_later {l : Lg} {ix d : Int} (h0 : 0 ≤ l.base) (h1 : l.base ≤ 1073739424) (_hb0 : 0 ≤ ix) (hb : ix ≤ 1073739424) (hd : 0 ≤ d) (hd1 : d < 1000) :
    logCut (later l d) (ix + d) = laterIf (logCut l ix) d := by
  unfold logCut
  rw [logCheck_later h0 h1 hd hd1]
  by_cases hc : logCheck l = 0
  · rw [if_pos hc, if_pos hc]
    by_cases hm : ix < l.base ∨ l.base + l.entries.length < ix
    · rw [if_pos hm, if_pos (by show ix + d < l.base + d ∨ l.base + d + l.entries.length < ix + d; omega)]; simp [laterIf]
    · rw [if_neg hm, if_neg (by show ¬ (ix + d < l.base + d ∨ l.base + d + l.entries.length < ix + d); omega), if_neg (c := 1073741424 < ix + d) (by omega), if_neg (c := 1073741424 < ix) (by omega)]
      simp only [laterIf, later]
      rw [show ix + d - (l.base + d) = ix - l.base by omega]
      simp
  · rw [if_neg hc, if_neg hc]; simp [laterIf, hc]

theorem at_later {l : Lg} {ix d : Int} (h0 : 0 ≤ l.base) (h1 : l.base ≤ 1073739424) (hd : 0 ≤ d) (hd1 : d < 1000) : logAt (later l d) (ix + d) = logAt l ix := by
  unfold logAt
  rw [logCheck_later h0 h1 hd hd1]
  by_cases hc : logCheck l = 0
  · rw [if_pos hc, if_pos hc]
    by_cases hm : ix ≤ l.base ∨ l.base + l.entries.length < ix
    · rw [if_pos hm, if_pos (by show ix + d ≤ l.base + d ∨ l.base + d + l.entries.length < ix + d; omega)]
    · rw [if_neg hm, if_neg (by show ¬ (ix + d ≤ l.base + d ∨ l.base + d + l.entries.length < ix + d); omega)]
      simp only [later]
      rw [show ix + d - (l.base + d) - 1 = ix - l.base - 1 by omega]
  · rw [if_neg hc, if_neg hc]

/-! ### A log that is cut twice -/
theorem logCut_ok {l : Lg} {x : Int} {a : Lg} (h : logCut l x = (a, 0)) : logCheck l = 0 ∧ l.base ≤ x ∧ x ≤ l.base + l.entries.length ∧ x ≤ 1073741424 ∧ a = ⟨x, l.entries.drop (x - l.base).toNat⟩ := by
  unfold logCut at h
  by_cases h0 : logCheck l = 0
  · rw [if_pos h0] at h
    by_cases h1 : x < l.base ∨ l.base + l.entries.length < x
    · rw [if_pos h1] at h; injection h with _ h; cases h
    · rw [if_neg h1] at h
      by_cases h2 : 1073741424 < x
      · rw [if_pos h2] at h; injection h with _ h; cases h
      · rw [if_neg h2] at h
        injection h with h _
        exact ⟨h0, by omega, by omega, by omega, h.symm⟩
  · rw [if_neg h0] at h
    injection h with _ h
    exact absurd h h0

theorem logCut_mk {l : Lg} {x : Int} (h0 : logCheck l = 0) (h1 : l.base ≤ x) (h2 : x ≤ l.base + l.entries.length) (h3 : x ≤ 1073741424) : logCut l x = (⟨x, l.entries.drop (x - l.base).toNat⟩, 0) := by
  rw [logCut, if_pos h0, if_neg (by omega), if_neg (by omega)]

theorem logCut_check {l : Lg} {x : Int} {a : Lg} (h : logCut l x = (a, 0)) : logCheck a = 0 := by
  obtain ⟨h0, h1, h2, h3, rfl⟩ := logCut_ok h
  obtain ⟨c1, c2, c3, c4⟩ := logCheck_iff.1 h0
  exact logCheck_iff.2 ⟨by dsimp only; omega, h3, by simp; omega, fun s hs => c4 s (List.mem_of_mem_drop hs)⟩

theorem cut_twice {l : Lg} {x y : Int} {a b : Lg} (h : logCut l x = (a, 0)) (h' : logCut a y = (b, 0)) :
    logCut l y = (b, 0) ∧ b.base + b.entries.length = l.base + l.entries.length ∧ (logBehind l y 400).2 = 0 ∧ logBehind b y 400 = logBehind l y 400 := by
  have hc := logCut_check h'
  obtain ⟨h0, h1, h2, h3, rfl⟩ := logCut_ok h
  obtain ⟨g0, g1, g2, g3, rfl⟩ := logCut_ok h'
  simp only [List.length_drop] at g1 g2
  have he : (l.entries.drop (x - l.base).toNat).drop (y - x).toNat = l.entries.drop (y - l.base).toNat := by rw [List.drop_drop]; congr 1; omega
  dsimp only at hc ⊢
  rw [he] at hc ⊢
  refine ⟨logCut_mk h0 (by omega) (by omega) g3, by rw [List.length_drop]; omega, ?_, ?_⟩
  · rw [logBehind, if_pos h0, if_neg (by omega)]; split <;> rfl
  · rw [logBehind, logBehind, if_pos hc, if_pos h0, if_neg (c := y < l.base ∨ (400 : Int) < 0) (by omega)]
    dsimp only
    rw [if_neg (c := y < y ∨ (400 : Int) < 0) (by omega), List.length_drop]
    by_cases h9 : l.base + l.entries.length ≤ y
    · rw [if_pos h9, if_pos (by omega)]
    · rw [if_neg h9, if_neg (by omega)]
      simp

end Go.Proofs.Ytgplhidnegbbpaa

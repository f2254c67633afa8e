/-
  Entries behind an index, told in parts and one by one: the plain law.
-/
import Derived.Test.YtgplhidnegbbpaaLawM
namespace Go.Proofs.Ytgplhidnegbbpaa

theorem behind_err {l : Lg} {ix mn : Int} (h : (logBehind l ix mn).2 ≠ 0) : (logBehind l ix mn).1 = [] := by
  unfold logBehind at h ⊢
  split
  · rename_i h0
    rw [if_pos h0] at h
    split
    · rfl
    · rename_i h1
      rw [if_neg h1] at h
      split
      · rfl
      · rename_i h2
        rw [if_neg h2] at h
        exact absurd rfl h
  · rfl

theorem behind_ok {l : Lg} {ix : Int} {m : Nat} (h : (logBehind l ix m).2 = 0) : logCheck l = 0 ∧ l.base ≤ ix := by
  unfold logBehind at h
  by_cases h0 : logCheck l = 0
  · rw [if_pos h0] at h
    by_cases h1 : ix < l.base ∨ (m : Int) < 0
    · rw [if_pos h1] at h; cases h
    · exact ⟨h0, by omega⟩
  · rw [if_neg h0] at h; exact absurd h h0

theorem behind_eq {l : Lg} {ix : Int} (m : Nat) (h0 : logCheck l = 0) (h1 : l.base ≤ ix) : logBehind l ix m = ((l.entries.drop (ix - l.base).toNat).take m, 0) := by
  unfold logBehind
  rw [if_pos h0, if_neg (by omega)]
  by_cases h2 : l.base + l.entries.length ≤ ix
  · rw [if_pos h2, List.drop_eq_nil_of_le (by omega)]; simp
  · rw [if_neg h2]; simp

theorem behind_parts {l : Lg} {ix : Int} {m1 m2 : Nat} (h : (logBehind l ix (m1 + m2 : Nat)).2 = 0) :
    (logBehind l ix m1).2 = 0 ∧ (logBehind l (ix + ((logBehind l ix m1).1.length : Nat)) m2).2 = 0 ∧
      (logBehind l ix (m1 + m2 : Nat)).1 = (logBehind l ix m1).1 ++ (if (logBehind l ix m1).1.length < m1 then [] else (logBehind l (ix + ((logBehind l ix m1).1.length : Nat)) m2).1) := by
  obtain ⟨h0, h1⟩ := behind_ok h
  rw [behind_eq _ h0 h1, behind_eq _ h0 h1]
  dsimp only
  rw [behind_eq _ h0 (by omega)]
  refine ⟨rfl, rfl, ?_⟩
  dsimp only
  generalize hd : (ix - l.base).toNat = d
  have hl : (List.take m1 (List.drop d l.entries)).length = min m1 (l.entries.length - d) := by simp
  rw [hl, List.take_add]
  congr 1
  split
  · rename_i h2
    rw [List.drop_eq_nil_of_le (by simp; omega)]; simp
  · rename_i h2
    rw [List.drop_drop]
    congr 2
    omega

theorem behind_at {l : Lg} {ix : Int} {m : Nat} (h : (logBehind l ix m).2 = 0) (i : Nat) (hi : i < (logBehind l ix m).1.length) :
    logAt l (ix + 1 + i) = ((logBehind l ix m).1.getD i ⟨#[]⟩, 0) ∧ ix < l.base + l.entries.length := by
  obtain ⟨h0, h1⟩ := behind_ok h
  rw [behind_eq _ h0 h1] at hi ⊢
  dsimp only at hi ⊢
  have hl : i < m ∧ i < l.entries.length - (ix - l.base).toNat := by simp at hi; omega
  refine ⟨?_, by omega⟩
  unfold logAt
  rw [if_pos h0, if_neg (by omega)]
  congr 1
  rw [List.getD_eq_getElem?_getD, List.getD_eq_getElem?_getD, List.getElem?_take_of_lt hl.1, List.getElem?_drop]
  congr 2
  omega

end Go.Proofs.Ytgplhidnegbbpaa

/-
  From the form's reading of an argument to the words of the walks; the row's frame.
-/
import Derived.Test.YtgplhidnegbbpaaRows
import Derived.Test.YtgplhidnegbbpaaData
import Derived.ProofKit
import Derived.OpenShut
import Derived.ShutString
import Derived.ChangeOld
import Derived.SliceStrings
import Derived.Lib.SmallJoins
import Derived.SizedLaws
namespace Go.Proofs.Ytgplhidnegbbpaa
open Go.RowKit

section
variable {H : Type} {enc : TypeId × Value → H} {P : Program} {w : World} {base : Nat} {spare : Nat → Bool} {held : Bool}

/-- A slice of strings that came in. -/
theorem open_strs {t e : TypeId} {fuel : Nat} {v : Value} {x : DataW H × List MemPlace} (ht : P.underlying t = some (.slice e)) (he : P.underlying e = some .string) (hc : P.cellsOf e = 1)
    (h : DataW.trod enc P w base spare held fuel t [v] = some x) :
    ∃ (A : Option Addr) (c : Nat) (ss : List ByteArray), v = .slice A ss.length c ∧ ss.length ≤ c ∧ ss.length ≤ 9223372036854775807 ∧ Rd w w.heap.size 1 A ss.length (strs ss) := by
  rcases Go.ChangeShapes.open_strings ht he hc h with ⟨hcs, _⟩ | ⟨a, len, cap, ss, hcs, _, hl, hm, hz, _, hcell, _⟩
  · injection hcs with hv _
    exact ⟨none, 0, [], hv, Nat.le_refl _, by simp, Rd.nil _ _ _ _⟩
  · injection hcs with hv _
    have hle : len ≤ ss.length := by rw [hz]; split <;> omega
    have hlen : (ss.take len).length = len := by simp; omega
    refine ⟨some a, cap, ss.take len, by rw [hlen]; exact hv, by omega, by unfold maxLen at hm; omega, ?_⟩
    refine ⟨by simp, fun j u hj => ?_⟩
    have hjl : j < len := by
      have := (List.getElem?_eq_some_iff.1 hj).1
      simp at this
      omega
    have h0 := hcell 0 (by omega)
    have hsp : a.spot = none := by
      have := World.cell?_spot h0
      simpa [Addr.add] using this
    obtain ⟨b, o, sp⟩ := a
    simp only at hsp
    subst hsp
    have hcj := hcell j (by omega)
    rw [Addr.add_lit] at hcj
    refine ⟨b, o, rfl, by have := World.block_lt_of_cell? w _ hcj; exact this, ?_⟩
    rw [hcj, ← hj]
    simp [strs, hjl, List.getD_eq_getElem?_getD, show j < ss.length by omega]
end

section
variable {H : Type} {enc : TypeId × Value → H} {w : World} {base : Nat} {spare : Nat → Bool} {held : Bool}
theorem cellsLog : Try.prog.cellsOf 24 = 2 := by kernel_rfl
theorem cellsString : Try.prog.cellsOf 9 = 1 := by kernel_rfl
set_option maxRecDepth 100000 in
/-- A log that came in. -/
theorem open_log {r : Reach} {b0 : Nat} {v : Value} {d : DataW H} {p : List MemPlace} (hv : Value.okWide Try.prog w r b0 24 v) (h : DataW.Trod enc Try.prog w base spare held 24 v d p) :
    ∃ (l : Lg) (A : Option Addr) (c : Nat), v = .agg #[.int .i64 l.base, .slice A l.entries.length c] ∧ l.entries.length ≤ c ∧ l.entries.length ≤ 9223372036854775807 ∧
      Rd w w.heap.size 1 A l.entries.length (strs l.entries) ∧ -9223372036854775808 ≤ l.base ∧ l.base ≤ 9223372036854775807 := by
  obtain ⟨v0, v1, y0, y1, n, rfl, _, _, h0, h1⟩ := Joins.open_agg2 Try.underlying24 (by kernel_rfl) cellsLog hv h
  obtain ⟨b, e0, _, wb⟩ := DataW.trod_int Try.underlying3 h0
  obtain ⟨A, c, ss, rfl, hc, hl, hr⟩ := open_strs Try.underlying22 Try.underlying9 cellsString h1
  injection e0 with e0 _
  subst e0
  exact ⟨⟨b, ss⟩, A, c, rfl, hc, hl, hr, (bounds_i64 wb).1, (bounds_i64 wb).2⟩
end

theorem own : ownKnob Try.prog.godebug = none := by kernel_rfl
theorem laidOut : laidOutB Try.prog = true := by kernel_rfl

end Go.Proofs.Ytgplhidnegbbpaa

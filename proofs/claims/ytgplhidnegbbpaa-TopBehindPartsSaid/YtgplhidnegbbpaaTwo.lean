/-
  A struct of two cells that is stored whole, seen from all that lies beside it.
-/
import Derived.Test.YtgplhidnegbbpaaBase
namespace Go.Proofs.Ytgplhidnegbbpaa
open Go.RowKit

section
variable {w w0 : World} {g g' : Nat} {t : TypeId} {cs : Array Value}
theorem Bk.set2 {x0 x1 : Value} (h : Bk w g t #[x0, x1]) (v0 v1 : Value) : Bk ((w.setCell ⟨g, 0, none⟩ v0).setCell ⟨g, 1, none⟩ v1) g t #[v0, v1] :=
  ((h.set 0 v0).set 1 v1).cast rfl
theorem Bk.set1 {x0 x1 : Value} (h : Bk w g t #[x0, x1]) (v0 : Value) : Bk (w.setCell ⟨g, 0, none⟩ v0) g t #[v0, x1] := (h.set 0 v0).cast rfl
theorem Bk.far1 (h : Bk w g t cs) (hne : g ≠ g') (v0 : Value) : Bk (w.setCell ⟨g', 0, none⟩ v0) g t cs := h.far hne v0
theorem Bk.far2 (h : Bk w g t cs) (hne : g ≠ g') (v0 v1 : Value) : Bk ((w.setCell ⟨g', 0, none⟩ v0).setCell ⟨g', 1, none⟩ v1) g t cs :=
  (h.far (p := ⟨g', 0, none⟩) hne v0).far (p := ⟨g', 1, none⟩) hne v1
theorem Rd.set2 {B sz n : Nat} {A : Option Addr} {xs : List Value} (h : Rd w B sz A n xs) (hB : B ≤ g) (v0 v1 : Value) : Rd ((w.setCell ⟨g, 0, none⟩ v0).setCell ⟨g, 1, none⟩ v1) B sz A n xs :=
  (h.setCell (p := ⟨g, 0, none⟩) hB v0).setCell (p := ⟨g, 1, none⟩) hB v1
theorem Rd.set1 {B sz n : Nat} {A : Option Addr} {xs : List Value} (h : Rd w B sz A n xs) (hB : B ≤ g) (v0 : Value) : Rd (w.setCell ⟨g, 0, none⟩ v0) B sz A n xs :=
  h.setCell (p := ⟨g, 0, none⟩) hB v0
theorem own_set2 {base n sz : Nat} {e : TypeId} {v : Value} {xs : List Value} (h : w.ownsRow base e sz v n xs) (hg : g < base) (v0 v1 : Value) :
    ((w.setCell ⟨g, 0, none⟩ v0).setCell ⟨g, 1, none⟩ v1).ownsRow base e sz v n xs :=
  ownsRow_setCell_below (ownsRow_setCell_below h (a := ⟨g, 0, none⟩) hg v0) (a := ⟨g, 1, none⟩) hg v1
theorem own_set1 {base n sz : Nat} {e : TypeId} {v : Value} {xs : List Value} (h : w.ownsRow base e sz v n xs) (hg : g < base) (v0 : Value) :
    (w.setCell ⟨g, 0, none⟩ v0).ownsRow base e sz v n xs :=
  ownsRow_setCell_below h (a := ⟨g, 0, none⟩) hg v0
theorem below_set2 {B : Nat} (h : Below B w0 w) (hB : B ≤ g) (v0 v1 : Value) : Below B w0 ((w.setCell ⟨g, 0, none⟩ v0).setCell ⟨g, 1, none⟩ v1) :=
  (h.setCell (p := ⟨g, 0, none⟩) hB v0).setCell (p := ⟨g, 1, none⟩) hB v1
theorem below_set1 {B : Nat} (h : Below B w0 w) (hB : B ≤ g) (v0 : Value) : Below B w0 (w.setCell ⟨g, 0, none⟩ v0) :=
  h.setCell (p := ⟨g, 0, none⟩) hB v0
end

end Go.Proofs.Ytgplhidnegbbpaa

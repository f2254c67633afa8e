import Derived.Test.YtgplhidnegbbpaaL
import Derived.Test.YtgplhidnegbbpaaLawL
namespace Go.Proofs.Ytgplhidnegbbpaa
open Go.RowKit

set_option maxRecDepth 20000 in
set_option maxHeartbeats 1600000 in
theorem c_topPutTwice (l : Lg) (A : Option Addr) (c : Nat) (bh : Int) (A2 : Option Addr) (c2 : Nat) (more : List ByteArray) (w : World)
    (hn : l.entries.length ≤ 9223372036854775807) (hc2 : more.length ≤ c2) (hn2 : more.length ≤ 9223372036854775807)
    (h : Rd w w.heap.size 1 A l.entries.length (strs l.entries)) (h2 : Rd w w.heap.size 1 A2 more.length (strs more)) (R : Ending → World → Prop)
   (hR : ∀ w', Below w.heap.size w w' → R (.returned (.bool true)) w') :
    Calls Try.prog 3 #[.agg #[.int .i64 l.base, .slice A l.entries.length c], .int .i64 bh, .slice A2 more.length c2] w R := by
  have HR := Lib.hid hR
  clear hR
  go_enter Try.func3, Try.ntmps3
  go_wp2_with fail
  refine c_logs _ _ ?_
  intro w1 hw1
  have hB1 := below_box (Below.refl _ w) (Nat.le_refl _) hw1
  have k1 := (Bk.new w _ _).ext hw1
  obtain ⟨q0, q1⟩ := k1.two
  go_wp2_with fail
  refine c_put l A c bh A2 c2 more w1 hn hc2 hn2 (h.below hB1).bound (h2.below hB1).bound _ ?_
  generalize hp : logPut l bh more = p
  obtain ⟨a, e⟩ := p
  intro A' c' w2 hle ho hw2
  dsimp only at hle ho ⊢
  have hB2 := ext_trans hB1 hB1.size hw2
  by_cases he : e = 0
  · subst he
    have ha := put_twice hp
    have hl4 := (logPut_ok hp).2.2.2.2.2.2.2
    have hr2 := (Rd.of_own ho).alloc (.cells #[.int .i64 a.base, .slice A' a.entries.length c'] 24) |>.bound
    have hm2 := ((h2.below hB2).alloc (.cells #[.int .i64 a.base, .slice A' a.entries.length c'] 24)).bound
    go_wp2_with fail
    refine c_put a A' c' bh A2 c2 more _ (by omega) hc2 hn2 hr2 hm2 _ ?_
    rw [ha]
    intro A3 c3 w3 hle3 ho3 hw3
    dsimp only at hle3 ho3 ⊢
    have hB3 := below_box hB2 hB2.size hw3
    have k3 := (Bk.new w2 _ _).ext hw3
    obtain ⟨r0, r1⟩ := k3.two
    have hl : w2.heap.size < w3.heap.size := by have := hw3.size; simp at this; omega
    have hr3 := ((Rd.of_own ho).ext ((Below.refl _ w2).alloc (Nat.le_refl _) (.cells #[.int .i64 a.base, .slice A' a.entries.length c'] 24))).ext hw3 |>.alloc (.cells #[.int .i64 a.base, .slice A3 a.entries.length c3] 24) |>.bound
    have hs3 := ((Rd.of_own ho3).alloc (.cells #[.int .i64 a.base, .slice A3 a.entries.length c3] 24)).bound
    go_wp2_with fail
    refine c_sameLog _ _ _ _ _ _ _ _ a.entries a.entries _ (by omega) (by omega) hr3 hs3 true (by simp) _ ?_
    intro w4 hw4
    have hB4 := below_box hB3 hB3.size hw4
    go_wp2
    exact fin (HR.out _ hB4) (by simp)
  · go_wp2
    exact fin (HR.out _ (hB2.alloc hB2.size _)) (by simp)

end Go.Proofs.Ytgplhidnegbbpaa

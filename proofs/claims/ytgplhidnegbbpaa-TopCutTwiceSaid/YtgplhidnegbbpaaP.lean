/-
  Walks: a log that is cut twice.
-/
import Derived.Test.YtgplhidnegbbpaaL
import Derived.Test.YtgplhidnegbbpaaLawM
import Derived.Test.YtgplhidnegbbpaaTwo
import Derived.Deep.RegionWith
namespace Go.Proofs.Ytgplhidnegbbpaa
open Go.RowKit

theorem behind_len (l : Lg) (ix mn : Int) : (logBehind l ix mn).1.length ≤ l.entries.length := by
  unfold logBehind
  split
  · split
    · simp
    · split
      · simp
      · simp; omega
  · simp

set_option maxRecDepth 20000 in
set_option maxHeartbeats 4000000 in
theorem c_topCutTwice (l : Lg) (A : Option Addr) (c : Nat) (x y : Int) (w : World)
    (hn : l.entries.length ≤ 9223372036854775807) (hc : l.entries.length ≤ c)
    (h : Rd w w.heap.size 1 A l.entries.length (strs l.entries)) (R : Ending → World → Prop)
   (hR : ∀ w', Below w.heap.size w w' → R (.returned (.bool true)) w') :
    Calls Try.prog 6 #[.agg #[.int .i64 l.base, .slice A l.entries.length c], .int .i64 x, .int .i64 y] w R := by
  have HR := Lib.hid hR
  clear hR
  go_enter Try.func6, Try.ntmps6
  go_wp2_with fail
  refine c_logs _ _ ?_
  intro w1 hw1
  have hB1 := below_box (Below.refl _ w) (Nat.le_refl _) hw1
  have k1 := (Bk.new w _ _).ext hw1
  have hl1 : w.heap.size < w1.heap.size := k1.lt
  clear hw1
  obtain ⟨q0, q1⟩ := k1.two
  go_wp2_with fail
  refine c_cut l A c x _ hn hc (h.below hB1).bound _ ?_
  generalize hp : logCut l x = p
  obtain ⟨a, e⟩ := p
  intro A2 c2 w2 hle2 ho2 hw2
  dsimp only at hle2 ho2 ⊢
  have k2 := k1.ext hw2
  have hB2 := ext_trans hB1 hB1.size hw2
  have hl2 := k2.lt
  clear q0 q1 hw2
  by_cases he : e = 0
  rotate_left
  · clear hp
    go_wp2
    exact fin (HR.out _ (hB2.alloc hB2.size _)) (by simp)
  subst he
  have hal : a.entries.length ≤ 400 := by
    obtain ⟨h0, _, _, _, h3⟩ := logCut_ok hp
    have := (logCheck_ok h0).2.2
    rw [h3]; simp; omega
  have HP := Lib.hid hp
  clear hp
  have r2 := (Rd.of_own ho2).alloc (.cells #[.int .i64 a.base, .slice A2 a.entries.length c2] 24)
  go_wp2_with fail
  refine c_cut a A2 c2 y _ (by omega) hle2 r2.bound _ ?_
  generalize hp : logCut a y = p
  obtain ⟨b, e⟩ := p
  intro A3 c3 w3 hle3 ho3 hw3
  dsimp only at hle3 ho3 ⊢
  have k3 := (k2.alloc _).ext hw3
  have hB3 := below_box hB2 hB2.size hw3
  have hl3 : w2.heap.size < w3.heap.size := by have := hw3.size; simp at this; omega
  clear hw3
  by_cases he : e = 0
  rotate_left
  · clear hp
    go_wp2
    exact fin (HR.out _ (hB3.alloc hB3.size _)) (by simp)
  subst he
  obtain ⟨hcl, hlast, hbe, hbb⟩ := cut_twice HP.out hp
  obtain ⟨hb0, hb1, hb2⟩ := logCheck_ok (logCut_check hp)
  obtain ⟨hl4, hl5, hl6⟩ := logCheck_ok (logCut_ok hcl).1
  clear hp
  have HL := Lib.hid hlast
  have HC := Lib.hid hcl
  have HE := Lib.hid hbe
  have HB := Lib.hid hbb
  clear hcl hbe hbb hlast
  have r3 := (Rd.of_own ho3).alloc (.cells #[.int .i64 b.base, .slice A3 b.entries.length c3] 24)
  have kb3 := Bk.new w3 24 #[.int .i64 b.base, .slice A3 b.entries.length c3]
  have k3' := k3.alloc (.cells #[.int .i64 b.base, .slice A3 b.entries.length c3] 24)
  have hB3' := hB3.alloc hB3.size (.cells #[.int .i64 b.base, .slice A3 b.entries.length c3] 24)
  have hl3' := k3.lt
  obtain ⟨q0, q1⟩ := k3'.two
  go_wp2_with fail
  refine c_cut l A c y _ hn hc (h.below hB3').bound _ ?_
  rw [HC.out]
  intro A4 c4 w4 hle4 ho4 hw4
  dsimp only at hle4 ho4 ⊢
  have k4 := k3'.ext hw4
  have kb4 := kb3.ext hw4
  have r4 := r3.ext hw4
  have hB4 := ext_trans hB3' hB3'.size hw4
  clear q0 q1 hw4
  have k4' := (k4.alloc (.cells #[.int .i64 b.base, .slice A4 b.entries.length c4] 24)).drew
  have kb4' := (kb4.alloc (.cells #[.int .i64 b.base, .slice A4 b.entries.length c4] 24)).drew
  have kc4' := (Bk.new w4 24 #[.int .i64 b.base, .slice A4 b.entries.length c4]).drew
  have r4' := (r4.alloc (.cells #[.int .i64 b.base, .slice A4 b.entries.length c4] 24)).drew
  have rc4' := ((Rd.of_own ho4).alloc (.cells #[.int .i64 b.base, .slice A4 b.entries.length c4] 24)).drew
  have hB4' := (hB4.alloc hB4.size (.cells #[.int .i64 b.base, .slice A4 b.entries.length c4] 24)).drew
  have hl7 := k4.lt
  have hl8 := kb4.lt
  obtain ⟨q0, q1⟩ := k4'.two
  obtain ⟨m0, m1⟩ := kb4'.two
  obtain ⟨s0, s1⟩ := kc4'.two
  go_wp2_with fail
  go_region_with (
    first
      | (go_at_call 16
         go_loud (
          refine c_sameLog _ _ _ _ _ _ _ _ b.entries b.entries _ (by omega) (by omega) r4'.bound rc4'.bound true (by simp) _ ?_
          intro w5 hw5
          have k5 := k4'.ext hw5
          have kb5 := kb4'.ext hw5
          have r5 := r4'.ext hw5
          have hB5 := ext_trans hB4' hB4'.size hw5
          obtain ⟨u0, u1⟩ := k5.two
          obtain ⟨v0, v1⟩ := kb5.two))
      | (go_at_call_of 18 A3
         go_loud (
          refine c_last b.base A3 _ c3 _ hb0 hb1 (by omega) _ ?_
          rw [HL.out]
          intro w6 hw6
          have k6 := k5.ext hw6
          have kb6 := kb5.ext hw6
          have r6 := r5.ext hw6
          have hB6 := ext_trans hB5 hB5.size hw6
          obtain ⟨u2, u3⟩ := k6.two))
      | (go_at_call_of 18 A
         go_loud (
          refine c_last l.base A _ c _ hl4 hl5 (by omega) _ ?_
          intro w7 hw7
          have k7 := k6.ext hw7
          have kb7 := kb6.ext hw7
          have r7 := r6.ext hw7
          have hB7 := ext_trans hB6 hB6.size hw7)))
  all_goals
    clear q0 q1 m0 m1 s0 s1 u0 u1 v0 v1 u2 u3
    obtain ⟨q0, q1⟩ := k7.two
    go_wp2_with fail
    refine c_behind l A c y 400 _ hn hc (h.below hB7).bound _ ?_
    have hbl := behind_len l y 400
    generalize logBehind l y 400 = g at HE HB hbl
    obtain ⟨s8, e8⟩ := g
    obtain rfl : e8 = 0 := HE.out
    intro A8 c8 w8 hle8 ho8 hw8
    dsimp only at hle8 ho8 hbl ⊢
    have kb8 := kb7.ext hw8
    have r8 := r7.ext hw8
    have hB8 := ext_trans hB7 hB7.size hw8
    clear q0 q1 hw8
    obtain ⟨m0, m1⟩ := kb8.two
    go_wp2_with fail
    refine c_behind b A3 c3 y 400 _ (by omega) hle3 r8.bound _ ?_
    rw [HB.out]
    intro A9 c9 w9 hle9 ho9 hw9
    dsimp only at hle9 ho9 ⊢
    have hB9 := ext_trans hB8 hB8.size hw9
    have r9 := ((Rd.of_own ho8).ext hw9).bound
    have t9 := (Rd.of_own ho9).bound
    clear m0 m1 hw9
    go_wp2_with fail
    refine c_equalStr _ _ _ _ _ _ s8 s8 _ _ _ (by omega) (by omega) r9 t9 true (by simp) _ ?_
    intro q
    go_wp2
    exact fin (HR.out _ (below_drewN hB9 q)) (by simp)

end Go.Proofs.Ytgplhidnegbbpaa

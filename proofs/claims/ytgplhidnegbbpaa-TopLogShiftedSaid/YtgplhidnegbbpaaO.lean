/-
  Walks: a log that begins later.
-/
import Derived.Test.YtgplhidnegbbpaaL
import Derived.Test.YtgplhidnegbbpaaLawM
import Derived.Test.YtgplhidnegbbpaaTwo
namespace Go.Proofs.Ytgplhidnegbbpaa
open Go.RowKit

set_option maxRecDepth 20000 in
set_option maxHeartbeats 4000000 in
theorem c_topLogShifted (l : Lg) (A : Option Addr) (c : Nat) (bh : Int) (A2 : Option Addr) (c2 : Nat) (more : List ByteArray) (ix by0 : Int) (w : World)
    (hn : l.entries.length ≤ 9223372036854775807) (hc : l.entries.length ≤ c) (hc2 : more.length ≤ c2) (hn2 : more.length ≤ 9223372036854775807)
    (h : Rd w w.heap.size 1 A l.entries.length (strs l.entries)) (h2 : Rd w w.heap.size 1 A2 more.length (strs more)) (R : Ending → World → Prop)
   (hR : ∀ w', Below w.heap.size w w' → R (.returned (.bool true)) w') :
    Calls Try.prog 5 #[.agg #[.int .i64 l.base, .slice A l.entries.length c], .int .i64 bh, .slice A2 more.length c2, .int .i64 ix, .int .i64 by0] w R := by
  have HR := Lib.hid hR
  clear hR
  go_enter Try.func5, Try.ntmps5
  go_wp2_with fail
  refine c_logs _ _ ?_
  intro w1 hw1
  have hB1 := below_box (Below.refl _ w) (Nat.le_refl _) hw1
  have k1 := (Bk.new w _ _).ext hw1
  have hl1 : w.heap.size < w1.heap.size := k1.lt
  clear hw1
  obtain ⟨q0, q1⟩ := k1.two
  go_wp2_with fail
  refine c_pick by0 1000 _ (by omega) (by omega) _ ?_
  obtain ⟨d, hd⟩ : ∃ d, pick by0 1000 = d := ⟨_, rfl⟩
  have hd1 : d < 1000 := by rw [← hd]; exact pick_lt _ _ (by omega)
  rw [hd]
  clear hd
  by_cases g1 : l.base < 0
  · go_wp2; exact fin (HR.out _ hB1) rfl
  by_cases g2 : 1073739424 < l.base
  · go_wp2; exact fin (HR.out _ hB1) rfl
  by_cases g3 : bh < 0
  · go_wp2; exact fin (HR.out _ hB1) rfl
  by_cases g4 : 1073739424 < bh
  · go_wp2; exact fin (HR.out _ hB1) rfl
  by_cases g5 : ix < 0
  · go_wp2; exact fin (HR.out _ hB1) rfl
  by_cases g6 : 1073739424 < ix
  · go_wp2; exact fin (HR.out _ hB1) rfl
  have hput := put_later (l := l) (bh := bh) (d := d) (more := more) (by omega) (by omega) (by omega) (by omega) (by omega) (by omega)
  have hcut := cut_later (l := l) (ix := ix) (d := d) (by omega) (by omega) (by omega) (by omega) (by omega) (by omega)
  have hat := at_later (l := l) (ix := ix) (d := d) (by omega) (by omega) (by omega) (by omega)
  have HP := Lib.hid hput
  have HC := Lib.hid hcut
  have HA := Lib.hid hat
  clear hput hcut hat
  go_wp2_with fail
  refine c_put l A c bh A2 c2 more _ hn hc2 hn2 ((h.below hB1).alloc _).bound ((h2.below hB1).alloc _).bound _ ?_
  generalize hp : logPut l bh more = p at HP
  obtain ⟨a, e⟩ := p
  intro A' c' w2 hle ho hw2
  dsimp only at hle ho ⊢
  have k1a := k1.alloc (.cells #[.int .i64 (l.base + d), .slice A l.entries.length c] 24)
  have km1 := Bk.new w1 24 #[.int .i64 (l.base + d), .slice A l.entries.length c]
  have k2 := k1a.ext hw2
  have km2 := km1.ext hw2
  have hB2 := below_box hB1 hB1.size hw2
  have hl2 := km2.lt
  have hl2' := k2.lt
  clear q0 q1
  obtain ⟨q0, q1⟩ := k2.two
  obtain ⟨m0, m1⟩ := km2.two
  have hr2 := Rd.of_own ho
  by_cases he : e = 0
  case' pos =>
    subst he
    obtain ⟨hpok, hab⟩ : a.entries.length ≤ 400 ∧ a.base = l.base := by have := (logPut_ok hp).2.2.2.2.2.2; exact ⟨this.2, by rw [this.1]⟩
    have hab0 : 0 ≤ a.base := by omega
    have hab1 : a.base ≤ 1073739424 := by omega
    have HAB := Lib.hid hab
    clear hp hab
    go_wp2_with fail
    refine c_put ⟨l.base + d, l.entries⟩ A c (bh + d) A2 c2 more _ hn hc2 hn2 ((h.below hB2).alloc _).bound ((h2.below hB2).alloc _).bound _ ?_
    rw [show logPut ⟨l.base + d, l.entries⟩ (bh + d) more = (⟨a.base + d, a.entries⟩, 0) from HP.out]
    intro A3 c3 w3 hle3 ho3 hw3
    dsimp only at hle3 ho3 ⊢
    have k3 := (k2.alloc _).ext hw3
    have km3 := (km2.alloc _).ext hw3
    have ka3 := (Bk.new w2 _ _).ext hw3
    have hB3 := below_box hB2 hB2.size hw3
    have hr3 := (hr2.alloc _).ext hw3
    have hl3 := ka3.lt
    obtain ⟨s0, s1⟩ := ka3.two
    have s2 := ka3.frozen 0
    have s3 := ka3.frozen 1
    have hne : ¬ w3.heap.size = w2.heap.size := by omega
    have hne' : ¬ w2.heap.size = w3.heap.size := by omega
    have ra3 := hr3
    have rb3 := Rd.of_own ho3
    go_wp2_with fail
    have hr5 := rb3
    have ho4 := own_set1 (g := w2.heap.size) (own_less (base' := w2.heap.size + 1) ho3 (by simp)) (by omega) (.int .i64 (a.base + d))
    refine c_sameLog _ _ _ _ _ _ _ _ a.entries a.entries _ (by omega) (by omega) (((hr3.set1 (g := w2.heap.size) (Nat.le_refl _) _).alloc _).bound) ((Rd.of_own ho4).alloc _).bound true (by simp) _ ?_
    intro w4 hw4
    have hB4 := below_box (below_set1 hB3 (g := w2.heap.size) (by omega) (.int .i64 (a.base + d))) (by simpa using hB3.size) hw4
    have kl4 := ((k3.far1 (g' := w2.heap.size) (by omega) _).alloc _).ext hw4
    have km4 := ((km3.far1 (g' := w2.heap.size) (by omega) _).alloc _).ext hw4
    have ka4 := ((ka3.set1 _).alloc _).ext hw4
    have kb4 : Bk w4 w3.heap.size 24 #[.int .i64 (a.base + d), .slice A3 a.entries.length c3] := by
      have := (Bk.new (w3.setCell ⟨w2.heap.size, 0, none⟩ (.int .i64 (a.base + d))) 24 #[.int .i64 (a.base + d), .slice A3 a.entries.length c3]).ext hw4
      simpa using this
    clear s0 s1 s2 s3 q0 q1 m0 m1 hw4 hw3 ho4 hr5
  case' neg =>
    clear hp
    go_wp2_with fail
    refine c_put ⟨l.base + d, l.entries⟩ A c (bh + d) A2 c2 more _ hn hc2 hn2 ((h.below hB2).alloc _).bound ((h2.below hB2).alloc _).bound _ ?_
    rw [show logPut ⟨l.base + d, l.entries⟩ (bh + d) more = (a, e) by have := HP.out; rw [laterIf, if_neg he] at this; exact this]
    intro A3 c3 w3 hle3 ho3 hw3
    dsimp only at hle3 ho3 ⊢
    have k3 := (k2.alloc _).ext hw3
    have km3 := (km2.alloc _).ext hw3
    have ka3 := (Bk.new w2 _ _).ext hw3
    have hB3 := below_box hB2 hB2.size hw3
    have hl3 := ka3.lt
    have hB4 := hB3.alloc hB3.size (.cells #[.int .i64 a.base, .slice A3 a.entries.length c3] 24)
    have kl4 := k3.alloc (.cells #[.int .i64 a.base, .slice A3 a.entries.length c3] 24)
    have km4 := km3.alloc (.cells #[.int .i64 a.base, .slice A3 a.entries.length c3] 24)
    have ka4 := ka3.alloc (.cells #[.int .i64 a.base, .slice A3 a.entries.length c3] 24)
    have kb4 := Bk.new w3 24 #[.int .i64 a.base, .slice A3 a.entries.length c3]
    have hne : ¬ w3.heap.size = w2.heap.size := by omega
    have hne' : ¬ w2.heap.size = w3.heap.size := by omega
    have hHH : (0 : Int) = 0 := rfl
    clear q0 q1 m0 m1 hw3
  all_goals
    obtain ⟨q0, q1⟩ := kl4.two
    obtain ⟨m0, m1⟩ := km4.two
    have s2 := ka4.frozen 0
    have s3 := ka4.frozen 1
    have hl4 := kb4.lt
    go_wp2_with fail
    refine c_cut l A c ix _ hn hc (h.below hB4).bound _ ?_
    generalize hcq : logCut l ix = cq at HC
    obtain ⟨a5, e5⟩ := cq
    intro A5 c5 w5 hle5 ho5 hw5
    dsimp only at hle5 ho5 ⊢
    have kl5 := kl4.ext hw5
    have km5 := km4.ext hw5
    have ka5 := ka4.ext hw5
    have kb5 := kb4.ext hw5
    have hB5 := ext_trans hB4 hB4.size hw5
    have ho5' := own_less (base' := w3.heap.size + 1) ho5 (by omega)
    clear q0 q1 m0 m1 s2 s3 hw5 kl4 km4 ka4 kb4 ho5
    have hl5 := kb5.lt
    obtain ⟨q0, q1⟩ := kl5.two
    obtain ⟨m0, m1⟩ := km5.two
    obtain ⟨s0, s1⟩ := ka5.two
    have s2 := ka5.frozen 0
    have s3 := ka5.frozen 1
    go_wp2_with fail
    refine c_cut ⟨l.base + d, l.entries⟩ A c (ix + d) _ hn hc ((h.below hB5).set2 (g := w2.heap.size) (by omega) _ _).bound _ ?_
    have hB5' := below_set2 hB5 (g := w2.heap.size) (by omega) (.int .i64 a5.base) (.slice A5 a5.entries.length c5)
    have kl5' := kl5.far2 (g' := w2.heap.size) (by omega) (.int .i64 a5.base) (.slice A5 a5.entries.length c5)
    have km5' := km5.far2 (g' := w2.heap.size) (by omega) (.int .i64 a5.base) (.slice A5 a5.entries.length c5)
    have kb5' := kb5.far2 (g' := w2.heap.size) (by omega) (.int .i64 a5.base) (.slice A5 a5.entries.length c5)
    have ka5' := ka5.set2 (.int .i64 a5.base) (.slice A5 a5.entries.length c5)
    have ho5'' := own_set2 ho5' (g := w2.heap.size) (by omega) (.int .i64 a5.base) (.slice A5 a5.entries.length c5)
    clear q0 q1 m0 m1 s0 s1 s2 s3 kl5 km5 ka5 kb5 ho5'
    by_cases he5 : e5 = 0
    case' pos =>
      subst he5
      obtain ⟨_, hi1, hi2, _, hi3⟩ := logCut_ok hcq
      have hab5 : a5.base = ix := by rw [hi3]
      have hal5 : a5.entries.length ≤ 9223372036854775807 := by rw [hi3]; simp; omega
      have hab6 : 0 ≤ a5.base := by omega
      have hab7 : a5.base ≤ 1073739424 := by omega
      clear hcq hab5 hi1 hi2 hi3
      rw [show logCut ⟨l.base + d, l.entries⟩ (ix + d) = (⟨a5.base + d, a5.entries⟩, 0) from HC.out]
    case' neg =>
      clear hcq
      rw [show logCut ⟨l.base + d, l.entries⟩ (ix + d) = (a5, e5) by have := HC.out; rw [laterIf, if_neg he5] at this; exact this]
    all_goals
      intro A6 c6 w6 hle6 ho6 hw6
      dsimp only at hle6 ho6 ⊢
      have kl6 := kl5'.ext hw6
      have km6 := km5'.ext hw6
      have ka6 := ka5'.ext hw6
      have kb6 := kb5'.ext hw6
      have hB6 := ext_trans hB5' hB5'.size hw6
      have ho6' := own_less (base' := w3.heap.size + 1) ho6 (by simp; omega)
      have ho56 := own_ext ho5'' hw6
      clear hw6 kl5' km5' ka5' kb5' ho6 ho5''
      have hl6 := kb6.lt
      obtain ⟨q0, q1⟩ := kl6.two
      obtain ⟨m0, m1⟩ := km6.two
      obtain ⟨s0, s1⟩ := ka6.two
      have s2 := ka6.frozen 0
      have s3 := ka6.frozen 1
      obtain ⟨t0, t1⟩ := kb6.two
      have t2 := kb6.frozen 0
      have t3 := kb6.frozen 1
      go_wp2_with fail
      first
        | guard_hyp hab6 : 0 ≤ a5.base
          have kl7 := (kl6.far2 (g' := w3.heap.size) (by omega) (.int .i64 (a5.base + d)) (.slice A6 a5.entries.length c6)).far1 (g' := w2.heap.size) (by omega) (.int .i64 (a5.base + d))
          have km7 := (km6.far2 (g' := w3.heap.size) (by omega) (.int .i64 (a5.base + d)) (.slice A6 a5.entries.length c6)).far1 (g' := w2.heap.size) (by omega) (.int .i64 (a5.base + d))
          have ka7 := (ka6.far2 (g' := w3.heap.size) (by omega) (.int .i64 (a5.base + d)) (.slice A6 a5.entries.length c6)).set1 (.int .i64 (a5.base + d))
          have kb7 := (kb6.set2 (.int .i64 (a5.base + d)) (.slice A6 a5.entries.length c6)).far1 (g' := w2.heap.size) (by omega) (.int .i64 (a5.base + d))
          have hB7 := below_set1 (below_set2 hB6 (g := w3.heap.size) (by omega) (.int .i64 (a5.base + d)) (.slice A6 a5.entries.length c6)) (g := w2.heap.size) (by omega) (.int .i64 (a5.base + d))
          have o7 := Rd.of_own (own_set1 (own_set2 ho56 (g := w3.heap.size) (by omega) (.int .i64 (a5.base + d)) (.slice A6 a5.entries.length c6)) (g := w2.heap.size) (by omega) (.int .i64 (a5.base + d)))
          have p7 := Rd.of_own (own_set1 (own_set2 ho6' (g := w3.heap.size) (by omega) (.int .i64 (a5.base + d)) (.slice A6 a5.entries.length c6)) (g := w2.heap.size) (by omega) (.int .i64 (a5.base + d)))
        | have kl7 := kl6.far2 (g' := w3.heap.size) (by omega) (.int .i64 a5.base) (.slice A6 a5.entries.length c6)
          have km7 := km6.far2 (g' := w3.heap.size) (by omega) (.int .i64 a5.base) (.slice A6 a5.entries.length c6)
          have ka7 := ka6.far2 (g' := w3.heap.size) (by omega) (.int .i64 a5.base) (.slice A6 a5.entries.length c6)
          have kb7 := kb6.set2 (.int .i64 a5.base) (.slice A6 a5.entries.length c6)
          have hB7 := below_set2 hB6 (g := w3.heap.size) (by omega) (.int .i64 a5.base) (.slice A6 a5.entries.length c6)
      refine c_at l A c ix _ hn (h.below hB7).bound _ ?_
      generalize logAt l ix = pa at HA
      intro w8 hw8
      have km8 := km7.ext hw8
      have ka8 := ka7.ext hw8
      have kb8 := kb7.ext hw8
      have hB8 := ext_trans hB7 hB7.size hw8
      try have o8 := o7.ext hw8
      try have p8 := p7.ext hw8
      clear q0 q1 m0 m1 s0 s1 s2 s3 t0 t1 t2 t3 hw8 kl7 km7 ka7 kb7 kl6 km6 ka6 kb6 ho6' ho56
      obtain ⟨m0, m1⟩ := km8.two
      go_wp2_with fail
      refine c_at ⟨l.base + d, l.entries⟩ A c (ix + d) _ hn (h.below hB8).bound _ ?_
      rw [show logAt ⟨l.base + d, l.entries⟩ (ix + d) = pa from HA.out]
      intro w9 hw9
      have ka9 := ka8.ext hw9
      have kb9 := kb8.ext hw9
      have hB9 := ext_trans hB8 hB8.size hw9
      try have o9 := o8.ext hw9
      try have p9 := p8.ext hw9
      clear m0 m1 hw9 km8 ka8 kb8
      obtain ⟨s0, s1⟩ := ka9.two
      obtain ⟨t0, t1⟩ := kb9.two
      go_wp2_with fail
      first
        | guard_hyp hab6 : 0 ≤ a5.base
          refine c_sameLog _ _ _ _ _ _ _ _ a5.entries a5.entries _ hal5 hal5 o9.bound p9.bound true (by simp) _ ?_
          intro w10 hw10
          have hB10 := ext_trans hB9 hB9.size hw10
          go_wp2
          exact fin (HR.out _ hB10) (by simp)
        | exact fin (HR.out _ hB9) (by simp)

end Go.Proofs.Ytgplhidnegbbpaa

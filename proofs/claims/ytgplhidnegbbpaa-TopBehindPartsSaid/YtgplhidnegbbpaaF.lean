import Derived.Test.YtgplhidnegbbpaaE
import Derived.Test.YtgplhidnegbbpaaD
namespace Go.Proofs.Ytgplhidnegbbpaa
open Go.RowKit

set_option maxRecDepth 40000 in
set_option maxHeartbeats 4000000 in
theorem c_body (g : Nat) (c : Cm) (s : ByteArray) (w : World) (hb : Bk w g 106 c.cells) (R : Ending → World → Prop)
   (hR : ∀ w', w.grownBy w' (some g) → ((bodyOf c s).2.2 = 0 → Bk w' g 106 (bodyOf c s).1.cells) → R (.returned (.tuple #[.string (bodyOf c s).2.1, .int .i64 (bodyOf c s).2.2])) w') :
    Calls Try.prog 96 #[.pointer (some ⟨g, 0, none⟩), .string s] w R := by
  obtain ⟨ck, cc, cs, cq, ca, ok, oa, ob, on⟩ := c
  have hlt := hb.lt
  have HBK := Lib.hid hb
  unfold Cm.cells at hb
  dsimp only at hb
  have k2 : w.cell? ⟨g, 2, none⟩ = some (.int .i64 cs) := hb.cell 2
  have k3 : w.cell? ⟨g, 3, none⟩ = some (.int .i64 cq) := hb.cell 3
  have k4 : w.cell? ⟨g, 4, none⟩ = some (.int .i64 ca) := hb.cell 4
  have k5 : w.cell? ⟨g, 5, none⟩ = some (.int .i64 ok) := hb.cell 5
  have k6 : w.cell? ⟨g, 6, none⟩ = some (.string oa) := hb.cell 6
  have k7 : w.cell? ⟨g, 7, none⟩ = some (.string ob) := hb.cell 7
  have k8 : w.cell? ⟨g, 8, none⟩ = some (.int .i64 on) := hb.cell 8
  have z2 : w.frozen? ⟨g, 2, none⟩ = false := hb.frozen 2
  have z3 : w.frozen? ⟨g, 3, none⟩ = false := hb.frozen 3
  have z4 : w.frozen? ⟨g, 4, none⟩ = false := hb.frozen 4
  have z5 : w.frozen? ⟨g, 5, none⟩ = false := hb.frozen 5
  have z6 : w.frozen? ⟨g, 6, none⟩ = false := hb.frozen 6
  have z7 : w.frozen? ⟨g, 7, none⟩ = false := hb.frozen 7
  have z8 : w.frozen? ⟨g, 8, none⟩ = false := hb.frozen 8
  clear hb
  generalize hr : bodyOf ⟨ck, cc, cs, cq, ca, ⟨ok, oa, ob, on⟩⟩ s = r at hR
  have Hr := Lib.hid hr
  clear hr
  go_enter Try.func96, Try.ntmps96
  go_wp2
  go_region
  go_wp2
  refine wp_loop_rounds 6 ?_
  rw [rounds_succ]
  go_wp2_with fail
  refine c_readNumber s _ _ ?_
  intro q1
  generalize hr : readNumber s = r1
  obtain ⟨n1, s1, e1⟩ := r1
  have H1 := Lib.hid hr
  clear hr
  by_cases he1 : e1 = 0
  rotate_left
  · go_wp2
    have HQ : r = (⟨ck, cc, cs, cq, ca, ⟨ok, oa, ob, on⟩⟩, ⟨#[]⟩, e1) := by
      rw [← Hr.out]
      simp only [bodyOf, H1.out]
      exact if_neg he1
    subst HQ
    exact fin (hR _ (by repeat (with_reducible first | exact World.grownBy.refl _ _ | apply grow_drewN | apply grow_drew | refine grow_set ?_ rfl _ | refine grow_alloc ?_ _)) (fun h => absurd h he1)) rfl
  subst he1
  go_wp2
  rw [rounds_succ]
  go_wp2_with fail
  refine c_readNumber s1 _ _ ?_
  intro q2
  generalize hr : readNumber s1 = r2
  obtain ⟨n2, s2, e2⟩ := r2
  have H2 := Lib.hid hr
  clear hr
  by_cases he2 : e2 = 0
  rotate_left
  · go_wp2
    have HQ : r = (⟨ck, cc, cs, cq, ca, ⟨ok, oa, ob, on⟩⟩, ⟨#[]⟩, e2) := by
      rw [← Hr.out]
      simp only [bodyOf, H1.out, body2, H2.out, if_true]
      exact if_neg he2
    subst HQ
    exact fin (hR _ (by repeat (with_reducible first | exact World.grownBy.refl _ _ | apply grow_drewN | apply grow_drew | refine grow_set ?_ rfl _ | refine grow_alloc ?_ _)) (fun h => absurd h he2)) rfl
  subst he2
  go_wp2
  rw [rounds_succ]
  go_wp2_with fail
  refine c_readNumber s2 _ _ ?_
  intro q3
  generalize hr : readNumber s2 = r3
  obtain ⟨n3, s3, e3⟩ := r3
  have H3 := Lib.hid hr
  clear hr
  by_cases he3 : e3 = 0
  rotate_left
  · go_wp2
    have HQ : r = (⟨ck, cc, cs, cq, ca, ⟨ok, oa, ob, on⟩⟩, ⟨#[]⟩, e3) := by
      rw [← Hr.out]
      simp only [bodyOf, H1.out, body2, H2.out, body3, H3.out, if_true]
      exact if_neg he3
    subst HQ
    exact fin (hR _ (by repeat (with_reducible first | exact World.grownBy.refl _ _ | apply grow_drewN | apply grow_drew | refine grow_set ?_ rfl _ | refine grow_alloc ?_ _)) (fun h => absurd h he3)) rfl
  subst he3
  go_wp2
  rw [rounds_succ]
  go_wp2_with fail
  refine c_readNumber s3 _ _ ?_
  intro q4
  generalize hr : readNumber s3 = r4
  obtain ⟨n4, s4, e4⟩ := r4
  have H4 := Lib.hid hr
  clear hr
  by_cases he4 : e4 = 0
  rotate_left
  · go_wp2
    have HQ : r = (⟨ck, cc, cs, cq, ca, ⟨ok, oa, ob, on⟩⟩, ⟨#[]⟩, e4) := by
      rw [← Hr.out]
      simp only [bodyOf, H1.out, body2, H2.out, body3, H3.out, body4, H4.out, if_true]
      exact if_neg he4
    subst HQ
    exact fin (hR _ (by repeat (with_reducible first | exact World.grownBy.refl _ _ | apply grow_drewN | apply grow_drew | refine grow_set ?_ rfl _ | refine grow_alloc ?_ _)) (fun h => absurd h he4)) rfl
  subst he4
  go_wp2
  rw [rounds_succ]
  go_wp2_with fail
  refine c_readNumber s4 _ _ ?_
  intro q5
  generalize hr : readNumber s4 = r5
  obtain ⟨n5, s5, e5⟩ := r5
  have H5 := Lib.hid hr
  clear hr
  by_cases he5 : e5 = 0
  rotate_left
  · go_wp2
    have HQ : r = (⟨ck, cc, cs, cq, ca, ⟨ok, oa, ob, on⟩⟩, ⟨#[]⟩, e5) := by
      rw [← Hr.out]
      simp only [bodyOf, H1.out, body2, H2.out, body3, H3.out, body4, H4.out, body5, H5.out, if_true]
      exact if_neg he5
    subst HQ
    exact fin (hR _ (by repeat (with_reducible first | exact World.grownBy.refl _ _ | apply grow_drewN | apply grow_drew | refine grow_set ?_ rfl _ | refine grow_alloc ?_ _)) (fun h => absurd h he5)) rfl
  subst he5
  go_wp2
  rw [rounds_succ]
  go_wp2
  go_region
  go_wp2
  refine wp_loop_rounds 3 ?_
  rw [rounds_succ]
  go_wp2_with fail
  refine c_readText s5 _ _ ?_
  intro q6
  generalize hr : readText s5 = r6
  obtain ⟨n6, s6, e6⟩ := r6
  have H6 := Lib.hid hr
  clear hr
  by_cases he6 : e6 = 0
  rotate_left
  · go_wp2
    have HQ : r = (⟨ck, cc, cs, cq, ca, ⟨ok, oa, ob, on⟩⟩, ⟨#[]⟩, e6) := by
      rw [← Hr.out]
      simp only [bodyOf, H1.out, body2, H2.out, body3, H3.out, body4, H4.out, body5, H5.out, body6, H6.out, if_true]
      exact if_neg he6
    subst HQ
    exact fin (hR _ (by repeat (with_reducible first | exact World.grownBy.refl _ _ | apply grow_drewN | apply grow_drew | refine grow_set ?_ rfl _ | refine grow_alloc ?_ _)) (fun h => absurd h he6)) rfl
  subst he6
  go_wp2
  rw [rounds_succ]
  go_wp2_with fail
  refine c_readText s6 _ _ ?_
  intro q7
  generalize hr : readText s6 = r7
  obtain ⟨n7, s7, e7⟩ := r7
  have H7 := Lib.hid hr
  clear hr
  by_cases he7 : e7 = 0
  rotate_left
  · go_wp2
    have HQ : r = (⟨ck, cc, cs, cq, ca, ⟨ok, oa, ob, on⟩⟩, ⟨#[]⟩, e7) := by
      rw [← Hr.out]
      simp only [bodyOf, H1.out, body2, H2.out, body3, H3.out, body4, H4.out, body5, H5.out, body6, H6.out, body7, H7.out, if_true]
      exact if_neg he7
    subst HQ
    exact fin (hR _ (by repeat (with_reducible first | exact World.grownBy.refl _ _ | apply grow_drewN | apply grow_drew | refine grow_set ?_ rfl _ | refine grow_alloc ?_ _)) (fun h => absurd h he7)) rfl
  subst he7
  go_wp2
  rw [rounds_succ]
  go_wp2
  have HQ : r = (⟨ck, cc, n1, n2, n3, ⟨n4, n6, n7, n5⟩⟩, s7, 0) := by
    rw [← Hr.out]
    simp only [bodyOf, H1.out, body2, H2.out, body3, H3.out, body4, H4.out, body5, H5.out, body6, H6.out, body7, H7.out, if_true]
  subst HQ
  refine fin (hR _ (by repeat (with_reducible first | exact World.grownBy.refl _ _ | apply grow_drewN | apply grow_drew | refine grow_set ?_ rfl _ | refine grow_alloc ?_ _)) (fun _ => ?_)) rfl
  apply Bk.cast
  · repeat (with_reducible first | exact HBK.out | apply Bk.drewN | apply Bk.drew | apply Bk.set | apply Bk.alloc)
  · rfl

end Go.Proofs.Ytgplhidnegbbpaa

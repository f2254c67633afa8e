/-
  Walks: entries put in two parts.
-/
import Derived.Test.YtgplhidnegbbpaaL
import Derived.Test.YtgplhidnegbbpaaLawM
import Derived.Deep.RegionWith
namespace Go.Proofs.Ytgplhidnegbbpaa
open Go.RowKit

/-- 's[:d]'. -/
theorem slice_to {P : Program} (t e : TypeId) (sz : Nat) (ht : P.underlying t = some (.slice e)) (hz : (P.info? e).map (·.size) = some sz) (A : Option Addr) (n c d : Nat) (hd : d ≤ c) (W : World) :
    (Instr.slice t (.slice A n c) none (some (.int .i64 (d : Int))) none).run P W = .ok (.slice A d c) W := by
  obtain ⟨i, hi, hs⟩ := Option.map_eq_some_iff.1 hz
  simp [Instr.slice, run_underlying ht, Instr.sliceBounds, run_sliceBound, sizeOf, typeInfo, hi, Result.andThen, (by omega : (0 : Int) ≤ d), (by omega : (d : Int) ≤ c)]
  intro _
  cases A with
  | none => rfl
  | some p => obtain ⟨b, o, e⟩ := p; cases e <;> simp [Addr.add]

set_option maxRecDepth 20000 in
set_option maxHeartbeats 4000000 in
theorem c_topPutParts (l : Lg) (A : Option Addr) (c : Nat) (bh : Int) (A2 : Option Addr) (c2 : Nat) (more : List ByteArray) (a4 : Int) (w : World)
    (hn : l.entries.length ≤ 9223372036854775807) (hc2 : more.length ≤ c2) (hn2 : more.length ≤ 9223372036854775807)
    (h : Rd w w.heap.size 1 A l.entries.length (strs l.entries)) (h2 : Rd w w.heap.size 1 A2 more.length (strs more)) (R : Ending → World → Prop)
   (hR : ∀ w', Below w.heap.size w w' → R (.returned (.bool true)) w') :
    Calls Try.prog 4 #[.agg #[.int .i64 l.base, .slice A l.entries.length c], .int .i64 bh, .slice A2 more.length c2, .int .i64 a4] w R := by
  have HR := Lib.hid hR
  clear hR
  go_enter Try.func4, Try.ntmps4
  go_wp2_with fail
  refine c_logs _ _ ?_
  intro w1 hw1
  have hB1 := below_box (Below.refl _ w) (Nat.le_refl _) hw1
  have k1 := (Bk.new w _ _).ext hw1
  obtain ⟨q0, q1⟩ := k1.two
  have hl1 : w.heap.size < w1.heap.size := k1.lt
  go_wp2_with fail
  refine c_put l A c bh A2 c2 more w1 hn hc2 hn2 (h.below hB1).bound (h2.below hB1).bound _ ?_
  generalize hp : logPut l bh more = p
  obtain ⟨a, e⟩ := p
  intro A' c' w2 hle ho hw2
  dsimp only at hle ho ⊢
  have hB2 := ext_trans hB1 hB1.size hw2
  have k2 := k1.ext hw2
  clear q0 q1 hw1 hw2
  obtain ⟨q0, q1⟩ := k2.two
  by_cases he : e = 0
  · subst he
    have hbh0 : 0 ≤ bh := (logPut_ok hp).2.1
    have hbh1 : bh ≤ 1073741824 := (logPut_ok hp).2.2.1
    have hm400 : more.length ≤ 400 := (logPut_ok hp).2.2.2.1
    have ha400 : a.entries.length ≤ 400 := (logPut_ok hp).2.2.2.2.2.2.2
    have HP := Lib.hid hp
    clear hp
    have hwr : wrap64 ((more.length : Int) + 1) = ((more.length + 1 : Nat) : Int) := by rw [IntWalk.wrap64_in _ (by omega)]; omega
    go_wp2_with fail
    refine c_pick a4 (more.length + 1) _ (by omega) (by omega) _ ?_
    obtain ⟨t, ht⟩ : ∃ t, pick a4 (more.length + 1) = t := ⟨_, rfl⟩
    have htle : t ≤ more.length := by have := pick_lt a4 (more.length + 1) (by omega); omega
    rw [ht]
    obtain ⟨b, hb3, hb4, hb5, hb6⟩ := put_parts HP.out t htle
    obtain ⟨m1, hm1⟩ : ∃ m1, more.take t = m1 := ⟨_, rfl⟩
    obtain ⟨m2, hm2⟩ : ∃ m2, more.drop t = m2 := ⟨_, rfl⟩
    have ht1 : m1.length = t := by rw [← hm1]; simp; omega
    have ht2 : m2.length = more.length - t := by rw [← hm2]; simp
    have hr1 := (h2.below hB2).take htle
    rw [show (strs more).take (t * 1) = strs m1 by rw [← hm1]; simp [strs, List.map_take], ← ht1] at hr1
    obtain ⟨A3, hA3⟩ : ∃ A3, (if c2 = t then A2 else A2.map (·.add (t * 1))) = A3 := ⟨_, rfl⟩
    have hr2 := (h2.below hB2).drop (cap := c2) htle hc2
    rw [hA3, show (strs more).drop (t * 1) = strs m2 by rw [← hm2]; simp [strs], ← ht2] at hr2
    have hsl1 := slice_to (P := Try.prog) 22 9 1 Try.underlying22 (by kernel_rfl) A2 more.length c2 t (by omega)
    have hsl2 := slice_from (P := Try.prog) 22 9 1 Try.underlying22 (by kernel_rfl) A2 more.length c2 t htle
    rw [hA3, ← ht2] at hsl2
    rw [hm1] at hb3
    rw [hm2] at hb6
    have hsl1' : ∀ W, (Instr.slice 22 (.slice A2 more.length c2) none (some (.int .i64 (t : Int))) none).run Try.prog W = .ok (.slice A2 m1.length c2) W := fun W => by rw [hsl1, ht1]
    have hl1m : m1.length ≤ c2 := by omega
    have hl1n : m1.length ≤ 400 := by omega
    have hl2m : m2.length ≤ c2 - t := by omega
    have hl2n : m2.length ≤ 400 := by omega
    have H3 := Lib.hid hb3
    have H6 := Lib.hid hb6
    have HA3 := Lib.hid hA3
    have HT2 := Lib.hid ht2
    have HT1 := Lib.hid ht1
    clear hb3 hb6 hA3 ht2 ht1 hm1 hm2 ht hsl1
    have kA := (Bk.new w2 24 #[.int .i64 a.base, .slice A' a.entries.length c'])
    have k2' := k2.alloc (.cells #[.int .i64 a.base, .slice A' a.entries.length c'] 24)
    obtain ⟨hb7, hb8, hb9⟩ := logCheck_ok hb4
    have hRa := (Rd.of_own ho).alloc (.cells #[.int .i64 a.base, .slice A' a.entries.length c'] 24)
    have hRm := hr2.alloc (.cells #[.int .i64 a.base, .slice A' a.entries.length c'] 24)
    have ho' := own_ext ho ((Below.refl _ w2).alloc (Nat.le_refl _) (.cells #[.int .i64 a.base, .slice A' a.entries.length c'] 24))
    have hB2' := hB2.alloc hB2.size (.cells #[.int .i64 a.base, .slice A' a.entries.length c'] 24)
    have hX := (h.below hB2').drew
    have hY := (hr1.alloc (.cells #[.int .i64 a.base, .slice A' a.entries.length c'] 24)).drew
    obtain ⟨u0, u1⟩ := k2'.drew.two
    have hl2 := k2.lt
    have hl3 : w.heap.size < w2.heap.size + 1 := by omega
    have hl4 : ¬ w.heap.size = w2.heap.size + 1 := by omega
    obtain ⟨u2, u3⟩ := (k2'.drew.alloc (.cells #[.int .i64 0, .slice none 0 0] 24)).two
    go_wp2_with fail
    go_region_with (
      go_at_call 15
      go_loud (
        refine c_put l A c bh A2 c2 m1 _ hn hl1m (by omega) ?_ ?_ _ ?_
        · first | exact hX.bound | exact (hX.alloc _).bound
        · first | exact hY.bound | exact (hY.alloc _).bound
        rw [H3.out]
        intro A4 c4 w4 hle4 ho4 hw4
        dsimp only at hle4 ho4 ⊢
        first
          | have kz : Bk w4 (w2.heap.size + 1) 24 #[.int .i64 0, .slice none 0 0] := by
              have := ((Bk.new (w2.alloc (.cells #[.int .i64 a.base, .slice A' a.entries.length c'] 24)).drew 24 #[.int .i64 0, .slice none 0 0]).ext hw4)
              simpa using this
            obtain ⟨z0, z1⟩ := kz.two
            have y0 := kz.frozen 0
            have y1 := kz.frozen 1
            have k4 := (k2'.drew.alloc _).ext hw4
            have kA4 := (kA.drew.alloc _).ext hw4
            have hRa4 := (hRa.drew.alloc _).ext hw4
            have hRm4 := (hRm.drew.alloc _).ext hw4
            have hB4 := below_box hB2'.drew hB2'.drew.size hw4
            have ho5 := own_less (base' := w2.heap.size + 2) ho4 (by simp)
          | have k4 := k2'.drew.ext hw4
            have kA4 := kA.drew.ext hw4
            have hRa4 := hRa.drew.ext hw4
            have hRm4 := hRm.drew.ext hw4
            have hB4 := ext_trans hB2'.drew hB2'.drew.size hw4
            have s0 : 0 < w4.heap.size := by have := k4.lt; omega))
    all_goals go_wp2_with fail
    all_goals
      first
        | guard_hyp s0
          have hlt4 := kA4.lt
          have hne4 : ¬ w2.heap.size = w4.heap.size := by omega
          have hne4' : ¬ w4.heap.size = w2.heap.size := by omega
          have kb := Bk.new w4 24 #[.int .i64 b.base, .slice A4 b.entries.length c4]
          have ka := kA4.alloc (.cells #[.int .i64 b.base, .slice A4 b.entries.length c4] 24)
          have ra := hRa4.alloc (.cells #[.int .i64 b.base, .slice A4 b.entries.length c4] 24)
          have rm := hRm4.alloc (.cells #[.int .i64 b.base, .slice A4 b.entries.length c4] 24)
          have rb := (Rd.of_own ho4).alloc (.cells #[.int .i64 b.base, .slice A4 b.entries.length c4] 24)
          have hB5 := hB4.alloc hB4.size (.cells #[.int .i64 b.base, .slice A4 b.entries.length c4] 24)
        | have kb := Bk.cast ((kz.set 0 (.int .i64 b.base)).set 1 (.slice A4 b.entries.length c4)) (cs' := #[.int .i64 b.base, .slice A4 b.entries.length c4]) rfl
          have ka := (kA4.far (p := ⟨w2.heap.size + 1, 0, none⟩) (by simp) (.int .i64 b.base)).far (p := ⟨w2.heap.size + 1, 1, none⟩) (by simp) (.slice A4 b.entries.length c4)
          have ra := (hRa4.setCell (p := ⟨w2.heap.size + 1, 0, none⟩) (by simp) (.int .i64 b.base)).setCell (p := ⟨w2.heap.size + 1, 1, none⟩) (by simp) (.slice A4 b.entries.length c4)
          have rm := (hRm4.setCell (p := ⟨w2.heap.size + 1, 0, none⟩) (by dsimp only; omega) (.int .i64 b.base)).setCell (p := ⟨w2.heap.size + 1, 1, none⟩) (by dsimp only; omega) (.slice A4 b.entries.length c4)
          have rb := Rd.of_own (ownsRow_setCell_below (ownsRow_setCell_below ho5 (a := ⟨w2.heap.size + 1, 0, none⟩) (by simp) (.int .i64 b.base)) (a := ⟨w2.heap.size + 1, 1, none⟩) (by simp) (.slice A4 b.entries.length c4))
          have hB5 := (hB4.setCell (p := ⟨w2.heap.size + 1, 0, none⟩) (by dsimp only; omega) (.int .i64 b.base)).setCell (p := ⟨w2.heap.size + 1, 1, none⟩) (by dsimp only; omega) (.slice A4 b.entries.length c4)
      refine c_last b.base A4 _ c4 _ hb7 hb8 (by omega) _ ?_
      intro w6 hw6
      have kb6 := (kb.ext hw6).drew
      have ka6 := (ka.ext hw6).drew
      have ra6 := (ra.ext hw6).drew
      have rm6 := (rm.ext hw6).drew
      have rb6 := (rb.ext hw6).drew
      have hB6 := (ext_trans hB5 hB5.size hw6).drew
      obtain ⟨b60, b61⟩ := kb6.two
      have b62 := kb6.frozen 0
      have b63 := kb6.frozen 1
      clear hw6 hw4 rb rm ra ka kb hB5
      go_wp2_with fail
      go_region_with (
        go_at_call 15
        go_loud (
          rw [show IntKind.i64.wrap (bh + (t : Int)) = bh + t from IntWalk.i64_in _ (by omega)]
          refine c_put b A4 c4 (bh + t) A3 (c2 - t) m2 _ (by omega) hl2m (by omega) rb6.bound rm6.bound _ ?_
          rw [H6.out]
          intro A8 c8 w8 hle8 ho8 hw8
          dsimp only at hle8 ho8 ⊢
          have kb8 := kb6.ext hw8
          have ka8 := ka6.ext hw8
          have ra8 := ra6.ext hw8
          have hB8 := ext_trans hB6 hB6.size hw8
          obtain ⟨z80, z81⟩ := kb8.two
          have z82 := kb8.frozen 0
          have z83 := kb8.frozen 1
          obtain ⟨z84, z85⟩ := ka8.two))
      go_wp2_with fail
      refine c_sameLog _ _ _ _ _ _ _ _ a.entries a.entries _ (by omega) (by omega) ?_ ?_ true (by simp) _ ?_
      · refine Rd.bound (Rd.setCell (Rd.setCell ra8 ?_ _) ?_ _) <;> (dsimp only; omega)
      · refine Rd.bound (Rd.of_own (ownsRow_setCell_below (ownsRow_setCell_below ho8 ?_ _) ?_ _)) <;> (first | exact kb6.lt | (dsimp only; have := kb6.lt; omega))
      intro w9 hw9
      go_wp2
      have hB9 : Below w.heap.size w w9 := by
        refine ext_trans ((hB8.setCell ?_ _).setCell ?_ _) ?_ hw9
        · dsimp only; omega
        · dsimp only; omega
        · have := hB8.size; simp; omega
      first
        | exact hB9
        | exact fin (HR.out _ hB9) rfl
  · go_wp2
    exact fin (HR.out _ (hB2.alloc hB2.size _)) (by simp)

end Go.Proofs.Ytgplhidnegbbpaa

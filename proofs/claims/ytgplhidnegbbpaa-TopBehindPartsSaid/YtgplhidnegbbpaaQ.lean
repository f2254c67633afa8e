/-
  slices.Grow and slices.Concat over strings.
-/
import Derived.Test.YtgplhidnegbbpaaH
import Derived.Lib.AppendZerosOnto
namespace Go.Proofs.Ytgplhidnegbbpaa
open Go.RowKit

/-- A new row of zero values, cut to nothing. -/
theorem own_zeros (w : World) (base : Nat) (e : TypeId) (cur : Array Value) (cap : Nat) (hb : base ≤ w.heap.size) (hc : cap ≤ maxLen) (hl : cur.size = cap) :
    (w.alloc (.cells cur e)).ownsRow base e 1 (.slice (some ⟨w.heap.size, 0, none⟩) 0 cap) 0 [] :=
  ⟨by simp, .inr ⟨w.heap.size, cap, cur, rfl, hb, heap_alloc_new w _, Nat.zero_le _, hc, by simp [hl], by simp⟩⟩

set_option maxRecDepth 20000 in
set_option maxHeartbeats 1600000 in
theorem c_growStr (m : Int) (n : Nat) (hm : m = n) (w : World) (hn : n ≤ 1000000) (R : Ending → World → Prop)
   (hR : ∀ v w', w'.ownsRow w.heap.size 9 1 v 0 [] → Below w.heap.size w w' → R (.returned v) w') :
    Calls Try.prog 71 #[.slice none 0 0, .int .i64 m] w R := by
  subst hm
  have HR := Lib.hid hR
  clear hR
  rcases Nat.eq_zero_or_pos n with h0 | h0
  · subst h0
    go_enter Try.func71, Try.ntmps71
    go_wp2
    exact fin (HR.out (.slice none 0 0) w (World.ownsRow_nil _ _ _ _) (Below.refl _ w)) rfl
  · have hI : (Try.prog.info? 9).map (fun i => (i.zero, i.size, i.bytes)) = some (some (.string ⟨#[]⟩), 1, 16) := by kernel_rfl
    obtain ⟨i, hi, hz'⟩ := Option.map_eq_some_iff.1 hI
    have hz : i.zero = some (.string ⟨#[]⟩) ∧ i.size = 1 ∧ i.bytes = 16 := by simpa using hz'
    have hap := Lib.run_append_grow_zeros (P := Try.prog) w 22 3 22 9 i (.string ⟨#[]⟩) .i64 .i64 Try.underlying22 Try.underlying3 hi hz.1 none 0 0 [] (run_firstCells_none w.drew _ 0 0 0) n h0 (by rw [hz.2.1]; omega) (by omega) (by omega)
      (by rw [hz.2.2]; omega) (by rw [hz.2.2]; exact growslice_fits (by omega) (by omega))
    have hg := grownCap_ge w (0 + n) 0 9
    have hg2 := grownCap_le_maxLen w (0 + n) 0 9 (by unfold maxLen; omega)
    obtain ⟨G, hG⟩ : ∃ G, grownCap w (0 + n) 0 9 = G := ⟨_, rfl⟩
    rw [hG] at hap hg hg2
    have hnn : ¬ ((n : Int) < 0) := by omega
    have hnp : (0 : Int) < n := by omega
    rw [Nat.zero_add] at hap hg
    go_enter Try.func71, Try.ntmps71
    go_wp2_with (at_builtin; refine Lib.wpList_append_run _ rfl _ _ _ _ rfl _ _ rfl rfl _ _ hap ?_)
    refine fin (HR.out (.slice (some ⟨w.heap.size, 0, none⟩) 0 G) _ ?_ ?_) rfl
    · exact own_zeros w.drew _ _ _ G (Nat.le_refl _) hg2 (by simp [Builtin.zeroCells, Value.cells]; omega)
    · exact (Below.refl _ w).drew.alloc (Nat.le_refl _) _

set_option maxRecDepth 20000 in
set_option maxHeartbeats 1600000 in
theorem c_concatStr (g : Nat) (A A' : Option Addr) (n n' c c' : Nat) (xs ys : List ByteArray) (w : World) (hn : n ≤ 400) (hn' : n' ≤ 400)
   (hg : Bk w g 22 #[.slice A n c, .slice A' n' c'])
   (hx : Rd w w.heap.size 1 A n (strs xs)) (hy : Rd w w.heap.size 1 A' n' (strs ys)) (R : Ending → World → Prop)
   (hR : ∀ A2 c2 w', w'.ownsRow w.heap.size 9 1 (.slice A2 (n + n') c2) (n + n') (strs (xs ++ ys)) → Below w.heap.size w w' → R (.returned (.slice A2 (n + n') c2)) w') :
    Calls Try.prog 33 #[.slice (some ⟨g, 0, none⟩) 2 2] w R := by
  have hI : (Try.prog.info? 9).map (fun i => (i.zero, i.size, i.bytes)) = some (some (.string ⟨#[]⟩), 1, 16) := by kernel_rfl
  obtain ⟨i, hi, hz'⟩ := Option.map_eq_some_iff.1 hI
  have hz : i.zero = some (.string ⟨#[]⟩) ∧ i.size = 1 ∧ i.bytes = 16 := by simpa using hz'
  have HR := Lib.hid hR
  have HI := Lib.hid hi
  have HZ := Lib.hid hz
  clear hR hi hz hz' hI
  obtain ⟨q0, q1⟩ := hg.two
  go_enter Try.func33, Try.ntmps33
  go_wp2
  refine wp_loop_rounds 3 ?_
  rw [rounds_succ]
  go_wp2
  rw [rounds_succ]
  go_wp2
  rw [rounds_succ]
  go_wp2_with fail
  refine c_growStr _ (n + n') (by omega) w (by omega) _ ?_
  intro v w1 ho1 hB1
  obtain ⟨A1, c1, rfl, _⟩ := own_form ho1
  have hg1 := hg.ext hB1
  clear q0 q1
  obtain ⟨q0, q1⟩ := hg1.two
  go_wp2
  refine wp_loop_rounds 3 ?_
  rw [rounds_succ]
  go_wp2_with (at_builtin; refine wpList_append_rd _ rfl (.tmp 31) (.tmp 32) _ rfl w.heap.size 9 i _ 1 16 Try.underlying22 HI.out HZ.out.1 HZ.out.2.1 HZ.out.2.2 rfl (by omega) (.slice A1 0 c1) 0 [] rfl ho1 w.heap.size A n c (strs xs) rfl (hx.below hB1) (strs_one _) (by simp only [maxLen]; omega) (by omega) hB1.size ?_; intro v2 w2 ho2 hg2 hat2)
  rw [Nat.zero_add, List.nil_append] at ho2
  have hB2 : Below w.heap.size w w2 := hB1.grown hg2 hB1.size (fun k hk => own_lo ho1 k hk)
  have hg2' := hg1.grown hg2 (fun e => by have := own_lo ho1 g e.symm; have := hg.lt; omega)
  obtain ⟨A2, c2, rfl, _⟩ := own_form ho2
  clear q0 q1
  obtain ⟨q0, q1⟩ := hg2'.two
  rw [rounds_succ]
  go_wp2_with (at_builtin; refine wpList_append_rd _ rfl (.tmp 31) (.tmp 32) _ rfl w.heap.size 9 i _ 1 16 Try.underlying22 HI.out HZ.out.1 HZ.out.2.1 HZ.out.2.2 rfl (by omega) (.slice A2 n c2) n (strs xs) rfl ho2 w.heap.size A' n' c' (strs ys) rfl (hy.below hB2) (strs_one _) (by simp only [maxLen]; omega) (by omega) hB2.size ?_; intro v3 w3 ho3 hg3 hat3)
  have hB3 : Below w.heap.size w w3 := hB2.grown hg3 hB2.size (fun k hk => own_lo ho2 k hk)
  obtain ⟨A3, c3, rfl, _⟩ := own_form ho3
  rw [show strs xs ++ strs ys = strs (xs ++ ys) by simp [strs]] at ho3
  rw [rounds_succ]
  go_wp2
  first
    | exact hB3
    | exact fin (HR.out A3 c3 w3 ho3 hB3) rfl

end Go.Proofs.Ytgplhidnegbbpaa

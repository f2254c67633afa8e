import Derived.Test.YtgplhidnegbbpaaK
import Derived.Test.YtgplhidnegbbpaaJ
namespace Go.Proofs.Ytgplhidnegbbpaa
open Go.RowKit

/-- tackroomtop.wPick. -/
def pick (x : Int) (n : Nat) : Nat := ((x % 18446744073709551616) % (n : Int)).toNat
theorem pick_lt (x : Int) (n : Nat) (hn : 0 < n) : pick x n < n := by
  unfold pick
  have h1 := Int.emod_nonneg (x % 18446744073709551616) (show (n : Int) ≠ 0 by omega)
  have h2 := Int.emod_lt_of_pos (x % 18446744073709551616) (show (0 : Int) < n by omega)
  omega

set_option maxHeartbeats 400000 in
theorem c_pick (x : Int) (n : Nat) (w : World) (hn : 0 < n) (hn2 : n ≤ 1000000) (R : Ending → World → Prop)
   (hR : R (.returned (.int .i64 (pick x n))) w) :
    Calls Try.prog 17 #[.int .i64 x, .int .i64 n] w R := by
  go_enter Try.func17, Try.ntmps17
  go_wp2
  refine fin hR ?_
  have hu : IntKind.u64.wrap x = x % 18446744073709551616 := by simp [IntKind.wrap, IntKind.bits, IntKind.signed]
  have h0 : 0 ≤ x % 18446744073709551616 := Int.emod_nonneg _ (by omega)
  have h1 := Int.emod_nonneg (x % 18446744073709551616) (show (n : Int) ≠ 0 by omega)
  have h2 := Int.emod_lt_of_pos (x % 18446744073709551616) (show (0 : Int) < n by omega)
  have e : wrap64 ((IntKind.u64.wrap x).tmod n) = ((pick x n : Nat) : Int) := by
    rw [hu, Int.tmod_eq_emod_of_nonneg h0, IntWalk.wrap64_in _ (by omega), pick, Int.toNat_of_nonneg h1]
  show Value.int .i64 _ = Value.int .i64 (wrap64 ((IntKind.u64.wrap x).tmod n))
  rw [e]

set_option maxHeartbeats 800000 in
theorem c_sameLog (b b' : Int) (A A' : Option Addr) (n n' c c' : Nat) (xs ys : List ByteArray) (w : World) (hn : n ≤ 9223372036854775807) (hn' : n' ≤ 9223372036854775807)
   (hx : Rd w w.heap.size 1 A n (strs xs)) (hy : Rd w w.heap.size 1 A' n' (strs ys)) (v : Bool) (hv : v = true ↔ (b = b' ∧ xs = ys)) (R : Ending → World → Prop)
   (hR : ∀ w', Below w.heap.size w w' → R (.returned (.bool v)) w') :
    Calls Try.prog 16 #[.agg #[.int .i64 b, .slice A n c], .agg #[.int .i64 b', .slice A' n' c']] w R := by
  have hx2 := (hx.alloc (.cells #[.int .i64 b, .slice A n c] 24)).alloc (.cells #[.int .i64 b', .slice A' n' c'] 24)
  have hy2 := (hy.alloc (.cells #[.int .i64 b, .slice A n c] 24)).alloc (.cells #[.int .i64 b', .slice A' n' c'] 24)
  have hB : Below w.heap.size w ((w.alloc (.cells #[.int .i64 b, .slice A n c] 24)).alloc (.cells #[.int .i64 b', .slice A' n' c'] 24)) := ((Below.refl _ w).alloc (Nat.le_refl _) _).alloc (by simp) _
  have HR := Lib.hid hR
  have HV := Lib.hid hv
  clear hR hv
  by_cases hbb : b = b'
  · subst hbb
    go_enter Try.func16, Try.ntmps16
    go_wp2_with (go_at_call 22; refine c_equalStr _ _ _ _ _ _ xs ys _ _ _ hn hn' hx2 hy2 v (by rw [HV.out]; simp) _ ?_; intro q)
    exact fin (HR.out _ (below_drewN hB q)) (by simp)
  · have hbb' : (b == b') = false := beq_eq_false_iff_ne.2 hbb
    go_enter Try.func16, Try.ntmps16
    go_wp2
    have : v = false := by
      cases hv : v
      · rfl
      · exact absurd (HV.out.1 hv).1 hbb
    exact fin (HR.out _ hB) (by rw [this] <;> rfl)

set_option maxRecDepth 20000 in
set_option maxHeartbeats 1600000 in
theorem c_encodeJoin (w : World) (R : Ending → World → Prop)
   (hR : ∀ w', Below w.heap.size w w' → R (.returned (.tuple #[.string ⟨#[1, 1]⟩, .int .i64 0])) w') :
    Calls Try.prog 59 #[.agg #[.int .i64 1, .int .i64 1, .int .i64 0, .int .i64 0, .int .i64 0, .int .i64 0, .string ⟨#[]⟩, .string ⟨#[]⟩, .int .i64 0]] w R := by
  go_enter Try.func59, Try.ntmps59
  go_wp2_with fail
  refine c_checkCommand ⟨1, 1, 0, 0, 0, ⟨0, ⟨#[]⟩, ⟨#[]⟩, 0⟩⟩ _ _ ?_
  intro w1 hw1
  have k0 := (Bk.new w _ _).ext hw1
  have c0 : w1.cell? ⟨w.heap.size, 0, none⟩ = some (.int .i64 1) := k0.cell 0
  have c1 : w1.cell? ⟨w.heap.size, 1, none⟩ = some (.int .i64 1) := k0.cell 1
  rw [show checkCommand ⟨1, 1, 0, 0, 0, ⟨0, ⟨#[]⟩, ⟨#[]⟩, 0⟩⟩ = 0 by decide +kernel]
  have hcv : (convert 134 9 (.slice (some ⟨w1.heap.size, 0, none⟩) 2 2)).run Try.prog (w1.alloc (.cells #[.int .u8 1, .int .u8 1] 5)) = .ok (.string ⟨#[1, 1]⟩) (w1.alloc (.cells #[.int .u8 1, .int .u8 1] 5)) :=
    run_convert_bytes_back (P := Try.prog) (w1.alloc (.cells #[.int .u8 1, .int .u8 1] 5)) 134 9 5 ⟨w1.heap.size, 0, none⟩ 2 [1, 1] Try.underlying134 Try.underlying5 Try.underlying9 (fun j hj => by
      have k := Bk.new w1 5 #[.int .u8 1, .int .u8 1]
      match j, hj with
      | 0, _ => exact k.cell 0
      | 1, _ => exact k.cell 1)
  have hB : Below w.heap.size w w1 := below_box (Below.refl _ w) (Nat.le_refl _) hw1
  have hl : w.heap.size < w1.heap.size := by have := hw1.size; simp at this; omega
  go_wp2
  first
    | exact hB.alloc hB.size _
    | exact fin (hR _ (hB.alloc hB.size _)) rfl


set_option maxRecDepth 20000 in
set_option maxHeartbeats 1600000 in
theorem c_logs (w : World) (R : Ending → World → Prop)
   (hR : ∀ w', Below w.heap.size w w' → R (.returned (.bool true)) w') :
    Calls Try.prog 14 #[] w R := by
  go_enter Try.func14, Try.ntmps14
  go_wp2_with fail
  refine c_encodeJoin _ _ ?_
  intro w1 hw1
  go_wp2_with fail
  have hp : logPut ⟨0, []⟩ 0 [⟨#[1, 1]⟩] = (⟨0, [⟨#[1, 1]⟩]⟩, 0) := by kernel_rfl
  refine c_put ⟨0, []⟩ none 0 0 (some ⟨w1.heap.size, 0, none⟩) 1 [⟨#[1, 1]⟩] _ (by simp) (by simp) (by simp) (Rd.nil _ _ _ _) ?_ _ ?_
  · exact (Rd.one (Bk.new w1 _ #[.string ⟨#[1, 1]⟩])).bound
  rw [hp]
  intro A' c' w2 hle ho hw2
  have hB2 : Below w.heap.size w w2 := ext_trans (hw1.alloc hw1.size _) (by simp; have := hw1.size; omega) hw2
  go_wp2_with fail
  refine c_last 0 _ _ _ _ (by omega) (by omega) (by simp) _ ?_
  intro w3 hw3
  go_wp2
  have hB3 := below_box hB2 hB2.size hw3
  first
    | exact hB3
    | exact fin (hR _ hB3) rfl

end Go.Proofs.Ytgplhidnegbbpaa

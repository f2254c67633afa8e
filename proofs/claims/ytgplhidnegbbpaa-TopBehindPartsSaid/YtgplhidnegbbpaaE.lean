import Derived.Test.YtgplhidnegbbpaaA
namespace Go.Proofs.Ytgplhidnegbbpaa
open Go.RowKit

set_option maxHeartbeats 1600000 in
theorem c_checkOp (o : Opn) (w : World) (R : Ending → World → Prop)
   (hR : ∀ w', Below w.heap.size w w' → R (.returned (.int .i64 (checkOp o))) w') :
    Calls Try.prog 112 #[.agg #[.int .i64 o.kind, .string o.a, .string o.b, .int .i64 o.n]] w R := by
  obtain ⟨ok, oa, ob, on⟩ := o
  dsimp only at hR ⊢
  have hb0 : Below w.heap.size w (w.alloc (.cells #[.int .i64 ok, .string oa, .string ob, .int .i64 on] 104)) := (Below.refl _ _).alloc (Nat.le_refl _) _
  go_enter Try.func112, Try.ntmps112
  go_wp2_with (go_at_call 48; refine c_name _ _ _ ?_; intro w1 hb1; obtain ⟨q0, q1, q2, q3⟩ := ((Bk.new w _ _).ext hb1).four; have hB1 := below_box (Below.refl _ w) (Nat.le_refl _) hb1)
  all_goals
    refine fin (hR _ (by assumption)) ?_
    refine congrArg (Value.int .i64) (?_ : checkOp _ = _)
    simp only [checkOp]
    (repeat' split) <;> first | rfl | (exfalso; simp_all; done) | (exfalso; simp_all; omega)


def Cm.cells (c : Cm) : Array Value := #[.int .i64 c.kind, .int .i64 c.client, .int .i64 c.session, .int .i64 c.seq, .int .i64 c.acked, .int .i64 c.op.kind, .string c.op.a, .string c.op.b, .int .i64 c.op.n]

set_option maxHeartbeats 1600000 in
theorem c_checkCommand (c : Cm) (w : World) (R : Ending → World → Prop)
   (hR : ∀ w', Below w.heap.size w w' → R (.returned (.int .i64 (checkCommand c))) w') :
    Calls Try.prog 93 #[.agg c.cells] w R := by
  obtain ⟨ck, cc, cs, cq, ca, ok, oa, ob, on⟩ := c
  unfold Cm.cells
  dsimp only at hR ⊢
  have hb0 : Below w.heap.size w (w.alloc (.cells #[.int .i64 ck, .int .i64 cc, .int .i64 cs, .int .i64 cq, .int .i64 ca, .int .i64 ok, .string oa, .string ob, .int .i64 on] 106)) := (Below.refl _ _).alloc (Nat.le_refl _) _
  by_cases h2 : ck = 2
  · subst h2
    go_enter Try.func93, Try.ntmps93
    go_wp2_with (go_at_call 112; refine c_checkOp ⟨ok, oa, ob, on⟩ _ _ ?_; intro w1 hb1; have hB1 := below_box (Below.refl _ w) (Nat.le_refl _) hb1)
    all_goals
      refine fin (hR _ (by first | assumption | exact (Below.refl _ _).alloc (Nat.le_refl _) _)) ?_
      refine congrArg (Value.int .i64) (?_ : checkCommand _ = _)
      simp only [checkCommand]
      (repeat' split) <;> first | rfl | (exfalso; simp_all; done) | (exfalso; simp_all; omega)
  · go_enter Try.func93, Try.ntmps93
    go_wp2
    all_goals
      refine fin (hR _ (by first | assumption | exact (Below.refl _ _).alloc (Nat.le_refl _) _)) ?_
      refine congrArg (Value.int .i64) (?_ : checkCommand _ = _)
      simp only [checkCommand]
      (repeat' split) <;> first | rfl | (exfalso; simp_all; done) | (exfalso; simp_all; omega)

end Go.Proofs.Ytgplhidnegbbpaa

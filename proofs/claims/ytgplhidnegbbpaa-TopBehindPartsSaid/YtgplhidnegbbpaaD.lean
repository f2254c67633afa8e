import Derived.Test.YtgplhidnegbbpaaA
import Derived.Laws.BitsAllLaws
namespace Go.Proofs.Ytgplhidnegbbpaa
open Go.RowKit

theorem ofInt_i64' (a : Nat) (ha : a < 9223372036854775808) : (BitVec.ofInt 64 (a : Int)).toNat = a := by
  rw [BitVec.ofInt_natCast, BitVec.toNat_ofNat]; exact Nat.mod_eq_of_lt (by omega)
theorem i64_or (a b : Nat) (ha : a < 9223372036854775808) (hb : b < 9223372036854775808) : bits .or .i64 (a : Int) (b : Int) = ((a ||| b : Nat) : Int) := by
  have hx : a ||| b < 2 ^ 63 := Nat.or_lt_two_pow (by omega) (by omega)
  show IntKind.i64.wrap ((BitVec.ofInt 64 (a : Int) ||| BitVec.ofInt 64 (b : Int)).toNat : Int) = _
  rw [BitVec.toNat_or, ofInt_i64' a ha, ofInt_i64' b hb, IntKind.wrap_i64]
  omega
theorem pow7_le {k : Nat} (hk : k < 6) : 2 ^ (7 * k) ≤ 34359738368 := by
  have : 2 ^ (7 * k) ≤ 2 ^ 35 := Nat.pow_le_pow_right (by omega) (by omega)
  simpa using this
theorem step_number (a x k : Nat) (hk : k < 6) (ha : a < 2 ^ (7 * k)) (hx : x < 256) :
    bits .or .i64 (a : Int) (wrap64 (wrap64 (bits .and .u8 (x : Int) 127) * 2 ^ (7 * k))) = ((a + x % 128 * 2 ^ (7 * k) : Nat) : Int) := by
  have hp := pow7_le hk
  have h1 : bits .and .u8 (x : Int) 127 = ((x % 128 : Nat) : Int) := by
    have := u8_and_nat x 127 hx (by omega)
    rw [nat_mask7] at this
    exact this
  have hm : x % 128 * 2 ^ (7 * k) ≤ 127 * 34359738368 := Nat.mul_le_mul (by omega) hp
  rw [h1, IntWalk.wrap64_in ((x % 128 : Nat) : Int) (by omega)]
  have h2 : ((x % 128 : Nat) : Int) * 2 ^ (7 * k) = ((x % 128 * 2 ^ (7 * k) : Nat) : Int) := by simp
  rw [h2, IntWalk.wrap64_in ((x % 128 * 2 ^ (7 * k) : Nat) : Int) (by omega), i64_or _ _ (by omega) (by omega)]
  congr 1
  rw [Nat.or_comm, nat_join (7 * k) _ _ (Nat.mul_mod_left _ _) ha, Nat.add_comm]
theorem next_number (a x k : Nat) (ha : a < 2 ^ (7 * k)) : a + x % 128 * 2 ^ (7 * k) < 2 ^ (7 * (k + 1)) := by
  have : 2 ^ (7 * (k + 1)) = 128 * 2 ^ (7 * k) := by rw [Nat.mul_add, Nat.pow_add]; omega
  rw [this]
  have h : x % 128 * 2 ^ (7 * k) ≤ 127 * 2 ^ (7 * k) := Nat.mul_le_mul_right _ (by omega)
  omega

theorem rdNum_step (s : ByteArray) (k a : Nat) (hk : k < 6) (hlt : k < s.size) : rdNum s (6 - k) k a =
    if 128 ≤ s[k].toNat then rdNum s (6 - (k + 1)) (k + 1) (a + s[k].toNat % 128 * 2 ^ (7 * k))
    else if (s[k].toNat = 0 ∧ 0 < k) ∨ 1099511627776 < a + s[k].toNat % 128 * 2 ^ (7 * k) then (0, ⟨#[]⟩, 4)
    else (a + s[k].toNat % 128 * 2 ^ (7 * k), s.extract (k + 1) s.size, 0) := by
  have : 6 - k = (6 - (k + 1)) + 1 := by omega
  rw [this, rdNum, dif_pos hlt]

set_option maxRecDepth 20000 in
set_option maxHeartbeats 1600000 in
theorem c_readNumber (s : ByteArray) (w : World) (R : Ending → World → Prop)
   (hR : ∀ k, R (.returned (.tuple #[.int .i64 (readNumber s).1, .string (readNumber s).2.1, .int .i64 (readNumber s).2.2])) (w.drewN k)) :
    Calls Try.prog 113 #[.string s] w R := by
  go_enter Try.func113, Try.ntmps113
  go_wp2
  go_loopw [5, 6] (fun n i wr => ∃ k a : Nat, k ≤ 6 ∧ i = .int .i64 k ∧ n = .int .i64 a ∧ k ≤ s.size ∧ wr = w ∧ Hid (a < 2 ^ (7 * k)) ∧ Hid (readNumber s = rdNum s (6 - k) k a)) (fun _ i _ => 6 - (intOf i).toNat)
  case atStart => exact ⟨0, 0, by omega, rfl, rfl, by omega, rfl, Lib.hid (by decide), rfl⟩
  case round =>
    obtain ⟨k, a, hk, rfl, rfl, hks, rfl, ha, hsp⟩ := hrel
    by_cases h6 : k < 6
    · by_cases hlt : k < s.size
      · have hstep := step_number a s[k].toNat k h6 ha.out (UInt8.toNat_lt _)
        have hne : ((k : Int) == (s.size : Int)) = false := beq_eq_false_iff_ne.2 (by omega)
        have HN := Lib.hid (next_number a s[k].toNat k ha.out)
        have HS := Lib.hid (rdNum_step s k a h6 hlt)
        generalize hm : a + s[k].toNat % 128 * 2 ^ (7 * k) = m at hstep HS HN
        clear hm
        by_cases hb : (128 : Int) ≤ (s[k].toNat : Int)
        · go_wp2
          go_round
          case rel => exact ⟨k + 1, m, by omega, by go_num, rfl, by omega, trivial, HN, Lib.hid (by rw [hsp.out, HS.out, if_pos (by omega)])⟩
          case measure => simp [intOf]; omega
        · cases hz : ((s[k].toNat : Int) == 0) <;> cases hk0 : decide (0 < k) <;> cases hmm : decide ((1099511627776 : Int) < (m : Int))
          all_goals
            go_wp2
            first
              | (go_ret3; exact fin (hR 0) (by rw [hsp.out, HS.out, if_neg (by omega), if_pos (by simp at hz hk0 hmm; omega)]; rfl))
              | (go_quiet (fail); go_wp2; go_ret3; exact fin (hR _) (by rw [hsp.out, HS.out, if_neg (by omega), if_neg (by simp at hz hk0 hmm; omega)]; rfl))
      · have hne : ((k : Int) == (s.size : Int)) = true := beq_iff_eq.2 (by omega)
        have e : rdNum s (6 - k) k a = (0, ⟨#[]⟩, 5) := by
          have : 6 - k = (6 - (k + 1)) + 1 := by omega
          rw [this, rdNum, dif_neg hlt]
        have HE := Lib.hid e
        clear e
        go_wp2
        go_ret3
        exact fin (hR 0) (by rw [hsp.out, HE.out]; rfl)
    · go_wp2
      go_ret3
      obtain rfl : k = 6 := by omega
      exact fin (hR 0) (by rw [hsp.out]; rfl)


set_option maxHeartbeats 800000 in
theorem c_readText (s : ByteArray) (w : World) (R : Ending → World → Prop)
   (hR : ∀ k, R (.returned (.tuple #[.string (readText s).1, .string (readText s).2.1, .int .i64 (readText s).2.2])) (w.drewN k)) :
    Calls Try.prog 114 #[.string s] w R := by
  have hrt : readText s = if (readNumber s).2.2 = 0 then
    if 5000 < (readNumber s).1 then (⟨#[]⟩, ⟨#[]⟩, 1)
    else if (readNumber s).2.1.size < (readNumber s).1 then (⟨#[]⟩, ⟨#[]⟩, 5)
    else ((readNumber s).2.1.extract 0 (readNumber s).1, (readNumber s).2.1.extract (readNumber s).1 (readNumber s).2.1.size, 0)
    else (⟨#[]⟩, ⟨#[]⟩, (readNumber s).2.2) := rfl
  go_enter Try.func114, Try.ntmps114
  go_wp2_with fail
  refine c_readNumber s w _ ?_
  intro q
  generalize readNumber s = r at hrt
  obtain ⟨n, t, e⟩ := r
  dsimp only at hrt
  have HR := Lib.hid hrt
  clear hrt
  by_cases he : e = 0
  · subst he
    by_cases h1 : (5000 : Int) < (n : Int)
    · go_wp2
      go_ret3
      exact fin (hR q) (by rw [HR.out, if_pos trivial, if_pos (by omega)]; rfl)
    · by_cases h2 : (t.size : Int) < (n : Int)
      · go_wp2
        go_ret3
        exact fin (hR q) (by rw [HR.out, if_pos trivial, if_neg (by omega), if_pos (by omega)]; rfl)
      · go_wp2
        go_quiet (fail)
        go_wp2
        go_ret3
        rw [World.drewN_drewN]
        refine fin (hR _) ?_
        rw [HR.out, if_pos trivial, if_neg (by omega), if_neg (by omega)]; rfl
  · go_wp2
    go_ret3
    exact fin (hR q) (by rw [HR.out, if_neg he]; rfl)

end Go.Proofs.Ytgplhidnegbbpaa

/-
  Walks: entries behind an index, told in parts and one by one.
-/
import Derived.Test.YtgplhidnegbbpaaL
import Derived.Test.YtgplhidnegbbpaaQ
import Derived.Test.YtgplhidnegbbpaaLawB
import Derived.Test.YtgplhidnegbbpaaTwo
namespace Go.Proofs.Ytgplhidnegbbpaa
open Go.RowKit

theorem wf_i64 {n : Int} (h : (Lit.int .i64 n).wf = true) : -9223372036854775808 ≤ n ∧ n ≤ 9223372036854775807 := by
  simp only [Lit.wf, IntKind.min, IntKind.max, IntKind.signed, IntKind.bits, Bool.and_eq_true, decide_eq_true_eq] at h
  simpa using h

theorem behind_len (l : Lg) (ix mn : Int) : (logBehind l ix mn).1.length ≤ l.entries.length := by
  unfold logBehind
  split
  · split
    · simp
    · split
      · simp
      · simp; omega
  · simp

set_option maxRecDepth 20000 in
set_option maxHeartbeats 4000000 in
theorem c_topBehindParts (l : Lg) (A : Option Addr) (c : Nat) (ix mn mr : Int) (w : World) (hix : (Lit.int .i64 ix).wf = true)
    (hn : l.entries.length ≤ 9223372036854775807) (hc : l.entries.length ≤ c)
    (h : Rd w w.heap.size 1 A l.entries.length (strs l.entries)) (R : Ending → World → Prop)
   (hR : ∀ w', Below w.heap.size w w' → R (.returned (.bool true)) w') :
    Calls Try.prog 8 #[.agg #[.int .i64 l.base, .slice A l.entries.length c], .int .i64 ix, .int .i64 mn, .int .i64 mr] w R := by
  obtain ⟨hi0, hi1⟩ := wf_i64 hix
  have HR := Lib.hid hR
  clear hR hix
  go_enter Try.func8, Try.ntmps8
  go_wp2_with fail
  refine c_logs _ _ ?_
  intro w1 hw1
  have hB1 := below_box (Below.refl _ w) (Nat.le_refl _) hw1
  have k1 := (Bk.new w _ _).ext hw1
  have hl1 : w.heap.size < w1.heap.size := k1.lt
  clear hw1
  obtain ⟨q0, q1⟩ := k1.two
  go_wp2_with fail
  refine c_pick mn 20 _ (by omega) (by omega) _ ?_
  obtain ⟨m1, hd⟩ : ∃ d, pick mn 20 = d := ⟨_, rfl⟩
  have hm1 : m1 < 20 := by rw [← hd]; exact pick_lt _ _ (by omega)
  rw [hd]
  clear hd
  go_wp2_with fail
  refine c_pick mr 20 _ (by omega) (by omega) _ ?_
  obtain ⟨m2, hd⟩ : ∃ d, pick mr 20 = d := ⟨_, rfl⟩
  have hm2 : m2 < 20 := by rw [← hd]; exact pick_lt _ _ (by omega)
  rw [hd]
  clear hd
  go_wp2_with fail
  refine c_behind l A c ix (m1 + m2 : Nat) _ hn hc (h.below hB1).bound _ ?_
  intro A2 c2 w2 hle2 ho2 hw2
  have hbl : (logBehind l ix (m1 + m2 : Nat)).1.length ≤ m1 + m2 := by
    by_cases he : (logBehind l ix (m1 + m2 : Nat)).2 = 0
    · obtain ⟨h0, h1⟩ := behind_ok he
      rw [behind_eq _ h0 h1]; simp; omega
    · rw [behind_err he]; simp
  have k2 := k1.ext hw2
  have hB2 := ext_trans hB1 hB1.size hw2
  clear q0 q1 hw2
  obtain ⟨q0, q1⟩ := k2.two
  by_cases he : (logBehind l ix (m1 + m2 : Nat)).2 = 0
  rotate_left
  · rw [behind_err he] at *
    generalize (logBehind l ix (m1 + m2 : Nat)).2 = e at *
    go_wp2
    exact fin (HR.out _ hB2) (by simp)
  obtain ⟨p1, p2, p3⟩ := behind_parts he
  have pat := fun i hi => (behind_at he i hi).1
  obtain ⟨h0, h1⟩ := behind_ok he
  obtain ⟨hb0, hb1, hb2⟩ := logCheck_ok h0
  have pbound : ix + ((logBehind l ix m1).1.length : Nat) ≤ 9223372036854775807 := by
    rcases Nat.eq_zero_or_pos (logBehind l ix m1).1.length with hz | hz
    · rw [hz]; omega
    · have := (behind_at p1 0 hz).2
      have := behind_len l ix m1
      omega
  have pbound2 : ∀ i, i < (logBehind l ix (m1 + m2 : Nat)).1.length → ix ≤ 1073741824 := fun i hi => by have := (behind_at he i hi).2; omega
  have pl1 := behind_len l ix m1
  have pl2 := behind_len l (ix + ((logBehind l ix m1).1.length : Nat)) m2
  obtain ⟨es, hes⟩ : ∃ es, (logBehind l ix ((m1 + m2 : Nat) : Int)).1 = es := ⟨_, rfl⟩
  rw [hes] at ho2 hle2 hbl p3 pat pbound2
  rw [hes, he]
  obtain ⟨bs, hbs⟩ : ∃ bs, (logBehind l ix (m1 : Int)).1 = bs := ⟨_, rfl⟩
  have hE1 : logBehind l ix (m1 : Int) = (bs, 0) := Prod.ext hbs p1
  rw [hbs] at p2 p3 pbound pl1 pl2
  obtain ⟨cs, hcs⟩ : ∃ cs, (logBehind l (ix + (bs.length : Nat)) (m2 : Int)).1 = cs := ⟨_, rfl⟩
  have hE2 : logBehind l (ix + (bs.length : Nat)) (m2 : Int) = (cs, 0) := Prod.ext hcs p2
  rw [hcs] at p3 pl2
  have H1 := Lib.hid hE1
  have H2 := Lib.hid hE2
  have H3 := Lib.hid p3
  have H4 := Lib.hid pat
  have H5 := Lib.hid pbound2
  clear he p1 p2 p3 pat pbound2 hes hbs hcs hE1 hE2
  go_wp2_with fail
  refine c_behind l A c ix m1 _ hn hc (h.below hB2).bound _ ?_
  rw [H1.out]
  intro A3 c3 w3 hle3 ho3 hw3
  dsimp only at hle3 ho3 ⊢
  have k3 := k2.ext hw3
  have hB3 := ext_trans hB2 hB2.size hw3
  have r3 := (Rd.of_own ho2).ext hw3
  clear q0 q1 hw3
  obtain ⟨q0, q1⟩ := k3.two
  go_wp2_with fail
  refine c_behind l A c (ix + (bs.length : Nat)) m2 _ hn hc (h.below hB3).bound _ ?_
  rw [H2.out]
  intro A4 c4 w4 hle4 ho4 hw4
  dsimp only at hle4 ho4 ⊢
  have k4 := k3.ext hw4
  have hB4 := ext_trans hB3 hB3.size hw4
  have r4 := r3.ext hw4
  have s4 := (Rd.of_own ho3).ext hw4
  have t4 := Rd.of_own ho4
  clear q0 q1 hw4
  obtain ⟨A5, c5, ds, hds, t5, hdl⟩ : ∃ A5 c5 ds, (if bs.length < m1 then Value.slice none 0 0 else .slice A4 cs.length c4) = .slice A5 ds.length c5 ∧ Rd w4 w4.heap.size 1 A5 ds.length (strs ds) ∧ (es = bs ++ ds ∧ ds.length ≤ 400) := by
    have := H3.out
    split
    · rename_i h7; rw [if_pos h7] at this; exact ⟨none, 0, [], rfl, Rd.nil _ _ _ _, this, by simp⟩
    · rename_i h7; rw [if_neg h7] at this; exact ⟨A4, c4, cs, rfl, t4, this, by omega⟩
  obtain ⟨hdl, hd4⟩ := hdl
  have HD := Lib.hid hdl
  clear hdl H3
  by_cases hlt : bs.length < m1
  case' pos =>
    rw [if_pos hlt] at hds
    go_wp2_with fail
    rw [hds]
  case' neg =>
    rw [if_neg hlt] at hds
    go_wp2_with fail
    rw [hds]
  all_goals
    clear hds
    have hbl3 : bs.length ≤ 400 := by omega
    have k4' := k4.alloc (.cells #[.slice A3 bs.length c3, .slice A5 ds.length c5] 22)
    have kg := Bk.new w4 22 #[.slice A3 bs.length c3, .slice A5 ds.length c5]
    refine c_concatStr w4.heap.size A3 A5 bs.length ds.length c3 c5 bs ds _ hbl3 hd4 kg (s4.alloc _).bound (t5.alloc _).bound _ ?_
    intro A6 c6 w6 ho6 hw6
    have k6 := k4'.ext hw6
    have r6 := (r4.alloc _).ext hw6
    have hB6 := below_box hB4 hB4.size hw6
    have u6 := Rd.of_own ho6
    clear hw6
    go_wp2_with fail
    refine c_equalStr _ _ _ _ _ _ es (bs ++ ds) _ _ _ (by omega) (by omega) r6.bound u6.bound true (by simp [HD.out]) _ ?_
    intro q
    have k7 := k6.drewN q
    have r7 := r6.drewN q
    have hB7 := below_drewN hB6 q
    generalize w6.drewN q = w7 at k7 r7 hB7 ⊢
    obtain ⟨q0, q1⟩ := k7.two
    clear k6 r6 hB6 u6 ho6 ho2 ho3 ho4 t4 s4 t5 r4 kg k4' k4 r3 k3 k2 hle2 hle3 hle4 hB2 hB3 hB4 H1 H2 HD
    go_wp2
    go_loopw [71] (fun i wr => ∃ k : Nat, k ≤ es.length ∧ i = .int .i64 k ∧ Below w7.heap.size w7 wr) (fun i _ => es.length - (intOf i).toNat)
    case atStart => exact ⟨0, Nat.zero_le _, rfl, Below.refl _ _⟩
    case round =>
      obtain ⟨k, hk, rfl, hB⟩ := hrel
      by_cases hlt : k < es.length
      · obtain ⟨b, o, hA2, hc⟩ := (r7.ext hB).str hlt
        generalize hs : es.getD k ByteArray.empty = s at hc
        have HS := Lib.hid hs
        clear hs
        have hix2 := H5.out k hlt
        have k8 := k7.ext hB
        obtain ⟨s0, s1⟩ := k8.two
        have hB8 := ext_trans hB7 hB7.size hB
        subst hA2
        go_wp2_with fail
        refine c_at l A c (ix + 1 + k) _ hn (h.below hB8).bound _ ?_
        rw [show logAt l (ix + 1 + k) = (s, 0) from (H4.out k hlt).trans (by rw [← HS.out]; rfl)]
        intro w9 hw9
        go_wp2
        go_roundw
        case rel => exact ⟨k + 1, by omega, by go_num, ext_trans hB hB.size hw9⟩
        case measure => simp [intOf]; omega
      · go_wp2
        exact fin (HR.out _ (ext_trans hB7 hB7.size hB)) (by simp)

end Go.Proofs.Ytgplhidnegbbpaa

import Derived.Test.YtgplhidnegbbpaaI
import Derived.Test.YtgplhidnegbbpaaSpecL
namespace Go.Proofs.Ytgplhidnegbbpaa
open Go.RowKit

set_option maxRecDepth 20000 in
set_option maxHeartbeats 4000000 in
theorem c_cut (l : Lg) (A : Option Addr) (c : Nat) (ix : Int) (w : World)
    (hn : l.entries.length ≤ 9223372036854775807) (hc : l.entries.length ≤ c) 
    (h : Rd w w.heap.size 1 A l.entries.length (strs l.entries)) (R : Ending → World → Prop)
   (hR : ∀ A' c' w', (logCut l ix).1.entries.length ≤ c' → w'.ownsRow w.heap.size 9 1 (.slice A' (logCut l ix).1.entries.length c') (logCut l ix).1.entries.length (strs (logCut l ix).1.entries) →
      Below w.heap.size w w' → R (.returned (.tuple #[.agg #[.int .i64 (logCut l ix).1.base, .slice A' (logCut l ix).1.entries.length c'], .int .i64 (logCut l ix).2])) w') :
    Calls Try.prog 19 #[.agg #[.int .i64 l.base, .slice A l.entries.length c], .int .i64 ix] w R := by
  have hput : logCut l ix = if logCheck l = 0 then
    if ix < l.base ∨ l.base + l.entries.length < ix then (noLog, 2)
    else if 1073741424 < ix then (noLog, 8)
    else (⟨ix, l.entries.drop (ix - l.base).toNat⟩, 0)
    else (noLog, logCheck l) := rfl
  generalize logCut l ix = p at hput hR
  have hx := ((h.alloc (.cells #[.int .i64 l.base, .slice A l.entries.length c] 24)).alloc (.cells #[.int .i64 0, .slice none 0 0] 24)).bound
  have hexit : ∀ (e : Int) (a : Act) (W : World), p = (noLog, e) → a.defers = [] → a.tmps.getD 4 undef = .pointer (some ⟨w.heap.size + 1, 0, none⟩) → a.tmps.getD 5 undef = .int .i64 e →
      Bk W (w.heap.size + 1) 24 #[.int .i64 0, .slice none 0 0] → Below w.heap.size w W → bodyPost Try.prog Try.f19 R .ret a W := by
    intro e a W hp hdf ha6 ha7 hk hB
    subst hp
    refine ret_ct rfl ha6 hk Try.underlying24 rfl infoLog hdf ?_
    rw [ha7]
    exact hR none 0 W (Nat.le_refl _) (World.ownsRow_nil _ _ _ _) hB
  have HE := Lib.hid hexit
  clear hexit
  have HP := Lib.hid hput
  clear hput
  go_enter Try.func19, Try.ntmps19
  go_wp2_with fail
  refine c_logCheck l A c _ hn hx _ ?_
  intro w1 hw1
  have hB1 : Below w.heap.size w w1 := ext_trans (((Below.refl _ w).alloc (Nat.le_refl _) _).alloc (by simp) _) (by simp; omega) hw1
  have k0 := ((Bk.new w _ _).alloc _).ext hw1
  have k1 := (Bk.new2 w _ _ _).ext hw1
  obtain ⟨q0, q1⟩ := k0.two
  obtain ⟨r0, r1⟩ := k1.two
  have z0 := k1.frozen 0
  have z1 := k1.frozen 1
  have hs1 : w.heap.size + 2 ≤ w1.heap.size := by have := hw1.size; simp at this; omega
  clear hw1 hx
  by_cases hck : logCheck l = 0
  rotate_left
  · have hpe := HP.out
    rw [if_neg hck] at hpe
    have HQ := Lib.hid hpe
    clear hpe HP
    generalize logCheck l = e at hck HQ ⊢
    go_wp2
    refine HE.out _ _ _ HQ.out rfl rfl rfl ?_ ?_
    · apply Bk.cast
      · repeat (with_reducible first | exact k1 | apply Bk.set)
      · rfl
    · repeat (with_reducible first | exact hB1 | exact Nat.le_succ _ | apply Below.setCell)
  obtain ⟨hb0, hb1, hb2⟩ := logCheck_ok hck
  have hpe := HP.out
  rw [if_pos hck] at hpe
  have HP1 := Lib.hid hpe
  clear HP hpe
  have HCK := Lib.hid hck
  rw [hck]
  clear hck
  by_cases hlo : ix < l.base
  · have HQ : Hid (p = (noLog, 2)) := by
      have := HP1.out
      rw [if_pos (Or.inl hlo)] at this
      exact Lib.hid this
    clear HP1
    go_wp2
    refine HE.out _ _ _ HQ.out rfl rfl rfl ?_ ?_
    · apply Bk.cast
      · repeat (with_reducible first | exact k1 | apply Bk.set)
      · rfl
    · repeat (with_reducible first | exact hB1 | exact Nat.le_succ _ | apply Below.setCell)
  go_wp2_with fail
  refine c_last _ _ _ _ _ hb0 hb1 (by omega) _ ?_
  intro w2 hw2
  have hB2 : Below w.heap.size w w2 := ext_trans hB1 hB1.size hw2
  have k02 := k0.ext hw2
  have k12 := k1.ext hw2
  obtain ⟨q02, q12⟩ := k02.two
  obtain ⟨r02, r12⟩ := k12.two
  have z02 := k12.frozen 0
  have z12 := k12.frozen 1
  have hs2 : w.heap.size + 2 ≤ w2.heap.size := by have := hw2.size; omega
  clear hw2 k0 k1 q0 q1 r0 r1 z0 z1 hs1 hB1
  by_cases hhi : l.base + (l.entries.length : Int) < ix
  · have HQ : Hid (p = (noLog, 2)) := by
      have := HP1.out
      rw [if_pos (Or.inr hhi)] at this
      exact Lib.hid this
    clear HP1
    go_wp2
    refine HE.out _ _ _ HQ.out rfl rfl rfl ?_ ?_
    · apply Bk.cast
      · repeat (with_reducible first | exact k12 | apply Bk.set)
      · rfl
    · repeat (with_reducible first | exact hB2 | exact Nat.le_succ _ | apply Below.setCell)
  have hpe := HP1.out
  rw [if_neg (by omega)] at hpe
  by_cases hbig : (1073741424 : Int) < ix
  · have HQ : Hid (p = (noLog, 8)) := by
      rw [if_pos hbig] at hpe
      exact Lib.hid hpe
    clear HP1 hpe
    go_wp2
    refine HE.out _ _ _ HQ.out rfl rfl rfl ?_ ?_
    · apply Bk.cast
      · repeat (with_reducible first | exact k12 | apply Bk.set)
      · rfl
    · repeat (with_reducible first | exact hB2 | exact Nat.le_succ _ | apply Below.setCell)
  rw [if_neg hbig] at hpe
  subst hpe
  obtain ⟨d, hd⟩ : ∃ d : Nat, ix - l.base = d := ⟨(ix - l.base).toNat, by omega⟩
  have hdm : d ≤ l.entries.length := by omega
  have hdd : (ix - l.base).toNat = d := by omega
  rw [hdd] at hR
  obtain ⟨A3, hA3⟩ : ∃ A3, (if c = d then A else A.map (·.add (d * 1))) = A3 := ⟨_, rfl⟩
  have hr3 := ((h.below hB2).drop (cap := c) hdm hc)
  rw [hA3] at hr3
  have hi3 : (strs l.entries).drop (d * 1) = strs (l.entries.drop d) := by simp [strs]
  rw [hi3] at hr3
  have hsl := slice_from (P := Try.prog) 22 9 1 Try.underlying22 (by kernel_rfl) A l.entries.length c d hdm
  rw [hA3] at hsl
  have hlen : (l.entries.drop d).length = l.entries.length - d := by simp
  dsimp only at hR
  rw [hlen] at hR
  clear hA3 hi3 hlen hdd HP1
  have hbd : ix ≤ 1073741424 := by omega
  clear hbig hhi hlo
  go_wp2_with fail
  refine c_cloneStr A3 _ _ (l.entries.drop d) _ _ (by omega) hr3 _ ?_
  intro A' c' w3 hle ho hw3
  have hB3 := ext_trans hB2 hB2.size hw3
  have k13 := k12.ext hw3
  obtain ⟨r03, r13⟩ := k13.two
  have z03 := k13.frozen 0
  have z13 := k13.frozen 1
  go_wp2
  apply ret_ct
  case h => rfl
  case hp => rfl
  case hg => repeat (with_reducible first | exact k13 | apply Bk.set | apply Bk.alloc)
  case hu => exact Try.underlying24
  case hd => rfl
  case hi => simpa using infoLog
  case hdf => rfl
  case hR =>
    refine fin (hR A' c' _ hle ?_ ?_) (by simp)
    · refine own_less ?_ hB2.size
      exact own_set_bk (own_set_bk ho k13 (by decide) 0 _) (k13.set 0 _) (by decide) 1 _
    · repeat (with_reducible first | exact hB3 | exact Nat.le_succ _ | apply Below.setCell)

set_option maxRecDepth 20000 in
set_option maxHeartbeats 4000000 in
theorem c_at (l : Lg) (A : Option Addr) (c : Nat) (ix : Int) (w : World)
    (hn : l.entries.length ≤ 9223372036854775807)
    (h : Rd w w.heap.size 1 A l.entries.length (strs l.entries)) (R : Ending → World → Prop)
   (hR : ∀ w', Below w.heap.size w w' → R (.returned (.tuple #[.string (logAt l ix).1, .int .i64 (logAt l ix).2])) w') :
    Calls Try.prog 20 #[.agg #[.int .i64 l.base, .slice A l.entries.length c], .int .i64 ix] w R := by
  have hput : logAt l ix = if logCheck l = 0 then
    if ix ≤ l.base ∨ l.base + l.entries.length < ix then (⟨#[]⟩, 6)
    else (l.entries.getD (ix - l.base - 1).toNat ⟨#[]⟩, 0)
    else (⟨#[]⟩, logCheck l) := rfl
  generalize logAt l ix = p at hput hR
  have hx := (h.alloc (.cells #[.int .i64 l.base, .slice A l.entries.length c] 24)).bound
  have HP := Lib.hid hput
  clear hput
  go_enter Try.func20, Try.ntmps20
  go_wp2_with fail
  refine c_logCheck l A c _ hn hx _ ?_
  intro w1 hw1
  have hB1 : Below w.heap.size w w1 := ext_trans ((Below.refl _ w).alloc (Nat.le_refl _) _) (by simp) hw1
  have k0 := (Bk.new w _ _).ext hw1
  obtain ⟨q0, q1⟩ := k0.two
  clear hx
  by_cases hck : logCheck l = 0
  rotate_left
  · have hpe := HP.out
    rw [if_neg hck] at hpe
    subst hpe
    clear HP
    generalize logCheck l = e at hck hR ⊢
    go_wp2
    first | exact hB1 | exact fin (hR _ hB1) rfl
  obtain ⟨hb0, hb1, hb2⟩ := logCheck_ok hck
  have hpe := HP.out
  rw [if_pos hck] at hpe
  have HP1 := Lib.hid hpe
  clear HP hpe
  have HCK := Lib.hid hck
  rw [hck]
  clear hck
  by_cases hlo : ix ≤ l.base
  · have hpe := HP1.out
    rw [if_pos (Or.inl hlo)] at hpe
    subst hpe
    clear HP1
    go_wp2
    first | exact hB1 | exact fin (hR _ hB1) rfl
  go_wp2_with fail
  refine c_last _ _ _ _ _ hb0 hb1 (by omega) _ ?_
  intro w2 hw2
  have hB2 : Below w.heap.size w w2 := ext_trans hB1 hB1.size hw2
  have k02 := k0.ext hw2
  obtain ⟨q02, q12⟩ := k02.two
  by_cases hhi : l.base + (l.entries.length : Int) < ix
  · have hpe := HP1.out
    rw [if_pos (Or.inr hhi)] at hpe
    subst hpe
    clear HP1
    go_wp2
    first | exact hB2 | exact fin (hR _ hB2) rfl
  have hpe := HP1.out
  rw [if_neg (by omega)] at hpe
  obtain ⟨d, hd⟩ : ∃ d : Nat, ix - l.base - 1 = d := ⟨(ix - l.base - 1).toNat, by omega⟩
  have hdm : d < l.entries.length := by omega
  rw [show (ix - l.base - 1).toNat = d by omega] at hpe
  subst hpe
  obtain ⟨b, o, rfl, hc2⟩ := (h.below hB2).str hdm
  clear HP1
  go_wp2
  first | exact hB2 | exact fin (hR _ hB2) (by simp [List.getD_eq_getElem?_getD, hdm])

theorem take_min (l : List ByteArray) (n : Nat) : l.take (min n l.length) = l.take n := by
  rcases Nat.le_total n l.length with h | h
  · rw [Nat.min_eq_left h]
  · rw [Nat.min_eq_right h, List.take_of_length_le (Nat.le_refl _), List.take_of_length_le h]

set_option maxRecDepth 20000 in
set_option maxHeartbeats 4000000 in
theorem c_behind (l : Lg) (A : Option Addr) (c : Nat) (ix mn : Int) (w : World)
    (hn : l.entries.length ≤ 9223372036854775807) (hc : l.entries.length ≤ c) 
    (h : Rd w w.heap.size 1 A l.entries.length (strs l.entries)) (R : Ending → World → Prop)
   (hR : ∀ A' c' w', (logBehind l ix mn).1.length ≤ c' → w'.ownsRow w.heap.size 9 1 (.slice A' (logBehind l ix mn).1.length c') (logBehind l ix mn).1.length (strs (logBehind l ix mn).1) → Below w.heap.size w w' → R (.returned (.tuple #[.slice A' (logBehind l ix mn).1.length c', .int .i64 (logBehind l ix mn).2])) w') :
    Calls Try.prog 21 #[.agg #[.int .i64 l.base, .slice A l.entries.length c], .int .i64 ix, .int .i64 mn] w R := by
  have hput : logBehind l ix mn = if logCheck l = 0 then
    if ix < l.base ∨ mn < 0 then ([], 2)
    else if l.base + l.entries.length ≤ ix then ([], 0)
    else ((l.entries.drop (ix - l.base).toNat).take mn.toNat, 0)
    else ([], logCheck l) := rfl
  generalize logBehind l ix mn = p at hput hR
  have hexit : ∀ (e : Int) (W : World), p = ([], e) → Below w.heap.size w W → R (.returned (.tuple #[.slice none 0 0, .int .i64 e])) W := by
    intro e W hp hB
    subst hp
    exact hR none 0 W (Nat.le_refl _) (World.ownsRow_nil _ _ _ _) hB
  have HE := Lib.hid hexit
  clear hexit
  have hx := (h.alloc (.cells #[.int .i64 l.base, .slice A l.entries.length c] 24)).bound
  have HP := Lib.hid hput
  clear hput
  go_enter Try.func21, Try.ntmps21
  go_wp2_with fail
  refine c_logCheck l A c _ hn hx _ ?_
  intro w1 hw1
  have hB1 : Below w.heap.size w w1 := ext_trans ((Below.refl _ w).alloc (Nat.le_refl _) _) (by simp) hw1
  have k0 := (Bk.new w _ _).ext hw1
  obtain ⟨q0, q1⟩ := k0.two
  clear hx
  by_cases hck : logCheck l = 0
  rotate_left
  · have hpe := HP.out
    rw [if_neg hck] at hpe
    have HQ := Lib.hid hpe
    clear HP hpe
    generalize logCheck l = e at hck HQ ⊢
    go_wp2
    exact fin (HE.out _ _ HQ.out hB1) rfl
  obtain ⟨hb0, hb1, hb2⟩ := logCheck_ok hck
  have hpe := HP.out
  rw [if_pos hck] at hpe
  have HP1 := Lib.hid hpe
  clear HP hpe
  have HCK := Lib.hid hck
  rw [hck]
  clear hck
  by_cases hlo : ix < l.base
  · have hpe := HP1.out
    rw [if_pos (Or.inl hlo)] at hpe
    have HQ := Lib.hid hpe
    clear HP1 hpe
    go_wp2
    exact fin (HE.out _ _ HQ.out hB1) rfl
  by_cases hmn : mn < 0
  · have hpe := HP1.out
    rw [if_pos (Or.inr hmn)] at hpe
    have HQ := Lib.hid hpe
    clear HP1 hpe
    go_wp2
    exact fin (HE.out _ _ HQ.out hB1) rfl
  have hpe := HP1.out
  rw [if_neg (by omega)] at hpe
  have HP2 := Lib.hid hpe
  clear HP1 hpe
  go_wp2_with fail
  refine c_last _ _ _ _ _ hb0 hb1 (by omega) _ ?_
  intro w2 hw2
  have hB2 : Below w.heap.size w w2 := ext_trans hB1 hB1.size hw2
  have k02 := k0.ext hw2
  obtain ⟨q02, q12⟩ := k02.two
  by_cases hhi : l.base + (l.entries.length : Int) ≤ ix
  · have hpe := HP2.out
    rw [if_pos hhi] at hpe
    have HQ := Lib.hid hpe
    clear HP2 hpe
    go_wp2
    exact fin (HE.out _ _ HQ.out hB2) rfl
  have hpe := HP2.out
  rw [if_neg hhi] at hpe
  obtain ⟨d, hd⟩ : ∃ d : Nat, ix - l.base = d := ⟨(ix - l.base).toNat, by omega⟩
  have hdm : d ≤ l.entries.length := by omega
  rw [show (ix - l.base).toNat = d by omega] at hpe
  obtain ⟨m, rfl⟩ : ∃ m : Nat, mn = m := ⟨mn.toNat, by omega⟩
  rw [Int.toNat_natCast] at hpe
  obtain ⟨A3, hA3⟩ : ∃ A3, (if c = d then A else A.map (·.add (d * 1))) = A3 := ⟨_, rfl⟩
  have hr3 := ((h.below hB2).drop (cap := c) hdm hc)
  rw [hA3] at hr3
  have hi3 : (strs l.entries).drop (d * 1) = strs (l.entries.drop d) := by simp [strs]
  rw [hi3] at hr3
  have hsl := slice_from (P := Try.prog) 22 9 1 Try.underlying22 (by kernel_rfl) A l.entries.length c d hdm
  rw [hA3] at hsl
  obtain ⟨q, hq⟩ : ∃ q, min m (l.entries.length - d) = q := ⟨_, rfl⟩
  have hql : q ≤ l.entries.length - d := by omega
  have hr4 := hr3.take hql
  have hi4 : (strs (l.entries.drop d)).take (q * 1) = strs ((l.entries.drop d).take q) := by simp [strs, List.map_take]
  rw [hi4] at hr4
  have hmin : (if l.entries.length - d < m then ((l.entries.length - d : Nat) : Int) else (m : Int)) = (q : Int) := by split <;> omega
  have hpq : p = ((l.entries.drop d).take q, 0) := by
    rw [hpe, ← hq]
    have := take_min (l.entries.drop d) m
    rw [List.length_drop] at this
    rw [this]
  subst hpq
  have hl4 : ((l.entries.drop d).take q).length = q := by simp; omega
  dsimp only at hR
  rw [hl4] at hR
  have hqc : (q : Int) ≤ ((c - d : Nat) : Int) := by omega
  clear hA3 hi3 hi4 hl4 HP2 hq hpe HE
  go_wp2_with fail
  refine c_cloneStr A3 _ _ ((l.entries.drop d).take q) _ _ (by omega) hr4 _ ?_
  intro A' c' w3 hle ho hw3
  have hB3 := ext_trans hB2 hB2.size hw3
  go_wp2
  exact fin (hR A' c' _ hle (own_less ho hB2.size) hB3) rfl

end Go.Proofs.Ytgplhidnegbbpaa

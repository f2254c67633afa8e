import Derived.Test.YtgplhidnegbbpaaH
import Derived.Deep.RegionWith
namespace Go.Proofs.Ytgplhidnegbbpaa
open Go.RowKit

theorem logCheck_at {l : Lg} {n k : Nat} {e : Int} (hn : l.entries.length = n) (hb : 0 ≤ l.base ∧ l.base ≤ 1073741424) (h4 : (n : Int) ≤ 400)
    (h : (List.range k).all (fun i => (decode (l.entries.getD i ⟨#[]⟩)).2 == 0) = true) (hk : k < n) (he : (decode (l.entries.getD k ⟨#[]⟩)).2 = e) (h0 : e ≠ 0) : logCheck l = e := by
  rw [logCheck, if_neg (by omega), if_neg (by omega)]
  exact firstErr_at h (by omega) he h0

set_option maxRecDepth 4000 in
set_option maxHeartbeats 1600000 in
theorem c_logCheck (l : Lg) (A : Option Addr) (c : Nat) (w : World) (hn : l.entries.length ≤ 9223372036854775807) (h : Rd w w.heap.size 1 A l.entries.length (strs l.entries)) (R : Ending → World → Prop)
   (hR : ∀ w', Below w.heap.size w w' → R (.returned (.int .i64 (logCheck l))) w') :
    Calls Try.prog 60 #[.agg #[.int .i64 l.base, .slice A l.entries.length c]] w R := by
  obtain ⟨lb, es⟩ := l
  dsimp only at hn h ⊢
  generalize hln : es.length = n at hn h
  have HL := Lib.hid hln
  clear hln
  by_cases hb : lb < 0 ∨ 1073741424 < lb
  · have hs : logCheck ⟨lb, es⟩ = 2 := by rw [logCheck, if_pos hb]
    have HS := Lib.hid hs
    clear hs
    by_cases hb1 : lb < 0
    · go_enter Try.func60, Try.ntmps60
      go_wp2
      exact fin (hR _ ((Below.refl _ _).alloc (Nat.le_refl _) _)) (by rw [HS.out] <;> rfl)
    · have hb2 : 1073741424 < lb := by omega
      go_enter Try.func60, Try.ntmps60
      go_wp2
      exact fin (hR _ ((Below.refl _ _).alloc (Nat.le_refl _) _)) (by rw [HS.out] <;> rfl)
  have hb1 : 0 ≤ lb := by omega
  have hb2 : lb ≤ 1073741424 := by omega
  by_cases h4 : (400 : Int) < n
  · have h400 : 400 < es.length := by have := HL.out; omega
    have hs : logCheck ⟨lb, es⟩ = 1 := by rw [logCheck, if_neg hb, if_pos h400]
    have HS := Lib.hid hs
    clear hs hb h400
    go_enter Try.func60, Try.ntmps60
    go_wp2
    exact fin (hR _ ((Below.refl _ _).alloc (Nat.le_refl _) _)) (by rw [HS.out] <;> rfl)
  clear hb
  go_enter Try.func60, Try.ntmps60
  go_wp2
  go_loopw [22] (fun i wr => ∃ k : Nat, k ≤ n ∧ i = .int .i64 k ∧ Below w.heap.size w wr ∧ Hid ((List.range k).all (fun i => (decode (es.getD i ⟨#[]⟩)).2 == 0) = true)) (fun i _ => n - (intOf i).toNat)
  case atStart => exact ⟨0, Nat.zero_le _, rfl, (Below.refl _ _).alloc (Nat.le_refl _) _, rfl⟩
  case round =>
    obtain ⟨k, hk, rfl, hB, hx⟩ := hrel
    by_cases hlt : k < n
    · obtain ⟨b, o, rfl, hc⟩ := (h.below hB).str hlt
      generalize hs : es.getD k ByteArray.empty = s at hc
      have HS := Lib.hid hs
      clear hs
      go_wp2_with fail
      refine c_decode s wr _ ?_
      intro w1 hw1
      have hB1 := ext_trans hB hB.size hw1
      generalize hd : decode s = d
      obtain ⟨cm, e⟩ := d
      have HD := Lib.hid hd
      clear hd
      by_cases he : e = 0
      · subst he
        unfold Cm.cells
        go_wp2
        go_roundw
        case rel => exact ⟨k + 1, by omega, by go_num, hB1.alloc hB1.size _, Lib.hid (all_range_succ hx.out (by show ((decode (es.getD k ByteArray.empty)).2 == 0) = true; rw [HS.out, HD.out]; rfl))⟩
        case measure => simp [intOf]; omega
      · unfold Cm.cells
        go_wp2
        refine fin (hR _ (hB1.alloc hB1.size _)) ?_
        rw [logCheck_at (l := ⟨lb, es⟩) HL.out ⟨hb1, hb2⟩ (by omega) hx.out hlt (by show (decode (es.getD k ByteArray.empty)).2 = e; rw [HS.out, HD.out]) he]
        rfl
    · go_wp2
      refine fin (hR _ hB) ?_
      obtain rfl : k = n := by omega
      have := HL.out
      rw [logCheck, if_neg (show ¬ (lb < 0 ∨ 1073741424 < lb) by omega), if_neg (show ¬ 400 < es.length by omega)]
      dsimp only
      rw [this, firstErr_none hx.out]
      rfl

set_option maxHeartbeats 800000 in
theorem c_last (lb : Int) (A : Option Addr) (n c : Nat) (w : World) (hb : 0 ≤ lb) (hb2 : lb ≤ 1073741424) (hn : n ≤ 1000000) (R : Ending → World → Prop)
   (hR : ∀ w', Below w.heap.size w w' → R (.returned (.int .i64 (lb + n))) w') :
    Calls Try.prog 18 #[.agg #[.int .i64 lb, .slice A n c]] w R := by
  go_enter Try.func18, Try.ntmps18
  go_wp2
  exact (Below.refl _ _).alloc (Nat.le_refl _) _

theorem infoLog : (Try.prog.info? 24).map (·.size) = some 2 := by kernel_rfl

set_option maxHeartbeats 800000 in
theorem c_logCopy (lb : Int) (A : Option Addr) (n c : Nat) (es : List ByteArray) (w : World) (hn : n ≤ 1000000) (h : Rd w w.heap.size 1 A n (strs es)) (R : Ending → World → Prop)
   (hR : ∀ A' c' w', n ≤ c' → w'.ownsRow w.heap.size 9 1 (.slice A' n c') n (strs es) → Below w.heap.size w w' → R (.returned (.agg #[.int .i64 lb, .slice A' n c'])) w') :
    Calls Try.prog 61 #[.agg #[.int .i64 lb, .slice A n c]] w R := by
  have h1 := ((h.alloc (.cells #[.int .i64 lb, .slice A n c] 24)).alloc (.cells #[.int .i64 0, .slice none 0 0] 24)).drew
  go_enter Try.func61, Try.ntmps61
  go_wp2
  go_region_with (go_at_call 63; refine c_cloneStr _ _ _ es _ _ (by omega) h1 _ ?_; intro A' c' w1 hle ho hb; obtain ⟨q0, q1⟩ := (((Bk.new w _ _).alloc _).drew.ext hb).two; have k2 := (Bk.new2 w _ _ _).drew.ext hb; obtain ⟨r0, r1⟩ := k2.two; have z0 := k2.frozen 0; have z1 := k2.frozen 1)
  all_goals
    go_wp2
    apply ret_c
    case h => rfl
    case hp => rfl
    case hg => repeat (with_reducible first | exact k2 | apply Bk.drewN | apply Bk.set)
    case hu => exact Try.underlying24
    case hd => rfl
    case hi => simpa using infoLog
    case hdf => rfl
    case hR =>
      refine fin (hR A' c' _ hle ?_ ?_) (by simp)
      · refine own_less (base := w.heap.size + 2) ?_ (by omega)
        have ho' : w1.ownsRow (w.heap.size + 2) 9 1 (.slice A' n c') n (strs es) := by simpa using ho
        repeat (with_reducible first | exact ho' | exact Nat.lt_succ_self _ | apply ownsRow_setCell_below)
      · have hB : Below w.heap.size w w1 := ext_trans ((((Below.refl _ w).alloc (Nat.le_refl _) _).alloc (by simp) _).drew) (by simp; omega) hb
        repeat (with_reducible first | exact hB | exact Nat.le_succ _ | apply Below.setCell)

end Go.Proofs.Ytgplhidnegbbpaa

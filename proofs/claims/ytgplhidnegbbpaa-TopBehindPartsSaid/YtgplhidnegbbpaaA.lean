import Derived.Test.YtgplhidnegbbpaaProg
import Derived.Test.YtgplhidnegbbpaaData
namespace Go.Proofs.Ytgplhidnegbbpaa
open Go.RowKit

/-- The end of a walk: the value is another spelling of what was said. -/
theorem fin {R : Ending → World → Prop} {v v' : Value} {w : World} (h : R (.returned v) w) (e : v = v') : R (.returned v') w := e ▸ h

def notLower (b : UInt8) : Bool := !lower b.toNat
def posOf (o : Option Nat) : Int := match o with | some k => k | none => -1

set_option maxHeartbeats 400000 in
theorem c_lower (n : Int) (w : World) (R : Ending → World → Prop) (hR : R (.returned (.bool (!lower n))) w) :
    Calls Try.prog 84 #[.int .u8 n] w R := by
  go_enter Try.func84, Try.ntmps84
  by_cases h1 : n < 97
  · go_wp2
    exact fin hR (by simp [lower]; omega)
  · go_wp2
    refine fin hR ?_
    have : decide (97 ≤ n) = true := by simpa using h1
    simp only [lower, this, Bool.true_and]
    by_cases h2 : n ≤ 122 <;> simp [h2] <;> omega

theorem Rd.byt {w : World} {B : Nat} {A : Option Addr} {n : Nat} {xs : List UInt8} (h : Rd w B 1 A n (byts xs)) {k : Nat} (hk : k < n) :
    ∃ b o x, A = some ⟨b, o, none⟩ ∧ xs[k]? = some x ∧ w.cell? ⟨b, o + k, none⟩ = some (.int .u8 x.toNat) := by
  have hl : xs.length = n := by have := h.1; simpa using this
  obtain ⟨b, o, e, _, hc⟩ := h.2 k (.int .u8 (xs[k]'(by omega)).toNat) (by simp [byts, List.getElem?_eq_getElem (show k < xs.length by omega)])
  exact ⟨b, o, _, e, List.getElem?_eq_getElem (by omega), hc⟩

theorem take_none_snoc {α : Type} {p : α → Bool} {xs : List α} {k : Nat} {b : α} (h : (xs.take k).findIdx? p = none) (hb : xs[k]? = some b) (hp : p b = false) : (xs.take (k + 1)).findIdx? p = none := by
  rw [List.take_add_one, hb]
  simp only [List.findIdx?_eq_none_iff] at h ⊢
  intro x hx
  simp at hx
  rcases hx with hx | rfl
  · exact h x hx
  · exact hp
theorem find_at {α : Type} {p : α → Bool} {xs : List α} {k : Nat} {b : α} (h : (xs.take k).findIdx? p = none) (hb : xs[k]? = some b) (hp : p b = true) : xs.findIdx? p = some k := by
  have hk : k < xs.length := (List.getElem?_eq_some_iff.1 hb).1
  have hs : xs = xs.take k ++ xs.drop k := (List.take_append_drop _ _).symm
  rw [hs, List.findIdx?_append, h]
  have : xs.drop k = b :: xs.drop (k + 1) := by
    rw [List.drop_eq_getElem_cons hk]
    have := List.getElem?_eq_getElem hk
    rw [this] at hb
    simp at hb
    rw [hb]
  rw [this]
  simp [List.findIdx?_cons, hp, List.length_take]
  omega

set_option maxHeartbeats 400000 in
theorem c_indexByte (A : Option Addr) (n c : Nat) (xs : List UInt8) (w : World) (B : Nat) (hn : n ≤ 1000000) (h : Rd w B 1 A n (byts xs)) (R : Ending → World → Prop)
   (hR : R (.returned (.int .i64 (posOf (xs.findIdx? notLower)))) w) :
    Calls Try.prog 106 #[.slice A n c, .func (.func 84) #[] #[]] w R := by
  have hl : xs.length = n := by have := h.1; simpa using this
  have HL := Lib.hid hl
  clear hl
  go_enter Try.func106, Try.ntmps106
  go_wp2
  go_loop [8] (fun i => ∃ k : Nat, k ≤ n ∧ i = .int .i64 k ∧ Hid ((xs.take k).findIdx? notLower = none)) (fun i => n - (intOf i).toNat)
  case atStart => exact ⟨0, Nat.zero_le _, rfl, rfl⟩
  case round =>
    obtain ⟨k, hk, rfl, hx⟩ := hrel
    by_cases hlt : k < n
    · obtain ⟨b, o, x, rfl, hb, hc⟩ := h.byt hlt
      have HB := Lib.hid hb
      clear hb
      go_wp2_with (go_at_call 84; refine c_lower _ _ _ ?_)
      · exact fin hR (by rw [find_at hx.out HB.out (by assumption)]; rfl)
      · go_round
        case rel => exact ⟨k + 1, by omega, by go_num, Lib.hid (take_none_snoc hx.out HB.out (by assumption))⟩
        case measure => simp [intOf]; omega
    · go_wp2
      refine fin hR ?_
      obtain rfl : k = n := by omega
      have e : xs.take k = xs := List.take_of_length_le (Nat.le_of_eq HL.out)
      rw [← e, hx.out]; rfl

theorem posOf_ge (o : Option Nat) : decide (0 ≤ posOf o) = o.isSome := by cases o <;> simp [posOf]

set_option maxHeartbeats 400000 in
theorem c_containsByte (A : Option Addr) (n c : Nat) (xs : List UInt8) (w : World) (B : Nat) (hn : n ≤ 1000000) (h : Rd w B 1 A n (byts xs)) (R : Ending → World → Prop)
   (hR : R (.returned (.bool (xs.any notLower))) w) :
    Calls Try.prog 83 #[.slice A n c, .func (.func 84) #[] #[]] w R := by
  go_enter Try.func83, Try.ntmps83
  go_wp2_with (go_at_call 106; refine c_indexByte _ _ _ xs _ B hn h _ ?_)
  refine fin hR ?_
  show Value.bool _ = Value.bool (decide (0 ≤ posOf _))
  rw [posOf_ge, List.findIdx?_isSome]

theorem bytesWorld_below (w : World) (e : TypeId) (s : ByteArray) : Below w.heap.size w (Lib.bytesWorld w e s) :=
  ⟨by simp [Lib.bytesWorld, World.freeze]; rfl, by simp [Lib.bytesWorld, World.freeze], by simp [Lib.bytesWorld, World.freeze]; rfl, by rw [Lib.bytesWorld_size]; omega, fun k hk => Lib.bytesWorld_at_old w e s k hk⟩

theorem bytesWorld_reads (w : World) (e : TypeId) (s : ByteArray) : Rd (Lib.bytesWorld w e s) (w.heap.size + 1) 1 (some ⟨w.heap.size, 0, none⟩) s.size (byts s.data.toList) := by
  refine ⟨by simp, fun j u hu => ⟨_, _, rfl, by simp, ?_⟩⟩
  have hj : j < s.size := by simpa using (List.getElem?_eq_some_iff.1 hu).1
  rw [Nat.zero_add, Lib.bytesWorld_cell w e s j hj]
  simp only [byts, List.getElem?_map] at hu
  simp [List.getD_eq_getElem?_getD, hj] at hu ⊢
  exact hu

set_option maxHeartbeats 400000 in
theorem c_name (s : ByteArray) (w : World) (R : Ending → World → Prop)
   (hR : ∀ w', Below w.heap.size w w' → R (.returned (.bool (isName s))) w') :
    Calls Try.prog 48 #[.string s] w R := by
  have hconv := fun W => Lib.run_convert_string_bytes (P := Try.prog) W 9 134 5 s Try.underlying9 Try.underlying134 Try.underlying5
  by_cases h0 : s.toList = []
  · go_enter Try.func48, Try.ntmps48
    go_wp2
    refine fin (hR _ (Below.refl _ _)) ?_
    rw [ByteArray.toList_eq] at h0
    simp [isName, h0]
  have h0' : s.data.toList.isEmpty = false := by rw [ByteArray.toList_eq] at h0; simpa using h0
  have H0 := Lib.hid h0'
  clear h0'
  by_cases h6 : s.size ≤ 6
  · go_enter Try.func48, Try.ntmps48
    go_wp2_with (go_at_call 83; refine c_containsByte _ _ _ s.data.toList _ _ (by omega) (bytesWorld_reads w _ s) _ ?_)
    refine fin (hR _ (bytesWorld_below w _ s)) ?_
    have e : s.toList.isEmpty = false := by simpa using h0
    simp [isName, H0.out, h6, e, List.all_eq_not_any_not]
    rfl
  · go_enter Try.func48, Try.ntmps48
    go_wp2
    refine fin (hR _ (Below.refl _ _)) ?_
    simp [isName, h6]

end Go.Proofs.Ytgplhidnegbbpaa

import Derived.Test.YtgplhidnegbbpaaG
namespace Go.Proofs.Ytgplhidnegbbpaa
open Go.RowKit

theorem bytes_ext {a b : ByteArray} (h : a.toList = b.toList) : a = b := by
  rw [ByteArray.toList_eq, ByteArray.toList_eq] at h
  cases a with | mk a => cases b with | mk b => exact congrArg ByteArray.mk (Array.toList_inj.1 h)

theorem getD_at {α : Type} {xs : List α} {k : Nat} {d : α} (h : k < xs.length) : xs[k]? = some (xs.getD k d) := by
  simp [List.getD_eq_getElem?_getD, h]

/-- All first k are alike; the next are too. -/
theorem take_snoc_eq {α : Type} {xs ys : List α} {k : Nat} {a : α} (h : xs.take k = ys.take k) (hx : xs[k]? = some a) (hy : ys[k]? = some a) : xs.take (k + 1) = ys.take (k + 1) := by
  rw [List.take_add_one, List.take_add_one, h, hx, hy]

set_option maxHeartbeats 800000 in
theorem c_equalStr (A A' : Option Addr) (n n' c c' : Nat) (xs ys : List ByteArray) (w : World) (B B' : Nat) (hn : n ≤ 9223372036854775807) (hn' : n' ≤ 9223372036854775807)
   (hx : Rd w B 1 A n (strs xs)) (hy : Rd w B' 1 A' n' (strs ys)) (v : Bool) (hv : v = true ↔ xs = ys) (R : Ending → World → Prop)
   (hR : ∀ k, R (.returned (.bool v)) (w.drewN k)) :
    Calls Try.prog 22 #[.slice A n c, .slice A' n' c'] w R := by
  have hl : xs.length = n := by have := hx.1; simpa using this
  have hl' : ys.length = n' := by have := hy.1; simpa using this
  have HL := Lib.hid hl
  have HL' := Lib.hid hl'
  have HV := Lib.hid hv
  clear hl hl' hv
  by_cases hne : n = n'
  · subst hne
    go_enter Try.func22, Try.ntmps22
    go_wp2
    go_loopw [13] (fun i wr => ∃ k q : Nat, k ≤ n ∧ i = .int .i64 k ∧ wr = w.drewN q ∧ Hid (xs.take k = ys.take k)) (fun i _ => n - (intOf i).toNat)
    case atStart => exact ⟨0, 0, Nat.zero_le _, rfl, rfl, rfl⟩
    case round =>
      obtain ⟨k, q, hk, rfl, rfl, he⟩ := hrel
      by_cases hlt : k < n
      · obtain ⟨b, o, rfl, hc⟩ := hx.str hlt
        obtain ⟨b', o', rfl, hc'⟩ := hy.str hlt
        have HX := Lib.hid (getD_at (d := ByteArray.empty) (show k < xs.length by have := HL.out; omega))
        have HY := Lib.hid (getD_at (d := ByteArray.empty) (show k < ys.length by have := HL'.out; omega))
        generalize xs.getD k ByteArray.empty = x at hc HX
        generalize ys.getD k ByteArray.empty = y at hc' HY
        go_wp2
        go_quiet (fail)
        go_wp2
        · have hd : (!x.toList == y.toList) = true := by assumption
          rw [World.drewN_drewN]
          refine fin (hR _) ?_
          have : v = false := by
            cases hv : v
            · rfl
            · have e := HV.out.1 hv
              have h1 := HX.out
              rw [e, HY.out] at h1
              injection h1 with h1
              rw [h1] at hd
              simp at hd
          rw [this]; rfl
        · have hd : (!x.toList == y.toList) = false := by assumption
          have hxy : x = y := bytes_ext (by simpa using hd)
          subst hxy
          go_roundw
          case rel => exact ⟨k + 1, _, by omega, by go_num, rfl, Lib.hid (take_snoc_eq he.out HX.out HY.out)⟩
          case measure => simp [intOf]; omega
      · go_wp2
        refine fin (hR _) ?_
        have : v = true := HV.out.2 (by
          have := he.out
          rwa [List.take_of_length_le (by have := HL.out; omega), List.take_of_length_le (by have := HL'.out; omega)] at this)
        rw [this]; rfl
  · have hne' : ((n : Int) == (n' : Int)) = false := beq_eq_false_iff_ne.2 (by omega)
    have hne2 : ((n : Int) != (n' : Int)) = true := by rw [bne_iff_ne]; omega
    go_enter Try.func22, Try.ntmps22
    go_wp2
    refine fin (hR 0) ?_
    have : v = false := by
      cases hv : v
      · rfl
      · have := HV.out.1 hv
        rw [this] at HL
        exact absurd (HL.out.symm.trans HL'.out) hne
    rw [this]; rfl

theorem infoString : (Try.prog.info? 9).map (fun i => (i.zero, i.size, i.bytes)) = some (some (.string ⟨#[]⟩), 1, 16) := by kernel_rfl

set_option maxRecDepth 4000 in
set_option maxHeartbeats 800000 in
theorem c_cloneStr (A : Option Addr) (n c : Nat) (xs : List ByteArray) (w : World) (B : Nat) (hn : n ≤ 8796093022208) (h : Rd w B 1 A n (strs xs)) (R : Ending → World → Prop)
   (hR : ∀ A' c' w', n ≤ c' → w'.ownsRow w.heap.size 9 1 (.slice A' n c') n (strs xs) → Below w.heap.size w w' → R (.returned (.slice A' n c')) w') :
    Calls Try.prog 63 #[.slice A n c] w R := by
  obtain ⟨i0, hi, hz0, hz1, hz2⟩ := info_parts infoString
  have hnil : ∀ W, (binOp .eql 22 (.slice A n c) (.slice none 0 0)).run Try.prog W = .ok (.bool A.isNone) W := fun W => Lib.run_eql_slice_nil W _ 9 A n c 0 0 Try.underlying22
  cases A with
  | none =>
    have hn0 : n = 0 := by
      rcases Nat.eq_zero_or_pos n with h0 | h0
      · exact h0
      · have hl := h.1
        obtain ⟨_, _, e, _⟩ := h.2 0 (strs xs)[0] (List.getElem?_eq_getElem (by omega))
        cases e
    subst hn0
    have hx := h.empty
    go_enter Try.func63, Try.ntmps63
    go_wp2
    exact fin (hR none 0 _ (Nat.le_refl _) (by rw [hx]; exact World.ownsRow_nil _ _ _ _) (Below.refl _ _)) rfl
  | some ad =>
    go_enter Try.func63, Try.ntmps63
    go_wp2_with (at_builtin; refine wpList_append_rd _ rfl (.tmp 5) (.tmp 6) _ rfl w.heap.size 9 i0 _ 1 16 Try.underlying22 hi hz0 hz1 hz2 rfl (by omega) (.slice (some ⟨w.heap.size, 0, none⟩) 0 0) 0 [] rfl (own_empty w w.heap.size 9 1 (Nat.le_refl _)) B (some ad) n c (strs xs) rfl (h.alloc _) (strs_one _) (by simp only [maxLen]; omega) (by omega) (by simp) ?_; intro v1 w1 ho1 hg1 hat1)
    rw [Nat.zero_add, List.nil_append] at ho1
    obtain ⟨A', c', rfl, hle⟩ := own_form ho1
    refine fin (hR A' c' _ hle ho1 ?_) rfl
    exact ((Below.refl _ w).alloc (Nat.le_refl _) _).grown hg1 (by simp) (fun k hk => own_block_eq hk)

end Go.Proofs.Ytgplhidnegbbpaa

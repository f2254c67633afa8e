import Derived.Test.YtgplhidnegbbpaaF
namespace Go.Proofs.Ytgplhidnegbbpaa
open Go.RowKit

theorem infoCommand : (Try.prog.info? 106).map (·.size) = some 9 := by kernel_rfl

set_option maxRecDepth 40000 in
set_option maxHeartbeats 4000000 in
theorem c_decode (s : ByteArray) (w : World) (R : Ending → World → Prop)
   (hR : ∀ w', Below w.heap.size w w' → R (.returned (.tuple #[.agg (decode s).1.cells, .int .i64 (decode s).2])) w') :
    Calls Try.prog 62 #[.string s] w R := by
  by_cases h1 : (5000 : Int) < s.size
  · have hd : decode s = (noCommand, 1) := by rw [decode, if_pos (by omega)]
    have HD := Lib.hid hd
    clear hd
    go_enter Try.func62, Try.ntmps62
    go_wp2
    refine ret_ct rfl rfl (Bk.new w _ _) Try.underlying106 rfl infoCommand rfl ?_
    exact fin (hR _ ((Below.refl _ _).alloc (Nat.le_refl _) _)) (by rw [HD.out]; rfl)
  by_cases h2 : (s.size : Int) < 2
  · have hd : decode s = (noCommand, 5) := by rw [decode, if_neg (by omega), dif_neg (by omega)]
    have HD := Lib.hid hd
    clear hd
    go_enter Try.func62, Try.ntmps62
    go_wp2
    refine ret_ct rfl rfl (Bk.new w _ _) Try.underlying106 rfl infoCommand rfl ?_
    exact fin (hR _ ((Below.refl _ _).alloc (Nat.le_refl _) _)) (by rw [HD.out]; rfl)
  have hs0 : 0 < s.size := by omega
  have hs1 : (1 : Int) < (s.size : Int) := by omega
  have hs2 : 2 ≤ s.size := by omega
  have hx0 : (s[0].toNat : Int) ≤ 255 := by have := UInt8.toNat_lt s[0]; omega
  have hx1 : (s[1].toNat : Int) ≤ 255 := by have := UInt8.toNat_lt s[1]; omega
  have hd : decode s = if s[0].toNat = 2 then
      match bodyOf { noCommand with kind := s[0].toNat, client := s[1].toNat } (s.extract 2 s.size) with
      | (c, t, e) => if e = 0 then decodeEnd c t else (noCommand, e)
    else decodeEnd { noCommand with kind := s[0].toNat, client := s[1].toNat } (s.extract 2 s.size) := by
    rw [decode, if_neg (by omega), dif_pos (by omega)]
  generalize hr : decode s = r at hd hR
  clear hr
  have HD := Lib.hid hd
  clear hd
  go_enter Try.func62, Try.ntmps62
  go_wp2
  go_region
  generalize s[0].toNat = x0 at HD hx0 ⊢
  generalize s[1].toNat = x1 at HD hx1 ⊢
  have hp0 : Bk ((w.alloc (.cells #[.int .i64 0, .int .i64 0, .int .i64 0, .int .i64 0, .int .i64 0, .int .i64 0, .string ⟨#[]⟩, .string ⟨#[]⟩, .int .i64 0] 106)).alloc (.cells #[.int .i64 x0, .int .i64 x1, .int .i64 0, .int .i64 0, .int .i64 0, .int .i64 0, .string ⟨#[]⟩, .string ⟨#[]⟩, .int .i64 0] 106)).drew w.heap.size 106 #[.int .i64 0, .int .i64 0, .int .i64 0, .int .i64 0, .int .i64 0, .int .i64 0, .string ⟨#[]⟩, .string ⟨#[]⟩, .int .i64 0] := ((Bk.new w _ _).alloc _).drew
  have hg0 : Bk ((w.alloc (.cells #[.int .i64 0, .int .i64 0, .int .i64 0, .int .i64 0, .int .i64 0, .int .i64 0, .string ⟨#[]⟩, .string ⟨#[]⟩, .int .i64 0] 106)).alloc (.cells #[.int .i64 x0, .int .i64 x1, .int .i64 0, .int .i64 0, .int .i64 0, .int .i64 0, .string ⟨#[]⟩, .string ⟨#[]⟩, .int .i64 0] 106)).drew (w.heap.size + 1) 106 ({ noCommand with kind := x0, client := x1 } : Cm).cells := (Bk.new2 w _ _ _).drew
  have hB0 : Below w.heap.size w ((w.alloc (.cells #[.int .i64 0, .int .i64 0, .int .i64 0, .int .i64 0, .int .i64 0, .int .i64 0, .string ⟨#[]⟩, .string ⟨#[]⟩, .int .i64 0] 106)).alloc (.cells #[.int .i64 x0, .int .i64 x1, .int .i64 0, .int .i64 0, .int .i64 0, .int .i64 0, .string ⟨#[]⟩, .string ⟨#[]⟩, .int .i64 0] 106)).drew := (((Below.refl _ _).alloc (Nat.le_refl _) _).alloc (by simp) _).drew
  generalize ((w.alloc (.cells #[.int .i64 0, .int .i64 0, .int .i64 0, .int .i64 0, .int .i64 0, .int .i64 0, .string ⟨#[]⟩, .string ⟨#[]⟩, .int .i64 0] 106)).alloc (.cells #[.int .i64 x0, .int .i64 x1, .int .i64 0, .int .i64 0, .int .i64 0, .int .i64 0, .string ⟨#[]⟩, .string ⟨#[]⟩, .int .i64 0] 106)).drew = W at hp0 hg0 hB0 ⊢
  have zp := hp0.frozen
  have cg : ∀ i, W.cell? ⟨w.heap.size + 1, i, none⟩ = (#[.int .i64 x0, .int .i64 x1, .int .i64 0, .int .i64 0, .int .i64 0, .int .i64 0, .string ⟨#[]⟩, .string ⟨#[]⟩, .int .i64 0] : Array Value)[i]? := hg0.cell
  have cp := hp0.cell
  by_cases h2 : x0 = 2
  · subst h2
    rw [if_pos rfl] at HD
    generalize hc0 : ({ noCommand with kind := ((2 : Nat) : Int), client := x1 } : Cm) = c0 at HD hg0
    go_wp2_with fail
    refine c_body _ c0 _ _ hg0 _ ?_
    intro w1 hg1 hk1
    generalize bodyOf c0 (s.extract 2 s.size) = q at HD hk1
    obtain ⟨c1, t, e⟩ := q
    have hp1 := hp0.grown hg1 (by simp)
    have hB1 : Below w.heap.size w w1 := hB0.grown hg1 hB0.size (fun k hk => by injection hk with hk; omega)
    have zp1 := hp1.frozen
    have cp1 := hp1.cell
    have HD1 : Hid (r = if e = 0 then decodeEnd c1 t else (noCommand, e)) := HD
    clear HD
    by_cases he : e = 0
    rotate_left
    · rw [if_neg he] at HD1
      have HE := HD1
      clear HD1
      go_wp2
      apply ret_ct
      case h => rfl
      case hp => rfl
      case hg => repeat (with_reducible first | exact hp2 | exact hp1 | exact hp0 | apply Bk.drewN | apply Bk.set)
      case hu => exact Try.underlying106
      case hd => rfl
      case hi => simpa using infoCommand
      case hdf => rfl
      case hR => exact fin (hR _ (by repeat (with_reducible first | exact hB2 | exact hB1 | exact hB0 | exact Nat.le_refl _ | apply Below.setCell))) (by rw [HE.out]; simp [Cm.cells, noCommand])
    subst he
    rw [if_pos rfl] at HD1
    have hk1' := hk1 rfl
    clear hk1
    dsimp only at hk1'
    have cg1 := hk1'.cell
    unfold Cm.cells at cg1
    by_cases ht : t.toList = []
    · have hE := HD1.out
      rw [decodeEnd, if_pos ht] at hE
      by_cases hc : checkCommand (c1) = 0
      · rw [if_pos hc] at hE
        have HE := Lib.hid hE
        clear hE HD1
        go_wp2_with (go_at_call 93; refine c_checkCommand (c1) _ _ ?_; intro w2 hb2; have hp2 := hp1.ext hb2; have zp2 := hp2.frozen; have cp2 := hp2.cell; have cg2 := (hk1'.ext hb2).cell; unfold Cm.cells at cg2; have hB2 := ext_trans hB1 hB1.size hb2)
        apply ret_ct
        case h => rfl
        case hp => rfl
        case hg => repeat (with_reducible first | exact hp2 | exact hp1 | exact hp0 | apply Bk.drewN | apply Bk.set)
        case hu => exact Try.underlying106
        case hd => rfl
        case hi => simpa using infoCommand
        case hdf => rfl
        case hR => exact fin (hR _ (by repeat (with_reducible first | exact hB2 | exact hB1 | exact hB0 | exact Nat.le_refl _ | apply Below.setCell))) (by rw [HE.out]; simp [Cm.cells])
      · rw [if_neg hc] at hE
        have HE := Lib.hid hE
        clear hE HD1
        go_wp2_with (go_at_call 93; refine c_checkCommand (c1) _ _ ?_; intro w2 hb2; have hp2 := hp1.ext hb2; have zp2 := hp2.frozen; have cp2 := hp2.cell; have cg2 := (hk1'.ext hb2).cell; unfold Cm.cells at cg2; have hB2 := ext_trans hB1 hB1.size hb2)
        apply ret_ct
        case h => rfl
        case hp => rfl
        case hg => repeat (with_reducible first | exact hp2 | exact hp1 | exact hp0 | apply Bk.drewN | apply Bk.set)
        case hu => exact Try.underlying106
        case hd => rfl
        case hi => simpa using infoCommand
        case hdf => rfl
        case hR => exact fin (hR _ (by repeat (with_reducible first | exact hB2 | exact hB1 | exact hB0 | exact Nat.le_refl _ | apply Below.setCell))) (by rw [HE.out]; simp [Cm.cells, noCommand])
    · have hE := HD1.out
      rw [decodeEnd, if_neg ht] at hE
      have htb : t.toList.isEmpty = false := by simpa using ht
      clear ht
      have HE := Lib.hid hE
      clear hE HD1
      go_wp2_with (go_at_call 93; refine c_checkCommand (c1) _ _ ?_; intro w2 hb2; have hp2 := hp1.ext hb2; have zp2 := hp2.frozen; have cp2 := hp2.cell; have cg2 := (hk1'.ext hb2).cell; unfold Cm.cells at cg2; have hB2 := ext_trans hB1 hB1.size hb2)
      apply ret_ct
      case h => rfl
      case hp => rfl
      case hg => repeat (with_reducible first | exact hp2 | exact hp1 | exact hp0 | apply Bk.drewN | apply Bk.set)
      case hu => exact Try.underlying106
      case hd => rfl
      case hi => simpa using infoCommand
      case hdf => rfl
      case hR => exact fin (hR _ (by repeat (with_reducible first | exact hB2 | exact hB1 | exact hB0 | exact Nat.le_refl _ | apply Below.setCell))) (by rw [HE.out]; simp [Cm.cells, noCommand])
  · rw [if_neg h2] at HD
    have HD1 : Hid (r = decodeEnd ⟨x0, x1, 0, 0, 0, ⟨0, ⟨#[]⟩, ⟨#[]⟩, 0⟩⟩ (s.extract 2 s.size)) := HD
    clear HD
    by_cases ht : (s.extract 2 s.size).toList = []
    · have hE := HD1.out
      rw [decodeEnd, if_pos ht] at hE
      by_cases hc : checkCommand (⟨x0, x1, 0, 0, 0, ⟨0, ⟨#[]⟩, ⟨#[]⟩, 0⟩⟩) = 0
      · rw [if_pos hc] at hE
        have HE := Lib.hid hE
        clear hE HD1
        go_wp2_with (go_at_call 93; refine c_checkCommand (⟨x0, x1, 0, 0, 0, ⟨0, ⟨#[]⟩, ⟨#[]⟩, 0⟩⟩) _ _ ?_; intro w2 hb2; have hp2 := hp0.ext hb2; have zp2 := hp2.frozen; have cp2 := hp2.cell; have cg2 := (hg0.ext hb2).cell; unfold Cm.cells at cg2; have hB2 := ext_trans hB0 hB0.size hb2)
        apply ret_ct
        case h => rfl
        case hp => rfl
        case hg => repeat (with_reducible first | exact hp2 | exact hp1 | exact hp0 | apply Bk.drewN | apply Bk.set)
        case hu => exact Try.underlying106
        case hd => rfl
        case hi => simpa using infoCommand
        case hdf => rfl
        case hR => exact fin (hR _ (by repeat (with_reducible first | exact hB2 | exact hB1 | exact hB0 | exact Nat.le_refl _ | apply Below.setCell))) (by rw [HE.out]; simp [Cm.cells, noCommand])
      · rw [if_neg hc] at hE
        have HE := Lib.hid hE
        clear hE HD1
        go_wp2_with (go_at_call 93; refine c_checkCommand (⟨x0, x1, 0, 0, 0, ⟨0, ⟨#[]⟩, ⟨#[]⟩, 0⟩⟩) _ _ ?_; intro w2 hb2; have hp2 := hp0.ext hb2; have zp2 := hp2.frozen; have cp2 := hp2.cell; have cg2 := (hg0.ext hb2).cell; unfold Cm.cells at cg2; have hB2 := ext_trans hB0 hB0.size hb2)
        apply ret_ct
        case h => rfl
        case hp => rfl
        case hg => repeat (with_reducible first | exact hp2 | exact hp1 | exact hp0 | apply Bk.drewN | apply Bk.set)
        case hu => exact Try.underlying106
        case hd => rfl
        case hi => simpa using infoCommand
        case hdf => rfl
        case hR => exact fin (hR _ (by repeat (with_reducible first | exact hB2 | exact hB1 | exact hB0 | exact Nat.le_refl _ | apply Below.setCell))) (by rw [HE.out]; simp [Cm.cells, noCommand])
    · have hE := HD1.out
      rw [decodeEnd, if_neg ht] at hE
      have htb : (s.extract 2 s.size).toList.isEmpty = false := by simpa using ht
      clear ht
      have HE := Lib.hid hE
      clear hE HD1
      go_wp2_with (go_at_call 93; refine c_checkCommand (⟨x0, x1, 0, 0, 0, ⟨0, ⟨#[]⟩, ⟨#[]⟩, 0⟩⟩) _ _ ?_; intro w2 hb2; have hp2 := hp0.ext hb2; have zp2 := hp2.frozen; have cp2 := hp2.cell; have cg2 := (hg0.ext hb2).cell; unfold Cm.cells at cg2; have hB2 := ext_trans hB0 hB0.size hb2)
      apply ret_ct
      case h => rfl
      case hp => rfl
      case hg => repeat (with_reducible first | exact hp2 | exact hp1 | exact hp0 | apply Bk.drewN | apply Bk.set)
      case hu => exact Try.underlying106
      case hd => rfl
      case hi => simpa using infoCommand
      case hdf => rfl
      case hR => exact fin (hR _ (by repeat (with_reducible first | exact hB2 | exact hB1 | exact hB0 | exact Nat.le_refl _ | apply Below.setCell))) (by rw [HE.out]; simp [Cm.cells, noCommand])

end Go.Proofs.Ytgplhidnegbbpaa

import Derived.Test.YtgplhidnegbbpaaI
import Derived.Test.YtgplhidnegbbpaaSpecL
namespace Go.Proofs.Ytgplhidnegbbpaa
open Go.RowKit

set_option maxRecDepth 20000 in
set_option maxHeartbeats 4000000 in
theorem c_put (l : Lg) (A : Option Addr) (c : Nat) (bh : Int) (A2 : Option Addr) (c2 : Nat) (more : List ByteArray) (w : World)
    (hn : l.entries.length ≤ 9223372036854775807) (hc2 : more.length ≤ c2) (hn2 : more.length ≤ 9223372036854775807)
    (h : Rd w w.heap.size 1 A l.entries.length (strs l.entries)) (h2 : Rd w w.heap.size 1 A2 more.length (strs more)) (R : Ending → World → Prop)
   (hR : ∀ A' c' w', (logPut l bh more).1.entries.length ≤ c' → w'.ownsRow w.heap.size 9 1 (.slice A' (logPut l bh more).1.entries.length c') (logPut l bh more).1.entries.length (strs (logPut l bh more).1.entries) →
      Below w.heap.size w w' → R (.returned (.tuple #[.agg #[.int .i64 (logPut l bh more).1.base, .slice A' (logPut l bh more).1.entries.length c'], .int .i64 (logPut l bh more).2])) w') :
    Calls Try.prog 15 #[.agg #[.int .i64 l.base, .slice A l.entries.length c], .int .i64 bh, .slice A2 more.length c2] w R := by
  have hput : logPut l bh more = if logCheck l = 0 then
    if bh < 0 ∨ 1073741824 < bh then (noLog, 2)
    else if 400 < more.length then (noLog, 1)
    else if l.base + l.entries.length < bh then (noLog, 13)
    else putEnd l.base (putAll l.entries (bh + putSkip l bh more - l.base).toNat (more.drop (putSkip l bh more)))
    else (noLog, logCheck l) := rfl
  generalize logPut l bh more = p at hput hR
  have hx := ((h.alloc (.cells #[.int .i64 l.base, .slice A l.entries.length c] 24)).alloc (.cells #[.int .i64 0, .slice none 0 0] 24)).bound
  have hexit : ∀ (e : Int) (a : Act) (W : World), p = (noLog, e) → a.defers = [] → a.tmps.getD 6 undef = .pointer (some ⟨w.heap.size + 1, 0, none⟩) → a.tmps.getD 7 undef = .int .i64 e →
      Bk W (w.heap.size + 1) 24 #[.int .i64 0, .slice none 0 0] → Below w.heap.size w W → bodyPost Try.prog Try.f15 R .ret a W := by
    intro e a W hp hdf ha6 ha7 hk hB
    subst hp
    refine ret_ct rfl ha6 hk Try.underlying24 rfl infoLog hdf ?_
    rw [ha7]
    exact hR none 0 W (Nat.le_refl _) (World.ownsRow_nil _ _ _ _) hB
  have HE := Lib.hid hexit
  clear hexit
  have HP := Lib.hid hput
  clear hput
  go_enter Try.func15, Try.ntmps15
  go_wp2_with fail
  refine c_logCheck l A c _ hn hx _ ?_
  intro w1 hw1
  have hB1 : Below w.heap.size w w1 := ext_trans (((Below.refl _ w).alloc (Nat.le_refl _) _).alloc (by simp) _) (by simp; omega) hw1
  have k0 := ((Bk.new w _ _).alloc _).ext hw1
  have k1 := (Bk.new2 w _ _ _).ext hw1
  obtain ⟨q0, q1⟩ := k0.two
  obtain ⟨r0, r1⟩ := k1.two
  have z0 := k1.frozen 0
  have z1 := k1.frozen 1
  have hs1 : w.heap.size + 2 ≤ w1.heap.size := by have := hw1.size; simp at this; omega
  clear hw1 hx
  by_cases hck : logCheck l = 0
  rotate_left
  · have hpe := HP.out
    rw [if_neg hck] at hpe
    have HQ := Lib.hid hpe
    clear hpe HP
    generalize logCheck l = e at hck HQ ⊢
    go_wp2
    refine HE.out _ _ _ HQ.out rfl rfl rfl ?_ ?_
    · apply Bk.cast
      · repeat (with_reducible first | exact k1 | apply Bk.set)
      · rfl
    · repeat (with_reducible first | exact hB1 | exact Nat.le_succ _ | apply Below.setCell)
  obtain ⟨hb0, hb1, hb2⟩ := logCheck_ok hck
  have hpe := HP.out
  rw [if_pos hck] at hpe
  have HP1 := Lib.hid hpe
  clear HP hpe
  have HCK := Lib.hid hck
  rw [hck]
  clear hck
  by_cases hbh : bh < 0 ∨ 1073741824 < bh
  · have hpe := HP1.out
    rw [if_pos hbh] at hpe
    have HQ := Lib.hid hpe
    clear hpe HP1
    rcases hbh with hbh | hbh
    · go_wp2
      refine HE.out _ _ _ HQ.out rfl rfl rfl ?_ ?_
      · apply Bk.cast
        · repeat (with_reducible first | exact k1 | apply Bk.set)
        · rfl
      · repeat (with_reducible first | exact hB1 | exact Nat.le_succ _ | apply Below.setCell)
    · have hbh' : 0 ≤ bh := by omega
      go_wp2
      refine HE.out _ _ _ HQ.out rfl rfl rfl ?_ ?_
      · apply Bk.cast
        · repeat (with_reducible first | exact k1 | apply Bk.set)
        · rfl
      · repeat (with_reducible first | exact hB1 | exact Nat.le_succ _ | apply Below.setCell)
  have hbh0 : 0 ≤ bh := by omega
  have hbh1 : bh ≤ 1073741824 := by omega
  have hpe := HP1.out
  rw [if_neg hbh] at hpe
  have HP2 := Lib.hid hpe
  clear HP1 hpe hbh
  by_cases hm : (400 : Int) < more.length
  · have hpe := HP2.out
    rw [if_pos (by omega)] at hpe
    have HQ := Lib.hid hpe
    clear hpe HP2
    go_wp2
    refine HE.out _ _ _ HQ.out rfl rfl rfl ?_ ?_
    · apply Bk.cast
      · repeat (with_reducible first | exact k1 | apply Bk.set)
      · rfl
    · repeat (with_reducible first | exact hB1 | exact Nat.le_succ _ | apply Below.setCell)
  have hm' : more.length ≤ 400 := by omega
  have hpe := HP2.out
  rw [if_neg (by omega)] at hpe
  have HP3 := Lib.hid hpe
  clear HP2 hpe
  go_wp2_with fail
  refine c_last _ _ _ _ _ hb0 hb1 (by omega) _ ?_
  intro w2 hw2
  have hB2 : Below w.heap.size w w2 := ext_trans hB1 hB1.size hw2
  have k02 := k0.ext hw2
  have k12 := k1.ext hw2
  obtain ⟨q02, q12⟩ := k02.two
  obtain ⟨r02, r12⟩ := k12.two
  have z02 := k12.frozen 0
  have z12 := k12.frozen 1
  have hs2 : w.heap.size + 2 ≤ w2.heap.size := by have := hw2.size; omega
  clear hw2 k0 k1 q0 q1 r0 r1 z0 z1 hs1 hB1
  by_cases hgap : l.base + (l.entries.length : Int) < bh
  · have hpe := HP3.out
    rw [if_pos hgap] at hpe
    have HQ := Lib.hid hpe
    clear hpe HP3
    go_wp2
    refine HE.out _ _ _ HQ.out rfl rfl rfl ?_ ?_
    · apply Bk.cast
      · repeat (with_reducible first | exact k12 | apply Bk.set)
      · rfl
    · repeat (with_reducible first | exact hB2 | exact Nat.le_succ _ | apply Below.setCell)
  have hpe := HP3.out
  rw [if_neg hgap] at hpe
  have HP4 := Lib.hid hpe
  clear HP3 hpe
  have hgap' : bh ≤ l.base + (l.entries.length : Int) := by omega
  by_cases hlt : bh < l.base
  · obtain ⟨d, hd⟩ : ∃ d : Nat, putSkip l bh more = d := ⟨_, rfl⟩
    have hd' : d = min (l.base - bh).toNat more.length := by rw [← hd, putSkip, if_pos hlt]
    have hmin : (if (more.length : Int) < l.base - bh then (more.length : Int) else l.base - bh) = (d : Int) := by split <;> omega
    have hdm : d ≤ more.length := by omega
    obtain ⟨A3, hA3⟩ : ∃ A3, (if c2 = d then A2 else A2.map (·.add (d * 1))) = A3 := ⟨_, rfl⟩
    have hr3 := h2.drop (cap := c2) hdm hc2
    rw [hA3] at hr3
    have hi3 : (strs more).drop (d * 1) = strs (more.drop d) := by simp [strs]
    rw [hi3] at hr3
    have hsl := slice_from (P := Try.prog) 22 9 1 Try.underlying22 (by kernel_rfl) A2 more.length c2 d hdm
    rw [hA3] at hsl
    have HP5 : Hid (p = putEnd l.base (putAll l.entries (bh + d - l.base).toNat (more.drop d))) := by have := HP4.out; rw [hd] at this; exact Lib.hid this
    have hbh3 : ∃ bh3, bh + (d : Int) = bh3 := ⟨_, rfl⟩
    obtain ⟨bh3, hbh3⟩ := hbh3
    rw [hbh3] at HP5
    have hk3 : more.length - d = 0 ∨ l.base ≤ bh3 := by omega
    have hgap3 : bh3 ≤ l.base := by omega
    have hbp : 0 ≤ bh3 := by omega
    have hbq : bh3 ≤ 1073741824 + 400 := by omega
    have HN3 := Lib.hid (show (more.drop d).length = more.length - d by simp)
    generalize more.drop d = more3 at hr3 HP5 HN3
    have hn3 : more.length - d ≤ 400 := by omega
    generalize hg : more.length - d = n3 at hr3 hk3 HN3 hn3 hsl
    clear hA3 hi3 hd' HP4 hgap
    have HD := Lib.hid hd
    clear hd hg
    go_wp2_with fail
    refine c_logCopy _ A _ _ l.entries w2 (by omega) (h.below hB2).bound _ ?_
    intro A0 c0 w3 hle0 ho0 hw3
    have hB3 : Below w.heap.size w w3 := ext_trans hB2 hB2.size hw3
    have k03 := k02.ext hw3
    have k13 := k12.ext hw3
    have hs3 : w.heap.size + 2 ≤ w3.heap.size := by have := hw3.size; omega
    have ho3 : w3.ownsRow w.heap.size 9 1 (.slice A0 l.entries.length c0) l.entries.length (strs l.entries) := own_less ho0 (by omega)
    clear ho0 hw3
    go_wp2
    go_loopw [59] (fun i wr => ∃ (k kk : Nat) (out : List ByteArray) (A' : Option Addr) (c' : Nat), k ≤ n3 ∧ i = .int .i64 k ∧ Below w.heap.size w wr ∧
        Bk wr w3.heap.size 24 #[.int .i64 l.base, .slice A' out.length c'] ∧ wr.ownsRow w.heap.size 9 1 (.slice A' out.length c') out.length (strs out) ∧ out.length ≤ c' ∧
        Bk wr w.heap.size 24 #[.int .i64 l.base, .slice A l.entries.length c] ∧ Bk wr (w.heap.size + 1) 24 #[.int .i64 0, .slice none 0 0] ∧ w3.heap.size + 1 ≤ wr.heap.size ∧
        out.length ≤ 400 + k ∧ (n3 = 0 ∨ kk ≤ out.length) ∧ Hid (n3 = 0 ∨ bh3 + (k : Int) - l.base = (kk : Int)) ∧ Hid (p = putEnd l.base (putAll out kk (more3.drop k)))) (fun i _ => n3 - (intOf i).toNat)
    case atStart =>
      refine ⟨0, (bh3 - l.base).toNat, l.entries, A0, c0, Nat.zero_le _, rfl, hB3.alloc hB3.size _, Bk.new w3 _ _, ho3.alloc _, hle0, k03.alloc _, k13.alloc _, by simp, by omega, ?_, Lib.hid ?_, ?_⟩
      · rcases hk3 with e | e
        · exact Or.inl e
        · refine Or.inr ?_
          omega
      · rcases hk3 with e | e
        · exact Or.inl e
        · exact Or.inr (by omega)
      · exact HP5
    case round =>
      obtain ⟨k, kk, out, A', c', hk, rfl, hB, hk10, ho, hle, hk0, hk1, hsz, hlen, hkk, hkI, HPK⟩ := hrel
      obtain ⟨b0, b1⟩ := hk10.two
      obtain ⟨d0, d1⟩ := hk0.two
      obtain ⟨f0, f1⟩ := hk1.two
      have z0 := hk10.frozen 0
      have z1 := hk10.frozen 1
      have y0 := hk1.frozen 0
      have y1 := hk1.frozen 1
      by_cases hlk : k < n3
      · obtain ⟨kI, hkk'⟩ : (bh3 + (k : Int) - l.base = (kk : Int)) ∧ kk ≤ out.length := ⟨by rcases hkI.out with e | e <;> omega, by omega⟩
        have hkI1 := kI
        obtain ⟨b, o, rfl, hc⟩ := (hr3.below hB).str hlk
        have HS := Lib.hid (getD_at (d := ByteArray.empty) (show k < more3.length by have := HN3.out; omega))
        generalize more3.getD k ByteArray.empty = s at hc HS
        have HPS : Hid (p = putEnd l.base (if (decode s).2 = 0 then putAll (putStep out kk s) (kk + 1) (more3.drop (k + 1)) else (out, (decode s).2))) := by
          have := HPK.out
          rw [List.drop_eq_getElem_cons (by have := HN3.out; omega)] at this
          have e : more3[k]'(by have := HN3.out; omega) = s := by
            have h1 := HS.out
            rw [List.getElem?_eq_getElem (by have := HN3.out; omega)] at h1
            exact Option.some.inj h1
          rw [e] at this
          exact Lib.hid this
        clear HPK hkI
        go_wp2_with fail
        refine c_decode s wr _ ?_
        intro w4 hw4
        have hB4 := ext_trans hB hB.size hw4
        have hk104 := hk10.ext hw4
        have hk04 := hk0.ext hw4
        have hk14 := hk1.ext hw4
        have ho4 := own_ext ho hw4
        have hs4 : w3.heap.size + 1 ≤ w4.heap.size := by have := hw4.size; omega
        obtain ⟨b04, b14⟩ := hk104.two
        obtain ⟨d04, d14⟩ := hk04.two
        obtain ⟨f04, f14⟩ := hk14.two
        have z04 := hk104.frozen 0
        have z14 := hk104.frozen 1
        have y04 := hk14.frozen 0
        have y14 := hk14.frozen 1
        generalize hdc : decode s = dc at HPS ⊢
        obtain ⟨cm, e⟩ := dc
        unfold Cm.cells
        have hl1 : w.heap.size < w4.heap.size := by omega
        have hl2 : w.heap.size + 1 < w4.heap.size := by omega
        have hl3 : w3.heap.size < w4.heap.size := by omega
        by_cases he : e = 0
        · subst he
          have HPT : Hid (p = putEnd l.base (putAll (putStep out kk s) (kk + 1) (more3.drop (k + 1)))) := HPS
          clear HPS hdc
          have hIlt : kk ≤ 800 := by omega
          have hoc := own_cut ho4 hkk'
          rw [Nat.mul_one] at hoc
          have htk : (strs out).take kk = strs (out.take kk) := by simp [strs, List.map_take]
          rw [htk] at hoc
          clear htk
          have hl3' : w.heap.size < w3.heap.size := by omega
          obtain ⟨i0, hi0, hz00, hz01, hz02⟩ := info_parts infoString
          have h1s : ∀ u ∈ [Value.string s], u.oneCell' = true := fun u hu => by rw [List.mem_singleton.1 hu]; rfl
          have hm1 : kk + 1 ≤ maxLen := by simp only [maxLen]; omega
          have hm2 : (kk + 1) * 16 ≤ 140737488355328 := by omega
          have hm3 : w.heap.size ≤ w4.heap.size + 2 := by omega
          have hm4 : ∀ o1 o2, w.heap.size ≤ ((w4.alloc o1).alloc o2).heap.size := by intro o1 o2; simp; omega
          have hm5 : ∀ o1, w.heap.size ≤ (w4.alloc o1).heap.size := by intro o1; simp; omega
          by_cases hko : kk < out.length
          · obtain ⟨g1, o1, rfl, hc1⟩ := (Rd.of_own ho4).str hko
            have HO := Lib.hid (getD_at (d := ByteArray.empty) hko)
            generalize out.getD kk ByteArray.empty = s1 at hc1 HO
            have hl4 : g1 < w4.heap.size := World.block_lt_of_cell? w4 _ hc1
            go_wp2_with (at_builtin; refine wpList_append_rd _ rfl (.tmp 100) (.tmp 102) _ rfl w.heap.size 9 i0 _ 1 16 Try.underlying22 hi0 hz00 hz01 hz02 rfl Nat.zero_lt_one (.slice (some ⟨g1, o1, none⟩) kk c') kk (strs (out.take kk)) ?_ ?_ (w4.heap.size + 2) (some ⟨w4.heap.size + 1, 0, none⟩) 1 1 [.string s] ?_ ?_ h1s hm1 hm2 (hm4 _ _) ?_)
            · have hss : s1 = s := bytes_ext (by simpa using (show (s1.toList == s.toList) = true by assumption))
              subst hss
              have hput : putStep out kk s1 = out := by rw [putStep, if_pos HO.out]
              go_roundw
              case rel =>
                refine ⟨k + 1, kk + 1, out, _, c', by omega, by go_num, hB4.alloc hB4.size _, hk104.alloc _, ho4.alloc _, hle, hk04.alloc _, hk14.alloc _, by simp; omega, by omega, Or.inr (by omega), Lib.hid (Or.inr (by omega)), ?_⟩
                have := HPT.out
                rw [hput] at this
                exact Lib.hid this
              case measure => simp [intOf]; omega
            · rfl
            · exact (hoc.alloc _).alloc _
            · rfl
            · exact Rd.one (Bk.new2 w4 _ _ _)
            intro v5 w5 ho5 hg5 hat5
            have hk105 := ((hk104.alloc _).alloc _).grown hg5 (Ne.symm (own_bk_ne hoc hk104 (by decide)))
            have hk05 := ((hk04.alloc _).alloc _).grown hg5 (Ne.symm (own_bk_ne hoc hk04 (by decide)))
            have hk15 := ((hk14.alloc _).alloc _).grown hg5 (Ne.symm (own_bk_ne hoc hk14 (by decide)))
            obtain ⟨b05, b15⟩ := hk105.two
            have z05 := hk105.frozen 0
            have z15 := hk105.frozen 1
            have hs5 := hg5.size
            have hB5 := ((hB4.alloc hB4.size _).alloc (hm5 _) _).grown hg5 (hm4 _ _) (own_lo hoc)
            obtain ⟨A5, c5, rfl, hle5⟩ := own_form ho5
            go_wp2
            have HNE : Hid (¬ out[kk]? = some s) := by
              have hss : (s1.toList == s.toList) = false := by assumption
              refine Lib.hid (fun e => ?_)
              rw [HO.out] at e
              injection e with e
              rw [e] at hss
              simp at hss
            have hput : putStep out kk s = out.take kk ++ [s] := by rw [putStep, if_neg HNE.out]
            have hl5 : (out.take kk ++ [s]).length = kk + 1 := by simp; omega
            have hst : strs (out.take kk ++ [s]) = strs (out.take kk) ++ [.string s] := by simp [strs]
            go_roundw
            case rel =>
              refine ⟨k + 1, kk + 1, out.take kk ++ [s], A5, c5, by omega, by go_num, ?_, ?_, ?_, by rw [hl5]; exact hle5, ?_, ?_, ?_, by rw [hl5]; omega, Or.inr (by rw [hl5]; omega), Lib.hid (Or.inr (by omega)), ?_⟩
              · repeat (with_reducible first | exact hB5 | exact Nat.le_of_lt hl3' | apply Below.setCell)
              · rw [hl5]
                exact (hk105.set 1 _).cast rfl
              · rw [hl5, hst]
                exact own_set_bk ho5 hk105 (by decide) 1 _
              · exact hk05.far (by simp; omega) _
              · exact hk15.far (by simp; omega) _
              · simp at hs5 ⊢; omega
              · have := HPT.out
                rw [hput] at this
                exact Lib.hid this
            case measure => simp [intOf]; omega
          · have HNE : Hid (¬ out[kk]? = some s) := Lib.hid (by rw [List.getElem?_eq_none (by omega)]; simp)
            go_wp2_with (at_builtin; refine wpList_append_rd _ rfl (.tmp 100) (.tmp 102) _ rfl w.heap.size 9 i0 _ 1 16 Try.underlying22 hi0 hz00 hz01 hz02 rfl Nat.zero_lt_one (.slice A' kk c') kk (strs (out.take kk)) ?_ ?_ (w4.heap.size + 2) (some ⟨w4.heap.size + 1, 0, none⟩) 1 1 [.string s] ?_ ?_ h1s hm1 hm2 (hm4 _ _) ?_)
            · rfl
            · exact (hoc.alloc _).alloc _
            · rfl
            · exact Rd.one (Bk.new2 w4 _ _ _)
            intro v5 w5 ho5 hg5 hat5
            have hk105 := ((hk104.alloc _).alloc _).grown hg5 (Ne.symm (own_bk_ne hoc hk104 (by decide)))
            have hk05 := ((hk04.alloc _).alloc _).grown hg5 (Ne.symm (own_bk_ne hoc hk04 (by decide)))
            have hk15 := ((hk14.alloc _).alloc _).grown hg5 (Ne.symm (own_bk_ne hoc hk14 (by decide)))
            obtain ⟨b05, b15⟩ := hk105.two
            have z05 := hk105.frozen 0
            have z15 := hk105.frozen 1
            have hs5 := hg5.size
            have hB5 := ((hB4.alloc hB4.size _).alloc (hm5 _) _).grown hg5 (hm4 _ _) (own_lo hoc)
            obtain ⟨A5, c5, rfl, hle5⟩ := own_form ho5
            go_wp2
            have hput : putStep out kk s = out.take kk ++ [s] := by rw [putStep, if_neg HNE.out]
            have hl5 : (out.take kk ++ [s]).length = kk + 1 := by simp; omega
            have hst : strs (out.take kk ++ [s]) = strs (out.take kk) ++ [.string s] := by simp [strs]
            go_roundw
            case rel =>
              refine ⟨k + 1, kk + 1, out.take kk ++ [s], A5, c5, by omega, by go_num, ?_, ?_, ?_, by rw [hl5]; exact hle5, ?_, ?_, ?_, by rw [hl5]; omega, Or.inr (by rw [hl5]; omega), Lib.hid (Or.inr (by omega)), ?_⟩
              · repeat (with_reducible first | exact hB5 | exact Nat.le_of_lt hl3' | apply Below.setCell)
              · rw [hl5]
                exact (hk105.set 1 _).cast rfl
              · rw [hl5, hst]
                exact own_set_bk ho5 hk105 (by decide) 1 _
              · exact hk05.far (by simp; omega) _
              · exact hk15.far (by simp; omega) _
              · simp at hs5 ⊢; omega
              · have := HPT.out
                rw [hput] at this
                exact Lib.hid this
            case measure => simp [intOf]; omega
        · have HQ : Hid (p = (noLog, e)) := by
            have := HPS.out
            dsimp only at this
            rw [if_neg he] at this
            rw [putEnd, if_neg he] at this
            exact Lib.hid this
          clear HPS hdc
          go_wp2
          refine HE.out _ _ _ HQ.out rfl rfl rfl ?_ ?_
          · apply Bk.cast
            · repeat (with_reducible first | exact hk14 | apply Bk.set | apply Bk.alloc)
            · rfl
          · repeat (with_reducible first | exact hB4 | exact Nat.le_succ _ | apply Below.setCell | apply Below.alloc | (simp; omega))
      · have hkn : k = n3 := by omega
        have HPE : Hid (p = putEnd l.base (out, 0)) := by
          have := HPK.out
          rw [List.drop_eq_nil_of_le (by have := HN3.out; omega)] at this
          exact Lib.hid this
        clear HPK hkI
        by_cases h4 : (400 : Int) < out.length
        · have HQ : Hid (p = (noLog, 8)) := by
            have := HPE.out
            rw [putEnd, if_pos rfl, if_pos (show 400 < out.length by omega)] at this
            exact Lib.hid this
          clear HPE
          go_wp2
          refine HE.out _ _ _ HQ.out rfl rfl rfl ?_ ?_
          · apply Bk.cast
            · repeat (with_reducible first | exact hk1 | apply Bk.set | apply Bk.alloc)
            · rfl
          · repeat (with_reducible first | exact hB | exact Nat.le_succ _ | apply Below.setCell)
        · have hq : p = (⟨l.base, out⟩, 0) := by
            have := HPE.out
            rw [putEnd, if_pos rfl, if_neg (show ¬ 400 < out.length by omega)] at this
            exact this
          clear HPE
          subst hq
          go_wp2
          apply ret_ct
          case h => rfl
          case hp => rfl
          case hg => repeat (with_reducible first | exact hk1 | apply Bk.set | apply Bk.alloc)
          case hu => exact Try.underlying24
          case hd => rfl
          case hi => simpa using infoLog
          case hdf => rfl
          case hR =>
            refine fin (hR A' c' _ hle ?_ ?_) (by simp)
            · exact own_set_bk (own_set_bk ho hk1 (by decide) 0 _) (hk1.set 0 _) (by decide) 1 _
            · repeat (with_reducible first | exact hB | exact Nat.le_succ _ | apply Below.setCell)
  · have hd : putSkip l bh more = 0 := by rw [putSkip, if_neg hlt]
    have HP5 : Hid (p = putEnd l.base (putAll l.entries (bh - l.base).toNat more)) := by
      have := HP4.out
      rw [hd] at this
      simp only [List.drop_zero] at this
      rw [show bh + ((0 : Nat) : Int) - l.base = bh - l.base by omega] at this
      exact Lib.hid this
    have hk3 : more.length = 0 ∨ l.base ≤ bh := by omega
    have hgap3 : bh ≤ l.base + (l.entries.length : Int) := by omega
    have hr3 := h2
    have hn3 : more.length ≤ 400 := by omega
    have hbp : 0 ≤ bh := by omega
    clear HP4 hgap hd
    obtain ⟨n3, hg⟩ : ∃ n3, more.length = n3 := ⟨_, rfl⟩
    have HN3 := Lib.hid hg
    rw [hg] at hr3 hk3 hn3 hm hm' hc2 hn2 ⊢
    clear hg
    go_wp2_with fail
    refine c_logCopy _ A _ _ l.entries w2 (by omega) (h.below hB2).bound _ ?_
    intro A0 c0 w3 hle0 ho0 hw3
    have hB3 : Below w.heap.size w w3 := ext_trans hB2 hB2.size hw3
    have k03 := k02.ext hw3
    have k13 := k12.ext hw3
    have hs3 : w.heap.size + 2 ≤ w3.heap.size := by have := hw3.size; omega
    have ho3 : w3.ownsRow w.heap.size 9 1 (.slice A0 l.entries.length c0) l.entries.length (strs l.entries) := own_less ho0 (by omega)
    clear ho0 hw3
    go_wp2
    go_loopw [59] (fun i wr => ∃ (k kk : Nat) (out : List ByteArray) (A' : Option Addr) (c' : Nat), k ≤ n3 ∧ i = .int .i64 k ∧ Below w.heap.size w wr ∧
        Bk wr w3.heap.size 24 #[.int .i64 l.base, .slice A' out.length c'] ∧ wr.ownsRow w.heap.size 9 1 (.slice A' out.length c') out.length (strs out) ∧ out.length ≤ c' ∧
        Bk wr w.heap.size 24 #[.int .i64 l.base, .slice A l.entries.length c] ∧ Bk wr (w.heap.size + 1) 24 #[.int .i64 0, .slice none 0 0] ∧ w3.heap.size + 1 ≤ wr.heap.size ∧
        out.length ≤ 400 + k ∧ (n3 = 0 ∨ kk ≤ out.length) ∧ Hid (n3 = 0 ∨ bh + (k : Int) - l.base = (kk : Int)) ∧ Hid (p = putEnd l.base (putAll out kk (more.drop k)))) (fun i _ => n3 - (intOf i).toNat)
    case atStart =>
      refine ⟨0, (bh - l.base).toNat, l.entries, A0, c0, Nat.zero_le _, rfl, hB3.alloc hB3.size _, Bk.new w3 _ _, ho3.alloc _, hle0, k03.alloc _, k13.alloc _, by simp, by omega, ?_, Lib.hid ?_, ?_⟩
      · rcases hk3 with e | e
        · exact Or.inl e
        · refine Or.inr ?_
          omega
      · rcases hk3 with e | e
        · exact Or.inl e
        · exact Or.inr (by omega)
      · exact HP5
    case round =>
      obtain ⟨k, kk, out, A', c', hk, rfl, hB, hk10, ho, hle, hk0, hk1, hsz, hlen, hkk, hkI, HPK⟩ := hrel
      obtain ⟨b0, b1⟩ := hk10.two
      obtain ⟨d0, d1⟩ := hk0.two
      obtain ⟨f0, f1⟩ := hk1.two
      have z0 := hk10.frozen 0
      have z1 := hk10.frozen 1
      have y0 := hk1.frozen 0
      have y1 := hk1.frozen 1
      by_cases hlk : k < n3
      · obtain ⟨kI, hkk'⟩ : (bh + (k : Int) - l.base = (kk : Int)) ∧ kk ≤ out.length := ⟨by rcases hkI.out with e | e <;> omega, by omega⟩
        have hkI1 := kI
        obtain ⟨b, o, rfl, hc⟩ := (hr3.below hB).str hlk
        have HS := Lib.hid (getD_at (d := ByteArray.empty) (show k < more.length by have := HN3.out; omega))
        generalize more.getD k ByteArray.empty = s at hc HS
        have HPS : Hid (p = putEnd l.base (if (decode s).2 = 0 then putAll (putStep out kk s) (kk + 1) (more.drop (k + 1)) else (out, (decode s).2))) := by
          have := HPK.out
          rw [List.drop_eq_getElem_cons (by have := HN3.out; omega)] at this
          have e : more[k]'(by have := HN3.out; omega) = s := by
            have h1 := HS.out
            rw [List.getElem?_eq_getElem (by have := HN3.out; omega)] at h1
            exact Option.some.inj h1
          rw [e] at this
          exact Lib.hid this
        clear HPK hkI
        go_wp2_with fail
        refine c_decode s wr _ ?_
        intro w4 hw4
        have hB4 := ext_trans hB hB.size hw4
        have hk104 := hk10.ext hw4
        have hk04 := hk0.ext hw4
        have hk14 := hk1.ext hw4
        have ho4 := own_ext ho hw4
        have hs4 : w3.heap.size + 1 ≤ w4.heap.size := by have := hw4.size; omega
        obtain ⟨b04, b14⟩ := hk104.two
        obtain ⟨d04, d14⟩ := hk04.two
        obtain ⟨f04, f14⟩ := hk14.two
        have z04 := hk104.frozen 0
        have z14 := hk104.frozen 1
        have y04 := hk14.frozen 0
        have y14 := hk14.frozen 1
        generalize hdc : decode s = dc at HPS ⊢
        obtain ⟨cm, e⟩ := dc
        unfold Cm.cells
        have hl1 : w.heap.size < w4.heap.size := by omega
        have hl2 : w.heap.size + 1 < w4.heap.size := by omega
        have hl3 : w3.heap.size < w4.heap.size := by omega
        by_cases he : e = 0
        · subst he
          have HPT : Hid (p = putEnd l.base (putAll (putStep out kk s) (kk + 1) (more.drop (k + 1)))) := HPS
          clear HPS hdc
          have hIlt : kk ≤ 800 := by omega
          have hoc := own_cut ho4 hkk'
          rw [Nat.mul_one] at hoc
          have htk : (strs out).take kk = strs (out.take kk) := by simp [strs, List.map_take]
          rw [htk] at hoc
          clear htk
          have hl3' : w.heap.size < w3.heap.size := by omega
          obtain ⟨i0, hi0, hz00, hz01, hz02⟩ := info_parts infoString
          have h1s : ∀ u ∈ [Value.string s], u.oneCell' = true := fun u hu => by rw [List.mem_singleton.1 hu]; rfl
          have hm1 : kk + 1 ≤ maxLen := by simp only [maxLen]; omega
          have hm2 : (kk + 1) * 16 ≤ 140737488355328 := by omega
          have hm3 : w.heap.size ≤ w4.heap.size + 2 := by omega
          have hm4 : ∀ o1 o2, w.heap.size ≤ ((w4.alloc o1).alloc o2).heap.size := by intro o1 o2; simp; omega
          have hm5 : ∀ o1, w.heap.size ≤ (w4.alloc o1).heap.size := by intro o1; simp; omega
          by_cases hko : kk < out.length
          · obtain ⟨g1, o1, rfl, hc1⟩ := (Rd.of_own ho4).str hko
            have HO := Lib.hid (getD_at (d := ByteArray.empty) hko)
            generalize out.getD kk ByteArray.empty = s1 at hc1 HO
            have hl4 : g1 < w4.heap.size := World.block_lt_of_cell? w4 _ hc1
            go_wp2_with (at_builtin; refine wpList_append_rd _ rfl (.tmp 100) (.tmp 102) _ rfl w.heap.size 9 i0 _ 1 16 Try.underlying22 hi0 hz00 hz01 hz02 rfl Nat.zero_lt_one (.slice (some ⟨g1, o1, none⟩) kk c') kk (strs (out.take kk)) ?_ ?_ (w4.heap.size + 2) (some ⟨w4.heap.size + 1, 0, none⟩) 1 1 [.string s] ?_ ?_ h1s hm1 hm2 (hm4 _ _) ?_)
            · have hss : s1 = s := bytes_ext (by simpa using (show (s1.toList == s.toList) = true by assumption))
              subst hss
              have hput : putStep out kk s1 = out := by rw [putStep, if_pos HO.out]
              go_roundw
              case rel =>
                refine ⟨k + 1, kk + 1, out, _, c', by omega, by go_num, hB4.alloc hB4.size _, hk104.alloc _, ho4.alloc _, hle, hk04.alloc _, hk14.alloc _, by simp; omega, by omega, Or.inr (by omega), Lib.hid (Or.inr (by omega)), ?_⟩
                have := HPT.out
                rw [hput] at this
                exact Lib.hid this
              case measure => simp [intOf]; omega
            · rfl
            · exact (hoc.alloc _).alloc _
            · rfl
            · exact Rd.one (Bk.new2 w4 _ _ _)
            intro v5 w5 ho5 hg5 hat5
            have hk105 := ((hk104.alloc _).alloc _).grown hg5 (Ne.symm (own_bk_ne hoc hk104 (by decide)))
            have hk05 := ((hk04.alloc _).alloc _).grown hg5 (Ne.symm (own_bk_ne hoc hk04 (by decide)))
            have hk15 := ((hk14.alloc _).alloc _).grown hg5 (Ne.symm (own_bk_ne hoc hk14 (by decide)))
            obtain ⟨b05, b15⟩ := hk105.two
            have z05 := hk105.frozen 0
            have z15 := hk105.frozen 1
            have hs5 := hg5.size
            have hB5 := ((hB4.alloc hB4.size _).alloc (hm5 _) _).grown hg5 (hm4 _ _) (own_lo hoc)
            obtain ⟨A5, c5, rfl, hle5⟩ := own_form ho5
            go_wp2
            have HNE : Hid (¬ out[kk]? = some s) := by
              have hss : (s1.toList == s.toList) = false := by assumption
              refine Lib.hid (fun e => ?_)
              rw [HO.out] at e
              injection e with e
              rw [e] at hss
              simp at hss
            have hput : putStep out kk s = out.take kk ++ [s] := by rw [putStep, if_neg HNE.out]
            have hl5 : (out.take kk ++ [s]).length = kk + 1 := by simp; omega
            have hst : strs (out.take kk ++ [s]) = strs (out.take kk) ++ [.string s] := by simp [strs]
            go_roundw
            case rel =>
              refine ⟨k + 1, kk + 1, out.take kk ++ [s], A5, c5, by omega, by go_num, ?_, ?_, ?_, by rw [hl5]; exact hle5, ?_, ?_, ?_, by rw [hl5]; omega, Or.inr (by rw [hl5]; omega), Lib.hid (Or.inr (by omega)), ?_⟩
              · repeat (with_reducible first | exact hB5 | exact Nat.le_of_lt hl3' | apply Below.setCell)
              · rw [hl5]
                exact (hk105.set 1 _).cast rfl
              · rw [hl5, hst]
                exact own_set_bk ho5 hk105 (by decide) 1 _
              · exact hk05.far (by simp; omega) _
              · exact hk15.far (by simp; omega) _
              · simp at hs5 ⊢; omega
              · have := HPT.out
                rw [hput] at this
                exact Lib.hid this
            case measure => simp [intOf]; omega
          · have HNE : Hid (¬ out[kk]? = some s) := Lib.hid (by rw [List.getElem?_eq_none (by omega)]; simp)
            go_wp2_with (at_builtin; refine wpList_append_rd _ rfl (.tmp 100) (.tmp 102) _ rfl w.heap.size 9 i0 _ 1 16 Try.underlying22 hi0 hz00 hz01 hz02 rfl Nat.zero_lt_one (.slice A' kk c') kk (strs (out.take kk)) ?_ ?_ (w4.heap.size + 2) (some ⟨w4.heap.size + 1, 0, none⟩) 1 1 [.string s] ?_ ?_ h1s hm1 hm2 (hm4 _ _) ?_)
            · rfl
            · exact (hoc.alloc _).alloc _
            · rfl
            · exact Rd.one (Bk.new2 w4 _ _ _)
            intro v5 w5 ho5 hg5 hat5
            have hk105 := ((hk104.alloc _).alloc _).grown hg5 (Ne.symm (own_bk_ne hoc hk104 (by decide)))
            have hk05 := ((hk04.alloc _).alloc _).grown hg5 (Ne.symm (own_bk_ne hoc hk04 (by decide)))
            have hk15 := ((hk14.alloc _).alloc _).grown hg5 (Ne.symm (own_bk_ne hoc hk14 (by decide)))
            obtain ⟨b05, b15⟩ := hk105.two
            have z05 := hk105.frozen 0
            have z15 := hk105.frozen 1
            have hs5 := hg5.size
            have hB5 := ((hB4.alloc hB4.size _).alloc (hm5 _) _).grown hg5 (hm4 _ _) (own_lo hoc)
            obtain ⟨A5, c5, rfl, hle5⟩ := own_form ho5
            go_wp2
            have hput : putStep out kk s = out.take kk ++ [s] := by rw [putStep, if_neg HNE.out]
            have hl5 : (out.take kk ++ [s]).length = kk + 1 := by simp; omega
            have hst : strs (out.take kk ++ [s]) = strs (out.take kk) ++ [.string s] := by simp [strs]
            go_roundw
            case rel =>
              refine ⟨k + 1, kk + 1, out.take kk ++ [s], A5, c5, by omega, by go_num, ?_, ?_, ?_, by rw [hl5]; exact hle5, ?_, ?_, ?_, by rw [hl5]; omega, Or.inr (by rw [hl5]; omega), Lib.hid (Or.inr (by omega)), ?_⟩
              · repeat (with_reducible first | exact hB5 | exact Nat.le_of_lt hl3' | apply Below.setCell)
              · rw [hl5]
                exact (hk105.set 1 _).cast rfl
              · rw [hl5, hst]
                exact own_set_bk ho5 hk105 (by decide) 1 _
              · exact hk05.far (by simp; omega) _
              · exact hk15.far (by simp; omega) _
              · simp at hs5 ⊢; omega
              · have := HPT.out
                rw [hput] at this
                exact Lib.hid this
            case measure => simp [intOf]; omega
        · have HQ : Hid (p = (noLog, e)) := by
            have := HPS.out
            dsimp only at this
            rw [if_neg he] at this
            rw [putEnd, if_neg he] at this
            exact Lib.hid this
          clear HPS hdc
          go_wp2
          refine HE.out _ _ _ HQ.out rfl rfl rfl ?_ ?_
          · apply Bk.cast
            · repeat (with_reducible first | exact hk14 | apply Bk.set | apply Bk.alloc)
            · rfl
          · repeat (with_reducible first | exact hB4 | exact Nat.le_succ _ | apply Below.setCell | apply Below.alloc | (simp; omega))
      · have hkn : k = n3 := by omega
        have HPE : Hid (p = putEnd l.base (out, 0)) := by
          have := HPK.out
          rw [List.drop_eq_nil_of_le (by have := HN3.out; omega)] at this
          exact Lib.hid this
        clear HPK hkI
        by_cases h4 : (400 : Int) < out.length
        · have HQ : Hid (p = (noLog, 8)) := by
            have := HPE.out
            rw [putEnd, if_pos rfl, if_pos (show 400 < out.length by omega)] at this
            exact Lib.hid this
          clear HPE
          go_wp2
          refine HE.out _ _ _ HQ.out rfl rfl rfl ?_ ?_
          · apply Bk.cast
            · repeat (with_reducible first | exact hk1 | apply Bk.set | apply Bk.alloc)
            · rfl
          · repeat (with_reducible first | exact hB | exact Nat.le_succ _ | apply Below.setCell)
        · have hq : p = (⟨l.base, out⟩, 0) := by
            have := HPE.out
            rw [putEnd, if_pos rfl, if_neg (show ¬ 400 < out.length by omega)] at this
            exact this
          clear HPE
          subst hq
          go_wp2
          apply ret_ct
          case h => rfl
          case hp => rfl
          case hg => repeat (with_reducible first | exact hk1 | apply Bk.set | apply Bk.alloc)
          case hu => exact Try.underlying24
          case hd => rfl
          case hi => simpa using infoLog
          case hdf => rfl
          case hR =>
            refine fin (hR A' c' _ hle ?_ ?_) (by simp)
            · exact own_set_bk (own_set_bk ho hk1 (by decide) 0 _) (hk1.set 0 _) (by decide) 1 _
            · repeat (with_reducible first | exact hB | exact Nat.le_succ _ | apply Below.setCell)

end Go.Proofs.Ytgplhidnegbbpaa

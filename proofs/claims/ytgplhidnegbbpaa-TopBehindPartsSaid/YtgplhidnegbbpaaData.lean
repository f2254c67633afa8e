/-
  How the program's data lie in memory.
-/
import Derived.Test.YtgplhidnegbbpaaBase
import Derived.Test.YtgplhidnegbbpaaSpec
namespace Go.Proofs.Ytgplhidnegbbpaa
open Go.RowKit

theorem bytesLess_eq : ∀ x y : List UInt8, Op.bytesLess x y = lt8 x y
  | [], [] => rfl
  | [], _ :: _ => rfl
  | _ :: _, [] => rfl
  | a :: x, b :: y => by simp only [Op.bytesLess, lt8, bytesLess_eq x y]
theorem bytesLess_str (a b : ByteArray) : Op.bytesLess a.toList b.toList = ltS a b := by
  rw [ByteArray.toList_eq, ByteArray.toList_eq, bytesLess_eq]; rfl

structure LkAt (w : World) (B b o : Nat) (k : Lk) : Prop where
  c0 : w.cell? ⟨b, o, none⟩ = some (.string k.name)
  c1 : w.cell? ⟨b, o + 1, none⟩ = some (.int .i64 k.holder)
  c2 : w.cell? ⟨b, o + 2, none⟩ = some (.int .i64 k.fence)
  c3 : ∃ A c, k.line.length ≤ c ∧ w.cell? ⟨b, o + 3, none⟩ = some (.slice A k.line.length c) ∧ Rd w B 1 A k.line.length (ints k.line)
  len : k.line.length ≤ 17592186044416
/-- The locks that lie at A, all below block B. -/
def Lks (w : World) (B : Nat) (A : Option Addr) (ks : List Lk) : Prop :=
  ∀ i k, ks[i]? = some k → ∃ b o, A = some ⟨b, o, none⟩ ∧ b < B ∧ LkAt w B b (o + i * 4) k

theorem LkAt.keep {w w' : World} {B b o : Nat} {k : Lk} (h : LkAt w B b o k) (hb : b < B) (hk : ∀ p : Addr, p.block < B → w'.cell? p = w.cell? p) : LkAt w' B b o k :=
  ⟨(hk _ hb).trans h.c0, (hk _ hb).trans h.c1, (hk _ hb).trans h.c2, by
    obtain ⟨A, c, hc, h3, hr⟩ := h.c3
    exact ⟨A, c, hc, (hk _ hb).trans h3, hr.keep hk⟩, h.len⟩
theorem Lks.keep {w w' : World} {B : Nat} {A : Option Addr} {ks : List Lk} (h : Lks w B A ks) (hk : ∀ p : Addr, p.block < B → w'.cell? p = w.cell? p) : Lks w' B A ks := fun i k e => by
  obtain ⟨b, o, ha, hb, hl⟩ := h i k e
  exact ⟨b, o, ha, hb, hl.keep hb hk⟩
theorem Lks.below {w w' : World} {B : Nat} {A : Option Addr} {ks : List Lk} (h : Lks w B A ks) (hb : Below B w w') : Lks w' B A ks := h.keep fun _ hp => hb.cell hp

theorem lockCheck_at {l : List Lk} {n k : Nat} {y : Lk} {e : Int} (hn : l.length = n) (h5 : (n : Int) ≤ 5) (h : (List.range k).all (fun i => lockAt l i == 0) = true) (hy : l[k]? = some y)
    (he : lockErr (prev Lk.name l k) y = e) (h0 : e ≠ 0) : lockCheck l = e := by
  have hk : k < l.length := (List.getElem?_eq_some_iff.1 hy).1
  rw [lockCheck, if_neg (by omega)]
  exact firstErr_at h hk (by rw [lockAt, hy]; exact he) h0

end Go.Proofs.Ytgplhidnegbbpaa

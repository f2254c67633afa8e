/-
  What package log computes, as plain functions.
-/
import Derived.Test.YtgplhidnegbbpaaSpec
namespace Go.Proofs.Ytgplhidnegbbpaa

def noLog : Lg := ⟨0, []⟩
/-- log.Put: one entry. -/
def putStep (out : List ByteArray) (k : Nat) (s : ByteArray) : List ByteArray := if out[k]? = some s then out else out.take k ++ [s]
/-- log.Put: all of them; the error. -/
def putAll : List ByteArray → Nat → List ByteArray → List ByteArray × Int
  | out, _, [] => (out, 0)
  | out, k, s :: rest => if (decode s).2 = 0 then putAll (putStep out k s) (k + 1) rest else (out, (decode s).2)
/-- How many are there already. -/
def putSkip (l : Lg) (behind : Int) (more : List ByteArray) : Nat := if behind < l.base then min (l.base - behind).toNat more.length else 0
def putEnd (b : Int) (p : List ByteArray × Int) : Lg × Int := if p.2 = 0 then if 400 < p.1.length then (noLog, 8) else (⟨b, p.1⟩, 0) else (noLog, p.2)
/-- log.Put. -/
def logPut (l : Lg) (behind : Int) (more : List ByteArray) : Lg × Int :=
  if logCheck l = 0 then
    if behind < 0 ∨ 1073741824 < behind then (noLog, 2)
    else if 400 < more.length then (noLog, 1)
    else if l.base + l.entries.length < behind then (noLog, 13)
    else putEnd l.base (putAll l.entries (behind + putSkip l behind more - l.base).toNat (more.drop (putSkip l behind more)))
  else (noLog, logCheck l)

theorem logCheck_ok {l : Lg} (h : logCheck l = 0) : 0 ≤ l.base ∧ l.base ≤ 1073741424 ∧ l.entries.length ≤ 400 := by
  unfold logCheck at h
  split at h
  · cases h
  · split at h
    · cases h
    · omega

/-- log.Cut. -/
def logCut (l : Lg) (index : Int) : Lg × Int :=
  if logCheck l = 0 then
    if index < l.base ∨ l.base + l.entries.length < index then (noLog, 2)
    else if 1073741424 < index then (noLog, 8)
    else (⟨index, l.entries.drop (index - l.base).toNat⟩, 0)
  else (noLog, logCheck l)
/-- log.At. -/
def logAt (l : Lg) (index : Int) : ByteArray × Int :=
  if logCheck l = 0 then
    if index ≤ l.base ∨ l.base + l.entries.length < index then (⟨#[]⟩, 6)
    else (l.entries.getD (index - l.base - 1).toNat ⟨#[]⟩, 0)
  else (⟨#[]⟩, logCheck l)
/-- log.Behind. -/
def logBehind (l : Lg) (index many : Int) : List ByteArray × Int :=
  if logCheck l = 0 then
    if index < l.base ∨ many < 0 then ([], 2)
    else if l.base + l.entries.length ≤ index then ([], 0)
    else ((l.entries.drop (index - l.base).toNat).take many.toNat, 0)
  else ([], logCheck l)

end Go.Proofs.Ytgplhidnegbbpaa

/-
  What the program computes, as plain functions on plain data. No program, no memory.
-/
namespace Go.Proofs.Ytgplhidnegbbpaa

def lower (c : Int) : Bool := decide (97 ≤ c) && decide (c ≤ 122)
/-- lock.Name. -/
def isName (s : ByteArray) : Bool := !s.data.toList.isEmpty && decide (s.size ≤ 6) && s.data.toList.all (fun b => lower b.toNat)
/-- lock.client. -/
def isClient (n : Int) : Bool := decide (1 ≤ n) && decide (n ≤ 9)

structure Lk where
  name : ByteArray
  holder : Int
  fence : Int
  line : List Int
structure Pr where
  name : ByteArray
  value : ByteArray
  version : Int
structure Rp where
  code : Int
  n : Int
  text : ByteArray
structure Kp where
  seq : Int
  reply : Rp
structure Se where
  client : Int
  id : Int
  acked : Int
  last : Int
  replies : List Kp
structure Lg where
  base : Int
  entries : List ByteArray

/-- lock.line: one place of it. -/
def lineAt (h : Int) (l : List Int) (i : Nat) : Bool := isClient (l.getD i 0) && !(l.getD i 0 == h) && !(l.take i).contains (l.getD i 0)
/-- lock.line. -/
def lineOk (h : Int) (l : List Int) : Bool := (List.range l.length).all (lineAt h l) && decide (l.length ≤ 3) && (!(h == 0) || l.isEmpty)

/-- '<' on strings, as Go has it. -/
def lt8 : List UInt8 → List UInt8 → Bool
  | _, [] => false
  | [], _ :: _ => true
  | a :: x, b :: y => decide (a < b) || (a == b && lt8 x y)
def ltS (a b : ByteArray) : Bool := lt8 a.data.toList b.data.toList

/-- The first error that the places tell; 0: none. -/
def firstErr (f : Nat → Int) (n : Nat) : Int := (((List.range n).map f).find? (fun e => !(e == 0))).getD 0
theorem firstErr_none {f : Nat → Int} {n : Nat} (h : (List.range n).all (fun i => f i == 0) = true) : firstErr f n = 0 := by
  unfold firstErr
  rw [List.find?_eq_none.2]
  · rfl
  · intro x hx
    obtain ⟨i, hi, rfl⟩ := List.mem_map.1 hx
    have := List.all_eq_true.1 h i hi
    simpa using this
theorem firstErr_at {f : Nat → Int} {n k : Nat} {e : Int} (h : (List.range k).all (fun i => f i == 0) = true) (hk : k < n) (hf : f k = e) (he : e ≠ 0) : firstErr f n = e := by
  unfold firstErr
  obtain ⟨m, rfl⟩ : ∃ m, n = k + (m + 1) := ⟨n - k - 1, by omega⟩
  rw [List.range_add, List.map_append, List.find?_append, List.find?_eq_none.2]
  · rw [List.range_succ_eq_map]
    simp [hf, he]
  · intro x hx
    obtain ⟨i, hi, rfl⟩ := List.mem_map.1 hx
    have := List.all_eq_true.1 h i hi
    simpa using this
theorem all_range_succ {p : Nat → Bool} {k : Nat} (h : (List.range k).all p = true) (hk : p k = true) : (List.range (k + 1)).all p = true := by
  rw [List.range_succ, List.all_append, h]
  simp [hk]

/-- Not in order: the name behind that one. -/
def behind (p : Option ByteArray) (n : ByteArray) : Bool := match p with | some q => !ltS q n | none => false
/-- lock.Check: what it says of a lock behind that of this name. -/
def lockErr (p : Option ByteArray) (k : Lk) : Int :=
  if !isName k.name || (!(k.holder == 0) && !isClient k.holder) || !lineOk k.holder k.line then 4
  else if decide (k.fence < 1) || decide (1073741824 < k.fence) then 2
  else if behind p k.name then 14
  else 0
def prev {α : Type} (nm : α → ByteArray) (l : List α) : Nat → Option ByteArray
  | 0 => none
  | i + 1 => (l[i]?).map nm
def lockAt (l : List Lk) (i : Nat) : Int := match l[i]? with | some k => lockErr (prev Lk.name l i) k | none => 0
/-- lock.Check. -/
def lockCheck (l : List Lk) : Int := if 5 < l.length then 1 else firstErr (lockAt l) l.length

/-- codec.ReadNumber from place k on, f bytes more at most, a read so far: the number, what is left, the error. -/
def rdNum (s : ByteArray) : Nat → Nat → Nat → Nat × ByteArray × Int
  | 0, _, _ => (0, ⟨#[]⟩, 4)
  | f + 1, k, a =>
    if h : k < s.size then
      if 128 ≤ s[k].toNat then rdNum s f (k + 1) (a + s[k].toNat % 128 * 2 ^ (7 * k))
      else if (s[k].toNat = 0 ∧ 0 < k) ∨ 1099511627776 < a + s[k].toNat % 128 * 2 ^ (7 * k) then (0, ⟨#[]⟩, 4)
      else (a + s[k].toNat % 128 * 2 ^ (7 * k), s.extract (k + 1) s.size, 0)
    else (0, ⟨#[]⟩, 5)
/-- codec.ReadNumber. -/
def readNumber (s : ByteArray) : Nat × ByteArray × Int := rdNum s 6 0 0

/-- codec.ReadText. -/
def readText (s : ByteArray) : ByteArray × ByteArray × Int :=
  if (readNumber s).2.2 = 0 then
    if 5000 < (readNumber s).1 then (⟨#[]⟩, ⟨#[]⟩, 1)
    else if (readNumber s).2.1.size < (readNumber s).1 then (⟨#[]⟩, ⟨#[]⟩, 5)
    else ((readNumber s).2.1.extract 0 (readNumber s).1, (readNumber s).2.1.extract (readNumber s).1 (readNumber s).2.1.size, 0)
  else (⟨#[]⟩, ⟨#[]⟩, (readNumber s).2.2)

structure Opn where
  kind : Int
  a : ByteArray
  b : ByteArray
  n : Int
structure Cm where
  kind : Int
  client : Int
  session : Int
  seq : Int
  acked : Int
  op : Opn
/-- command.CheckOp. -/
def checkOp (o : Opn) : Int :=
  if o.kind < 1 ∨ 6 < o.kind then 3
  else if isName o.a = false ∨ (o.kind ≠ 5 ∧ o.b.toList ≠ []) then 4
  else if 12 < o.b.size then 1
  else if (o.kind = 5 ∧ (o.n < 1 ∨ 1073741824 < o.n)) ∨ (o.kind ≠ 5 ∧ o.n ≠ 0) then 2
  else 0
/-- command.Check. -/
def checkCommand (c : Cm) : Int :=
  if c.kind < 1 ∨ 3 < c.kind then 3
  else if c.client < 1 ∨ 9 < c.client then 2
  else if c.kind ≠ 2 then
    if c.session ≠ 0 ∨ c.seq ≠ 0 ∨ c.acked ≠ 0 ∨ ¬ (c.op.kind = 0 ∧ c.op.a.toList = [] ∧ c.op.b.toList = [] ∧ c.op.n = 0) then 4 else 0
  else if c.session < 1 ∨ 1073741824 < c.session ∨ c.seq < 1 ∨ 1048576 < c.seq ∨ c.acked < 0 ∨ c.seq ≤ c.acked then 2
  else checkOp c.op

def body7 (c : Cm) (n1 n2 n3 n4 n5 : Nat) (a s : ByteArray) : Cm × ByteArray × Int :=
  match readText s with
  | (b, t, e) => if e = 0 then ({ c with session := n1, seq := n2, acked := n3, op := ⟨n4, a, b, n5⟩ }, t, 0) else (c, ⟨#[]⟩, e)
def body6 (c : Cm) (n1 n2 n3 n4 n5 : Nat) (s : ByteArray) : Cm × ByteArray × Int :=
  match readText s with
  | (a, t, e) => if e = 0 then body7 c n1 n2 n3 n4 n5 a t else (c, ⟨#[]⟩, e)
def body5 (c : Cm) (n1 n2 n3 n4 : Nat) (s : ByteArray) : Cm × ByteArray × Int :=
  match readNumber s with
  | (n, t, e) => if e = 0 then body6 c n1 n2 n3 n4 n t else (c, ⟨#[]⟩, e)
def body4 (c : Cm) (n1 n2 n3 : Nat) (s : ByteArray) : Cm × ByteArray × Int :=
  match readNumber s with
  | (n, t, e) => if e = 0 then body5 c n1 n2 n3 n t else (c, ⟨#[]⟩, e)
def body3 (c : Cm) (n1 n2 : Nat) (s : ByteArray) : Cm × ByteArray × Int :=
  match readNumber s with
  | (n, t, e) => if e = 0 then body4 c n1 n2 n t else (c, ⟨#[]⟩, e)
def body2 (c : Cm) (n1 : Nat) (s : ByteArray) : Cm × ByteArray × Int :=
  match readNumber s with
  | (n, t, e) => if e = 0 then body3 c n1 n t else (c, ⟨#[]⟩, e)
/-- command.body: the command, what is left, the error. -/
def bodyOf (c : Cm) (s : ByteArray) : Cm × ByteArray × Int :=
  match readNumber s with
  | (n, t, e) => if e = 0 then body2 c n t else (c, ⟨#[]⟩, e)

def noCommand : Cm := ⟨0, 0, 0, 0, 0, ⟨0, ⟨#[]⟩, ⟨#[]⟩, 0⟩⟩
def decodeEnd (c : Cm) (t : ByteArray) : Cm × Int :=
  if t.toList = [] then if checkCommand c = 0 then (c, 0) else (noCommand, checkCommand c) else (noCommand, 4)
/-- command.Decode: the command, the error. -/
def decode (s : ByteArray) : Cm × Int :=
  if 5000 < s.size then (noCommand, 1)
  else if h : 2 ≤ s.size then
    if (s[0]'(by omega)).toNat = 2 then
      match bodyOf { noCommand with kind := (s[0]'(by omega)).toNat, client := (s[1]'(by omega)).toNat } (s.extract 2 s.size) with
      | (c, t, e) => if e = 0 then decodeEnd c t else (noCommand, e)
    else decodeEnd { noCommand with kind := (s[0]'(by omega)).toNat, client := (s[1]'(by omega)).toNat } (s.extract 2 s.size)
  else (noCommand, 5)

/-- log.Check. -/
def logCheck (l : Lg) : Int :=
  if l.base < 0 ∨ 1073741424 < l.base then 2
  else if 400 < l.entries.length then 1
  else firstErr (fun i => (decode (l.entries.getD i ⟨#[]⟩)).2) l.entries.length

end Go.Proofs.Ytgplhidnegbbpaa

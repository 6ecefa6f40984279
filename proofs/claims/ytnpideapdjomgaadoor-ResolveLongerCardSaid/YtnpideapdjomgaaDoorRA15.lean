/- Texts that lead to the claim, one behind the other: What a command may be, in lists. Plain. No conditions. -/
import Derived.Test.YtnpideapdjomgaaDoorRA7
import Derived.Lib.Bytealg
namespace Go.Proofs.YtnpideapdjomgaaDoor
open Go

namespace Cmd
def most (n : UInt8) : Int := if ([125, 58] : List UInt8).contains n then 0 else if ([61, 97, 105, 113, 114] : List UInt8).contains n then 1 else if ([123, 98, 99, 100, 68, 103, 71, 104, 72, 108, 110, 78, 112, 80, 115, 116, 119, 120, 121] : List UInt8).contains n then 2 else -1
def blank (b : UInt8) : Bool := b == 32 || b == 9
/-- A label (it may be empty). -/
def label (l : List UInt8) : Bool := !l.contains 10 && (l.isEmpty || (!blank (l.headD 0) && !blank (l.getLastD 0)))
/-- A file's name. -/
def file (l : List UInt8) : Bool := decide (1 ≤ l.length) && decide (l.length ≤ 64) && (!l.contains 0 && !l.contains 10 && !l.contains 47) && !blank (l.headD 0)
def right (a : Ad) : Bool :=
  if a.kind == 0 || a.kind == 2 then a.n == 0 && a.re.isEmpty
  else if a.kind == 1 then decide (1 ≤ a.n) && decide (a.n ≤ 2147483647) && a.re.isEmpty
  else if a.kind == 3 then a.n == 0 && (a.re.isEmpty || Syn.shaped a.re) else false
def said (c : Cm) : Bool :=
  if c.name == 97 || c.name == 99 || c.name == 105 then true
  else if c.name == 98 || c.name == 116 then label c.text
  else if c.name == 58 then !c.text.isEmpty && label c.text
  else if c.name == 114 || c.name == 119 then file c.text
  else if c.name == 115 && c.write then file c.text
  else c.text.isEmpty
def many (c : Cm) : Int := (if c.a.kind != 0 then 1 else 0) + (if c.b.kind != 0 then 1 else 0)
def plainTable (c : Cm) : Bool := c.table.all (· == 0)
end Cmd
theorem idx_contains (l : List UInt8) (c : UInt8) : decide (0 ≤ Lib.indexByte l c) = l.contains c := by
  induction l with
  | nil => rfl
  | cons b l ih =>
    unfold Lib.indexByte
    by_cases h : b = c
    · subst h; simp
    · have h1 : (b == c) = false := by simpa using h
      have h2 : (c == b) = false := by simpa using fun e : c = b => h e.symm
      rw [h1, List.contains_cons, h2, Bool.false_or, ← ih]
      have := Lib.indexByte_ge l c
      simp only [Bool.false_eq_true, if_false]
      split
      · rename_i h3
        have : Lib.indexByte l c = -1 := by simpa using h3
        rw [this]; try rfl
      · rename_i h3
        have h4 : Lib.indexByte l c ≠ -1 := by simpa using h3
        have a1 : decide (0 ≤ Lib.indexByte l c + 1) = true := by simp; omega
        have a2 : decide (0 ≤ Lib.indexByte l c) = true := by simp; omega
        rw [a1, a2]
theorem idx_lt0 (l : List UInt8) (c : UInt8) : decide (Lib.indexByte l c < 0) = !l.contains c := by
  rw [← idx_contains]
  by_cases h : 0 ≤ Lib.indexByte l c
  · have a1 : decide (Lib.indexByte l c < 0) = false := by simp; omega
    have a2 : decide (0 ≤ Lib.indexByte l c) = true := by simpa using h
    rw [a1, a2]; rfl
  · have a1 : decide (Lib.indexByte l c < 0) = true := by simp; omega
    have a2 : decide (0 ≤ Lib.indexByte l c) = false := by simpa using h
    rw [a1, a2]; rfl
end Go.Proofs.YtnpideapdjomgaaDoor

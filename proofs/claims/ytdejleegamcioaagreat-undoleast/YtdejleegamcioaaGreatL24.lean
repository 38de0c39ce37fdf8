/- Calls of the reference's arithmetic that were run once. -/
import Derived.Test.YtdejleegamcioaaGreatProg
import Derived.KernelRfl
import Derived.Test.YtdejleegamcioaaGreatL07
namespace Go.Proofs.YtdejleegamcioaaGreat
open Go Go.M
namespace Tab
def n (i : Int) : Value := .int .i64 i
def tt : Value := .bool true
def ff : Value := .bool false
def p (b o : Nat) : Value := .pointer (some ⟨b, o, none⟩)
def z : Value := .slice none 0 0
def s (b o k c : Nat) : Value := .slice (some ⟨b, o, none⟩) k c
def a (l : List Value) : Value := .agg ⟨l⟩
def t (l : List Value) : Value := .tuple ⟨l⟩
theorem mixed : Tryz.prog.follows .mixedOrders = true := by kernel_rfl
def T0 : Memo := .nil
theorem ok0 : T0.OK Tryz.prog := Memo.ok_nil

/-- digit -/
def l211 : List Entry := [
  ⟨[(s 0 0 1 3), (n 0)], [([(n 1)], 3)], (n 1), []⟩,
  ⟨[(s 0 0 1 3), (n 0)], [([(n 100)], 3)], (n 100), []⟩,
  ⟨[(s 0 0 1 3), (n 0)], [([(n 12)], 3)], (n 12), []⟩,
  ⟨[(s 0 0 1 3), (n 0)], [([(n 16)], 3)], (n 16), []⟩,
  ⟨[(s 0 0 1 3), (n 0)], [([(n 18)], 3)], (n 18), []⟩,
  ⟨[(s 0 0 1 3), (n 0)], [([(n 2)], 3)], (n 2), []⟩,
  ⟨[(s 0 0 1 3), (n 0)], [([(n 3)], 3)], (n 3), []⟩,
  ⟨[(s 0 0 1 3), (n 0)], [([(n 4)], 3)], (n 4), []⟩,
  ⟨[(s 0 0 1 3), (n 0)], [([(n 40)], 3)], (n 40), []⟩,
  ⟨[(s 0 0 1 3), (n 0)], [([(n 5)], 3)], (n 5), []⟩,
  ⟨[(s 0 0 1 3), (n 0)], [([(n 6)], 3)], (n 6), []⟩,
  ⟨[(s 0 0 1 3), (n 0)], [([(n 8)], 3)], (n 8), []⟩,
  ⟨[(s 0 0 1 3), (n 0)], [([(n 9)], 3)], (n 9), []⟩,
  ⟨[(s 0 0 1 3), (n 1)], [([(n 1)], 3)], (n 0), []⟩,
  ⟨[(s 0 0 1 3), (n 1)], [([(n 100)], 3)], (n 0), []⟩,
  ⟨[(s 0 0 1 3), (n 1)], [([(n 12)], 3)], (n 0), []⟩,
  ⟨[(s 0 0 1 3), (n 1)], [([(n 16)], 3)], (n 0), []⟩,
  ⟨[(s 0 0 1 3), (n 1)], [([(n 18)], 3)], (n 0), []⟩,
  ⟨[(s 0 0 1 3), (n 1)], [([(n 2)], 3)], (n 0), []⟩,
  ⟨[(s 0 0 1 3), (n 1)], [([(n 3)], 3)], (n 0), []⟩,
  ⟨[(s 0 0 1 3), (n 1)], [([(n 4)], 3)], (n 0), []⟩,
  ⟨[(s 0 0 1 3), (n 1)], [([(n 40)], 3)], (n 0), []⟩,
  ⟨[(s 0 0 1 3), (n 1)], [([(n 5)], 3)], (n 0), []⟩,
  ⟨[(s 0 0 1 3), (n 1)], [([(n 6)], 3)], (n 0), []⟩,
  ⟨[(s 0 0 1 3), (n 1)], [([(n 8)], 3)], (n 0), []⟩,
  ⟨[(s 0 0 1 3), (n 1)], [([(n 9)], 3)], (n 0), []⟩,
  ⟨[(s 0 0 1 4), (n 0)], [([(n 1), (n 0)], 3)], (n 1), []⟩,
  ⟨[(s 0 0 1 4), (n 0)], [([(n 12), (n 0)], 3)], (n 12), []⟩,
  ⟨[(s 0 0 1 4), (n 0)], [([(n 18), (n 0)], 3)], (n 18), []⟩,
  ⟨[(s 0 0 1 4), (n 0)], [([(n 2), (n 0)], 3)], (n 2), []⟩,
  ⟨[(s 0 0 1 4), (n 0)], [([(n 24), (n 0)], 3)], (n 24), []⟩,
  ⟨[(s 0 0 1 4), (n 0)], [([(n 3), (n 0)], 3)], (n 3), []⟩,
  ⟨[(s 0 0 1 4), (n 0)], [([(n 4), (n 0)], 3)], (n 4), []⟩,
  ⟨[(s 0 0 1 4), (n 0)], [([(n 6), (n 0)], 3)], (n 6), []⟩,
  ⟨[(s 0 0 1 4), (n 0)], [([(n 8), (n 0)], 3)], (n 8), []⟩,
  ⟨[(s 0 0 1 4), (n 0)], [([(n 9), (n 0)], 3)], (n 9), []⟩,
  ⟨[(s 0 0 1 4), (n 1)], [([(n 1), (n 0)], 3)], (n 0), []⟩,
  ⟨[(s 0 0 1 4), (n 1)], [([(n 12), (n 0)], 3)], (n 0), []⟩,
  ⟨[(s 0 0 1 4), (n 1)], [([(n 18), (n 0)], 3)], (n 0), []⟩,
  ⟨[(s 0 0 1 4), (n 1)], [([(n 2), (n 0)], 3)], (n 0), []⟩,
  ⟨[(s 0 0 1 4), (n 1)], [([(n 24), (n 0)], 3)], (n 0), []⟩,
  ⟨[(s 0 0 1 4), (n 1)], [([(n 3), (n 0)], 3)], (n 0), []⟩,
  ⟨[(s 0 0 1 4), (n 1)], [([(n 4), (n 0)], 3)], (n 0), []⟩,
  ⟨[(s 0 0 1 4), (n 1)], [([(n 6), (n 0)], 3)], (n 0), []⟩,
  ⟨[(s 0 0 1 4), (n 1)], [([(n 8), (n 0)], 3)], (n 0), []⟩,
  ⟨[(s 0 0 1 4), (n 1)], [([(n 9), (n 0)], 3)], (n 0), []⟩,
  ⟨[z, (n 0)], [], (n 0), []⟩]

theorem c211 : l211.all (fun e => e.check Tryz.prog (memo T0) 100000 211) = true := by kernel_rfl

def T1 : Memo := (.node (none) (.node (none) (.node (none) .nil (.node (none) (.node (none) .nil (.node (none) (.node (none) .nil (.node (some l211) .nil .nil)) .nil)) .nil)) .nil) .nil)
theorem ok1 : T1.OK Tryz.prog := Memo.ok_put mixed ok0 rfl c211

/-- normal -/
def l167 : List Entry := [
  ⟨[ff, (s 0 0 0 0)], [([], 3)], (a [ff, z]), []⟩,
  ⟨[ff, (s 0 0 1 2)], [([(n 0)], 3)], (a [ff, z]), []⟩,
  ⟨[ff, (s 0 0 1 3)], [([(n 0)], 3)], (a [ff, z]), []⟩,
  ⟨[ff, (s 0 0 1 3)], [([(n 1)], 3)], (a [ff, (s 0 0 1 3)]), []⟩,
  ⟨[ff, (s 0 0 1 3)], [([(n 100)], 3)], (a [ff, (s 0 0 1 3)]), []⟩,
  ⟨[ff, (s 0 0 1 3)], [([(n 12)], 3)], (a [ff, (s 0 0 1 3)]), []⟩,
  ⟨[ff, (s 0 0 1 3)], [([(n 16)], 3)], (a [ff, (s 0 0 1 3)]), []⟩,
  ⟨[ff, (s 0 0 1 3)], [([(n 18)], 3)], (a [ff, (s 0 0 1 3)]), []⟩,
  ⟨[ff, (s 0 0 1 3)], [([(n 2)], 3)], (a [ff, (s 0 0 1 3)]), []⟩,
  ⟨[ff, (s 0 0 1 3)], [([(n 24)], 3)], (a [ff, (s 0 0 1 3)]), []⟩,
  ⟨[ff, (s 0 0 1 3)], [([(n 3)], 3)], (a [ff, (s 0 0 1 3)]), []⟩,
  ⟨[ff, (s 0 0 1 3)], [([(n 4)], 3)], (a [ff, (s 0 0 1 3)]), []⟩,
  ⟨[ff, (s 0 0 1 3)], [([(n 40)], 3)], (a [ff, (s 0 0 1 3)]), []⟩,
  ⟨[ff, (s 0 0 1 3)], [([(n 5)], 3)], (a [ff, (s 0 0 1 3)]), []⟩,
  ⟨[ff, (s 0 0 1 3)], [([(n 6)], 3)], (a [ff, (s 0 0 1 3)]), []⟩,
  ⟨[ff, (s 0 0 1 3)], [([(n 8)], 3)], (a [ff, (s 0 0 1 3)]), []⟩,
  ⟨[ff, (s 0 0 1 3)], [([(n 9)], 3)], (a [ff, (s 0 0 1 3)]), []⟩,
  ⟨[ff, (s 0 0 1 4)], [([(n 1), (n 0)], 3)], (a [ff, (s 0 0 1 4)]), []⟩,
  ⟨[ff, (s 0 0 1 4)], [([(n 12), (n 0)], 3)], (a [ff, (s 0 0 1 4)]), []⟩,
  ⟨[ff, (s 0 0 1 4)], [([(n 18), (n 0)], 3)], (a [ff, (s 0 0 1 4)]), []⟩,
  ⟨[ff, (s 0 0 1 4)], [([(n 2), (n 0)], 3)], (a [ff, (s 0 0 1 4)]), []⟩,
  ⟨[ff, (s 0 0 1 4)], [([(n 24), (n 0)], 3)], (a [ff, (s 0 0 1 4)]), []⟩,
  ⟨[ff, (s 0 0 1 4)], [([(n 3), (n 0)], 3)], (a [ff, (s 0 0 1 4)]), []⟩,
  ⟨[ff, (s 0 0 1 4)], [([(n 4), (n 0)], 3)], (a [ff, (s 0 0 1 4)]), []⟩,
  ⟨[ff, (s 0 0 1 4)], [([(n 6), (n 0)], 3)], (a [ff, (s 0 0 1 4)]), []⟩,
  ⟨[ff, (s 0 0 1 4)], [([(n 8), (n 0)], 3)], (a [ff, (s 0 0 1 4)]), []⟩,
  ⟨[ff, (s 0 0 1 4)], [([(n 9), (n 0)], 3)], (a [ff, (s 0 0 1 4)]), []⟩,
  ⟨[ff, (s 0 0 2 4)], [([(n 1), (n 0)], 3)], (a [ff, (s 0 0 1 4)]), []⟩,
  ⟨[ff, (s 0 0 2 4)], [([(n 12), (n 0)], 3)], (a [ff, (s 0 0 1 4)]), []⟩,
  ⟨[ff, (s 0 0 2 4)], [([(n 18), (n 0)], 3)], (a [ff, (s 0 0 1 4)]), []⟩,
  ⟨[ff, (s 0 0 2 4)], [([(n 2), (n 0)], 3)], (a [ff, (s 0 0 1 4)]), []⟩,
  ⟨[ff, (s 0 0 2 4)], [([(n 24), (n 0)], 3)], (a [ff, (s 0 0 1 4)]), []⟩,
  ⟨[ff, (s 0 0 2 4)], [([(n 3), (n 0)], 3)], (a [ff, (s 0 0 1 4)]), []⟩,
  ⟨[ff, (s 0 0 2 4)], [([(n 4), (n 0)], 3)], (a [ff, (s 0 0 1 4)]), []⟩,
  ⟨[ff, (s 0 0 2 4)], [([(n 6), (n 0)], 3)], (a [ff, (s 0 0 1 4)]), []⟩,
  ⟨[ff, (s 0 0 2 4)], [([(n 8), (n 0)], 3)], (a [ff, (s 0 0 1 4)]), []⟩,
  ⟨[ff, (s 0 0 2 4)], [([(n 9), (n 0)], 3)], (a [ff, (s 0 0 1 4)]), []⟩,
  ⟨[ff, z], [], (a [ff, z]), []⟩,
  ⟨[tt, (s 0 0 1 2)], [([(n 0)], 3)], (a [ff, z]), []⟩,
  ⟨[tt, (s 0 0 1 3)], [([(n 1)], 3)], (a [tt, (s 0 0 1 3)]), []⟩,
  ⟨[tt, (s 0 0 1 3)], [([(n 12)], 3)], (a [tt, (s 0 0 1 3)]), []⟩,
  ⟨[tt, (s 0 0 1 3)], [([(n 16)], 3)], (a [tt, (s 0 0 1 3)]), []⟩,
  ⟨[tt, (s 0 0 1 3)], [([(n 2)], 3)], (a [tt, (s 0 0 1 3)]), []⟩,
  ⟨[tt, (s 0 0 1 3)], [([(n 3)], 3)], (a [tt, (s 0 0 1 3)]), []⟩,
  ⟨[tt, (s 0 0 1 3)], [([(n 4)], 3)], (a [tt, (s 0 0 1 3)]), []⟩,
  ⟨[tt, (s 0 0 1 3)], [([(n 6)], 3)], (a [tt, (s 0 0 1 3)]), []⟩,
  ⟨[tt, (s 0 0 1 3)], [([(n 9)], 3)], (a [tt, (s 0 0 1 3)]), []⟩,
  ⟨[tt, (s 0 0 2 4)], [([(n 1), (n 0)], 3)], (a [tt, (s 0 0 1 4)]), []⟩,
  ⟨[tt, (s 0 0 2 4)], [([(n 12), (n 0)], 3)], (a [tt, (s 0 0 1 4)]), []⟩,
  ⟨[tt, (s 0 0 2 4)], [([(n 2), (n 0)], 3)], (a [tt, (s 0 0 1 4)]), []⟩,
  ⟨[tt, (s 0 0 2 4)], [([(n 3), (n 0)], 3)], (a [tt, (s 0 0 1 4)]), []⟩,
  ⟨[tt, (s 0 0 2 4)], [([(n 4), (n 0)], 3)], (a [tt, (s 0 0 1 4)]), []⟩,
  ⟨[tt, (s 0 0 2 4)], [([(n 6), (n 0)], 3)], (a [tt, (s 0 0 1 4)]), []⟩,
  ⟨[tt, (s 0 0 2 4)], [([(n 9), (n 0)], 3)], (a [tt, (s 0 0 1 4)]), []⟩,
  ⟨[tt, z], [], (a [ff, z]), []⟩]

theorem c167 : l167.all (fun e => e.check Tryz.prog (memo T1) 100000 167) = true := by kernel_rfl

def T2 : Memo := (.node (none) (.node (none) (.node (none) (.node (none) .nil (.node (none) (.node (none) .nil (.node (none) (.node (some l167) .nil .nil) .nil)) .nil)) (.node (none) (.node (none) .nil (.node (none) (.node (none) .nil (.node (some l211) .nil .nil)) .nil)) .nil)) .nil) .nil)
theorem ok2 : T2.OK Tryz.prog := Memo.ok_put mixed ok1 rfl c167

/-- compared -/
def l169 : List Entry := [
  ⟨[(s 0 0 1 3), z], [([(n 1)], 3)], (n 1), []⟩,
  ⟨[(s 0 0 1 3), z], [([(n 3)], 3)], (n 1), []⟩,
  ⟨[(s 0 0 1 3), z], [([(n 9)], 3)], (n 1), []⟩,
  ⟨[(s 0 0 1 4), (s 1 0 1 4)], [([(n 1), (n 0)], 3), ([(n 1), (n 0)], 3)], (n 0), []⟩,
  ⟨[(s 0 0 1 4), (s 1 0 1 4)], [([(n 1), (n 0)], 3), ([(n 4), (n 0)], 3)], (n (-1)), []⟩,
  ⟨[(s 0 0 1 4), (s 1 0 1 4)], [([(n 2), (n 0)], 3), ([(n 8), (n 0)], 3)], (n (-1)), []⟩,
  ⟨[(s 0 0 1 4), (s 1 0 1 4)], [([(n 3), (n 0)], 3), ([(n 12), (n 0)], 3)], (n (-1)), []⟩,
  ⟨[(s 0 0 1 4), (s 1 0 1 4)], [([(n 4), (n 0)], 3), ([(n 1), (n 0)], 3)], (n 1), []⟩,
  ⟨[(s 0 0 1 4), (s 1 0 1 4)], [([(n 4), (n 0)], 3), ([(n 4), (n 0)], 3)], (n 0), []⟩,
  ⟨[(s 0 0 1 4), (s 1 0 1 4)], [([(n 6), (n 0)], 3), ([(n 24), (n 0)], 3)], (n (-1)), []⟩,
  ⟨[(s 0 0 1 4), z], [([(n 1), (n 0)], 3)], (n 1), []⟩,
  ⟨[(s 0 0 1 4), z], [([(n 12), (n 0)], 3)], (n 1), []⟩,
  ⟨[(s 0 0 1 4), z], [([(n 2), (n 0)], 3)], (n 1), []⟩,
  ⟨[(s 0 0 1 4), z], [([(n 3), (n 0)], 3)], (n 1), []⟩,
  ⟨[(s 0 0 1 4), z], [([(n 4), (n 0)], 3)], (n 1), []⟩,
  ⟨[(s 0 0 1 4), z], [([(n 6), (n 0)], 3)], (n 1), []⟩,
  ⟨[z, (s 0 0 1 4)], [([(n 1), (n 0)], 3)], (n (-1)), []⟩,
  ⟨[z, (s 0 0 1 4)], [([(n 12), (n 0)], 3)], (n (-1)), []⟩,
  ⟨[z, (s 0 0 1 4)], [([(n 2), (n 0)], 3)], (n (-1)), []⟩,
  ⟨[z, (s 0 0 1 4)], [([(n 3), (n 0)], 3)], (n (-1)), []⟩,
  ⟨[z, (s 0 0 1 4)], [([(n 4), (n 0)], 3)], (n (-1)), []⟩,
  ⟨[z, (s 0 0 1 4)], [([(n 6), (n 0)], 3)], (n (-1)), []⟩]

theorem c169 : l169.all (fun e => e.check Tryz.prog (memo T2) 100000 169) = true := by kernel_rfl

def T3 : Memo := (.node (none) (.node (none) (.node (none) (.node (none) .nil (.node (none) (.node (none) .nil (.node (none) (.node (some l167) .nil .nil) .nil)) .nil)) (.node (none) (.node (none) .nil (.node (none) (.node (none) .nil (.node (some l211) .nil .nil)) .nil)) .nil)) (.node (none) (.node (none) .nil (.node (none) (.node (none) .nil (.node (none) (.node (some l169) .nil .nil) .nil)) .nil)) .nil)) .nil)
theorem ok3 : T3.OK Tryz.prog := Memo.ok_put mixed ok2 rfl c169

/-- Valid -/
def l212 : List Entry := [
  ⟨[(a [ff, (s 0 0 1 3)])], [([(n 1)], 3)], tt, []⟩,
  ⟨[(a [ff, (s 0 0 1 3)])], [([(n 4)], 3)], tt, []⟩,
  ⟨[(a [ff, z])], [], tt, []⟩]

theorem c212 : l212.all (fun e => e.check Tryz.prog (memo T3) 100000 212) = true := by kernel_rfl

def T4 : Memo := (.node (none) (.node (none) (.node (none) (.node (none) .nil (.node (none) (.node (none) .nil (.node (none) (.node (some l167) .nil .nil) .nil)) .nil)) (.node (none) (.node (none) .nil (.node (none) (.node (none) .nil (.node (some l211) .nil .nil)) .nil)) .nil)) (.node (none) (.node (none) .nil (.node (none) (.node (none) .nil (.node (none) (.node (some l169) .nil .nil) .nil)) .nil)) .nil)) (.node (none) (.node (none) .nil (.node (none) (.node (none) .nil (.node (none) (.node (none) .nil (.node (some l212) .nil .nil)) .nil)) .nil)) .nil))
theorem ok4 : T4.OK Tryz.prog := Memo.ok_put mixed ok3 rfl c212

/-- Same -/
def l151 : List Entry := [
  ⟨[(a [ff, (s 0 0 1 3)]), (a [ff, (s 1 0 1 3)])], [([(n 1)], 3), ([(n 1)], 3)], tt, []⟩,
  ⟨[(a [ff, z]), (a [ff, z])], [], tt, []⟩]

theorem c151 : l151.all (fun e => e.check Tryz.prog (memo T4) 100000 151) = true := by kernel_rfl

def T5 : Memo := (.node (none) (.node (none) (.node (none) (.node (none) .nil (.node (none) (.node (none) .nil (.node (none) (.node (some l167) .nil .nil) .nil)) (.node (none) (.node (none) (.node (some l151) .nil .nil) .nil) .nil))) (.node (none) (.node (none) .nil (.node (none) (.node (none) .nil (.node (some l211) .nil .nil)) .nil)) .nil)) (.node (none) (.node (none) .nil (.node (none) (.node (none) .nil (.node (none) (.node (some l169) .nil .nil) .nil)) .nil)) .nil)) (.node (none) (.node (none) .nil (.node (none) (.node (none) .nil (.node (none) (.node (none) .nil (.node (some l212) .nil .nil)) .nil)) .nil)) .nil))
theorem ok5 : T5.OK Tryz.prog := Memo.ok_put mixed ok4 rfl c151

/-- Of -/
def l113 : List Entry := [
  ⟨[(n (-16))], [], (a [tt, (s 0 0 1 3)]), [([(n 16)], 3)]⟩,
  ⟨[(n (-2))], [], (a [tt, (s 0 0 1 3)]), [([(n 2)], 3)]⟩,
  ⟨[(n (-3))], [], (a [tt, (s 0 0 1 3)]), [([(n 3)], 3)]⟩,
  ⟨[(n (-4))], [], (a [tt, (s 0 0 1 3)]), [([(n 4)], 3)]⟩,
  ⟨[(n 0)], [], (a [ff, z]), []⟩,
  ⟨[(n 1)], [], (a [ff, (s 0 0 1 3)]), [([(n 1)], 3)]⟩,
  ⟨[(n 100)], [], (a [ff, (s 0 0 1 3)]), [([(n 100)], 3)]⟩,
  ⟨[(n 12)], [], (a [ff, (s 0 0 1 3)]), [([(n 12)], 3)]⟩,
  ⟨[(n 16)], [], (a [ff, (s 0 0 1 3)]), [([(n 16)], 3)]⟩,
  ⟨[(n 18)], [], (a [ff, (s 0 0 1 3)]), [([(n 18)], 3)]⟩,
  ⟨[(n 2)], [], (a [ff, (s 0 0 1 3)]), [([(n 2)], 3)]⟩,
  ⟨[(n 24)], [], (a [ff, (s 0 0 1 3)]), [([(n 24)], 3)]⟩,
  ⟨[(n 3)], [], (a [ff, (s 0 0 1 3)]), [([(n 3)], 3)]⟩,
  ⟨[(n 4)], [], (a [ff, (s 0 0 1 3)]), [([(n 4)], 3)]⟩,
  ⟨[(n 40)], [], (a [ff, (s 0 0 1 3)]), [([(n 40)], 3)]⟩,
  ⟨[(n 5)], [], (a [ff, (s 0 0 1 3)]), [([(n 5)], 3)]⟩,
  ⟨[(n 6)], [], (a [ff, (s 0 0 1 3)]), [([(n 6)], 3)]⟩,
  ⟨[(n 8)], [], (a [ff, (s 0 0 1 3)]), [([(n 8)], 3)]⟩,
  ⟨[(n 9)], [], (a [ff, (s 0 0 1 3)]), [([(n 9)], 3)]⟩]

theorem c113 : l113.all (fun e => e.check Tryz.prog (memo T5) 100000 113) = true := by kernel_rfl

def T6 : Memo := (.node (none) (.node (none) (.node (none) (.node (none) .nil (.node (none) (.node (none) .nil (.node (none) (.node (some l167) .nil .nil) .nil)) (.node (none) (.node (none) (.node (some l151) .nil .nil) .nil) .nil))) (.node (none) (.node (none) .nil (.node (none) (.node (none) .nil (.node (some l211) .nil .nil)) .nil)) .nil)) (.node (none) (.node (none) (.node (none) .nil (.node (none) .nil (.node (some l113) .nil .nil))) (.node (none) (.node (none) .nil (.node (none) (.node (some l169) .nil .nil) .nil)) .nil)) .nil)) (.node (none) (.node (none) .nil (.node (none) (.node (none) .nil (.node (none) (.node (none) .nil (.node (some l212) .nil .nil)) .nil)) .nil)) .nil))
theorem ok6 : T6.OK Tryz.prog := Memo.ok_put mixed ok5 rfl c113

/-- tiny -/
def l209 : List Entry := [
  ⟨[(s 0 0 1 3)], [([(n 1)], 3)], (n 1), []⟩,
  ⟨[(s 0 0 1 3)], [([(n 100)], 3)], (n 100), []⟩,
  ⟨[(s 0 0 1 3)], [([(n 12)], 3)], (n 12), []⟩,
  ⟨[(s 0 0 1 3)], [([(n 16)], 3)], (n 16), []⟩,
  ⟨[(s 0 0 1 3)], [([(n 18)], 3)], (n 18), []⟩,
  ⟨[(s 0 0 1 3)], [([(n 2)], 3)], (n 2), []⟩,
  ⟨[(s 0 0 1 3)], [([(n 3)], 3)], (n 3), []⟩,
  ⟨[(s 0 0 1 3)], [([(n 4)], 3)], (n 4), []⟩,
  ⟨[(s 0 0 1 3)], [([(n 40)], 3)], (n 40), []⟩,
  ⟨[(s 0 0 1 3)], [([(n 5)], 3)], (n 5), []⟩,
  ⟨[(s 0 0 1 3)], [([(n 6)], 3)], (n 6), []⟩,
  ⟨[(s 0 0 1 3)], [([(n 8)], 3)], (n 8), []⟩,
  ⟨[(s 0 0 1 3)], [([(n 9)], 3)], (n 9), []⟩,
  ⟨[(s 0 0 1 4)], [([(n 1), (n 0)], 3)], (n 1), []⟩,
  ⟨[(s 0 0 1 4)], [([(n 12), (n 0)], 3)], (n 12), []⟩,
  ⟨[(s 0 0 1 4)], [([(n 18), (n 0)], 3)], (n 18), []⟩,
  ⟨[(s 0 0 1 4)], [([(n 2), (n 0)], 3)], (n 2), []⟩,
  ⟨[(s 0 0 1 4)], [([(n 24), (n 0)], 3)], (n 24), []⟩,
  ⟨[(s 0 0 1 4)], [([(n 3), (n 0)], 3)], (n 3), []⟩,
  ⟨[(s 0 0 1 4)], [([(n 4), (n 0)], 3)], (n 4), []⟩,
  ⟨[(s 0 0 1 4)], [([(n 6), (n 0)], 3)], (n 6), []⟩,
  ⟨[(s 0 0 1 4)], [([(n 8), (n 0)], 3)], (n 8), []⟩,
  ⟨[(s 0 0 1 4)], [([(n 9), (n 0)], 3)], (n 9), []⟩]

theorem c209 : l209.all (fun e => e.check Tryz.prog (memo T6) 100000 209) = true := by kernel_rfl

def T7 : Memo := (.node (none) (.node (none) (.node (none) (.node (none) .nil (.node (none) (.node (none) .nil (.node (none) (.node (some l167) .nil .nil) .nil)) (.node (none) (.node (none) (.node (some l151) .nil .nil) .nil) .nil))) (.node (none) (.node (none) .nil (.node (none) (.node (none) .nil (.node (some l211) .nil .nil)) .nil)) .nil)) (.node (none) (.node (none) (.node (none) .nil (.node (none) (.node (none) .nil (.node (some l209) .nil .nil)) (.node (some l113) .nil .nil))) (.node (none) (.node (none) .nil (.node (none) (.node (some l169) .nil .nil) .nil)) .nil)) .nil)) (.node (none) (.node (none) .nil (.node (none) (.node (none) .nil (.node (none) (.node (none) .nil (.node (some l212) .nil .nil)) .nil)) .nil)) .nil))
theorem ok7 : T7.OK Tryz.prog := Memo.ok_put mixed ok6 rfl c209

/-- plus -/
def l168 : List Entry := [
  ⟨[(s 0 0 1 4), (s 1 0 1 4)], [([(n 1), (n 0)], 3), ([(n 1), (n 0)], 3)], (s 2 0 1 3), [([(n 2)], 3)]⟩,
  ⟨[(s 0 0 1 4), (s 1 0 1 4)], [([(n 1), (n 0)], 3), ([(n 3), (n 0)], 3)], (s 2 0 1 3), [([(n 4)], 3)]⟩,
  ⟨[(s 0 0 1 4), (s 1 0 1 4)], [([(n 1), (n 0)], 3), ([(n 4), (n 0)], 3)], (s 2 0 1 3), [([(n 5)], 3)]⟩,
  ⟨[(s 0 0 1 4), (s 1 0 1 4)], [([(n 4), (n 0)], 3), ([(n 1), (n 0)], 3)], (s 2 0 1 3), [([(n 5)], 3)]⟩,
  ⟨[(s 0 0 1 4), (s 1 0 1 4)], [([(n 4), (n 0)], 3), ([(n 4), (n 0)], 3)], (s 2 0 1 3), [([(n 8)], 3)]⟩,
  ⟨[(s 0 0 1 4), z], [([(n 1), (n 0)], 3)], (s 1 0 1 3), [([(n 1)], 3)]⟩,
  ⟨[(s 0 0 1 4), z], [([(n 12), (n 0)], 3)], (s 1 0 1 3), [([(n 12)], 3)]⟩,
  ⟨[(s 0 0 1 4), z], [([(n 18), (n 0)], 3)], (s 1 0 1 3), [([(n 18)], 3)]⟩,
  ⟨[(s 0 0 1 4), z], [([(n 2), (n 0)], 3)], (s 1 0 1 3), [([(n 2)], 3)]⟩,
  ⟨[(s 0 0 1 4), z], [([(n 3), (n 0)], 3)], (s 1 0 1 3), [([(n 3)], 3)]⟩,
  ⟨[(s 0 0 1 4), z], [([(n 4), (n 0)], 3)], (s 1 0 1 3), [([(n 4)], 3)]⟩,
  ⟨[(s 0 0 1 4), z], [([(n 6), (n 0)], 3)], (s 1 0 1 3), [([(n 6)], 3)]⟩,
  ⟨[(s 0 0 1 4), z], [([(n 9), (n 0)], 3)], (s 1 0 1 3), [([(n 9)], 3)]⟩,
  ⟨[z, (s 0 0 1 4)], [([(n 1), (n 0)], 3)], (s 1 0 1 3), [([(n 1)], 3)]⟩,
  ⟨[z, (s 0 0 1 4)], [([(n 12), (n 0)], 3)], (s 1 0 1 3), [([(n 12)], 3)]⟩,
  ⟨[z, (s 0 0 1 4)], [([(n 2), (n 0)], 3)], (s 1 0 1 3), [([(n 2)], 3)]⟩,
  ⟨[z, (s 0 0 1 4)], [([(n 3), (n 0)], 3)], (s 1 0 1 3), [([(n 3)], 3)]⟩,
  ⟨[z, (s 0 0 1 4)], [([(n 4), (n 0)], 3)], (s 1 0 1 3), [([(n 4)], 3)]⟩,
  ⟨[z, (s 0 0 1 4)], [([(n 6), (n 0)], 3)], (s 1 0 1 3), [([(n 6)], 3)]⟩,
  ⟨[z, (s 0 0 1 4)], [([(n 9), (n 0)], 3)], (s 1 0 1 3), [([(n 9)], 3)]⟩,
  ⟨[z, z], [], z, []⟩]

theorem c168 : l168.all (fun e => e.check Tryz.prog (memo T7) 100000 168) = true := by kernel_rfl

def T8 : Memo := (.node (none) (.node (none) (.node (none) (.node (none) .nil (.node (none) (.node (none) .nil (.node (none) (.node (some l167) .nil .nil) .nil)) (.node (none) (.node (none) (.node (some l151) .nil .nil) .nil) .nil))) (.node (none) (.node (none) .nil (.node (none) (.node (none) .nil (.node (some l211) .nil .nil)) .nil)) .nil)) (.node (none) (.node (none) (.node (none) .nil (.node (none) (.node (none) .nil (.node (some l209) .nil .nil)) (.node (some l113) .nil .nil))) (.node (none) (.node (none) .nil (.node (none) (.node (some l169) .nil .nil) .nil)) .nil)) .nil)) (.node (none) (.node (none) (.node (none) .nil (.node (none) (.node (none) .nil (.node (none) (.node (some l168) .nil .nil) .nil)) .nil)) (.node (none) (.node (none) .nil (.node (none) (.node (none) .nil (.node (some l212) .nil .nil)) .nil)) .nil)) .nil))
theorem ok8 : T8.OK Tryz.prog := Memo.ok_put mixed ok7 rfl c168

/-- minus -/
def l170 : List Entry := [
  ⟨[(s 0 0 1 4), (s 1 0 1 4)], [([(n 1), (n 0)], 3), ([(n 1), (n 0)], 3)], (s 2 0 1 3), [([(n 0)], 3)]⟩,
  ⟨[(s 0 0 1 4), (s 1 0 1 4)], [([(n 24), (n 0)], 3), ([(n 6), (n 0)], 3)], (s 2 0 1 3), [([(n 18)], 3)]⟩,
  ⟨[(s 0 0 1 4), (s 1 0 1 4)], [([(n 4), (n 0)], 3), ([(n 1), (n 0)], 3)], (s 2 0 1 3), [([(n 3)], 3)]⟩,
  ⟨[(s 0 0 1 4), (s 1 0 1 4)], [([(n 4), (n 0)], 3), ([(n 4), (n 0)], 3)], (s 2 0 1 3), [([(n 0)], 3)]⟩,
  ⟨[(s 0 0 1 4), (s 1 0 1 4)], [([(n 8), (n 0)], 3), ([(n 2), (n 0)], 3)], (s 2 0 1 3), [([(n 6)], 3)]⟩,
  ⟨[(s 0 0 1 4), z], [([(n 1), (n 0)], 3)], (s 1 0 1 3), [([(n 1)], 3)]⟩,
  ⟨[(s 0 0 1 4), z], [([(n 12), (n 0)], 3)], (s 1 0 1 3), [([(n 12)], 3)]⟩,
  ⟨[(s 0 0 1 4), z], [([(n 2), (n 0)], 3)], (s 1 0 1 3), [([(n 2)], 3)]⟩,
  ⟨[(s 0 0 1 4), z], [([(n 3), (n 0)], 3)], (s 1 0 1 3), [([(n 3)], 3)]⟩,
  ⟨[(s 0 0 1 4), z], [([(n 4), (n 0)], 3)], (s 1 0 1 3), [([(n 4)], 3)]⟩,
  ⟨[(s 0 0 1 4), z], [([(n 6), (n 0)], 3)], (s 1 0 1 3), [([(n 6)], 3)]⟩]

theorem c170 : l170.all (fun e => e.check Tryz.prog (memo T8) 100000 170) = true := by kernel_rfl

def T9 : Memo := (.node (none) (.node (none) (.node (none) (.node (none) .nil (.node (none) (.node (none) .nil (.node (none) (.node (some l167) .nil .nil) .nil)) (.node (none) (.node (none) (.node (some l151) .nil .nil) .nil) .nil))) (.node (none) (.node (none) .nil (.node (none) (.node (none) .nil (.node (some l211) .nil .nil)) .nil)) .nil)) (.node (none) (.node (none) (.node (none) .nil (.node (none) (.node (none) .nil (.node (some l209) .nil .nil)) (.node (some l113) .nil .nil))) (.node (none) (.node (none) .nil (.node (none) (.node (some l169) .nil .nil) .nil)) .nil)) .nil)) (.node (none) (.node (none) (.node (none) .nil (.node (none) (.node (none) .nil (.node (none) (.node (some l168) .nil .nil) .nil)) .nil)) (.node (none) (.node (none) .nil (.node (none) (.node (none) .nil (.node (some l212) .nil .nil)) .nil)) .nil)) (.node (none) (.node (none) .nil (.node (none) (.node (none) .nil (.node (none) (.node (some l170) .nil .nil) .nil)) .nil)) .nil)))
theorem ok9 : T9.OK Tryz.prog := Memo.ok_put mixed ok8 rfl c170

/-- Mul -/
def l116 : List Entry := [
  ⟨[(a [ff, (s 0 0 1 3)]), (a [ff, (s 0 0 1 3)])], [([(n 1)], 3)], (a [ff, (s 1 0 1 4)]), [([(n 1), (n 0)], 3)]⟩,
  ⟨[(a [ff, (s 0 0 1 3)]), (a [ff, (s 1 0 1 3)])], [([(n 1)], 3), ([(n 1)], 3)], (a [ff, (s 2 0 1 4)]), [([(n 1), (n 0)], 3)]⟩,
  ⟨[(a [ff, (s 0 0 1 3)]), (a [ff, (s 1 0 1 3)])], [([(n 1)], 3), ([(n 2)], 3)], (a [ff, (s 2 0 1 4)]), [([(n 2), (n 0)], 3)]⟩,
  ⟨[(a [ff, (s 0 0 1 3)]), (a [ff, (s 1 0 1 3)])], [([(n 1)], 3), ([(n 3)], 3)], (a [ff, (s 2 0 1 4)]), [([(n 3), (n 0)], 3)]⟩,
  ⟨[(a [ff, (s 0 0 1 3)]), (a [ff, (s 1 0 1 3)])], [([(n 1)], 3), ([(n 4)], 3)], (a [ff, (s 2 0 1 4)]), [([(n 4), (n 0)], 3)]⟩,
  ⟨[(a [ff, (s 0 0 1 3)]), (a [ff, (s 1 0 1 3)])], [([(n 1)], 3), ([(n 8)], 3)], (a [ff, (s 2 0 1 4)]), [([(n 8), (n 0)], 3)]⟩,
  ⟨[(a [ff, (s 0 0 1 3)]), (a [ff, (s 1 0 1 3)])], [([(n 12)], 3), ([(n 1)], 3)], (a [ff, (s 2 0 1 4)]), [([(n 12), (n 0)], 3)]⟩,
  ⟨[(a [ff, (s 0 0 1 3)]), (a [ff, (s 1 0 1 3)])], [([(n 18)], 3), ([(n 1)], 3)], (a [ff, (s 2 0 1 4)]), [([(n 18), (n 0)], 3)]⟩,
  ⟨[(a [ff, (s 0 0 1 3)]), (a [ff, (s 1 0 1 3)])], [([(n 2)], 3), ([(n 1)], 3)], (a [ff, (s 2 0 1 4)]), [([(n 2), (n 0)], 3)]⟩,
  ⟨[(a [ff, (s 0 0 1 3)]), (a [ff, (s 1 0 1 3)])], [([(n 24)], 3), ([(n 1)], 3)], (a [ff, (s 2 0 1 4)]), [([(n 24), (n 0)], 3)]⟩,
  ⟨[(a [ff, (s 0 0 1 3)]), (a [ff, (s 1 0 1 3)])], [([(n 3)], 3), ([(n 1)], 3)], (a [ff, (s 2 0 1 4)]), [([(n 3), (n 0)], 3)]⟩,
  ⟨[(a [ff, (s 0 0 1 3)]), (a [ff, (s 1 0 1 3)])], [([(n 3)], 3), ([(n 2)], 3)], (a [ff, (s 2 0 1 4)]), [([(n 6), (n 0)], 3)]⟩,
  ⟨[(a [ff, (s 0 0 1 3)]), (a [ff, (s 1 0 1 3)])], [([(n 3)], 3), ([(n 3)], 3)], (a [ff, (s 2 0 1 4)]), [([(n 9), (n 0)], 3)]⟩,
  ⟨[(a [ff, (s 0 0 1 3)]), (a [ff, (s 1 0 1 3)])], [([(n 3)], 3), ([(n 4)], 3)], (a [ff, (s 2 0 1 4)]), [([(n 12), (n 0)], 3)]⟩,
  ⟨[(a [ff, (s 0 0 1 3)]), (a [ff, (s 1 0 1 3)])], [([(n 3)], 3), ([(n 8)], 3)], (a [ff, (s 2 0 1 4)]), [([(n 24), (n 0)], 3)]⟩,
  ⟨[(a [ff, (s 0 0 1 3)]), (a [ff, (s 1 0 1 3)])], [([(n 4)], 3), ([(n 1)], 3)], (a [ff, (s 2 0 1 4)]), [([(n 4), (n 0)], 3)]⟩,
  ⟨[(a [ff, (s 0 0 1 3)]), (a [ff, (s 1 0 1 3)])], [([(n 6)], 3), ([(n 1)], 3)], (a [ff, (s 2 0 1 4)]), [([(n 6), (n 0)], 3)]⟩,
  ⟨[(a [ff, (s 0 0 1 3)]), (a [ff, (s 1 0 1 3)])], [([(n 8)], 3), ([(n 1)], 3)], (a [ff, (s 2 0 1 4)]), [([(n 8), (n 0)], 3)]⟩,
  ⟨[(a [ff, (s 0 0 1 3)]), (a [ff, (s 1 0 1 3)])], [([(n 9)], 3), ([(n 1)], 3)], (a [ff, (s 2 0 1 4)]), [([(n 9), (n 0)], 3)]⟩,
  ⟨[(a [ff, (s 0 0 1 3)]), (a [ff, z])], [([(n 1)], 3)], (a [ff, z]), []⟩,
  ⟨[(a [ff, (s 0 0 1 3)]), (a [ff, z])], [([(n 3)], 3)], (a [ff, z]), []⟩,
  ⟨[(a [ff, (s 0 0 1 3)]), (a [tt, (s 1 0 1 3)])], [([(n 1)], 3), ([(n 1)], 3)], (a [tt, (s 2 0 1 4)]), [([(n 1), (n 0)], 3)]⟩,
  ⟨[(a [ff, (s 0 0 1 3)]), (a [tt, (s 1 0 1 3)])], [([(n 1)], 3), ([(n 3)], 3)], (a [tt, (s 2 0 1 4)]), [([(n 3), (n 0)], 3)]⟩,
  ⟨[(a [ff, (s 0 0 1 3)]), (a [tt, (s 1 0 1 3)])], [([(n 1)], 3), ([(n 4)], 3)], (a [tt, (s 2 0 1 4)]), [([(n 4), (n 0)], 3)]⟩,
  ⟨[(a [ff, (s 0 0 1 3)]), (a [tt, (s 1 0 1 3)])], [([(n 3)], 3), ([(n 1)], 3)], (a [tt, (s 2 0 1 4)]), [([(n 3), (n 0)], 3)]⟩,
  ⟨[(a [ff, (s 0 0 1 3)]), (a [tt, (s 1 0 1 3)])], [([(n 3)], 3), ([(n 3)], 3)], (a [tt, (s 2 0 1 4)]), [([(n 9), (n 0)], 3)]⟩,
  ⟨[(a [ff, z]), (a [ff, (s 0 0 1 3)])], [([(n 1)], 3)], (a [ff, z]), []⟩,
  ⟨[(a [ff, z]), (a [ff, (s 0 0 1 3)])], [([(n 3)], 3)], (a [ff, z]), []⟩,
  ⟨[(a [ff, z]), (a [ff, (s 0 0 1 3)])], [([(n 4)], 3)], (a [ff, z]), []⟩,
  ⟨[(a [ff, z]), (a [ff, (s 0 0 1 3)])], [([(n 5)], 3)], (a [ff, z]), []⟩,
  ⟨[(a [ff, z]), (a [ff, z])], [], (a [ff, z]), []⟩,
  ⟨[(a [ff, z]), (a [tt, (s 0 0 1 3)])], [([(n 1)], 3)], (a [ff, z]), []⟩,
  ⟨[(a [ff, z]), (a [tt, (s 0 0 1 3)])], [([(n 3)], 3)], (a [ff, z]), []⟩,
  ⟨[(a [ff, z]), (a [tt, (s 0 0 1 3)])], [([(n 4)], 3)], (a [ff, z]), []⟩,
  ⟨[(a [tt, (s 0 0 1 3)]), (a [ff, (s 1 0 1 3)])], [([(n 1)], 3), ([(n 1)], 3)], (a [tt, (s 2 0 1 4)]), [([(n 1), (n 0)], 3)]⟩,
  ⟨[(a [tt, (s 0 0 1 3)]), (a [ff, (s 1 0 1 3)])], [([(n 1)], 3), ([(n 2)], 3)], (a [tt, (s 2 0 1 4)]), [([(n 2), (n 0)], 3)]⟩,
  ⟨[(a [tt, (s 0 0 1 3)]), (a [ff, (s 1 0 1 3)])], [([(n 1)], 3), ([(n 3)], 3)], (a [tt, (s 2 0 1 4)]), [([(n 3), (n 0)], 3)]⟩,
  ⟨[(a [tt, (s 0 0 1 3)]), (a [ff, (s 1 0 1 3)])], [([(n 1)], 3), ([(n 4)], 3)], (a [tt, (s 2 0 1 4)]), [([(n 4), (n 0)], 3)]⟩,
  ⟨[(a [tt, (s 0 0 1 3)]), (a [ff, (s 1 0 1 3)])], [([(n 12)], 3), ([(n 1)], 3)], (a [tt, (s 2 0 1 4)]), [([(n 12), (n 0)], 3)]⟩,
  ⟨[(a [tt, (s 0 0 1 3)]), (a [ff, (s 1 0 1 3)])], [([(n 2)], 3), ([(n 1)], 3)], (a [tt, (s 2 0 1 4)]), [([(n 2), (n 0)], 3)]⟩,
  ⟨[(a [tt, (s 0 0 1 3)]), (a [ff, (s 1 0 1 3)])], [([(n 3)], 3), ([(n 1)], 3)], (a [tt, (s 2 0 1 4)]), [([(n 3), (n 0)], 3)]⟩,
  ⟨[(a [tt, (s 0 0 1 3)]), (a [ff, (s 1 0 1 3)])], [([(n 3)], 3), ([(n 2)], 3)], (a [tt, (s 2 0 1 4)]), [([(n 6), (n 0)], 3)]⟩,
  ⟨[(a [tt, (s 0 0 1 3)]), (a [ff, (s 1 0 1 3)])], [([(n 3)], 3), ([(n 3)], 3)], (a [tt, (s 2 0 1 4)]), [([(n 9), (n 0)], 3)]⟩,
  ⟨[(a [tt, (s 0 0 1 3)]), (a [ff, (s 1 0 1 3)])], [([(n 3)], 3), ([(n 4)], 3)], (a [tt, (s 2 0 1 4)]), [([(n 12), (n 0)], 3)]⟩,
  ⟨[(a [tt, (s 0 0 1 3)]), (a [ff, (s 1 0 1 3)])], [([(n 4)], 3), ([(n 1)], 3)], (a [tt, (s 2 0 1 4)]), [([(n 4), (n 0)], 3)]⟩,
  ⟨[(a [tt, (s 0 0 1 3)]), (a [ff, (s 1 0 1 3)])], [([(n 6)], 3), ([(n 1)], 3)], (a [tt, (s 2 0 1 4)]), [([(n 6), (n 0)], 3)]⟩,
  ⟨[(a [tt, (s 0 0 1 3)]), (a [ff, z])], [([(n 1)], 3)], (a [ff, z]), []⟩,
  ⟨[(a [tt, (s 0 0 1 3)]), (a [ff, z])], [([(n 3)], 3)], (a [ff, z]), []⟩,
  ⟨[(a [tt, (s 0 0 1 3)]), (a [tt, (s 1 0 1 3)])], [([(n 1)], 3), ([(n 1)], 3)], (a [ff, (s 2 0 1 4)]), [([(n 1), (n 0)], 3)]⟩,
  ⟨[(a [tt, (s 0 0 1 3)]), (a [tt, (s 1 0 1 3)])], [([(n 1)], 3), ([(n 3)], 3)], (a [ff, (s 2 0 1 4)]), [([(n 3), (n 0)], 3)]⟩,
  ⟨[(a [tt, (s 0 0 1 3)]), (a [tt, (s 1 0 1 3)])], [([(n 3)], 3), ([(n 1)], 3)], (a [ff, (s 2 0 1 4)]), [([(n 3), (n 0)], 3)]⟩,
  ⟨[(a [tt, (s 0 0 1 3)]), (a [tt, (s 1 0 1 3)])], [([(n 3)], 3), ([(n 3)], 3)], (a [ff, (s 2 0 1 4)]), [([(n 9), (n 0)], 3)]⟩]

theorem c116 : l116.all (fun e => e.check Tryz.prog (memo T9) 100000 116) = true := by kernel_rfl

def T10 : Memo := (.node (none) (.node (none) (.node (none) (.node (none) .nil (.node (none) (.node (none) .nil (.node (none) (.node (some l167) .nil .nil) .nil)) (.node (none) (.node (none) (.node (some l151) .nil .nil) .nil) .nil))) (.node (none) (.node (none) .nil (.node (none) (.node (none) .nil (.node (some l211) .nil .nil)) .nil)) .nil)) (.node (none) (.node (none) (.node (none) .nil (.node (none) (.node (none) .nil (.node (some l209) .nil .nil)) (.node (some l113) .nil .nil))) (.node (none) (.node (none) .nil (.node (none) (.node (some l169) .nil .nil) .nil)) .nil)) .nil)) (.node (none) (.node (none) (.node (none) .nil (.node (none) (.node (none) .nil (.node (none) (.node (some l168) .nil .nil) .nil)) .nil)) (.node (none) (.node (none) .nil (.node (none) (.node (none) .nil (.node (some l212) .nil .nil)) (.node (some l116) .nil .nil))) .nil)) (.node (none) (.node (none) .nil (.node (none) (.node (none) .nil (.node (none) (.node (some l170) .nil .nil) .nil)) .nil)) .nil)))
theorem ok10 : T10.OK Tryz.prog := Memo.ok_put mixed ok9 rfl c116

/-- Neg -/
def l159 : List Entry := [
  ⟨[(a [ff, (s 0 0 1 3)])], [([(n 1)], 3)], (a [tt, (s 0 0 1 3)]), []⟩,
  ⟨[(a [ff, (s 0 0 1 3)])], [([(n 3)], 3)], (a [tt, (s 0 0 1 3)]), []⟩,
  ⟨[(a [ff, (s 0 0 1 3)])], [([(n 4)], 3)], (a [tt, (s 0 0 1 3)]), []⟩,
  ⟨[(a [ff, z])], [], (a [ff, z]), []⟩,
  ⟨[(a [tt, (s 0 0 1 3)])], [([(n 1)], 3)], (a [ff, (s 0 0 1 3)]), []⟩,
  ⟨[(a [tt, (s 0 0 1 3)])], [([(n 3)], 3)], (a [ff, (s 0 0 1 3)]), []⟩,
  ⟨[(a [tt, (s 0 0 1 3)])], [([(n 4)], 3)], (a [ff, (s 0 0 1 3)]), []⟩,
  ⟨[(a [tt, (s 0 0 1 3)])], [([(n 9)], 3)], (a [ff, (s 0 0 1 3)]), []⟩]

theorem c159 : l159.all (fun e => e.check Tryz.prog (memo T10) 100000 159) = true := by kernel_rfl

def T11 : Memo := (.node (none) (.node (none) (.node (none) (.node (none) (.node (none) (.node (none) .nil (.node (none) (.node (some l159) .nil .nil) .nil)) .nil) (.node (none) (.node (none) .nil (.node (none) (.node (some l167) .nil .nil) .nil)) (.node (none) (.node (none) (.node (some l151) .nil .nil) .nil) .nil))) (.node (none) (.node (none) .nil (.node (none) (.node (none) .nil (.node (some l211) .nil .nil)) .nil)) .nil)) (.node (none) (.node (none) (.node (none) .nil (.node (none) (.node (none) .nil (.node (some l209) .nil .nil)) (.node (some l113) .nil .nil))) (.node (none) (.node (none) .nil (.node (none) (.node (some l169) .nil .nil) .nil)) .nil)) .nil)) (.node (none) (.node (none) (.node (none) .nil (.node (none) (.node (none) .nil (.node (none) (.node (some l168) .nil .nil) .nil)) .nil)) (.node (none) (.node (none) .nil (.node (none) (.node (none) .nil (.node (some l212) .nil .nil)) (.node (some l116) .nil .nil))) .nil)) (.node (none) (.node (none) .nil (.node (none) (.node (none) .nil (.node (none) (.node (some l170) .nil .nil) .nil)) .nil)) .nil)))
theorem ok11 : T11.OK Tryz.prog := Memo.ok_put mixed ok10 rfl c159

/-- Compare -/
def l172 : List Entry := [
  ⟨[(a [ff, (s 0 0 1 3)]), (a [ff, z])], [([(n 1)], 3)], (n 1), []⟩,
  ⟨[(a [ff, (s 0 0 1 3)]), (a [ff, z])], [([(n 3)], 3)], (n 1), []⟩,
  ⟨[(a [ff, (s 0 0 1 3)]), (a [ff, z])], [([(n 9)], 3)], (n 1), []⟩,
  ⟨[(a [ff, (s 0 0 1 4)]), (a [ff, (s 1 0 1 4)])], [([(n 1), (n 0)], 3), ([(n 4), (n 0)], 3)], (n (-1)), []⟩,
  ⟨[(a [ff, (s 0 0 1 4)]), (a [ff, (s 1 0 1 4)])], [([(n 3), (n 0)], 3), ([(n 12), (n 0)], 3)], (n (-1)), []⟩,
  ⟨[(a [ff, (s 0 0 1 4)]), (a [ff, (s 1 0 1 4)])], [([(n 4), (n 0)], 3), ([(n 4), (n 0)], 3)], (n 0), []⟩,
  ⟨[(a [ff, z]), (a [ff, (s 0 0 1 4)])], [([(n 1), (n 0)], 3)], (n (-1)), []⟩,
  ⟨[(a [ff, z]), (a [ff, (s 0 0 1 4)])], [([(n 3), (n 0)], 3)], (n (-1)), []⟩,
  ⟨[(a [tt, (s 0 0 1 4)]), (a [ff, z])], [([(n 1), (n 0)], 3)], (n (-1)), []⟩,
  ⟨[(a [tt, (s 0 0 1 4)]), (a [ff, z])], [([(n 3), (n 0)], 3)], (n (-1)), []⟩,
  ⟨[(a [tt, (s 0 0 1 4)]), (a [tt, (s 1 0 1 4)])], [([(n 12), (n 0)], 3), ([(n 3), (n 0)], 3)], (n (-1)), []⟩,
  ⟨[(a [tt, (s 0 0 1 4)]), (a [tt, (s 1 0 1 4)])], [([(n 4), (n 0)], 3), ([(n 1), (n 0)], 3)], (n (-1)), []⟩]

theorem c172 : l172.all (fun e => e.check Tryz.prog (memo T11) 100000 172) = true := by kernel_rfl

def T12 : Memo := (.node (none) (.node (none) (.node (none) (.node (none) (.node (none) (.node (none) .nil (.node (none) (.node (some l159) .nil .nil) .nil)) .nil) (.node (none) (.node (none) .nil (.node (none) (.node (some l167) .nil .nil) .nil)) (.node (none) (.node (none) (.node (some l151) .nil .nil) .nil) .nil))) (.node (none) (.node (none) .nil (.node (none) (.node (none) .nil (.node (some l211) .nil .nil)) .nil)) .nil)) (.node (none) (.node (none) (.node (none) .nil (.node (none) (.node (none) .nil (.node (some l209) .nil .nil)) (.node (some l113) .nil .nil))) (.node (none) (.node (none) .nil (.node (none) (.node (some l169) .nil .nil) .nil)) .nil)) .nil)) (.node (none) (.node (none) (.node (none) .nil (.node (none) (.node (none) .nil (.node (none) (.node (some l168) .nil .nil) .nil)) .nil)) (.node (none) (.node (none) .nil (.node (none) (.node (none) .nil (.node (some l212) .nil .nil)) (.node (some l116) .nil .nil))) (.node (none) (.node (none) .nil (.node (none) (.node (some l172) .nil .nil) .nil)) .nil))) (.node (none) (.node (none) .nil (.node (none) (.node (none) .nil (.node (none) (.node (some l170) .nil .nil) .nil)) .nil)) .nil)))
theorem ok12 : T12.OK Tryz.prog := Memo.ok_put mixed ok11 rfl c172

/-- Sign -/
def l304 : List Entry := [
  ⟨[(a [ff, (s 0 0 1 3)])], [([(n 1)], 3)], (n 1), []⟩,
  ⟨[(a [ff, (s 0 0 1 3)])], [([(n 3)], 3)], (n 1), []⟩,
  ⟨[(a [ff, (s 0 0 1 3)])], [([(n 9)], 3)], (n 1), []⟩]

theorem c304 : l304.all (fun e => e.check Tryz.prog (memo T12) 100000 304) = true := by kernel_rfl

def T13 : Memo := (.node (none) (.node (none) (.node (none) (.node (none) (.node (none) (.node (none) .nil (.node (none) (.node (some l159) .nil .nil) .nil)) .nil) (.node (none) (.node (none) .nil (.node (none) (.node (some l167) .nil .nil) .nil)) (.node (none) (.node (none) (.node (some l151) .nil .nil) .nil) .nil))) (.node (none) (.node (none) .nil (.node (none) (.node (none) .nil (.node (some l211) .nil .nil)) .nil)) .nil)) (.node (none) (.node (none) (.node (none) .nil (.node (none) (.node (none) .nil (.node (some l209) .nil .nil)) (.node (some l113) .nil .nil))) (.node (none) (.node (none) .nil (.node (none) (.node (some l169) .nil .nil) .nil)) .nil)) .nil)) (.node (none) (.node (none) (.node (none) (.node (none) .nil (.node (none) .nil (.node (none) (.node (none) (.node (some l304) .nil .nil) .nil) .nil))) (.node (none) (.node (none) .nil (.node (none) (.node (some l168) .nil .nil) .nil)) .nil)) (.node (none) (.node (none) .nil (.node (none) (.node (none) .nil (.node (some l212) .nil .nil)) (.node (some l116) .nil .nil))) (.node (none) (.node (none) .nil (.node (none) (.node (some l172) .nil .nil) .nil)) .nil))) (.node (none) (.node (none) .nil (.node (none) (.node (none) .nil (.node (none) (.node (some l170) .nil .nil) .nil)) .nil)) .nil)))
theorem ok13 : T13.OK Tryz.prog := Memo.ok_put mixed ok12 rfl c304

/-- Add -/
def l118 : List Entry := [
  ⟨[(a [ff, (s 0 0 1 4)]), (a [ff, (s 1 0 1 4)])], [([(n 1), (n 0)], 3), ([(n 1), (n 0)], 3)], (a [ff, (s 2 0 1 3)]), [([(n 2)], 3)]⟩,
  ⟨[(a [ff, (s 0 0 1 4)]), (a [ff, (s 1 0 1 4)])], [([(n 1), (n 0)], 3), ([(n 3), (n 0)], 3)], (a [ff, (s 2 0 1 3)]), [([(n 4)], 3)]⟩,
  ⟨[(a [ff, (s 0 0 1 4)]), (a [ff, (s 1 0 1 4)])], [([(n 1), (n 0)], 3), ([(n 4), (n 0)], 3)], (a [ff, (s 2 0 1 3)]), [([(n 5)], 3)]⟩,
  ⟨[(a [ff, (s 0 0 1 4)]), (a [ff, (s 1 0 1 4)])], [([(n 4), (n 0)], 3), ([(n 1), (n 0)], 3)], (a [ff, (s 2 0 1 3)]), [([(n 5)], 3)]⟩,
  ⟨[(a [ff, (s 0 0 1 4)]), (a [ff, (s 1 0 1 4)])], [([(n 4), (n 0)], 3), ([(n 4), (n 0)], 3)], (a [ff, (s 2 0 1 3)]), [([(n 8)], 3)]⟩,
  ⟨[(a [ff, (s 0 0 1 4)]), (a [ff, z])], [([(n 1), (n 0)], 3)], (a [ff, (s 1 0 1 3)]), [([(n 1)], 3)]⟩,
  ⟨[(a [ff, (s 0 0 1 4)]), (a [ff, z])], [([(n 12), (n 0)], 3)], (a [ff, (s 1 0 1 3)]), [([(n 12)], 3)]⟩,
  ⟨[(a [ff, (s 0 0 1 4)]), (a [ff, z])], [([(n 18), (n 0)], 3)], (a [ff, (s 1 0 1 3)]), [([(n 18)], 3)]⟩,
  ⟨[(a [ff, (s 0 0 1 4)]), (a [ff, z])], [([(n 2), (n 0)], 3)], (a [ff, (s 1 0 1 3)]), [([(n 2)], 3)]⟩,
  ⟨[(a [ff, (s 0 0 1 4)]), (a [ff, z])], [([(n 3), (n 0)], 3)], (a [ff, (s 1 0 1 3)]), [([(n 3)], 3)]⟩,
  ⟨[(a [ff, (s 0 0 1 4)]), (a [ff, z])], [([(n 4), (n 0)], 3)], (a [ff, (s 1 0 1 3)]), [([(n 4)], 3)]⟩,
  ⟨[(a [ff, (s 0 0 1 4)]), (a [ff, z])], [([(n 6), (n 0)], 3)], (a [ff, (s 1 0 1 3)]), [([(n 6)], 3)]⟩,
  ⟨[(a [ff, (s 0 0 1 4)]), (a [ff, z])], [([(n 9), (n 0)], 3)], (a [ff, (s 1 0 1 3)]), [([(n 9)], 3)]⟩,
  ⟨[(a [ff, (s 0 0 1 4)]), (a [tt, (s 1 0 1 4)])], [([(n 1), (n 0)], 3), ([(n 1), (n 0)], 3)], (a [ff, z]), []⟩,
  ⟨[(a [ff, (s 0 0 1 4)]), (a [tt, (s 1 0 1 4)])], [([(n 1), (n 0)], 3), ([(n 4), (n 0)], 3)], (a [tt, (s 2 0 1 3)]), [([(n 3)], 3)]⟩,
  ⟨[(a [ff, (s 0 0 1 4)]), (a [tt, (s 1 0 1 4)])], [([(n 4), (n 0)], 3), ([(n 1), (n 0)], 3)], (a [ff, (s 2 0 1 3)]), [([(n 3)], 3)]⟩,
  ⟨[(a [ff, (s 0 0 1 4)]), (a [tt, (s 1 0 1 4)])], [([(n 4), (n 0)], 3), ([(n 4), (n 0)], 3)], (a [ff, z]), []⟩,
  ⟨[(a [ff, z]), (a [ff, (s 0 0 1 4)])], [([(n 1), (n 0)], 3)], (a [ff, (s 1 0 1 3)]), [([(n 1)], 3)]⟩,
  ⟨[(a [ff, z]), (a [ff, (s 0 0 1 4)])], [([(n 12), (n 0)], 3)], (a [ff, (s 1 0 1 3)]), [([(n 12)], 3)]⟩,
  ⟨[(a [ff, z]), (a [ff, (s 0 0 1 4)])], [([(n 2), (n 0)], 3)], (a [ff, (s 1 0 1 3)]), [([(n 2)], 3)]⟩,
  ⟨[(a [ff, z]), (a [ff, (s 0 0 1 4)])], [([(n 3), (n 0)], 3)], (a [ff, (s 1 0 1 3)]), [([(n 3)], 3)]⟩,
  ⟨[(a [ff, z]), (a [ff, (s 0 0 1 4)])], [([(n 4), (n 0)], 3)], (a [ff, (s 1 0 1 3)]), [([(n 4)], 3)]⟩,
  ⟨[(a [ff, z]), (a [ff, (s 0 0 1 4)])], [([(n 6), (n 0)], 3)], (a [ff, (s 1 0 1 3)]), [([(n 6)], 3)]⟩,
  ⟨[(a [ff, z]), (a [ff, (s 0 0 1 4)])], [([(n 9), (n 0)], 3)], (a [ff, (s 1 0 1 3)]), [([(n 9)], 3)]⟩,
  ⟨[(a [ff, z]), (a [ff, z])], [], (a [ff, z]), []⟩,
  ⟨[(a [ff, z]), (a [tt, (s 0 0 1 4)])], [([(n 1), (n 0)], 3)], (a [tt, (s 1 0 1 3)]), [([(n 1)], 3)]⟩,
  ⟨[(a [ff, z]), (a [tt, (s 0 0 1 4)])], [([(n 12), (n 0)], 3)], (a [tt, (s 1 0 1 3)]), [([(n 12)], 3)]⟩,
  ⟨[(a [ff, z]), (a [tt, (s 0 0 1 4)])], [([(n 2), (n 0)], 3)], (a [tt, (s 1 0 1 3)]), [([(n 2)], 3)]⟩,
  ⟨[(a [ff, z]), (a [tt, (s 0 0 1 4)])], [([(n 3), (n 0)], 3)], (a [tt, (s 1 0 1 3)]), [([(n 3)], 3)]⟩,
  ⟨[(a [ff, z]), (a [tt, (s 0 0 1 4)])], [([(n 4), (n 0)], 3)], (a [tt, (s 1 0 1 3)]), [([(n 4)], 3)]⟩,
  ⟨[(a [ff, z]), (a [tt, (s 0 0 1 4)])], [([(n 6), (n 0)], 3)], (a [tt, (s 1 0 1 3)]), [([(n 6)], 3)]⟩,
  ⟨[(a [tt, (s 0 0 1 4)]), (a [ff, (s 1 0 1 4)])], [([(n 2), (n 0)], 3), ([(n 8), (n 0)], 3)], (a [ff, (s 2 0 1 3)]), [([(n 6)], 3)]⟩,
  ⟨[(a [tt, (s 0 0 1 4)]), (a [ff, (s 1 0 1 4)])], [([(n 6), (n 0)], 3), ([(n 24), (n 0)], 3)], (a [ff, (s 2 0 1 3)]), [([(n 18)], 3)]⟩,
  ⟨[(a [tt, (s 0 0 1 4)]), (a [ff, z])], [([(n 1), (n 0)], 3)], (a [tt, (s 1 0 1 3)]), [([(n 1)], 3)]⟩,
  ⟨[(a [tt, (s 0 0 1 4)]), (a [ff, z])], [([(n 12), (n 0)], 3)], (a [tt, (s 1 0 1 3)]), [([(n 12)], 3)]⟩,
  ⟨[(a [tt, (s 0 0 1 4)]), (a [ff, z])], [([(n 2), (n 0)], 3)], (a [tt, (s 1 0 1 3)]), [([(n 2)], 3)]⟩,
  ⟨[(a [tt, (s 0 0 1 4)]), (a [ff, z])], [([(n 3), (n 0)], 3)], (a [tt, (s 1 0 1 3)]), [([(n 3)], 3)]⟩,
  ⟨[(a [tt, (s 0 0 1 4)]), (a [ff, z])], [([(n 4), (n 0)], 3)], (a [tt, (s 1 0 1 3)]), [([(n 4)], 3)]⟩,
  ⟨[(a [tt, (s 0 0 1 4)]), (a [ff, z])], [([(n 6), (n 0)], 3)], (a [tt, (s 1 0 1 3)]), [([(n 6)], 3)]⟩]

theorem c118 : l118.all (fun e => e.check Tryz.prog (memo T13) 100000 118) = true := by kernel_rfl

def T14 : Memo := (.node (none) (.node (none) (.node (none) (.node (none) (.node (none) (.node (none) .nil (.node (none) (.node (some l159) .nil .nil) .nil)) .nil) (.node (none) (.node (none) .nil (.node (none) (.node (some l167) .nil .nil) .nil)) (.node (none) (.node (none) (.node (some l151) .nil .nil) .nil) .nil))) (.node (none) (.node (none) .nil (.node (none) (.node (none) .nil (.node (some l211) .nil .nil)) .nil)) .nil)) (.node (none) (.node (none) (.node (none) .nil (.node (none) (.node (none) .nil (.node (some l209) .nil .nil)) (.node (some l113) .nil .nil))) (.node (none) (.node (none) .nil (.node (none) (.node (some l169) .nil .nil) .nil)) .nil)) .nil)) (.node (none) (.node (none) (.node (none) (.node (none) .nil (.node (none) .nil (.node (none) (.node (none) (.node (some l304) .nil .nil) .nil) .nil))) (.node (none) (.node (none) .nil (.node (none) (.node (some l168) .nil .nil) .nil)) .nil)) (.node (none) (.node (none) .nil (.node (none) (.node (none) .nil (.node (some l212) .nil .nil)) (.node (some l116) .nil .nil))) (.node (none) (.node (none) .nil (.node (none) (.node (some l172) .nil .nil) .nil)) .nil))) (.node (none) (.node (none) .nil (.node (none) (.node (none) .nil (.node (none) (.node (some l170) .nil .nil) .nil)) .nil)) (.node (none) (.node (none) .nil (.node (none) .nil (.node (some l118) .nil .nil))) .nil))))
theorem ok14 : T14.OK Tryz.prog := Memo.ok_put mixed ok13 rfl c118

/-- divided -/
def l210 : List Entry := [
  ⟨[(s 0 0 1 3), (s 1 0 1 3)], [([(n 1)], 3), ([(n 1)], 3)], (t [(s 2 0 1 3), z]), [([(n 1)], 3)]⟩,
  ⟨[(s 0 0 1 3), (s 1 0 1 3)], [([(n 100)], 3), ([(n 1)], 3)], (t [(s 2 0 1 3), z]), [([(n 100)], 3)]⟩,
  ⟨[(s 0 0 1 3), (s 1 0 1 3)], [([(n 12)], 3), ([(n 1)], 3)], (t [(s 2 0 1 3), z]), [([(n 12)], 3)]⟩,
  ⟨[(s 0 0 1 3), (s 1 0 1 3)], [([(n 16)], 3), ([(n 1)], 3)], (t [(s 2 0 1 3), z]), [([(n 16)], 3)]⟩,
  ⟨[(s 0 0 1 3), (s 1 0 1 3)], [([(n 18)], 3), ([(n 1)], 3)], (t [(s 2 0 1 3), z]), [([(n 18)], 3)]⟩,
  ⟨[(s 0 0 1 3), (s 1 0 1 3)], [([(n 2)], 3), ([(n 1)], 3)], (t [(s 2 0 1 3), z]), [([(n 2)], 3)]⟩,
  ⟨[(s 0 0 1 3), (s 1 0 1 3)], [([(n 2)], 3), ([(n 2)], 3)], (t [(s 2 0 1 3), z]), [([(n 1)], 3)]⟩,
  ⟨[(s 0 0 1 3), (s 1 0 1 3)], [([(n 3)], 3), ([(n 1)], 3)], (t [(s 2 0 1 3), z]), [([(n 3)], 3)]⟩,
  ⟨[(s 0 0 1 3), (s 1 0 1 3)], [([(n 4)], 3), ([(n 1)], 3)], (t [(s 2 0 1 3), z]), [([(n 4)], 3)]⟩,
  ⟨[(s 0 0 1 3), (s 1 0 1 3)], [([(n 40)], 3), ([(n 1)], 3)], (t [(s 2 0 1 3), z]), [([(n 40)], 3)]⟩,
  ⟨[(s 0 0 1 3), (s 1 0 1 3)], [([(n 5)], 3), ([(n 1)], 3)], (t [(s 2 0 1 3), z]), [([(n 5)], 3)]⟩,
  ⟨[(s 0 0 1 3), (s 1 0 1 3)], [([(n 6)], 3), ([(n 1)], 3)], (t [(s 2 0 1 3), z]), [([(n 6)], 3)]⟩,
  ⟨[(s 0 0 1 3), (s 1 0 1 3)], [([(n 8)], 3), ([(n 1)], 3)], (t [(s 2 0 1 3), z]), [([(n 8)], 3)]⟩,
  ⟨[(s 0 0 1 3), (s 1 0 1 3)], [([(n 9)], 3), ([(n 1)], 3)], (t [(s 2 0 1 3), z]), [([(n 9)], 3)]⟩,
  ⟨[(s 0 0 1 4), (s 1 0 1 3)], [([(n 1), (n 0)], 3), ([(n 1)], 3)], (t [(s 2 0 1 3), z]), [([(n 1)], 3)]⟩,
  ⟨[(s 0 0 1 4), (s 1 0 1 3)], [([(n 12), (n 0)], 3), ([(n 1)], 3)], (t [(s 2 0 1 3), z]), [([(n 12)], 3)]⟩,
  ⟨[(s 0 0 1 4), (s 1 0 1 3)], [([(n 18), (n 0)], 3), ([(n 2)], 3)], (t [(s 2 0 1 3), z]), [([(n 9)], 3)]⟩,
  ⟨[(s 0 0 1 4), (s 1 0 1 3)], [([(n 2), (n 0)], 3), ([(n 1)], 3)], (t [(s 2 0 1 3), z]), [([(n 2)], 3)]⟩,
  ⟨[(s 0 0 1 4), (s 1 0 1 3)], [([(n 2), (n 0)], 3), ([(n 2)], 3)], (t [(s 2 0 1 3), z]), [([(n 1)], 3)]⟩,
  ⟨[(s 0 0 1 4), (s 1 0 1 3)], [([(n 24), (n 0)], 3), ([(n 1)], 3)], (t [(s 2 0 1 3), z]), [([(n 24)], 3)]⟩,
  ⟨[(s 0 0 1 4), (s 1 0 1 3)], [([(n 3), (n 0)], 3), ([(n 1)], 3)], (t [(s 2 0 1 3), z]), [([(n 3)], 3)]⟩,
  ⟨[(s 0 0 1 4), (s 1 0 1 3)], [([(n 4), (n 0)], 3), ([(n 1)], 3)], (t [(s 2 0 1 3), z]), [([(n 4)], 3)]⟩,
  ⟨[(s 0 0 1 4), (s 1 0 1 3)], [([(n 6), (n 0)], 3), ([(n 1)], 3)], (t [(s 2 0 1 3), z]), [([(n 6)], 3)]⟩,
  ⟨[(s 0 0 1 4), (s 1 0 1 3)], [([(n 6), (n 0)], 3), ([(n 2)], 3)], (t [(s 2 0 1 3), z]), [([(n 3)], 3)]⟩,
  ⟨[(s 0 0 1 4), (s 1 0 1 3)], [([(n 8), (n 0)], 3), ([(n 1)], 3)], (t [(s 2 0 1 3), z]), [([(n 8)], 3)]⟩,
  ⟨[(s 0 0 1 4), (s 1 0 1 3)], [([(n 9), (n 0)], 3), ([(n 1)], 3)], (t [(s 2 0 1 3), z]), [([(n 9)], 3)]⟩]

theorem c210 : l210.all (fun e => e.check Tryz.prog (memo T14) 100000 210) = true := by kernel_rfl

def T15 : Memo := (.node (none) (.node (none) (.node (none) (.node (none) (.node (none) (.node (none) .nil (.node (none) (.node (some l159) .nil .nil) .nil)) .nil) (.node (none) (.node (none) .nil (.node (none) (.node (some l167) .nil .nil) .nil)) (.node (none) (.node (none) (.node (some l151) .nil .nil) .nil) .nil))) (.node (none) (.node (none) .nil (.node (none) (.node (none) .nil (.node (some l211) .nil .nil)) .nil)) .nil)) (.node (none) (.node (none) (.node (none) .nil (.node (none) (.node (none) .nil (.node (some l209) .nil .nil)) (.node (some l113) .nil .nil))) (.node (none) (.node (none) .nil (.node (none) (.node (some l169) .nil .nil) .nil)) .nil)) .nil)) (.node (none) (.node (none) (.node (none) (.node (none) .nil (.node (none) .nil (.node (none) (.node (none) (.node (some l304) .nil .nil) .nil) .nil))) (.node (none) (.node (none) .nil (.node (none) (.node (some l168) .nil .nil) .nil)) .nil)) (.node (none) (.node (none) .nil (.node (none) (.node (none) .nil (.node (some l212) .nil .nil)) (.node (some l116) .nil .nil))) (.node (none) (.node (none) .nil (.node (none) (.node (some l172) .nil .nil) .nil)) .nil))) (.node (none) (.node (none) (.node (none) .nil (.node (none) (.node (none) .nil (.node (some l210) .nil .nil)) .nil)) (.node (none) (.node (none) .nil (.node (none) (.node (some l170) .nil .nil) .nil)) .nil)) (.node (none) (.node (none) .nil (.node (none) .nil (.node (some l118) .nil .nil))) .nil))))
theorem ok15 : T15.OK Tryz.prog := Memo.ok_put mixed ok14 rfl c210

/-- Div -/
def l165 : List Entry := [
  ⟨[(a [ff, (s 0 0 1 3)]), (a [ff, (s 1 0 1 3)])], [([(n 1)], 3), ([(n 1)], 3)], (t [(a [ff, (s 2 0 1 3)]), (a [ff, z])]), [([(n 1)], 3)]⟩,
  ⟨[(a [ff, (s 0 0 1 3)]), (a [ff, (s 1 0 1 3)])], [([(n 100)], 3), ([(n 1)], 3)], (t [(a [ff, (s 2 0 1 3)]), (a [ff, z])]), [([(n 100)], 3)]⟩,
  ⟨[(a [ff, (s 0 0 1 3)]), (a [ff, (s 1 0 1 3)])], [([(n 12)], 3), ([(n 1)], 3)], (t [(a [ff, (s 2 0 1 3)]), (a [ff, z])]), [([(n 12)], 3)]⟩,
  ⟨[(a [ff, (s 0 0 1 3)]), (a [ff, (s 1 0 1 3)])], [([(n 16)], 3), ([(n 1)], 3)], (t [(a [ff, (s 2 0 1 3)]), (a [ff, z])]), [([(n 16)], 3)]⟩,
  ⟨[(a [ff, (s 0 0 1 3)]), (a [ff, (s 1 0 1 3)])], [([(n 18)], 3), ([(n 1)], 3)], (t [(a [ff, (s 2 0 1 3)]), (a [ff, z])]), [([(n 18)], 3)]⟩,
  ⟨[(a [ff, (s 0 0 1 3)]), (a [ff, (s 1 0 1 3)])], [([(n 2)], 3), ([(n 1)], 3)], (t [(a [ff, (s 2 0 1 3)]), (a [ff, z])]), [([(n 2)], 3)]⟩,
  ⟨[(a [ff, (s 0 0 1 3)]), (a [ff, (s 1 0 1 3)])], [([(n 2)], 3), ([(n 2)], 3)], (t [(a [ff, (s 2 0 1 3)]), (a [ff, z])]), [([(n 1)], 3)]⟩,
  ⟨[(a [ff, (s 0 0 1 3)]), (a [ff, (s 1 0 1 3)])], [([(n 3)], 3), ([(n 1)], 3)], (t [(a [ff, (s 2 0 1 3)]), (a [ff, z])]), [([(n 3)], 3)]⟩,
  ⟨[(a [ff, (s 0 0 1 3)]), (a [ff, (s 1 0 1 3)])], [([(n 4)], 3), ([(n 1)], 3)], (t [(a [ff, (s 2 0 1 3)]), (a [ff, z])]), [([(n 4)], 3)]⟩,
  ⟨[(a [ff, (s 0 0 1 3)]), (a [ff, (s 1 0 1 3)])], [([(n 40)], 3), ([(n 1)], 3)], (t [(a [ff, (s 2 0 1 3)]), (a [ff, z])]), [([(n 40)], 3)]⟩,
  ⟨[(a [ff, (s 0 0 1 3)]), (a [ff, (s 1 0 1 3)])], [([(n 5)], 3), ([(n 1)], 3)], (t [(a [ff, (s 2 0 1 3)]), (a [ff, z])]), [([(n 5)], 3)]⟩,
  ⟨[(a [ff, (s 0 0 1 3)]), (a [ff, (s 1 0 1 3)])], [([(n 6)], 3), ([(n 1)], 3)], (t [(a [ff, (s 2 0 1 3)]), (a [ff, z])]), [([(n 6)], 3)]⟩,
  ⟨[(a [ff, (s 0 0 1 3)]), (a [ff, (s 1 0 1 3)])], [([(n 8)], 3), ([(n 1)], 3)], (t [(a [ff, (s 2 0 1 3)]), (a [ff, z])]), [([(n 8)], 3)]⟩,
  ⟨[(a [ff, (s 0 0 1 3)]), (a [ff, (s 1 0 1 3)])], [([(n 9)], 3), ([(n 1)], 3)], (t [(a [ff, (s 2 0 1 3)]), (a [ff, z])]), [([(n 9)], 3)]⟩,
  ⟨[(a [ff, (s 0 0 1 4)]), (a [ff, (s 1 0 1 3)])], [([(n 1), (n 0)], 3), ([(n 1)], 3)], (t [(a [ff, (s 2 0 1 3)]), (a [ff, z])]), [([(n 1)], 3)]⟩,
  ⟨[(a [ff, (s 0 0 1 4)]), (a [ff, (s 1 0 1 3)])], [([(n 12), (n 0)], 3), ([(n 1)], 3)], (t [(a [ff, (s 2 0 1 3)]), (a [ff, z])]), [([(n 12)], 3)]⟩,
  ⟨[(a [ff, (s 0 0 1 4)]), (a [ff, (s 1 0 1 3)])], [([(n 18), (n 0)], 3), ([(n 2)], 3)], (t [(a [ff, (s 2 0 1 3)]), (a [ff, z])]), [([(n 9)], 3)]⟩,
  ⟨[(a [ff, (s 0 0 1 4)]), (a [ff, (s 1 0 1 3)])], [([(n 2), (n 0)], 3), ([(n 1)], 3)], (t [(a [ff, (s 2 0 1 3)]), (a [ff, z])]), [([(n 2)], 3)]⟩,
  ⟨[(a [ff, (s 0 0 1 4)]), (a [ff, (s 1 0 1 3)])], [([(n 2), (n 0)], 3), ([(n 2)], 3)], (t [(a [ff, (s 2 0 1 3)]), (a [ff, z])]), [([(n 1)], 3)]⟩,
  ⟨[(a [ff, (s 0 0 1 4)]), (a [ff, (s 1 0 1 3)])], [([(n 24), (n 0)], 3), ([(n 1)], 3)], (t [(a [ff, (s 2 0 1 3)]), (a [ff, z])]), [([(n 24)], 3)]⟩,
  ⟨[(a [ff, (s 0 0 1 4)]), (a [ff, (s 1 0 1 3)])], [([(n 3), (n 0)], 3), ([(n 1)], 3)], (t [(a [ff, (s 2 0 1 3)]), (a [ff, z])]), [([(n 3)], 3)]⟩,
  ⟨[(a [ff, (s 0 0 1 4)]), (a [ff, (s 1 0 1 3)])], [([(n 4), (n 0)], 3), ([(n 1)], 3)], (t [(a [ff, (s 2 0 1 3)]), (a [ff, z])]), [([(n 4)], 3)]⟩,
  ⟨[(a [ff, (s 0 0 1 4)]), (a [ff, (s 1 0 1 3)])], [([(n 6), (n 0)], 3), ([(n 1)], 3)], (t [(a [ff, (s 2 0 1 3)]), (a [ff, z])]), [([(n 6)], 3)]⟩,
  ⟨[(a [ff, (s 0 0 1 4)]), (a [ff, (s 1 0 1 3)])], [([(n 6), (n 0)], 3), ([(n 2)], 3)], (t [(a [ff, (s 2 0 1 3)]), (a [ff, z])]), [([(n 3)], 3)]⟩,
  ⟨[(a [ff, (s 0 0 1 4)]), (a [ff, (s 1 0 1 3)])], [([(n 8), (n 0)], 3), ([(n 1)], 3)], (t [(a [ff, (s 2 0 1 3)]), (a [ff, z])]), [([(n 8)], 3)]⟩,
  ⟨[(a [ff, (s 0 0 1 4)]), (a [ff, (s 1 0 1 3)])], [([(n 9), (n 0)], 3), ([(n 1)], 3)], (t [(a [ff, (s 2 0 1 3)]), (a [ff, z])]), [([(n 9)], 3)]⟩,
  ⟨[(a [tt, (s 0 0 1 3)]), (a [ff, (s 1 0 1 3)])], [([(n 1)], 3), ([(n 1)], 3)], (t [(a [tt, (s 2 0 1 3)]), (a [ff, z])]), [([(n 1)], 3)]⟩,
  ⟨[(a [tt, (s 0 0 1 3)]), (a [ff, (s 1 0 1 3)])], [([(n 12)], 3), ([(n 1)], 3)], (t [(a [tt, (s 2 0 1 3)]), (a [ff, z])]), [([(n 12)], 3)]⟩,
  ⟨[(a [tt, (s 0 0 1 3)]), (a [ff, (s 1 0 1 3)])], [([(n 16)], 3), ([(n 1)], 3)], (t [(a [tt, (s 2 0 1 3)]), (a [ff, z])]), [([(n 16)], 3)]⟩,
  ⟨[(a [tt, (s 0 0 1 3)]), (a [ff, (s 1 0 1 3)])], [([(n 2)], 3), ([(n 1)], 3)], (t [(a [tt, (s 2 0 1 3)]), (a [ff, z])]), [([(n 2)], 3)]⟩,
  ⟨[(a [tt, (s 0 0 1 3)]), (a [ff, (s 1 0 1 3)])], [([(n 2)], 3), ([(n 2)], 3)], (t [(a [tt, (s 2 0 1 3)]), (a [ff, z])]), [([(n 1)], 3)]⟩,
  ⟨[(a [tt, (s 0 0 1 3)]), (a [ff, (s 1 0 1 3)])], [([(n 3)], 3), ([(n 1)], 3)], (t [(a [tt, (s 2 0 1 3)]), (a [ff, z])]), [([(n 3)], 3)]⟩,
  ⟨[(a [tt, (s 0 0 1 3)]), (a [ff, (s 1 0 1 3)])], [([(n 4)], 3), ([(n 1)], 3)], (t [(a [tt, (s 2 0 1 3)]), (a [ff, z])]), [([(n 4)], 3)]⟩,
  ⟨[(a [tt, (s 0 0 1 3)]), (a [ff, (s 1 0 1 3)])], [([(n 6)], 3), ([(n 1)], 3)], (t [(a [tt, (s 2 0 1 3)]), (a [ff, z])]), [([(n 6)], 3)]⟩,
  ⟨[(a [tt, (s 0 0 1 4)]), (a [ff, (s 1 0 1 3)])], [([(n 1), (n 0)], 3), ([(n 1)], 3)], (t [(a [tt, (s 2 0 1 3)]), (a [ff, z])]), [([(n 1)], 3)]⟩,
  ⟨[(a [tt, (s 0 0 1 4)]), (a [ff, (s 1 0 1 3)])], [([(n 12), (n 0)], 3), ([(n 1)], 3)], (t [(a [tt, (s 2 0 1 3)]), (a [ff, z])]), [([(n 12)], 3)]⟩,
  ⟨[(a [tt, (s 0 0 1 4)]), (a [ff, (s 1 0 1 3)])], [([(n 2), (n 0)], 3), ([(n 1)], 3)], (t [(a [tt, (s 2 0 1 3)]), (a [ff, z])]), [([(n 2)], 3)]⟩,
  ⟨[(a [tt, (s 0 0 1 4)]), (a [ff, (s 1 0 1 3)])], [([(n 3), (n 0)], 3), ([(n 1)], 3)], (t [(a [tt, (s 2 0 1 3)]), (a [ff, z])]), [([(n 3)], 3)]⟩,
  ⟨[(a [tt, (s 0 0 1 4)]), (a [ff, (s 1 0 1 3)])], [([(n 4), (n 0)], 3), ([(n 1)], 3)], (t [(a [tt, (s 2 0 1 3)]), (a [ff, z])]), [([(n 4)], 3)]⟩,
  ⟨[(a [tt, (s 0 0 1 4)]), (a [ff, (s 1 0 1 3)])], [([(n 6), (n 0)], 3), ([(n 1)], 3)], (t [(a [tt, (s 2 0 1 3)]), (a [ff, z])]), [([(n 6)], 3)]⟩,
  ⟨[(a [tt, (s 0 0 1 4)]), (a [ff, (s 1 0 1 3)])], [([(n 9), (n 0)], 3), ([(n 1)], 3)], (t [(a [tt, (s 2 0 1 3)]), (a [ff, z])]), [([(n 9)], 3)]⟩]

theorem c165 : l165.all (fun e => e.check Tryz.prog (memo T15) 100000 165) = true := by kernel_rfl

def T16 : Memo := (.node (none) (.node (none) (.node (none) (.node (none) (.node (none) (.node (none) .nil (.node (none) (.node (some l159) .nil .nil) .nil)) .nil) (.node (none) (.node (none) .nil (.node (none) (.node (some l167) .nil .nil) .nil)) (.node (none) (.node (none) (.node (some l151) .nil .nil) .nil) .nil))) (.node (none) (.node (none) .nil (.node (none) (.node (none) .nil (.node (some l211) .nil .nil)) .nil)) .nil)) (.node (none) (.node (none) (.node (none) .nil (.node (none) (.node (none) .nil (.node (some l209) .nil .nil)) (.node (some l113) .nil .nil))) (.node (none) (.node (none) .nil (.node (none) (.node (some l169) .nil .nil) .nil)) .nil)) (.node (none) (.node (none) (.node (none) .nil (.node (none) (.node (some l165) .nil .nil) .nil)) .nil) .nil))) (.node (none) (.node (none) (.node (none) (.node (none) .nil (.node (none) .nil (.node (none) (.node (none) (.node (some l304) .nil .nil) .nil) .nil))) (.node (none) (.node (none) .nil (.node (none) (.node (some l168) .nil .nil) .nil)) .nil)) (.node (none) (.node (none) .nil (.node (none) (.node (none) .nil (.node (some l212) .nil .nil)) (.node (some l116) .nil .nil))) (.node (none) (.node (none) .nil (.node (none) (.node (some l172) .nil .nil) .nil)) .nil))) (.node (none) (.node (none) (.node (none) .nil (.node (none) (.node (none) .nil (.node (some l210) .nil .nil)) .nil)) (.node (none) (.node (none) .nil (.node (none) (.node (some l170) .nil .nil) .nil)) .nil)) (.node (none) (.node (none) .nil (.node (none) .nil (.node (some l118) .nil .nil))) .nil))))
theorem ok16 : T16.OK Tryz.prog := Memo.ok_put mixed ok15 rfl c165

/-- Gcd -/
def l164 : List Entry := [
  ⟨[(a [ff, (s 0 0 1 3)]), (a [ff, (s 1 0 1 3)])], [([(n 1)], 3), ([(n 1)], 3)], (a [ff, (s 2 0 1 3)]), [([(n 1)], 3)]⟩,
  ⟨[(a [ff, (s 0 0 1 3)]), (a [ff, (s 1 0 1 3)])], [([(n 1)], 3), ([(n 2)], 3)], (a [ff, (s 2 0 1 3)]), [([(n 1)], 3)]⟩,
  ⟨[(a [ff, (s 0 0 1 3)]), (a [ff, (s 1 0 1 3)])], [([(n 100)], 3), ([(n 1)], 3)], (a [ff, (s 2 0 1 3)]), [([(n 1)], 3)]⟩,
  ⟨[(a [ff, (s 0 0 1 3)]), (a [ff, (s 1 0 1 3)])], [([(n 16)], 3), ([(n 1)], 3)], (a [ff, (s 2 0 1 3)]), [([(n 1)], 3)]⟩,
  ⟨[(a [ff, (s 0 0 1 3)]), (a [ff, (s 1 0 1 3)])], [([(n 2)], 3), ([(n 2)], 3)], (a [ff, (s 2 0 1 3)]), [([(n 2)], 3)]⟩,
  ⟨[(a [ff, (s 0 0 1 3)]), (a [ff, (s 1 0 1 3)])], [([(n 4)], 3), ([(n 1)], 3)], (a [ff, (s 2 0 1 3)]), [([(n 1)], 3)]⟩,
  ⟨[(a [ff, (s 0 0 1 3)]), (a [ff, (s 1 0 1 3)])], [([(n 40)], 3), ([(n 1)], 3)], (a [ff, (s 2 0 1 3)]), [([(n 1)], 3)]⟩,
  ⟨[(a [ff, (s 0 0 1 3)]), (a [ff, (s 1 0 1 4)])], [([(n 1)], 3), ([(n 1), (n 0)], 3)], (a [ff, (s 2 0 1 3)]), [([(n 1)], 3)]⟩,
  ⟨[(a [ff, (s 0 0 1 3)]), (a [ff, (s 1 0 1 4)])], [([(n 12)], 3), ([(n 1), (n 0)], 3)], (a [ff, (s 2 0 1 3)]), [([(n 1)], 3)]⟩,
  ⟨[(a [ff, (s 0 0 1 3)]), (a [ff, (s 1 0 1 4)])], [([(n 18)], 3), ([(n 1), (n 0)], 3)], (a [ff, (s 2 0 1 3)]), [([(n 1)], 3)]⟩,
  ⟨[(a [ff, (s 0 0 1 3)]), (a [ff, (s 1 0 1 4)])], [([(n 2)], 3), ([(n 1), (n 0)], 3)], (a [ff, (s 2 0 1 3)]), [([(n 1)], 3)]⟩,
  ⟨[(a [ff, (s 0 0 1 3)]), (a [ff, (s 1 0 1 4)])], [([(n 3)], 3), ([(n 1), (n 0)], 3)], (a [ff, (s 2 0 1 3)]), [([(n 1)], 3)]⟩,
  ⟨[(a [ff, (s 0 0 1 3)]), (a [ff, (s 1 0 1 4)])], [([(n 4)], 3), ([(n 1), (n 0)], 3)], (a [ff, (s 2 0 1 3)]), [([(n 1)], 3)]⟩,
  ⟨[(a [ff, (s 0 0 1 3)]), (a [ff, (s 1 0 1 4)])], [([(n 5)], 3), ([(n 1), (n 0)], 3)], (a [ff, (s 2 0 1 3)]), [([(n 1)], 3)]⟩,
  ⟨[(a [ff, (s 0 0 1 3)]), (a [ff, (s 1 0 1 4)])], [([(n 6)], 3), ([(n 1), (n 0)], 3)], (a [ff, (s 2 0 1 3)]), [([(n 1)], 3)]⟩,
  ⟨[(a [ff, (s 0 0 1 3)]), (a [ff, (s 1 0 1 4)])], [([(n 8)], 3), ([(n 1), (n 0)], 3)], (a [ff, (s 2 0 1 3)]), [([(n 1)], 3)]⟩,
  ⟨[(a [ff, (s 0 0 1 3)]), (a [ff, (s 1 0 1 4)])], [([(n 9)], 3), ([(n 1), (n 0)], 3)], (a [ff, (s 2 0 1 3)]), [([(n 1)], 3)]⟩,
  ⟨[(a [ff, (s 0 0 1 4)]), (a [ff, (s 1 0 1 4)])], [([(n 1), (n 0)], 3), ([(n 1), (n 0)], 3)], (a [ff, (s 2 0 1 3)]), [([(n 1)], 3)]⟩,
  ⟨[(a [ff, (s 0 0 1 4)]), (a [ff, (s 1 0 1 4)])], [([(n 12), (n 0)], 3), ([(n 1), (n 0)], 3)], (a [ff, (s 2 0 1 3)]), [([(n 1)], 3)]⟩,
  ⟨[(a [ff, (s 0 0 1 4)]), (a [ff, (s 1 0 1 4)])], [([(n 18), (n 0)], 3), ([(n 2), (n 0)], 3)], (a [ff, (s 2 0 1 3)]), [([(n 2)], 3)]⟩,
  ⟨[(a [ff, (s 0 0 1 4)]), (a [ff, (s 1 0 1 4)])], [([(n 2), (n 0)], 3), ([(n 1), (n 0)], 3)], (a [ff, (s 2 0 1 3)]), [([(n 1)], 3)]⟩,
  ⟨[(a [ff, (s 0 0 1 4)]), (a [ff, (s 1 0 1 4)])], [([(n 2), (n 0)], 3), ([(n 2), (n 0)], 3)], (a [ff, (s 2 0 1 3)]), [([(n 2)], 3)]⟩,
  ⟨[(a [ff, (s 0 0 1 4)]), (a [ff, (s 1 0 1 4)])], [([(n 24), (n 0)], 3), ([(n 1), (n 0)], 3)], (a [ff, (s 2 0 1 3)]), [([(n 1)], 3)]⟩,
  ⟨[(a [ff, (s 0 0 1 4)]), (a [ff, (s 1 0 1 4)])], [([(n 3), (n 0)], 3), ([(n 1), (n 0)], 3)], (a [ff, (s 2 0 1 3)]), [([(n 1)], 3)]⟩,
  ⟨[(a [ff, (s 0 0 1 4)]), (a [ff, (s 1 0 1 4)])], [([(n 4), (n 0)], 3), ([(n 1), (n 0)], 3)], (a [ff, (s 2 0 1 3)]), [([(n 1)], 3)]⟩,
  ⟨[(a [ff, (s 0 0 1 4)]), (a [ff, (s 1 0 1 4)])], [([(n 6), (n 0)], 3), ([(n 1), (n 0)], 3)], (a [ff, (s 2 0 1 3)]), [([(n 1)], 3)]⟩,
  ⟨[(a [ff, (s 0 0 1 4)]), (a [ff, (s 1 0 1 4)])], [([(n 6), (n 0)], 3), ([(n 2), (n 0)], 3)], (a [ff, (s 2 0 1 3)]), [([(n 2)], 3)]⟩,
  ⟨[(a [ff, (s 0 0 1 4)]), (a [ff, (s 1 0 1 4)])], [([(n 8), (n 0)], 3), ([(n 1), (n 0)], 3)], (a [ff, (s 2 0 1 3)]), [([(n 1)], 3)]⟩,
  ⟨[(a [ff, (s 0 0 1 4)]), (a [ff, (s 1 0 1 4)])], [([(n 9), (n 0)], 3), ([(n 1), (n 0)], 3)], (a [ff, (s 2 0 1 3)]), [([(n 1)], 3)]⟩,
  ⟨[(a [tt, (s 0 0 1 3)]), (a [ff, (s 1 0 1 3)])], [([(n 16)], 3), ([(n 1)], 3)], (a [ff, (s 2 0 1 3)]), [([(n 1)], 3)]⟩,
  ⟨[(a [tt, (s 0 0 1 3)]), (a [ff, (s 1 0 1 3)])], [([(n 2)], 3), ([(n 2)], 3)], (a [ff, (s 2 0 1 3)]), [([(n 2)], 3)]⟩,
  ⟨[(a [tt, (s 0 0 1 3)]), (a [ff, (s 1 0 1 3)])], [([(n 3)], 3), ([(n 1)], 3)], (a [ff, (s 2 0 1 3)]), [([(n 1)], 3)]⟩,
  ⟨[(a [tt, (s 0 0 1 3)]), (a [ff, (s 1 0 1 3)])], [([(n 4)], 3), ([(n 1)], 3)], (a [ff, (s 2 0 1 3)]), [([(n 1)], 3)]⟩,
  ⟨[(a [tt, (s 0 0 1 3)]), (a [ff, (s 1 0 1 4)])], [([(n 1)], 3), ([(n 1), (n 0)], 3)], (a [ff, (s 2 0 1 3)]), [([(n 1)], 3)]⟩,
  ⟨[(a [tt, (s 0 0 1 3)]), (a [ff, (s 1 0 1 4)])], [([(n 12)], 3), ([(n 1), (n 0)], 3)], (a [ff, (s 2 0 1 3)]), [([(n 1)], 3)]⟩,
  ⟨[(a [tt, (s 0 0 1 3)]), (a [ff, (s 1 0 1 4)])], [([(n 2)], 3), ([(n 1), (n 0)], 3)], (a [ff, (s 2 0 1 3)]), [([(n 1)], 3)]⟩,
  ⟨[(a [tt, (s 0 0 1 3)]), (a [ff, (s 1 0 1 4)])], [([(n 3)], 3), ([(n 1), (n 0)], 3)], (a [ff, (s 2 0 1 3)]), [([(n 1)], 3)]⟩,
  ⟨[(a [tt, (s 0 0 1 3)]), (a [ff, (s 1 0 1 4)])], [([(n 4)], 3), ([(n 1), (n 0)], 3)], (a [ff, (s 2 0 1 3)]), [([(n 1)], 3)]⟩,
  ⟨[(a [tt, (s 0 0 1 3)]), (a [ff, (s 1 0 1 4)])], [([(n 6)], 3), ([(n 1), (n 0)], 3)], (a [ff, (s 2 0 1 3)]), [([(n 1)], 3)]⟩,
  ⟨[(a [tt, (s 0 0 1 4)]), (a [ff, (s 1 0 1 4)])], [([(n 1), (n 0)], 3), ([(n 1), (n 0)], 3)], (a [ff, (s 2 0 1 3)]), [([(n 1)], 3)]⟩,
  ⟨[(a [tt, (s 0 0 1 4)]), (a [ff, (s 1 0 1 4)])], [([(n 12), (n 0)], 3), ([(n 1), (n 0)], 3)], (a [ff, (s 2 0 1 3)]), [([(n 1)], 3)]⟩,
  ⟨[(a [tt, (s 0 0 1 4)]), (a [ff, (s 1 0 1 4)])], [([(n 2), (n 0)], 3), ([(n 1), (n 0)], 3)], (a [ff, (s 2 0 1 3)]), [([(n 1)], 3)]⟩,
  ⟨[(a [tt, (s 0 0 1 4)]), (a [ff, (s 1 0 1 4)])], [([(n 3), (n 0)], 3), ([(n 1), (n 0)], 3)], (a [ff, (s 2 0 1 3)]), [([(n 1)], 3)]⟩,
  ⟨[(a [tt, (s 0 0 1 4)]), (a [ff, (s 1 0 1 4)])], [([(n 4), (n 0)], 3), ([(n 1), (n 0)], 3)], (a [ff, (s 2 0 1 3)]), [([(n 1)], 3)]⟩,
  ⟨[(a [tt, (s 0 0 1 4)]), (a [ff, (s 1 0 1 4)])], [([(n 6), (n 0)], 3), ([(n 1), (n 0)], 3)], (a [ff, (s 2 0 1 3)]), [([(n 1)], 3)]⟩,
  ⟨[(a [tt, (s 0 0 1 4)]), (a [ff, (s 1 0 1 4)])], [([(n 9), (n 0)], 3), ([(n 1), (n 0)], 3)], (a [ff, (s 2 0 1 3)]), [([(n 1)], 3)]⟩]

theorem c164 : l164.all (fun e => e.check Tryz.prog (memo T16) 100000 164) = true := by kernel_rfl

def T17 : Memo := (.node (none) (.node (none) (.node (none) (.node (none) (.node (none) (.node (none) .nil (.node (none) (.node (some l159) .nil .nil) .nil)) .nil) (.node (none) (.node (none) .nil (.node (none) (.node (some l167) .nil .nil) .nil)) (.node (none) (.node (none) (.node (some l151) .nil .nil) .nil) .nil))) (.node (none) (.node (none) .nil (.node (none) (.node (none) .nil (.node (some l211) .nil .nil)) .nil)) .nil)) (.node (none) (.node (none) (.node (none) .nil (.node (none) (.node (none) .nil (.node (some l209) .nil .nil)) (.node (some l113) .nil .nil))) (.node (none) (.node (none) .nil (.node (none) (.node (some l169) .nil .nil) .nil)) .nil)) (.node (none) (.node (none) (.node (none) .nil (.node (none) (.node (some l165) .nil .nil) .nil)) .nil) .nil))) (.node (none) (.node (none) (.node (none) (.node (none) .nil (.node (none) .nil (.node (none) (.node (none) (.node (some l304) .nil .nil) .nil) .nil))) (.node (none) (.node (none) .nil (.node (none) (.node (some l168) .nil .nil) .nil)) .nil)) (.node (none) (.node (none) (.node (none) .nil (.node (none) (.node (some l164) .nil .nil) .nil)) (.node (none) (.node (none) .nil (.node (some l212) .nil .nil)) (.node (some l116) .nil .nil))) (.node (none) (.node (none) .nil (.node (none) (.node (some l172) .nil .nil) .nil)) .nil))) (.node (none) (.node (none) (.node (none) .nil (.node (none) (.node (none) .nil (.node (some l210) .nil .nil)) .nil)) (.node (none) (.node (none) .nil (.node (none) (.node (some l170) .nil .nil) .nil)) .nil)) (.node (none) (.node (none) .nil (.node (none) .nil (.node (some l118) .nil .nil))) .nil))))
theorem ok17 : T17.OK Tryz.prog := Memo.ok_put mixed ok16 rfl c164

/-- one -/
def l166 : List Entry := [
  ⟨[(a [ff, (s 0 0 1 3)])], [([(n 1)], 3)], tt, []⟩,
  ⟨[(a [ff, (s 0 0 1 3)])], [([(n 2)], 3)], ff, []⟩,
  ⟨[(a [ff, z])], [], ff, []⟩]

theorem c166 : l166.all (fun e => e.check Tryz.prog (memo T17) 100000 166) = true := by kernel_rfl

def T18 : Memo := (.node (none) (.node (none) (.node (none) (.node (none) (.node (none) (.node (none) .nil (.node (none) (.node (some l159) .nil .nil) .nil)) .nil) (.node (none) (.node (none) .nil (.node (none) (.node (some l167) .nil .nil) .nil)) (.node (none) (.node (none) (.node (some l151) .nil .nil) .nil) .nil))) (.node (none) (.node (none) .nil (.node (none) (.node (none) .nil (.node (some l211) .nil .nil)) .nil)) .nil)) (.node (none) (.node (none) (.node (none) .nil (.node (none) (.node (none) .nil (.node (some l209) .nil .nil)) (.node (some l113) .nil .nil))) (.node (none) (.node (none) .nil (.node (none) (.node (some l169) .nil .nil) .nil)) .nil)) (.node (none) (.node (none) (.node (none) .nil (.node (none) (.node (some l165) .nil .nil) .nil)) .nil) .nil))) (.node (none) (.node (none) (.node (none) (.node (none) .nil (.node (none) .nil (.node (none) (.node (none) (.node (some l304) .nil .nil) .nil) .nil))) (.node (none) (.node (none) .nil (.node (none) (.node (some l168) .nil .nil) .nil)) .nil)) (.node (none) (.node (none) (.node (none) .nil (.node (none) (.node (some l164) .nil .nil) .nil)) (.node (none) (.node (none) .nil (.node (some l212) .nil .nil)) (.node (some l116) .nil .nil))) (.node (none) (.node (none) .nil (.node (none) (.node (some l172) .nil .nil) .nil)) .nil))) (.node (none) (.node (none) (.node (none) .nil (.node (none) (.node (none) .nil (.node (some l210) .nil .nil)) .nil)) (.node (none) (.node (none) .nil (.node (none) (.node (some l170) .nil .nil) .nil)) .nil)) (.node (none) (.node (none) (.node (none) .nil (.node (none) (.node (some l166) .nil .nil) .nil)) (.node (none) .nil (.node (some l118) .nil .nil))) .nil))))
theorem ok18 : T18.OK Tryz.prog := Memo.ok_put mixed ok17 rfl c166

/-- Den -/
def l117 : List Entry := [
  ⟨[(a [ff, (s 0 0 1 3), ff, (s 1 0 1 3)])], [([(n 1)], 3), ([(n 2)], 3)], (a [ff, (s 1 0 1 3)]), []⟩,
  ⟨[(a [ff, (s 0 0 1 3), ff, z])], [([(n 1)], 3)], (a [ff, (s 1 0 1 3)]), [([(n 1)], 3)]⟩,
  ⟨[(a [ff, (s 0 0 1 3), ff, z])], [([(n 12)], 3)], (a [ff, (s 1 0 1 3)]), [([(n 1)], 3)]⟩,
  ⟨[(a [ff, (s 0 0 1 3), ff, z])], [([(n 18)], 3)], (a [ff, (s 1 0 1 3)]), [([(n 1)], 3)]⟩,
  ⟨[(a [ff, (s 0 0 1 3), ff, z])], [([(n 2)], 3)], (a [ff, (s 1 0 1 3)]), [([(n 1)], 3)]⟩,
  ⟨[(a [ff, (s 0 0 1 3), ff, z])], [([(n 24)], 3)], (a [ff, (s 1 0 1 3)]), [([(n 1)], 3)]⟩,
  ⟨[(a [ff, (s 0 0 1 3), ff, z])], [([(n 3)], 3)], (a [ff, (s 1 0 1 3)]), [([(n 1)], 3)]⟩,
  ⟨[(a [ff, (s 0 0 1 3), ff, z])], [([(n 4)], 3)], (a [ff, (s 1 0 1 3)]), [([(n 1)], 3)]⟩,
  ⟨[(a [ff, (s 0 0 1 3), ff, z])], [([(n 5)], 3)], (a [ff, (s 1 0 1 3)]), [([(n 1)], 3)]⟩,
  ⟨[(a [ff, (s 0 0 1 3), ff, z])], [([(n 6)], 3)], (a [ff, (s 1 0 1 3)]), [([(n 1)], 3)]⟩,
  ⟨[(a [ff, (s 0 0 1 3), ff, z])], [([(n 8)], 3)], (a [ff, (s 1 0 1 3)]), [([(n 1)], 3)]⟩,
  ⟨[(a [ff, (s 0 0 1 3), ff, z])], [([(n 9)], 3)], (a [ff, (s 1 0 1 3)]), [([(n 1)], 3)]⟩,
  ⟨[(a [ff, z, ff, z])], [], (a [ff, (s 0 0 1 3)]), [([(n 1)], 3)]⟩,
  ⟨[(a [tt, (s 0 0 1 3), ff, z])], [([(n 1)], 3)], (a [ff, (s 1 0 1 3)]), [([(n 1)], 3)]⟩,
  ⟨[(a [tt, (s 0 0 1 3), ff, z])], [([(n 12)], 3)], (a [ff, (s 1 0 1 3)]), [([(n 1)], 3)]⟩,
  ⟨[(a [tt, (s 0 0 1 3), ff, z])], [([(n 2)], 3)], (a [ff, (s 1 0 1 3)]), [([(n 1)], 3)]⟩,
  ⟨[(a [tt, (s 0 0 1 3), ff, z])], [([(n 3)], 3)], (a [ff, (s 1 0 1 3)]), [([(n 1)], 3)]⟩,
  ⟨[(a [tt, (s 0 0 1 3), ff, z])], [([(n 4)], 3)], (a [ff, (s 1 0 1 3)]), [([(n 1)], 3)]⟩,
  ⟨[(a [tt, (s 0 0 1 3), ff, z])], [([(n 6)], 3)], (a [ff, (s 1 0 1 3)]), [([(n 1)], 3)]⟩]

theorem c117 : l117.all (fun e => e.check Tryz.prog (memo T18) 100000 117) = true := by kernel_rfl

def T19 : Memo := (.node (none) (.node (none) (.node (none) (.node (none) (.node (none) (.node (none) .nil (.node (none) (.node (some l159) .nil .nil) .nil)) .nil) (.node (none) (.node (none) .nil (.node (none) (.node (some l167) .nil .nil) .nil)) (.node (none) (.node (none) (.node (some l151) .nil .nil) .nil) .nil))) (.node (none) (.node (none) .nil (.node (none) (.node (none) .nil (.node (some l211) .nil .nil)) .nil)) .nil)) (.node (none) (.node (none) (.node (none) .nil (.node (none) (.node (none) .nil (.node (some l209) .nil .nil)) (.node (some l113) .nil .nil))) (.node (none) (.node (none) .nil (.node (none) (.node (some l169) .nil .nil) .nil)) .nil)) (.node (none) (.node (none) (.node (none) .nil (.node (none) (.node (some l165) .nil .nil) .nil)) (.node (none) .nil (.node (some l117) .nil .nil))) .nil))) (.node (none) (.node (none) (.node (none) (.node (none) .nil (.node (none) .nil (.node (none) (.node (none) (.node (some l304) .nil .nil) .nil) .nil))) (.node (none) (.node (none) .nil (.node (none) (.node (some l168) .nil .nil) .nil)) .nil)) (.node (none) (.node (none) (.node (none) .nil (.node (none) (.node (some l164) .nil .nil) .nil)) (.node (none) (.node (none) .nil (.node (some l212) .nil .nil)) (.node (some l116) .nil .nil))) (.node (none) (.node (none) .nil (.node (none) (.node (some l172) .nil .nil) .nil)) .nil))) (.node (none) (.node (none) (.node (none) .nil (.node (none) (.node (none) .nil (.node (some l210) .nil .nil)) .nil)) (.node (none) (.node (none) .nil (.node (none) (.node (some l170) .nil .nil) .nil)) .nil)) (.node (none) (.node (none) (.node (none) .nil (.node (none) (.node (some l166) .nil .nil) .nil)) (.node (none) .nil (.node (some l118) .nil .nil))) .nil))))
theorem ok19 : T19.OK Tryz.prog := Memo.ok_put mixed ok18 rfl c117

/-- Make -/
def l112 : List Entry := [
  ⟨[(a [ff, (s 0 0 1 3)]), (a [ff, (s 1 0 1 3)])], [([(n 1)], 3), ([(n 1)], 3)], (a [ff, (s 2 0 1 3), ff, z]), [([(n 1)], 3)]⟩,
  ⟨[(a [ff, (s 0 0 1 3)]), (a [ff, (s 1 0 1 3)])], [([(n 1)], 3), ([(n 2)], 3)], (a [ff, (s 2 0 1 3), ff, (s 3 0 1 3)]), [([(n 1)], 3), ([(n 2)], 3)]⟩,
  ⟨[(a [ff, (s 0 0 1 3)]), (a [ff, (s 1 0 1 3)])], [([(n 100)], 3), ([(n 1)], 3)], (a [ff, (s 2 0 1 3), ff, z]), [([(n 100)], 3)]⟩,
  ⟨[(a [ff, (s 0 0 1 3)]), (a [ff, (s 1 0 1 3)])], [([(n 16)], 3), ([(n 1)], 3)], (a [ff, (s 2 0 1 3), ff, z]), [([(n 16)], 3)]⟩,
  ⟨[(a [ff, (s 0 0 1 3)]), (a [ff, (s 1 0 1 3)])], [([(n 2)], 3), ([(n 2)], 3)], (a [ff, (s 2 0 1 3), ff, z]), [([(n 1)], 3)]⟩,
  ⟨[(a [ff, (s 0 0 1 3)]), (a [ff, (s 1 0 1 3)])], [([(n 4)], 3), ([(n 1)], 3)], (a [ff, (s 2 0 1 3), ff, z]), [([(n 4)], 3)]⟩,
  ⟨[(a [ff, (s 0 0 1 3)]), (a [ff, (s 1 0 1 3)])], [([(n 40)], 3), ([(n 1)], 3)], (a [ff, (s 2 0 1 3), ff, z]), [([(n 40)], 3)]⟩,
  ⟨[(a [ff, (s 0 0 1 3)]), (a [ff, (s 1 0 1 4)])], [([(n 1)], 3), ([(n 1), (n 0)], 3)], (a [ff, (s 2 0 1 3), ff, z]), [([(n 1)], 3)]⟩,
  ⟨[(a [ff, (s 0 0 1 3)]), (a [ff, (s 1 0 1 4)])], [([(n 12)], 3), ([(n 1), (n 0)], 3)], (a [ff, (s 2 0 1 3), ff, z]), [([(n 12)], 3)]⟩,
  ⟨[(a [ff, (s 0 0 1 3)]), (a [ff, (s 1 0 1 4)])], [([(n 18)], 3), ([(n 1), (n 0)], 3)], (a [ff, (s 2 0 1 3), ff, z]), [([(n 18)], 3)]⟩,
  ⟨[(a [ff, (s 0 0 1 3)]), (a [ff, (s 1 0 1 4)])], [([(n 2)], 3), ([(n 1), (n 0)], 3)], (a [ff, (s 2 0 1 3), ff, z]), [([(n 2)], 3)]⟩,
  ⟨[(a [ff, (s 0 0 1 3)]), (a [ff, (s 1 0 1 4)])], [([(n 3)], 3), ([(n 1), (n 0)], 3)], (a [ff, (s 2 0 1 3), ff, z]), [([(n 3)], 3)]⟩,
  ⟨[(a [ff, (s 0 0 1 3)]), (a [ff, (s 1 0 1 4)])], [([(n 4)], 3), ([(n 1), (n 0)], 3)], (a [ff, (s 2 0 1 3), ff, z]), [([(n 4)], 3)]⟩,
  ⟨[(a [ff, (s 0 0 1 3)]), (a [ff, (s 1 0 1 4)])], [([(n 5)], 3), ([(n 1), (n 0)], 3)], (a [ff, (s 2 0 1 3), ff, z]), [([(n 5)], 3)]⟩,
  ⟨[(a [ff, (s 0 0 1 3)]), (a [ff, (s 1 0 1 4)])], [([(n 6)], 3), ([(n 1), (n 0)], 3)], (a [ff, (s 2 0 1 3), ff, z]), [([(n 6)], 3)]⟩,
  ⟨[(a [ff, (s 0 0 1 3)]), (a [ff, (s 1 0 1 4)])], [([(n 8)], 3), ([(n 1), (n 0)], 3)], (a [ff, (s 2 0 1 3), ff, z]), [([(n 8)], 3)]⟩,
  ⟨[(a [ff, (s 0 0 1 3)]), (a [ff, (s 1 0 1 4)])], [([(n 9)], 3), ([(n 1), (n 0)], 3)], (a [ff, (s 2 0 1 3), ff, z]), [([(n 9)], 3)]⟩,
  ⟨[(a [ff, (s 0 0 1 4)]), (a [ff, (s 1 0 1 4)])], [([(n 1), (n 0)], 3), ([(n 1), (n 0)], 3)], (a [ff, (s 2 0 1 3), ff, z]), [([(n 1)], 3)]⟩,
  ⟨[(a [ff, (s 0 0 1 4)]), (a [ff, (s 1 0 1 4)])], [([(n 12), (n 0)], 3), ([(n 1), (n 0)], 3)], (a [ff, (s 2 0 1 3), ff, z]), [([(n 12)], 3)]⟩,
  ⟨[(a [ff, (s 0 0 1 4)]), (a [ff, (s 1 0 1 4)])], [([(n 18), (n 0)], 3), ([(n 2), (n 0)], 3)], (a [ff, (s 2 0 1 3), ff, z]), [([(n 9)], 3)]⟩,
  ⟨[(a [ff, (s 0 0 1 4)]), (a [ff, (s 1 0 1 4)])], [([(n 2), (n 0)], 3), ([(n 1), (n 0)], 3)], (a [ff, (s 2 0 1 3), ff, z]), [([(n 2)], 3)]⟩,
  ⟨[(a [ff, (s 0 0 1 4)]), (a [ff, (s 1 0 1 4)])], [([(n 2), (n 0)], 3), ([(n 2), (n 0)], 3)], (a [ff, (s 2 0 1 3), ff, z]), [([(n 1)], 3)]⟩,
  ⟨[(a [ff, (s 0 0 1 4)]), (a [ff, (s 1 0 1 4)])], [([(n 24), (n 0)], 3), ([(n 1), (n 0)], 3)], (a [ff, (s 2 0 1 3), ff, z]), [([(n 24)], 3)]⟩,
  ⟨[(a [ff, (s 0 0 1 4)]), (a [ff, (s 1 0 1 4)])], [([(n 3), (n 0)], 3), ([(n 1), (n 0)], 3)], (a [ff, (s 2 0 1 3), ff, z]), [([(n 3)], 3)]⟩,
  ⟨[(a [ff, (s 0 0 1 4)]), (a [ff, (s 1 0 1 4)])], [([(n 4), (n 0)], 3), ([(n 1), (n 0)], 3)], (a [ff, (s 2 0 1 3), ff, z]), [([(n 4)], 3)]⟩,
  ⟨[(a [ff, (s 0 0 1 4)]), (a [ff, (s 1 0 1 4)])], [([(n 6), (n 0)], 3), ([(n 1), (n 0)], 3)], (a [ff, (s 2 0 1 3), ff, z]), [([(n 6)], 3)]⟩,
  ⟨[(a [ff, (s 0 0 1 4)]), (a [ff, (s 1 0 1 4)])], [([(n 6), (n 0)], 3), ([(n 2), (n 0)], 3)], (a [ff, (s 2 0 1 3), ff, z]), [([(n 3)], 3)]⟩,
  ⟨[(a [ff, (s 0 0 1 4)]), (a [ff, (s 1 0 1 4)])], [([(n 8), (n 0)], 3), ([(n 1), (n 0)], 3)], (a [ff, (s 2 0 1 3), ff, z]), [([(n 8)], 3)]⟩,
  ⟨[(a [ff, (s 0 0 1 4)]), (a [ff, (s 1 0 1 4)])], [([(n 9), (n 0)], 3), ([(n 1), (n 0)], 3)], (a [ff, (s 2 0 1 3), ff, z]), [([(n 9)], 3)]⟩,
  ⟨[(a [ff, z]), (a [ff, (s 0 0 1 3)])], [([(n 1)], 3)], (a [ff, z, ff, z]), []⟩,
  ⟨[(a [ff, z]), (a [ff, (s 0 0 1 3)])], [([(n 2)], 3)], (a [ff, z, ff, z]), []⟩,
  ⟨[(a [ff, z]), (a [ff, (s 0 0 1 3)])], [([(n 4)], 3)], (a [ff, z, ff, z]), []⟩,
  ⟨[(a [ff, z]), (a [ff, (s 0 0 1 4)])], [([(n 1), (n 0)], 3)], (a [ff, z, ff, z]), []⟩,
  ⟨[(a [tt, (s 0 0 1 3)]), (a [ff, (s 1 0 1 3)])], [([(n 16)], 3), ([(n 1)], 3)], (a [tt, (s 2 0 1 3), ff, z]), [([(n 16)], 3)]⟩,
  ⟨[(a [tt, (s 0 0 1 3)]), (a [ff, (s 1 0 1 3)])], [([(n 2)], 3), ([(n 2)], 3)], (a [tt, (s 2 0 1 3), ff, z]), [([(n 1)], 3)]⟩,
  ⟨[(a [tt, (s 0 0 1 3)]), (a [ff, (s 1 0 1 3)])], [([(n 3)], 3), ([(n 1)], 3)], (a [tt, (s 2 0 1 3), ff, z]), [([(n 3)], 3)]⟩,
  ⟨[(a [tt, (s 0 0 1 3)]), (a [ff, (s 1 0 1 3)])], [([(n 4)], 3), ([(n 1)], 3)], (a [tt, (s 2 0 1 3), ff, z]), [([(n 4)], 3)]⟩,
  ⟨[(a [tt, (s 0 0 1 3)]), (a [ff, (s 1 0 1 4)])], [([(n 1)], 3), ([(n 1), (n 0)], 3)], (a [tt, (s 2 0 1 3), ff, z]), [([(n 1)], 3)]⟩,
  ⟨[(a [tt, (s 0 0 1 3)]), (a [ff, (s 1 0 1 4)])], [([(n 12)], 3), ([(n 1), (n 0)], 3)], (a [tt, (s 2 0 1 3), ff, z]), [([(n 12)], 3)]⟩,
  ⟨[(a [tt, (s 0 0 1 3)]), (a [ff, (s 1 0 1 4)])], [([(n 2)], 3), ([(n 1), (n 0)], 3)], (a [tt, (s 2 0 1 3), ff, z]), [([(n 2)], 3)]⟩,
  ⟨[(a [tt, (s 0 0 1 3)]), (a [ff, (s 1 0 1 4)])], [([(n 3)], 3), ([(n 1), (n 0)], 3)], (a [tt, (s 2 0 1 3), ff, z]), [([(n 3)], 3)]⟩,
  ⟨[(a [tt, (s 0 0 1 3)]), (a [ff, (s 1 0 1 4)])], [([(n 4)], 3), ([(n 1), (n 0)], 3)], (a [tt, (s 2 0 1 3), ff, z]), [([(n 4)], 3)]⟩,
  ⟨[(a [tt, (s 0 0 1 3)]), (a [ff, (s 1 0 1 4)])], [([(n 6)], 3), ([(n 1), (n 0)], 3)], (a [tt, (s 2 0 1 3), ff, z]), [([(n 6)], 3)]⟩,
  ⟨[(a [tt, (s 0 0 1 4)]), (a [ff, (s 1 0 1 4)])], [([(n 1), (n 0)], 3), ([(n 1), (n 0)], 3)], (a [tt, (s 2 0 1 3), ff, z]), [([(n 1)], 3)]⟩,
  ⟨[(a [tt, (s 0 0 1 4)]), (a [ff, (s 1 0 1 4)])], [([(n 12), (n 0)], 3), ([(n 1), (n 0)], 3)], (a [tt, (s 2 0 1 3), ff, z]), [([(n 12)], 3)]⟩,
  ⟨[(a [tt, (s 0 0 1 4)]), (a [ff, (s 1 0 1 4)])], [([(n 2), (n 0)], 3), ([(n 1), (n 0)], 3)], (a [tt, (s 2 0 1 3), ff, z]), [([(n 2)], 3)]⟩,
  ⟨[(a [tt, (s 0 0 1 4)]), (a [ff, (s 1 0 1 4)])], [([(n 3), (n 0)], 3), ([(n 1), (n 0)], 3)], (a [tt, (s 2 0 1 3), ff, z]), [([(n 3)], 3)]⟩,
  ⟨[(a [tt, (s 0 0 1 4)]), (a [ff, (s 1 0 1 4)])], [([(n 4), (n 0)], 3), ([(n 1), (n 0)], 3)], (a [tt, (s 2 0 1 3), ff, z]), [([(n 4)], 3)]⟩,
  ⟨[(a [tt, (s 0 0 1 4)]), (a [ff, (s 1 0 1 4)])], [([(n 6), (n 0)], 3), ([(n 1), (n 0)], 3)], (a [tt, (s 2 0 1 3), ff, z]), [([(n 6)], 3)]⟩,
  ⟨[(a [tt, (s 0 0 1 4)]), (a [ff, (s 1 0 1 4)])], [([(n 9), (n 0)], 3), ([(n 1), (n 0)], 3)], (a [tt, (s 2 0 1 3), ff, z]), [([(n 9)], 3)]⟩]

theorem c112 : l112.all (fun e => e.check Tryz.prog (memo T19) 100000 112) = true := by kernel_rfl

def T20 : Memo := (.node (none) (.node (none) (.node (none) (.node (none) (.node (none) (.node (none) .nil (.node (none) (.node (some l159) .nil .nil) .nil)) .nil) (.node (none) (.node (none) .nil (.node (none) (.node (some l167) .nil .nil) .nil)) (.node (none) (.node (none) (.node (some l151) .nil .nil) .nil) .nil))) (.node (none) (.node (none) .nil (.node (none) (.node (none) .nil (.node (some l211) .nil .nil)) .nil)) .nil)) (.node (none) (.node (none) (.node (none) .nil (.node (none) (.node (none) .nil (.node (some l209) .nil .nil)) (.node (some l113) .nil .nil))) (.node (none) (.node (none) .nil (.node (none) (.node (some l169) .nil .nil) .nil)) .nil)) (.node (none) (.node (none) (.node (none) .nil (.node (none) (.node (some l165) .nil .nil) .nil)) (.node (none) .nil (.node (some l117) .nil .nil))) .nil))) (.node (none) (.node (none) (.node (none) (.node (none) .nil (.node (none) .nil (.node (some l112) (.node (none) (.node (some l304) .nil .nil) .nil) .nil))) (.node (none) (.node (none) .nil (.node (none) (.node (some l168) .nil .nil) .nil)) .nil)) (.node (none) (.node (none) (.node (none) .nil (.node (none) (.node (some l164) .nil .nil) .nil)) (.node (none) (.node (none) .nil (.node (some l212) .nil .nil)) (.node (some l116) .nil .nil))) (.node (none) (.node (none) .nil (.node (none) (.node (some l172) .nil .nil) .nil)) .nil))) (.node (none) (.node (none) (.node (none) .nil (.node (none) (.node (none) .nil (.node (some l210) .nil .nil)) .nil)) (.node (none) (.node (none) .nil (.node (none) (.node (some l170) .nil .nil) .nil)) .nil)) (.node (none) (.node (none) (.node (none) .nil (.node (none) (.node (some l166) .nil .nil) .nil)) (.node (none) .nil (.node (some l118) .nil .nil))) .nil))))
theorem ok20 : T20.OK Tryz.prog := Memo.ok_put mixed ok19 rfl c112

/-- Of -/
def l61 : List Entry := [
  ⟨[(n (-16)), (n 1)], [], (a [tt, (s 0 0 1 3), ff, z]), [([(n 16)], 3)]⟩,
  ⟨[(n (-2)), (n 2)], [], (a [tt, (s 0 0 1 3), ff, z]), [([(n 1)], 3)]⟩,
  ⟨[(n (-3)), (n 1)], [], (a [tt, (s 0 0 1 3), ff, z]), [([(n 3)], 3)]⟩,
  ⟨[(n (-4)), (n 1)], [], (a [tt, (s 0 0 1 3), ff, z]), [([(n 4)], 3)]⟩,
  ⟨[(n 0), (n 1)], [], (a [ff, z, ff, z]), []⟩,
  ⟨[(n 0), (n 2)], [], (a [ff, z, ff, z]), []⟩,
  ⟨[(n 0), (n 4)], [], (a [ff, z, ff, z]), []⟩,
  ⟨[(n 1), (n 1)], [], (a [ff, (s 0 0 1 3), ff, z]), [([(n 1)], 3)]⟩,
  ⟨[(n 1), (n 2)], [], (a [ff, (s 0 0 1 3), ff, (s 1 0 1 3)]), [([(n 1)], 3), ([(n 2)], 3)]⟩,
  ⟨[(n 100), (n 1)], [], (a [ff, (s 0 0 1 3), ff, z]), [([(n 100)], 3)]⟩,
  ⟨[(n 16), (n 1)], [], (a [ff, (s 0 0 1 3), ff, z]), [([(n 16)], 3)]⟩,
  ⟨[(n 2), (n 2)], [], (a [ff, (s 0 0 1 3), ff, z]), [([(n 1)], 3)]⟩,
  ⟨[(n 4), (n 1)], [], (a [ff, (s 0 0 1 3), ff, z]), [([(n 4)], 3)]⟩,
  ⟨[(n 40), (n 1)], [], (a [ff, (s 0 0 1 3), ff, z]), [([(n 40)], 3)]⟩]

theorem c61 : l61.all (fun e => e.check Tryz.prog (memo T20) 100000 61) = true := by kernel_rfl

def T21 : Memo := (.node (none) (.node (none) (.node (none) (.node (none) (.node (none) (.node (none) .nil (.node (none) (.node (some l159) .nil .nil) .nil)) .nil) (.node (none) (.node (none) .nil (.node (none) (.node (some l167) .nil .nil) .nil)) (.node (none) (.node (none) (.node (some l151) .nil .nil) .nil) .nil))) (.node (none) (.node (none) .nil (.node (none) (.node (none) .nil (.node (some l211) .nil .nil)) .nil)) .nil)) (.node (none) (.node (none) (.node (none) .nil (.node (none) (.node (none) .nil (.node (some l209) .nil .nil)) (.node (some l113) .nil .nil))) (.node (none) (.node (none) .nil (.node (none) (.node (some l169) .nil .nil) .nil)) .nil)) (.node (none) (.node (none) (.node (none) .nil (.node (none) (.node (some l165) .nil .nil) .nil)) (.node (none) .nil (.node (some l117) .nil .nil))) (.node (none) .nil (.node (some l61) .nil .nil))))) (.node (none) (.node (none) (.node (none) (.node (none) .nil (.node (none) .nil (.node (some l112) (.node (none) (.node (some l304) .nil .nil) .nil) .nil))) (.node (none) (.node (none) .nil (.node (none) (.node (some l168) .nil .nil) .nil)) .nil)) (.node (none) (.node (none) (.node (none) .nil (.node (none) (.node (some l164) .nil .nil) .nil)) (.node (none) (.node (none) .nil (.node (some l212) .nil .nil)) (.node (some l116) .nil .nil))) (.node (none) (.node (none) .nil (.node (none) (.node (some l172) .nil .nil) .nil)) .nil))) (.node (none) (.node (none) (.node (none) .nil (.node (none) (.node (none) .nil (.node (some l210) .nil .nil)) .nil)) (.node (none) (.node (none) .nil (.node (none) (.node (some l170) .nil .nil) .nil)) .nil)) (.node (none) (.node (none) (.node (none) .nil (.node (none) (.node (some l166) .nil .nil) .nil)) (.node (none) .nil (.node (some l118) .nil .nil))) .nil))))
theorem ok21 : T21.OK Tryz.prog := Memo.ok_put mixed ok20 rfl c61

/-- Valid -/
def l171 : List Entry := [
  ⟨[(a [ff, (s 0 0 1 3), ff, z])], [([(n 1)], 3)], tt, []⟩,
  ⟨[(a [ff, (s 0 0 1 3), ff, z])], [([(n 4)], 3)], tt, []⟩,
  ⟨[(a [ff, z, ff, z])], [], tt, []⟩]

theorem c171 : l171.all (fun e => e.check Tryz.prog (memo T21) 100000 171) = true := by kernel_rfl

def T22 : Memo := (.node (none) (.node (none) (.node (none) (.node (none) (.node (none) (.node (none) .nil (.node (none) (.node (some l159) .nil .nil) .nil)) .nil) (.node (none) (.node (none) .nil (.node (none) (.node (some l167) .nil .nil) .nil)) (.node (none) (.node (none) (.node (some l151) .nil .nil) .nil) .nil))) (.node (none) (.node (none) .nil (.node (none) (.node (none) .nil (.node (some l211) .nil .nil)) .nil)) (.node (none) (.node (none) .nil (.node (none) (.node (some l171) .nil .nil) .nil)) .nil))) (.node (none) (.node (none) (.node (none) .nil (.node (none) (.node (none) .nil (.node (some l209) .nil .nil)) (.node (some l113) .nil .nil))) (.node (none) (.node (none) .nil (.node (none) (.node (some l169) .nil .nil) .nil)) .nil)) (.node (none) (.node (none) (.node (none) .nil (.node (none) (.node (some l165) .nil .nil) .nil)) (.node (none) .nil (.node (some l117) .nil .nil))) (.node (none) .nil (.node (some l61) .nil .nil))))) (.node (none) (.node (none) (.node (none) (.node (none) .nil (.node (none) .nil (.node (some l112) (.node (none) (.node (some l304) .nil .nil) .nil) .nil))) (.node (none) (.node (none) .nil (.node (none) (.node (some l168) .nil .nil) .nil)) .nil)) (.node (none) (.node (none) (.node (none) .nil (.node (none) (.node (some l164) .nil .nil) .nil)) (.node (none) (.node (none) .nil (.node (some l212) .nil .nil)) (.node (some l116) .nil .nil))) (.node (none) (.node (none) .nil (.node (none) (.node (some l172) .nil .nil) .nil)) .nil))) (.node (none) (.node (none) (.node (none) .nil (.node (none) (.node (none) .nil (.node (some l210) .nil .nil)) .nil)) (.node (none) (.node (none) .nil (.node (none) (.node (some l170) .nil .nil) .nil)) .nil)) (.node (none) (.node (none) (.node (none) .nil (.node (none) (.node (some l166) .nil .nil) .nil)) (.node (none) .nil (.node (some l118) .nil .nil))) .nil))))
theorem ok22 : T22.OK Tryz.prog := Memo.ok_put mixed ok21 rfl c171

/-- Add -/
def l71 : List Entry := [
  ⟨[(a [ff, (s 0 0 1 3), ff, z]), (a [ff, (s 1 0 1 3), ff, z])], [([(n 1)], 3), ([(n 1)], 3)], (a [ff, (s 2 0 1 3), ff, z]), [([(n 2)], 3)]⟩,
  ⟨[(a [ff, (s 0 0 1 3), ff, z]), (a [ff, (s 1 0 1 3), ff, z])], [([(n 1)], 3), ([(n 3)], 3)], (a [ff, (s 2 0 1 3), ff, z]), [([(n 4)], 3)]⟩,
  ⟨[(a [ff, (s 0 0 1 3), ff, z]), (a [ff, (s 1 0 1 3), ff, z])], [([(n 1)], 3), ([(n 4)], 3)], (a [ff, (s 2 0 1 3), ff, z]), [([(n 5)], 3)]⟩,
  ⟨[(a [ff, (s 0 0 1 3), ff, z]), (a [ff, (s 1 0 1 3), ff, z])], [([(n 4)], 3), ([(n 1)], 3)], (a [ff, (s 2 0 1 3), ff, z]), [([(n 5)], 3)]⟩,
  ⟨[(a [ff, (s 0 0 1 3), ff, z]), (a [ff, (s 1 0 1 3), ff, z])], [([(n 4)], 3), ([(n 4)], 3)], (a [ff, (s 2 0 1 3), ff, z]), [([(n 8)], 3)]⟩,
  ⟨[(a [ff, (s 0 0 1 3), ff, z]), (a [ff, z, ff, z])], [([(n 1)], 3)], (a [ff, (s 1 0 1 3), ff, z]), [([(n 1)], 3)]⟩,
  ⟨[(a [ff, (s 0 0 1 3), ff, z]), (a [ff, z, ff, z])], [([(n 12)], 3)], (a [ff, (s 1 0 1 3), ff, z]), [([(n 12)], 3)]⟩,
  ⟨[(a [ff, (s 0 0 1 3), ff, z]), (a [ff, z, ff, z])], [([(n 18)], 3)], (a [ff, (s 1 0 1 3), ff, z]), [([(n 18)], 3)]⟩,
  ⟨[(a [ff, (s 0 0 1 3), ff, z]), (a [ff, z, ff, z])], [([(n 2)], 3)], (a [ff, (s 1 0 1 3), ff, z]), [([(n 2)], 3)]⟩,
  ⟨[(a [ff, (s 0 0 1 3), ff, z]), (a [ff, z, ff, z])], [([(n 3)], 3)], (a [ff, (s 1 0 1 3), ff, z]), [([(n 3)], 3)]⟩,
  ⟨[(a [ff, (s 0 0 1 3), ff, z]), (a [ff, z, ff, z])], [([(n 4)], 3)], (a [ff, (s 1 0 1 3), ff, z]), [([(n 4)], 3)]⟩,
  ⟨[(a [ff, (s 0 0 1 3), ff, z]), (a [ff, z, ff, z])], [([(n 6)], 3)], (a [ff, (s 1 0 1 3), ff, z]), [([(n 6)], 3)]⟩,
  ⟨[(a [ff, (s 0 0 1 3), ff, z]), (a [ff, z, ff, z])], [([(n 9)], 3)], (a [ff, (s 1 0 1 3), ff, z]), [([(n 9)], 3)]⟩,
  ⟨[(a [ff, (s 0 0 1 3), ff, z]), (a [tt, (s 1 0 1 3), ff, z])], [([(n 1)], 3), ([(n 1)], 3)], (a [ff, z, ff, z]), []⟩,
  ⟨[(a [ff, (s 0 0 1 3), ff, z]), (a [tt, (s 1 0 1 3), ff, z])], [([(n 1)], 3), ([(n 4)], 3)], (a [tt, (s 2 0 1 3), ff, z]), [([(n 3)], 3)]⟩,
  ⟨[(a [ff, (s 0 0 1 3), ff, z]), (a [tt, (s 1 0 1 3), ff, z])], [([(n 4)], 3), ([(n 1)], 3)], (a [ff, (s 2 0 1 3), ff, z]), [([(n 3)], 3)]⟩,
  ⟨[(a [ff, (s 0 0 1 3), ff, z]), (a [tt, (s 1 0 1 3), ff, z])], [([(n 4)], 3), ([(n 4)], 3)], (a [ff, z, ff, z]), []⟩,
  ⟨[(a [ff, z, ff, z]), (a [ff, (s 0 0 1 3), ff, z])], [([(n 1)], 3)], (a [ff, (s 1 0 1 3), ff, z]), [([(n 1)], 3)]⟩,
  ⟨[(a [ff, z, ff, z]), (a [ff, (s 0 0 1 3), ff, z])], [([(n 12)], 3)], (a [ff, (s 1 0 1 3), ff, z]), [([(n 12)], 3)]⟩,
  ⟨[(a [ff, z, ff, z]), (a [ff, (s 0 0 1 3), ff, z])], [([(n 2)], 3)], (a [ff, (s 1 0 1 3), ff, z]), [([(n 2)], 3)]⟩,
  ⟨[(a [ff, z, ff, z]), (a [ff, (s 0 0 1 3), ff, z])], [([(n 3)], 3)], (a [ff, (s 1 0 1 3), ff, z]), [([(n 3)], 3)]⟩,
  ⟨[(a [ff, z, ff, z]), (a [ff, (s 0 0 1 3), ff, z])], [([(n 4)], 3)], (a [ff, (s 1 0 1 3), ff, z]), [([(n 4)], 3)]⟩,
  ⟨[(a [ff, z, ff, z]), (a [ff, (s 0 0 1 3), ff, z])], [([(n 6)], 3)], (a [ff, (s 1 0 1 3), ff, z]), [([(n 6)], 3)]⟩,
  ⟨[(a [ff, z, ff, z]), (a [ff, (s 0 0 1 3), ff, z])], [([(n 9)], 3)], (a [ff, (s 1 0 1 3), ff, z]), [([(n 9)], 3)]⟩,
  ⟨[(a [ff, z, ff, z]), (a [ff, z, ff, z])], [], (a [ff, z, ff, z]), []⟩,
  ⟨[(a [ff, z, ff, z]), (a [tt, (s 0 0 1 3), ff, z])], [([(n 1)], 3)], (a [tt, (s 1 0 1 3), ff, z]), [([(n 1)], 3)]⟩,
  ⟨[(a [ff, z, ff, z]), (a [tt, (s 0 0 1 3), ff, z])], [([(n 12)], 3)], (a [tt, (s 1 0 1 3), ff, z]), [([(n 12)], 3)]⟩,
  ⟨[(a [ff, z, ff, z]), (a [tt, (s 0 0 1 3), ff, z])], [([(n 2)], 3)], (a [tt, (s 1 0 1 3), ff, z]), [([(n 2)], 3)]⟩,
  ⟨[(a [ff, z, ff, z]), (a [tt, (s 0 0 1 3), ff, z])], [([(n 3)], 3)], (a [tt, (s 1 0 1 3), ff, z]), [([(n 3)], 3)]⟩,
  ⟨[(a [ff, z, ff, z]), (a [tt, (s 0 0 1 3), ff, z])], [([(n 4)], 3)], (a [tt, (s 1 0 1 3), ff, z]), [([(n 4)], 3)]⟩,
  ⟨[(a [ff, z, ff, z]), (a [tt, (s 0 0 1 3), ff, z])], [([(n 6)], 3)], (a [tt, (s 1 0 1 3), ff, z]), [([(n 6)], 3)]⟩,
  ⟨[(a [tt, (s 0 0 1 3), ff, z]), (a [ff, (s 1 0 1 3), ff, z])], [([(n 2)], 3), ([(n 8)], 3)], (a [ff, (s 2 0 1 3), ff, z]), [([(n 6)], 3)]⟩,
  ⟨[(a [tt, (s 0 0 1 3), ff, z]), (a [ff, (s 1 0 1 3), ff, z])], [([(n 6)], 3), ([(n 24)], 3)], (a [ff, (s 2 0 1 3), ff, z]), [([(n 18)], 3)]⟩,
  ⟨[(a [tt, (s 0 0 1 3), ff, z]), (a [ff, z, ff, z])], [([(n 1)], 3)], (a [tt, (s 1 0 1 3), ff, z]), [([(n 1)], 3)]⟩,
  ⟨[(a [tt, (s 0 0 1 3), ff, z]), (a [ff, z, ff, z])], [([(n 12)], 3)], (a [tt, (s 1 0 1 3), ff, z]), [([(n 12)], 3)]⟩,
  ⟨[(a [tt, (s 0 0 1 3), ff, z]), (a [ff, z, ff, z])], [([(n 2)], 3)], (a [tt, (s 1 0 1 3), ff, z]), [([(n 2)], 3)]⟩,
  ⟨[(a [tt, (s 0 0 1 3), ff, z]), (a [ff, z, ff, z])], [([(n 3)], 3)], (a [tt, (s 1 0 1 3), ff, z]), [([(n 3)], 3)]⟩,
  ⟨[(a [tt, (s 0 0 1 3), ff, z]), (a [ff, z, ff, z])], [([(n 4)], 3)], (a [tt, (s 1 0 1 3), ff, z]), [([(n 4)], 3)]⟩,
  ⟨[(a [tt, (s 0 0 1 3), ff, z]), (a [ff, z, ff, z])], [([(n 6)], 3)], (a [tt, (s 1 0 1 3), ff, z]), [([(n 6)], 3)]⟩]

theorem c71 : l71.all (fun e => e.check Tryz.prog (memo T22) 100000 71) = true := by kernel_rfl

def T23 : Memo := (.node (none) (.node (none) (.node (none) (.node (none) (.node (none) (.node (none) .nil (.node (none) (.node (some l159) .nil .nil) .nil)) .nil) (.node (none) (.node (none) (.node (some l71) .nil .nil) (.node (none) (.node (some l167) .nil .nil) .nil)) (.node (none) (.node (none) (.node (some l151) .nil .nil) .nil) .nil))) (.node (none) (.node (none) .nil (.node (none) (.node (none) .nil (.node (some l211) .nil .nil)) .nil)) (.node (none) (.node (none) .nil (.node (none) (.node (some l171) .nil .nil) .nil)) .nil))) (.node (none) (.node (none) (.node (none) .nil (.node (none) (.node (none) .nil (.node (some l209) .nil .nil)) (.node (some l113) .nil .nil))) (.node (none) (.node (none) .nil (.node (none) (.node (some l169) .nil .nil) .nil)) .nil)) (.node (none) (.node (none) (.node (none) .nil (.node (none) (.node (some l165) .nil .nil) .nil)) (.node (none) .nil (.node (some l117) .nil .nil))) (.node (none) .nil (.node (some l61) .nil .nil))))) (.node (none) (.node (none) (.node (none) (.node (none) .nil (.node (none) .nil (.node (some l112) (.node (none) (.node (some l304) .nil .nil) .nil) .nil))) (.node (none) (.node (none) .nil (.node (none) (.node (some l168) .nil .nil) .nil)) .nil)) (.node (none) (.node (none) (.node (none) .nil (.node (none) (.node (some l164) .nil .nil) .nil)) (.node (none) (.node (none) .nil (.node (some l212) .nil .nil)) (.node (some l116) .nil .nil))) (.node (none) (.node (none) .nil (.node (none) (.node (some l172) .nil .nil) .nil)) .nil))) (.node (none) (.node (none) (.node (none) .nil (.node (none) (.node (none) .nil (.node (some l210) .nil .nil)) .nil)) (.node (none) (.node (none) .nil (.node (none) (.node (some l170) .nil .nil) .nil)) .nil)) (.node (none) (.node (none) (.node (none) .nil (.node (none) (.node (some l166) .nil .nil) .nil)) (.node (none) .nil (.node (some l118) .nil .nil))) .nil))))
theorem ok23 : T23.OK Tryz.prog := Memo.ok_put mixed ok22 rfl c71

/-- Neg -/
def l108 : List Entry := [
  ⟨[(a [ff, (s 0 0 1 3), ff, z])], [([(n 1)], 3)], (a [tt, (s 0 0 1 3), ff, z]), []⟩,
  ⟨[(a [ff, (s 0 0 1 3), ff, z])], [([(n 3)], 3)], (a [tt, (s 0 0 1 3), ff, z]), []⟩,
  ⟨[(a [ff, (s 0 0 1 3), ff, z])], [([(n 4)], 3)], (a [tt, (s 0 0 1 3), ff, z]), []⟩,
  ⟨[(a [ff, z, ff, z])], [], (a [ff, z, ff, z]), []⟩,
  ⟨[(a [tt, (s 0 0 1 3), ff, z])], [([(n 1)], 3)], (a [ff, (s 0 0 1 3), ff, z]), []⟩,
  ⟨[(a [tt, (s 0 0 1 3), ff, z])], [([(n 3)], 3)], (a [ff, (s 0 0 1 3), ff, z]), []⟩,
  ⟨[(a [tt, (s 0 0 1 3), ff, z])], [([(n 4)], 3)], (a [ff, (s 0 0 1 3), ff, z]), []⟩,
  ⟨[(a [tt, (s 0 0 1 3), ff, z])], [([(n 9)], 3)], (a [ff, (s 0 0 1 3), ff, z]), []⟩]

theorem c108 : l108.all (fun e => e.check Tryz.prog (memo T23) 100000 108) = true := by kernel_rfl

def T24 : Memo := (.node (none) (.node (none) (.node (none) (.node (none) (.node (none) (.node (none) .nil (.node (none) (.node (some l159) .nil .nil) .nil)) .nil) (.node (none) (.node (none) (.node (some l71) .nil .nil) (.node (none) (.node (some l167) .nil .nil) .nil)) (.node (none) (.node (none) (.node (some l151) .nil .nil) .nil) .nil))) (.node (none) (.node (none) .nil (.node (none) (.node (none) .nil (.node (some l211) .nil .nil)) .nil)) (.node (none) (.node (none) .nil (.node (none) (.node (some l171) .nil .nil) .nil)) .nil))) (.node (none) (.node (none) (.node (none) .nil (.node (none) (.node (none) .nil (.node (some l209) .nil .nil)) (.node (some l113) .nil .nil))) (.node (none) (.node (none) .nil (.node (none) (.node (some l169) .nil .nil) .nil)) .nil)) (.node (none) (.node (none) (.node (none) .nil (.node (none) (.node (some l165) .nil .nil) .nil)) (.node (none) .nil (.node (some l117) .nil .nil))) (.node (none) .nil (.node (some l61) .nil .nil))))) (.node (none) (.node (none) (.node (none) (.node (none) .nil (.node (none) .nil (.node (some l112) (.node (none) (.node (some l304) .nil .nil) .nil) .nil))) (.node (none) (.node (none) .nil (.node (none) (.node (some l168) .nil .nil) .nil)) .nil)) (.node (none) (.node (none) (.node (none) .nil (.node (none) (.node (some l164) .nil .nil) .nil)) (.node (none) (.node (none) .nil (.node (some l212) .nil .nil)) (.node (some l116) .nil .nil))) (.node (none) (.node (none) .nil (.node (some l108) (.node (some l172) .nil .nil) .nil)) .nil))) (.node (none) (.node (none) (.node (none) .nil (.node (none) (.node (none) .nil (.node (some l210) .nil .nil)) .nil)) (.node (none) (.node (none) .nil (.node (none) (.node (some l170) .nil .nil) .nil)) .nil)) (.node (none) (.node (none) (.node (none) .nil (.node (none) (.node (some l166) .nil .nil) .nil)) (.node (none) .nil (.node (some l118) .nil .nil))) .nil))))
theorem ok24 : T24.OK Tryz.prog := Memo.ok_put mixed ok23 rfl c108

/-- Sub -/
def l160 : List Entry := [
  ⟨[(a [ff, (s 0 0 1 3), ff, z]), (a [ff, (s 1 0 1 3), ff, z])], [([(n 1)], 3), ([(n 1)], 3)], (a [ff, z, ff, z]), []⟩,
  ⟨[(a [ff, (s 0 0 1 3), ff, z]), (a [ff, (s 1 0 1 3), ff, z])], [([(n 1)], 3), ([(n 4)], 3)], (a [tt, (s 2 0 1 3), ff, z]), [([(n 3)], 3)]⟩,
  ⟨[(a [ff, (s 0 0 1 3), ff, z]), (a [ff, (s 1 0 1 3), ff, z])], [([(n 4)], 3), ([(n 1)], 3)], (a [ff, (s 2 0 1 3), ff, z]), [([(n 3)], 3)]⟩,
  ⟨[(a [ff, (s 0 0 1 3), ff, z]), (a [ff, (s 1 0 1 3), ff, z])], [([(n 4)], 3), ([(n 4)], 3)], (a [ff, z, ff, z]), []⟩,
  ⟨[(a [ff, (s 0 0 1 3), ff, z]), (a [ff, z, ff, z])], [([(n 1)], 3)], (a [ff, (s 1 0 1 3), ff, z]), [([(n 1)], 3)]⟩,
  ⟨[(a [ff, (s 0 0 1 3), ff, z]), (a [ff, z, ff, z])], [([(n 3)], 3)], (a [ff, (s 1 0 1 3), ff, z]), [([(n 3)], 3)]⟩,
  ⟨[(a [ff, (s 0 0 1 3), ff, z]), (a [ff, z, ff, z])], [([(n 4)], 3)], (a [ff, (s 1 0 1 3), ff, z]), [([(n 4)], 3)]⟩,
  ⟨[(a [ff, (s 0 0 1 3), ff, z]), (a [ff, z, ff, z])], [([(n 9)], 3)], (a [ff, (s 1 0 1 3), ff, z]), [([(n 9)], 3)]⟩,
  ⟨[(a [ff, (s 0 0 1 3), ff, z]), (a [tt, (s 1 0 1 3), ff, z])], [([(n 1)], 3), ([(n 3)], 3)], (a [ff, (s 2 0 1 3), ff, z]), [([(n 4)], 3)]⟩,
  ⟨[(a [ff, z, ff, z]), (a [ff, (s 0 0 1 3), ff, z])], [([(n 1)], 3)], (a [tt, (s 1 0 1 3), ff, z]), [([(n 1)], 3)]⟩,
  ⟨[(a [ff, z, ff, z]), (a [ff, z, ff, z])], [], (a [ff, z, ff, z]), []⟩,
  ⟨[(a [ff, z, ff, z]), (a [tt, (s 0 0 1 3), ff, z])], [([(n 1)], 3)], (a [ff, (s 1 0 1 3), ff, z]), [([(n 1)], 3)]⟩,
  ⟨[(a [ff, z, ff, z]), (a [tt, (s 0 0 1 3), ff, z])], [([(n 3)], 3)], (a [ff, (s 1 0 1 3), ff, z]), [([(n 3)], 3)]⟩,
  ⟨[(a [ff, z, ff, z]), (a [tt, (s 0 0 1 3), ff, z])], [([(n 4)], 3)], (a [ff, (s 1 0 1 3), ff, z]), [([(n 4)], 3)]⟩,
  ⟨[(a [ff, z, ff, z]), (a [tt, (s 0 0 1 3), ff, z])], [([(n 9)], 3)], (a [ff, (s 1 0 1 3), ff, z]), [([(n 9)], 3)]⟩,
  ⟨[(a [tt, (s 0 0 1 3), ff, z]), (a [ff, z, ff, z])], [([(n 3)], 3)], (a [tt, (s 1 0 1 3), ff, z]), [([(n 3)], 3)]⟩,
  ⟨[(a [tt, (s 0 0 1 3), ff, z]), (a [ff, z, ff, z])], [([(n 4)], 3)], (a [tt, (s 1 0 1 3), ff, z]), [([(n 4)], 3)]⟩]

theorem c160 : l160.all (fun e => e.check Tryz.prog (memo T24) 100000 160) = true := by kernel_rfl

def T25 : Memo := (.node (none) (.node (none) (.node (none) (.node (none) (.node (none) (.node (none) .nil (.node (none) (.node (some l159) .nil .nil) .nil)) .nil) (.node (none) (.node (none) (.node (some l71) .nil .nil) (.node (none) (.node (some l167) .nil .nil) .nil)) (.node (none) (.node (none) (.node (some l151) .nil .nil) .nil) .nil))) (.node (none) (.node (none) .nil (.node (none) (.node (none) .nil (.node (some l211) .nil .nil)) .nil)) (.node (none) (.node (none) .nil (.node (none) (.node (some l171) .nil .nil) .nil)) .nil))) (.node (none) (.node (none) (.node (none) .nil (.node (none) (.node (none) .nil (.node (some l209) .nil .nil)) (.node (some l113) .nil .nil))) (.node (none) (.node (none) .nil (.node (none) (.node (some l169) .nil .nil) .nil)) .nil)) (.node (none) (.node (none) (.node (none) .nil (.node (none) (.node (some l165) .nil .nil) .nil)) (.node (none) .nil (.node (some l117) .nil .nil))) (.node (none) .nil (.node (some l61) .nil .nil))))) (.node (none) (.node (none) (.node (none) (.node (none) (.node (none) .nil (.node (none) (.node (some l160) .nil .nil) .nil)) (.node (none) .nil (.node (some l112) (.node (none) (.node (some l304) .nil .nil) .nil) .nil))) (.node (none) (.node (none) .nil (.node (none) (.node (some l168) .nil .nil) .nil)) .nil)) (.node (none) (.node (none) (.node (none) .nil (.node (none) (.node (some l164) .nil .nil) .nil)) (.node (none) (.node (none) .nil (.node (some l212) .nil .nil)) (.node (some l116) .nil .nil))) (.node (none) (.node (none) .nil (.node (some l108) (.node (some l172) .nil .nil) .nil)) .nil))) (.node (none) (.node (none) (.node (none) .nil (.node (none) (.node (none) .nil (.node (some l210) .nil .nil)) .nil)) (.node (none) (.node (none) .nil (.node (none) (.node (some l170) .nil .nil) .nil)) .nil)) (.node (none) (.node (none) (.node (none) .nil (.node (none) (.node (some l166) .nil .nil) .nil)) (.node (none) .nil (.node (some l118) .nil .nil))) .nil))))
theorem ok25 : T25.OK Tryz.prog := Memo.ok_put mixed ok24 rfl c160

/-- Mul -/
def l161 : List Entry := [
  ⟨[(a [ff, (s 0 0 1 3), ff, z]), (a [ff, (s 0 0 1 3), ff, z])], [([(n 1)], 3)], (a [ff, (s 1 0 1 3), ff, z]), [([(n 1)], 3)]⟩,
  ⟨[(a [ff, (s 0 0 1 3), ff, z]), (a [ff, (s 1 0 1 3), ff, (s 2 0 1 3)])], [([(n 18)], 3), ([(n 1)], 3), ([(n 2)], 3)], (a [ff, (s 3 0 1 3), ff, z]), [([(n 9)], 3)]⟩,
  ⟨[(a [ff, (s 0 0 1 3), ff, z]), (a [ff, (s 1 0 1 3), ff, (s 2 0 1 3)])], [([(n 2)], 3), ([(n 1)], 3), ([(n 2)], 3)], (a [ff, (s 3 0 1 3), ff, z]), [([(n 1)], 3)]⟩,
  ⟨[(a [ff, (s 0 0 1 3), ff, z]), (a [ff, (s 1 0 1 3), ff, (s 2 0 1 3)])], [([(n 6)], 3), ([(n 1)], 3), ([(n 2)], 3)], (a [ff, (s 3 0 1 3), ff, z]), [([(n 3)], 3)]⟩,
  ⟨[(a [ff, (s 0 0 1 3), ff, z]), (a [ff, (s 1 0 1 3), ff, z])], [([(n 1)], 3), ([(n 1)], 3)], (a [ff, (s 2 0 1 3), ff, z]), [([(n 1)], 3)]⟩,
  ⟨[(a [ff, (s 0 0 1 3), ff, z]), (a [ff, (s 1 0 1 3), ff, z])], [([(n 1)], 3), ([(n 2)], 3)], (a [ff, (s 2 0 1 3), ff, z]), [([(n 2)], 3)]⟩,
  ⟨[(a [ff, (s 0 0 1 3), ff, z]), (a [ff, (s 1 0 1 3), ff, z])], [([(n 1)], 3), ([(n 3)], 3)], (a [ff, (s 2 0 1 3), ff, z]), [([(n 3)], 3)]⟩,
  ⟨[(a [ff, (s 0 0 1 3), ff, z]), (a [ff, (s 1 0 1 3), ff, z])], [([(n 1)], 3), ([(n 4)], 3)], (a [ff, (s 2 0 1 3), ff, z]), [([(n 4)], 3)]⟩,
  ⟨[(a [ff, (s 0 0 1 3), ff, z]), (a [ff, (s 1 0 1 3), ff, z])], [([(n 1)], 3), ([(n 8)], 3)], (a [ff, (s 2 0 1 3), ff, z]), [([(n 8)], 3)]⟩,
  ⟨[(a [ff, (s 0 0 1 3), ff, z]), (a [ff, (s 1 0 1 3), ff, z])], [([(n 3)], 3), ([(n 1)], 3)], (a [ff, (s 2 0 1 3), ff, z]), [([(n 3)], 3)]⟩,
  ⟨[(a [ff, (s 0 0 1 3), ff, z]), (a [ff, (s 1 0 1 3), ff, z])], [([(n 3)], 3), ([(n 2)], 3)], (a [ff, (s 2 0 1 3), ff, z]), [([(n 6)], 3)]⟩,
  ⟨[(a [ff, (s 0 0 1 3), ff, z]), (a [ff, (s 1 0 1 3), ff, z])], [([(n 3)], 3), ([(n 3)], 3)], (a [ff, (s 2 0 1 3), ff, z]), [([(n 9)], 3)]⟩,
  ⟨[(a [ff, (s 0 0 1 3), ff, z]), (a [ff, (s 1 0 1 3), ff, z])], [([(n 3)], 3), ([(n 4)], 3)], (a [ff, (s 2 0 1 3), ff, z]), [([(n 12)], 3)]⟩,
  ⟨[(a [ff, (s 0 0 1 3), ff, z]), (a [ff, (s 1 0 1 3), ff, z])], [([(n 3)], 3), ([(n 8)], 3)], (a [ff, (s 2 0 1 3), ff, z]), [([(n 24)], 3)]⟩,
  ⟨[(a [ff, (s 0 0 1 3), ff, z]), (a [ff, z, ff, z])], [([(n 1)], 3)], (a [ff, z, ff, z]), []⟩,
  ⟨[(a [ff, (s 0 0 1 3), ff, z]), (a [ff, z, ff, z])], [([(n 3)], 3)], (a [ff, z, ff, z]), []⟩,
  ⟨[(a [ff, (s 0 0 1 3), ff, z]), (a [tt, (s 1 0 1 3), ff, z])], [([(n 1)], 3), ([(n 1)], 3)], (a [tt, (s 2 0 1 3), ff, z]), [([(n 1)], 3)]⟩,
  ⟨[(a [ff, (s 0 0 1 3), ff, z]), (a [tt, (s 1 0 1 3), ff, z])], [([(n 1)], 3), ([(n 3)], 3)], (a [tt, (s 2 0 1 3), ff, z]), [([(n 3)], 3)]⟩,
  ⟨[(a [ff, (s 0 0 1 3), ff, z]), (a [tt, (s 1 0 1 3), ff, z])], [([(n 1)], 3), ([(n 4)], 3)], (a [tt, (s 2 0 1 3), ff, z]), [([(n 4)], 3)]⟩,
  ⟨[(a [ff, (s 0 0 1 3), ff, z]), (a [tt, (s 1 0 1 3), ff, z])], [([(n 3)], 3), ([(n 1)], 3)], (a [tt, (s 2 0 1 3), ff, z]), [([(n 3)], 3)]⟩,
  ⟨[(a [ff, (s 0 0 1 3), ff, z]), (a [tt, (s 1 0 1 3), ff, z])], [([(n 3)], 3), ([(n 3)], 3)], (a [tt, (s 2 0 1 3), ff, z]), [([(n 9)], 3)]⟩,
  ⟨[(a [ff, z, ff, z]), (a [ff, (s 0 0 1 3), ff, z])], [([(n 1)], 3)], (a [ff, z, ff, z]), []⟩,
  ⟨[(a [ff, z, ff, z]), (a [ff, (s 0 0 1 3), ff, z])], [([(n 3)], 3)], (a [ff, z, ff, z]), []⟩,
  ⟨[(a [ff, z, ff, z]), (a [ff, (s 0 0 1 3), ff, z])], [([(n 4)], 3)], (a [ff, z, ff, z]), []⟩,
  ⟨[(a [ff, z, ff, z]), (a [ff, (s 0 0 1 3), ff, z])], [([(n 5)], 3)], (a [ff, z, ff, z]), []⟩,
  ⟨[(a [ff, z, ff, z]), (a [ff, z, ff, z])], [], (a [ff, z, ff, z]), []⟩,
  ⟨[(a [ff, z, ff, z]), (a [tt, (s 0 0 1 3), ff, z])], [([(n 1)], 3)], (a [ff, z, ff, z]), []⟩,
  ⟨[(a [ff, z, ff, z]), (a [tt, (s 0 0 1 3), ff, z])], [([(n 3)], 3)], (a [ff, z, ff, z]), []⟩,
  ⟨[(a [ff, z, ff, z]), (a [tt, (s 0 0 1 3), ff, z])], [([(n 4)], 3)], (a [ff, z, ff, z]), []⟩,
  ⟨[(a [tt, (s 0 0 1 3), ff, z]), (a [ff, (s 1 0 1 3), ff, z])], [([(n 1)], 3), ([(n 1)], 3)], (a [tt, (s 2 0 1 3), ff, z]), [([(n 1)], 3)]⟩,
  ⟨[(a [tt, (s 0 0 1 3), ff, z]), (a [ff, (s 1 0 1 3), ff, z])], [([(n 1)], 3), ([(n 2)], 3)], (a [tt, (s 2 0 1 3), ff, z]), [([(n 2)], 3)]⟩,
  ⟨[(a [tt, (s 0 0 1 3), ff, z]), (a [ff, (s 1 0 1 3), ff, z])], [([(n 1)], 3), ([(n 3)], 3)], (a [tt, (s 2 0 1 3), ff, z]), [([(n 3)], 3)]⟩,
  ⟨[(a [tt, (s 0 0 1 3), ff, z]), (a [ff, (s 1 0 1 3), ff, z])], [([(n 1)], 3), ([(n 4)], 3)], (a [tt, (s 2 0 1 3), ff, z]), [([(n 4)], 3)]⟩,
  ⟨[(a [tt, (s 0 0 1 3), ff, z]), (a [ff, (s 1 0 1 3), ff, z])], [([(n 3)], 3), ([(n 1)], 3)], (a [tt, (s 2 0 1 3), ff, z]), [([(n 3)], 3)]⟩,
  ⟨[(a [tt, (s 0 0 1 3), ff, z]), (a [ff, (s 1 0 1 3), ff, z])], [([(n 3)], 3), ([(n 2)], 3)], (a [tt, (s 2 0 1 3), ff, z]), [([(n 6)], 3)]⟩,
  ⟨[(a [tt, (s 0 0 1 3), ff, z]), (a [ff, (s 1 0 1 3), ff, z])], [([(n 3)], 3), ([(n 3)], 3)], (a [tt, (s 2 0 1 3), ff, z]), [([(n 9)], 3)]⟩,
  ⟨[(a [tt, (s 0 0 1 3), ff, z]), (a [ff, (s 1 0 1 3), ff, z])], [([(n 3)], 3), ([(n 4)], 3)], (a [tt, (s 2 0 1 3), ff, z]), [([(n 12)], 3)]⟩,
  ⟨[(a [tt, (s 0 0 1 3), ff, z]), (a [ff, z, ff, z])], [([(n 1)], 3)], (a [ff, z, ff, z]), []⟩,
  ⟨[(a [tt, (s 0 0 1 3), ff, z]), (a [ff, z, ff, z])], [([(n 3)], 3)], (a [ff, z, ff, z]), []⟩,
  ⟨[(a [tt, (s 0 0 1 3), ff, z]), (a [tt, (s 1 0 1 3), ff, z])], [([(n 1)], 3), ([(n 1)], 3)], (a [ff, (s 2 0 1 3), ff, z]), [([(n 1)], 3)]⟩,
  ⟨[(a [tt, (s 0 0 1 3), ff, z]), (a [tt, (s 1 0 1 3), ff, z])], [([(n 1)], 3), ([(n 3)], 3)], (a [ff, (s 2 0 1 3), ff, z]), [([(n 3)], 3)]⟩,
  ⟨[(a [tt, (s 0 0 1 3), ff, z]), (a [tt, (s 1 0 1 3), ff, z])], [([(n 3)], 3), ([(n 1)], 3)], (a [ff, (s 2 0 1 3), ff, z]), [([(n 3)], 3)]⟩,
  ⟨[(a [tt, (s 0 0 1 3), ff, z]), (a [tt, (s 1 0 1 3), ff, z])], [([(n 3)], 3), ([(n 3)], 3)], (a [ff, (s 2 0 1 3), ff, z]), [([(n 9)], 3)]⟩]

theorem c161 : l161.all (fun e => e.check Tryz.prog (memo T25) 100000 161) = true := by kernel_rfl

def T26 : Memo := (.node (none) (.node (none) (.node (none) (.node (none) (.node (none) (.node (none) .nil (.node (none) (.node (some l159) .nil .nil) .nil)) .nil) (.node (none) (.node (none) (.node (some l71) .nil .nil) (.node (none) (.node (some l167) .nil .nil) .nil)) (.node (none) (.node (none) (.node (some l151) .nil .nil) .nil) .nil))) (.node (none) (.node (none) .nil (.node (none) (.node (none) .nil (.node (some l211) .nil .nil)) .nil)) (.node (none) (.node (none) .nil (.node (none) (.node (some l171) .nil .nil) .nil)) .nil))) (.node (none) (.node (none) (.node (none) (.node (none) .nil (.node (none) (.node (some l161) .nil .nil) .nil)) (.node (none) (.node (none) .nil (.node (some l209) .nil .nil)) (.node (some l113) .nil .nil))) (.node (none) (.node (none) .nil (.node (none) (.node (some l169) .nil .nil) .nil)) .nil)) (.node (none) (.node (none) (.node (none) .nil (.node (none) (.node (some l165) .nil .nil) .nil)) (.node (none) .nil (.node (some l117) .nil .nil))) (.node (none) .nil (.node (some l61) .nil .nil))))) (.node (none) (.node (none) (.node (none) (.node (none) (.node (none) .nil (.node (none) (.node (some l160) .nil .nil) .nil)) (.node (none) .nil (.node (some l112) (.node (none) (.node (some l304) .nil .nil) .nil) .nil))) (.node (none) (.node (none) .nil (.node (none) (.node (some l168) .nil .nil) .nil)) .nil)) (.node (none) (.node (none) (.node (none) .nil (.node (none) (.node (some l164) .nil .nil) .nil)) (.node (none) (.node (none) .nil (.node (some l212) .nil .nil)) (.node (some l116) .nil .nil))) (.node (none) (.node (none) .nil (.node (some l108) (.node (some l172) .nil .nil) .nil)) .nil))) (.node (none) (.node (none) (.node (none) .nil (.node (none) (.node (none) .nil (.node (some l210) .nil .nil)) .nil)) (.node (none) (.node (none) .nil (.node (none) (.node (some l170) .nil .nil) .nil)) .nil)) (.node (none) (.node (none) (.node (none) .nil (.node (none) (.node (some l166) .nil .nil) .nil)) (.node (none) .nil (.node (some l118) .nil .nil))) .nil))))
theorem ok26 : T26.OK Tryz.prog := Memo.ok_put mixed ok25 rfl c161

/-- Compare -/
def l124 : List Entry := [
  ⟨[(a [ff, (s 0 0 1 3), ff, z]), (a [ff, (s 1 0 1 3), ff, z])], [([(n 1)], 3), ([(n 4)], 3)], (n (-1)), []⟩,
  ⟨[(a [ff, (s 0 0 1 3), ff, z]), (a [ff, (s 1 0 1 3), ff, z])], [([(n 3)], 3), ([(n 12)], 3)], (n (-1)), []⟩,
  ⟨[(a [ff, (s 0 0 1 3), ff, z]), (a [ff, (s 1 0 1 3), ff, z])], [([(n 4)], 3), ([(n 4)], 3)], (n 0), []⟩,
  ⟨[(a [ff, z, ff, z]), (a [ff, (s 0 0 1 3), ff, z])], [([(n 1)], 3)], (n (-1)), []⟩,
  ⟨[(a [ff, z, ff, z]), (a [ff, (s 0 0 1 3), ff, z])], [([(n 3)], 3)], (n (-1)), []⟩,
  ⟨[(a [tt, (s 0 0 1 3), ff, z]), (a [ff, z, ff, z])], [([(n 1)], 3)], (n (-1)), []⟩,
  ⟨[(a [tt, (s 0 0 1 3), ff, z]), (a [ff, z, ff, z])], [([(n 3)], 3)], (n (-1)), []⟩,
  ⟨[(a [tt, (s 0 0 1 3), ff, z]), (a [tt, (s 1 0 1 3), ff, z])], [([(n 12)], 3), ([(n 3)], 3)], (n (-1)), []⟩,
  ⟨[(a [tt, (s 0 0 1 3), ff, z]), (a [tt, (s 1 0 1 3), ff, z])], [([(n 4)], 3), ([(n 1)], 3)], (n (-1)), []⟩]

theorem c124 : l124.all (fun e => e.check Tryz.prog (memo T26) 100000 124) = true := by kernel_rfl

def T27 : Memo := (.node (none) (.node (none) (.node (none) (.node (none) (.node (none) (.node (none) .nil (.node (none) (.node (some l159) .nil .nil) .nil)) .nil) (.node (none) (.node (none) (.node (some l71) .nil .nil) (.node (none) (.node (some l167) .nil .nil) .nil)) (.node (none) (.node (none) (.node (some l151) .nil .nil) .nil) .nil))) (.node (none) (.node (none) .nil (.node (none) (.node (none) .nil (.node (some l211) .nil .nil)) .nil)) (.node (none) (.node (none) .nil (.node (none) (.node (some l171) .nil .nil) .nil)) .nil))) (.node (none) (.node (none) (.node (none) (.node (none) .nil (.node (none) (.node (some l161) .nil .nil) .nil)) (.node (none) (.node (none) .nil (.node (some l209) .nil .nil)) (.node (some l113) .nil .nil))) (.node (none) (.node (none) .nil (.node (none) (.node (some l169) .nil .nil) .nil)) .nil)) (.node (none) (.node (none) (.node (none) .nil (.node (none) (.node (some l165) .nil .nil) .nil)) (.node (none) .nil (.node (some l117) .nil .nil))) (.node (none) .nil (.node (some l61) .nil .nil))))) (.node (none) (.node (none) (.node (none) (.node (none) (.node (none) .nil (.node (none) (.node (some l160) .nil .nil) .nil)) (.node (none) .nil (.node (some l112) (.node (none) (.node (some l304) .nil .nil) .nil) .nil))) (.node (none) (.node (none) .nil (.node (none) (.node (some l168) .nil .nil) .nil)) .nil)) (.node (none) (.node (none) (.node (none) .nil (.node (none) (.node (some l164) .nil .nil) .nil)) (.node (none) (.node (none) .nil (.node (some l212) .nil .nil)) (.node (some l116) .nil .nil))) (.node (none) (.node (none) .nil (.node (some l108) (.node (some l172) .nil .nil) .nil)) (.node (none) .nil (.node (some l124) .nil .nil))))) (.node (none) (.node (none) (.node (none) .nil (.node (none) (.node (none) .nil (.node (some l210) .nil .nil)) .nil)) (.node (none) (.node (none) .nil (.node (none) (.node (some l170) .nil .nil) .nil)) .nil)) (.node (none) (.node (none) (.node (none) .nil (.node (none) (.node (some l166) .nil .nil) .nil)) (.node (none) .nil (.node (some l118) .nil .nil))) .nil))))
theorem ok27 : T27.OK Tryz.prog := Memo.ok_put mixed ok26 rfl c124

/-- Sign -/
def l207 : List Entry := [
  ⟨[(a [ff, (s 0 0 1 3), ff, z])], [([(n 1)], 3)], (n 1), []⟩,
  ⟨[(a [ff, (s 0 0 1 3), ff, z])], [([(n 3)], 3)], (n 1), []⟩,
  ⟨[(a [ff, (s 0 0 1 3), ff, z])], [([(n 9)], 3)], (n 1), []⟩]

theorem c207 : l207.all (fun e => e.check Tryz.prog (memo T27) 100000 207) = true := by kernel_rfl

def T28 : Memo := (.node (none) (.node (none) (.node (none) (.node (none) (.node (none) (.node (none) .nil (.node (none) (.node (some l159) .nil .nil) .nil)) (.node (none) (.node (none) .nil (.node (some l207) .nil .nil)) .nil)) (.node (none) (.node (none) (.node (some l71) .nil .nil) (.node (none) (.node (some l167) .nil .nil) .nil)) (.node (none) (.node (none) (.node (some l151) .nil .nil) .nil) .nil))) (.node (none) (.node (none) .nil (.node (none) (.node (none) .nil (.node (some l211) .nil .nil)) .nil)) (.node (none) (.node (none) .nil (.node (none) (.node (some l171) .nil .nil) .nil)) .nil))) (.node (none) (.node (none) (.node (none) (.node (none) .nil (.node (none) (.node (some l161) .nil .nil) .nil)) (.node (none) (.node (none) .nil (.node (some l209) .nil .nil)) (.node (some l113) .nil .nil))) (.node (none) (.node (none) .nil (.node (none) (.node (some l169) .nil .nil) .nil)) .nil)) (.node (none) (.node (none) (.node (none) .nil (.node (none) (.node (some l165) .nil .nil) .nil)) (.node (none) .nil (.node (some l117) .nil .nil))) (.node (none) .nil (.node (some l61) .nil .nil))))) (.node (none) (.node (none) (.node (none) (.node (none) (.node (none) .nil (.node (none) (.node (some l160) .nil .nil) .nil)) (.node (none) .nil (.node (some l112) (.node (none) (.node (some l304) .nil .nil) .nil) .nil))) (.node (none) (.node (none) .nil (.node (none) (.node (some l168) .nil .nil) .nil)) .nil)) (.node (none) (.node (none) (.node (none) .nil (.node (none) (.node (some l164) .nil .nil) .nil)) (.node (none) (.node (none) .nil (.node (some l212) .nil .nil)) (.node (some l116) .nil .nil))) (.node (none) (.node (none) .nil (.node (some l108) (.node (some l172) .nil .nil) .nil)) (.node (none) .nil (.node (some l124) .nil .nil))))) (.node (none) (.node (none) (.node (none) .nil (.node (none) (.node (none) .nil (.node (some l210) .nil .nil)) .nil)) (.node (none) (.node (none) .nil (.node (none) (.node (some l170) .nil .nil) .nil)) .nil)) (.node (none) (.node (none) (.node (none) .nil (.node (none) (.node (some l166) .nil .nil) .nil)) (.node (none) .nil (.node (some l118) .nil .nil))) .nil))))
theorem ok28 : T28.OK Tryz.prog := Memo.ok_put mixed ok27 rfl c207

/-- Same -/
def l89 : List Entry := [
  ⟨[(a [ff, (s 0 0 1 3), ff, z]), (a [ff, (s 1 0 1 3), ff, z])], [([(n 1)], 3), ([(n 1)], 3)], tt, []⟩]

theorem c89 : l89.all (fun e => e.check Tryz.prog (memo T28) 100000 89) = true := by kernel_rfl

def T29 : Memo := (.node (none) (.node (none) (.node (none) (.node (none) (.node (none) (.node (none) .nil (.node (none) (.node (some l159) .nil .nil) .nil)) (.node (none) (.node (none) .nil (.node (some l207) .nil .nil)) .nil)) (.node (none) (.node (none) (.node (some l71) .nil .nil) (.node (none) (.node (some l167) .nil .nil) .nil)) (.node (none) (.node (none) (.node (some l151) .nil .nil) .nil) .nil))) (.node (none) (.node (none) .nil (.node (none) (.node (none) .nil (.node (some l211) .nil .nil)) .nil)) (.node (none) (.node (none) .nil (.node (none) (.node (some l171) .nil .nil) .nil)) .nil))) (.node (none) (.node (none) (.node (none) (.node (none) .nil (.node (none) (.node (some l161) .nil .nil) .nil)) (.node (none) (.node (none) .nil (.node (some l209) .nil .nil)) (.node (some l113) .nil .nil))) (.node (none) (.node (none) .nil (.node (none) (.node (some l169) .nil .nil) .nil)) (.node (none) (.node (some l89) .nil .nil) .nil))) (.node (none) (.node (none) (.node (none) .nil (.node (none) (.node (some l165) .nil .nil) .nil)) (.node (none) .nil (.node (some l117) .nil .nil))) (.node (none) .nil (.node (some l61) .nil .nil))))) (.node (none) (.node (none) (.node (none) (.node (none) (.node (none) .nil (.node (none) (.node (some l160) .nil .nil) .nil)) (.node (none) .nil (.node (some l112) (.node (none) (.node (some l304) .nil .nil) .nil) .nil))) (.node (none) (.node (none) .nil (.node (none) (.node (some l168) .nil .nil) .nil)) .nil)) (.node (none) (.node (none) (.node (none) .nil (.node (none) (.node (some l164) .nil .nil) .nil)) (.node (none) (.node (none) .nil (.node (some l212) .nil .nil)) (.node (some l116) .nil .nil))) (.node (none) (.node (none) .nil (.node (some l108) (.node (some l172) .nil .nil) .nil)) (.node (none) .nil (.node (some l124) .nil .nil))))) (.node (none) (.node (none) (.node (none) .nil (.node (none) (.node (none) .nil (.node (some l210) .nil .nil)) .nil)) (.node (none) (.node (none) .nil (.node (none) (.node (some l170) .nil .nil) .nil)) .nil)) (.node (none) (.node (none) (.node (none) .nil (.node (none) (.node (some l166) .nil .nil) .nil)) (.node (none) .nil (.node (some l118) .nil .nil))) .nil))))
theorem ok29 : T29.OK Tryz.prog := Memo.ok_put mixed ok28 rfl c89

/-- Of -/
def l38 : List Entry := [
  ⟨[(n (-16)), (n 0)], [], (a [tt, (s 0 0 1 3), ff, z, ff, z, ff, z]), [([(n 16)], 3)]⟩,
  ⟨[(n (-3)), (n (-3))], [], (a [tt, (s 0 0 1 3), ff, z, tt, (s 1 0 1 3), ff, z]), [([(n 3)], 3), ([(n 3)], 3)]⟩,
  ⟨[(n (-3)), (n (-4))], [], (a [tt, (s 0 0 1 3), ff, z, tt, (s 1 0 1 3), ff, z]), [([(n 3)], 3), ([(n 4)], 3)]⟩,
  ⟨[(n (-4)), (n (-4))], [], (a [tt, (s 0 0 1 3), ff, z, tt, (s 1 0 1 3), ff, z]), [([(n 4)], 3), ([(n 4)], 3)]⟩,
  ⟨[(n 0), (n (-3))], [], (a [ff, z, ff, z, tt, (s 0 0 1 3), ff, z]), [([(n 3)], 3)]⟩,
  ⟨[(n 0), (n (-4))], [], (a [ff, z, ff, z, tt, (s 0 0 1 3), ff, z]), [([(n 4)], 3)]⟩,
  ⟨[(n 0), (n 0)], [], (a [ff, z, ff, z, ff, z, ff, z]), []⟩,
  ⟨[(n 0), (n 1)], [], (a [ff, z, ff, z, ff, (s 0 0 1 3), ff, z]), [([(n 1)], 3)]⟩,
  ⟨[(n 0), (n 4)], [], (a [ff, z, ff, z, ff, (s 0 0 1 3), ff, z]), [([(n 4)], 3)]⟩,
  ⟨[(n 1), (n 0)], [], (a [ff, (s 0 0 1 3), ff, z, ff, z, ff, z]), [([(n 1)], 3)]⟩,
  ⟨[(n 1), (n 1)], [], (a [ff, (s 0 0 1 3), ff, z, ff, (s 1 0 1 3), ff, z]), [([(n 1)], 3), ([(n 1)], 3)]⟩,
  ⟨[(n 1), (n 4)], [], (a [ff, (s 0 0 1 3), ff, z, ff, (s 1 0 1 3), ff, z]), [([(n 1)], 3), ([(n 4)], 3)]⟩,
  ⟨[(n 16), (n 16)], [], (a [ff, (s 0 0 1 3), ff, z, ff, (s 1 0 1 3), ff, z]), [([(n 16)], 3), ([(n 16)], 3)]⟩,
  ⟨[(n 4), (n 0)], [], (a [ff, (s 0 0 1 3), ff, z, ff, z, ff, z]), [([(n 4)], 3)]⟩,
  ⟨[(n 4), (n 1)], [], (a [ff, (s 0 0 1 3), ff, z, ff, (s 1 0 1 3), ff, z]), [([(n 4)], 3), ([(n 1)], 3)]⟩,
  ⟨[(n 4), (n 4)], [], (a [ff, (s 0 0 1 3), ff, z, ff, (s 1 0 1 3), ff, z]), [([(n 4)], 3), ([(n 4)], 3)]⟩]

theorem c38 : l38.all (fun e => e.check Tryz.prog (memo T29) 100000 38) = true := by kernel_rfl

def T30 : Memo := (.node (none) (.node (none) (.node (none) (.node (none) (.node (none) (.node (none) .nil (.node (none) (.node (some l159) .nil .nil) .nil)) (.node (none) (.node (none) .nil (.node (some l207) .nil .nil)) .nil)) (.node (none) (.node (none) (.node (some l71) .nil .nil) (.node (none) (.node (some l167) .nil .nil) .nil)) (.node (none) (.node (none) (.node (some l151) .nil .nil) .nil) .nil))) (.node (none) (.node (none) .nil (.node (none) (.node (none) .nil (.node (some l211) .nil .nil)) .nil)) (.node (none) (.node (none) .nil (.node (none) (.node (some l171) .nil .nil) .nil)) .nil))) (.node (none) (.node (none) (.node (none) (.node (none) .nil (.node (none) (.node (some l161) .nil .nil) .nil)) (.node (none) (.node (none) .nil (.node (some l209) .nil .nil)) (.node (some l113) .nil .nil))) (.node (none) (.node (none) .nil (.node (none) (.node (some l169) .nil .nil) .nil)) (.node (none) (.node (some l89) .nil .nil) .nil))) (.node (none) (.node (none) (.node (none) .nil (.node (none) (.node (some l165) .nil .nil) .nil)) (.node (none) .nil (.node (some l117) .nil .nil))) (.node (none) .nil (.node (some l61) .nil .nil))))) (.node (none) (.node (none) (.node (none) (.node (none) (.node (none) .nil (.node (none) (.node (some l160) .nil .nil) .nil)) (.node (none) .nil (.node (some l112) (.node (none) (.node (some l304) .nil .nil) .nil) .nil))) (.node (none) (.node (none) .nil (.node (none) (.node (some l168) .nil .nil) .nil)) .nil)) (.node (none) (.node (none) (.node (none) .nil (.node (none) (.node (some l164) .nil .nil) .nil)) (.node (none) (.node (none) .nil (.node (some l212) .nil .nil)) (.node (some l116) .nil .nil))) (.node (none) (.node (none) .nil (.node (some l108) (.node (some l172) .nil .nil) .nil)) (.node (none) .nil (.node (some l124) .nil .nil))))) (.node (none) (.node (none) (.node (none) .nil (.node (none) (.node (none) .nil (.node (some l210) .nil .nil)) .nil)) (.node (none) (.node (none) .nil (.node (none) (.node (some l170) .nil .nil) .nil)) .nil)) (.node (none) (.node (none) (.node (some l38) .nil (.node (none) (.node (some l166) .nil .nil) .nil)) (.node (none) .nil (.node (some l118) .nil .nil))) .nil))))
theorem ok30 : T30.OK Tryz.prog := Memo.ok_put mixed ok29 rfl c38

/-- Add -/
def l123 : List Entry := [
  ⟨[(a [ff, (s 0 0 1 3), ff, z, ff, (s 1 0 1 3), ff, z]), (a [ff, z, ff, z, ff, z, ff, z])], [([(n 4)], 3), ([(n 4)], 3)], (a [ff, (s 2 0 1 3), ff, z, ff, (s 3 0 1 3), ff, z]), [([(n 4)], 3), ([(n 4)], 3)]⟩]

theorem c123 : l123.all (fun e => e.check Tryz.prog (memo T30) 100000 123) = true := by kernel_rfl

def T31 : Memo := (.node (none) (.node (none) (.node (none) (.node (none) (.node (none) (.node (none) .nil (.node (none) (.node (some l159) .nil .nil) .nil)) (.node (none) (.node (none) .nil (.node (some l207) .nil .nil)) .nil)) (.node (none) (.node (none) (.node (some l71) .nil .nil) (.node (none) (.node (some l167) .nil .nil) .nil)) (.node (none) (.node (none) (.node (some l151) .nil .nil) .nil) .nil))) (.node (none) (.node (none) .nil (.node (none) (.node (none) .nil (.node (some l211) .nil .nil)) .nil)) (.node (none) (.node (none) .nil (.node (none) (.node (some l171) .nil .nil) .nil)) (.node (none) .nil (.node (some l123) .nil .nil))))) (.node (none) (.node (none) (.node (none) (.node (none) .nil (.node (none) (.node (some l161) .nil .nil) .nil)) (.node (none) (.node (none) .nil (.node (some l209) .nil .nil)) (.node (some l113) .nil .nil))) (.node (none) (.node (none) .nil (.node (none) (.node (some l169) .nil .nil) .nil)) (.node (none) (.node (some l89) .nil .nil) .nil))) (.node (none) (.node (none) (.node (none) .nil (.node (none) (.node (some l165) .nil .nil) .nil)) (.node (none) .nil (.node (some l117) .nil .nil))) (.node (none) .nil (.node (some l61) .nil .nil))))) (.node (none) (.node (none) (.node (none) (.node (none) (.node (none) .nil (.node (none) (.node (some l160) .nil .nil) .nil)) (.node (none) .nil (.node (some l112) (.node (none) (.node (some l304) .nil .nil) .nil) .nil))) (.node (none) (.node (none) .nil (.node (none) (.node (some l168) .nil .nil) .nil)) .nil)) (.node (none) (.node (none) (.node (none) .nil (.node (none) (.node (some l164) .nil .nil) .nil)) (.node (none) (.node (none) .nil (.node (some l212) .nil .nil)) (.node (some l116) .nil .nil))) (.node (none) (.node (none) .nil (.node (some l108) (.node (some l172) .nil .nil) .nil)) (.node (none) .nil (.node (some l124) .nil .nil))))) (.node (none) (.node (none) (.node (none) .nil (.node (none) (.node (none) .nil (.node (some l210) .nil .nil)) .nil)) (.node (none) (.node (none) .nil (.node (none) (.node (some l170) .nil .nil) .nil)) .nil)) (.node (none) (.node (none) (.node (some l38) .nil (.node (none) (.node (some l166) .nil .nil) .nil)) (.node (none) .nil (.node (some l118) .nil .nil))) .nil))))
theorem ok31 : T31.OK Tryz.prog := Memo.ok_put mixed ok30 rfl c123

/-- Sub -/
def l109 : List Entry := [
  ⟨[(a [ff, (s 0 0 1 3), ff, z, ff, (s 1 0 1 3), ff, z]), (a [ff, (s 2 0 1 3), ff, z, ff, (s 3 0 1 3), ff, z])], [([(n 1)], 3), ([(n 1)], 3), ([(n 1)], 3), ([(n 4)], 3)], (a [ff, z, ff, z, tt, (s 4 0 1 3), ff, z]), [([(n 3)], 3)]⟩,
  ⟨[(a [ff, (s 0 0 1 3), ff, z, ff, (s 1 0 1 3), ff, z]), (a [ff, (s 2 0 1 3), ff, z, ff, (s 3 0 1 3), ff, z])], [([(n 1)], 3), ([(n 1)], 3), ([(n 4)], 3), ([(n 1)], 3)], (a [tt, (s 4 0 1 3), ff, z, ff, z, ff, z]), [([(n 3)], 3)]⟩,
  ⟨[(a [ff, (s 0 0 1 3), ff, z, ff, (s 1 0 1 3), ff, z]), (a [ff, (s 2 0 1 3), ff, z, ff, (s 3 0 1 3), ff, z])], [([(n 1)], 3), ([(n 1)], 3), ([(n 4)], 3), ([(n 4)], 3)], (a [tt, (s 4 0 1 3), ff, z, tt, (s 5 0 1 3), ff, z]), [([(n 3)], 3), ([(n 3)], 3)]⟩,
  ⟨[(a [ff, (s 0 0 1 3), ff, z, ff, (s 1 0 1 3), ff, z]), (a [ff, (s 2 0 1 3), ff, z, ff, (s 3 0 1 3), ff, z])], [([(n 1)], 3), ([(n 4)], 3), ([(n 1)], 3), ([(n 1)], 3)], (a [ff, z, ff, z, ff, (s 4 0 1 3), ff, z]), [([(n 3)], 3)]⟩,
  ⟨[(a [ff, (s 0 0 1 3), ff, z, ff, (s 1 0 1 3), ff, z]), (a [ff, (s 2 0 1 3), ff, z, ff, (s 3 0 1 3), ff, z])], [([(n 1)], 3), ([(n 4)], 3), ([(n 4)], 3), ([(n 1)], 3)], (a [tt, (s 4 0 1 3), ff, z, ff, (s 5 0 1 3), ff, z]), [([(n 3)], 3), ([(n 3)], 3)]⟩,
  ⟨[(a [ff, (s 0 0 1 3), ff, z, ff, (s 1 0 1 3), ff, z]), (a [ff, (s 2 0 1 3), ff, z, ff, (s 3 0 1 3), ff, z])], [([(n 1)], 3), ([(n 4)], 3), ([(n 4)], 3), ([(n 4)], 3)], (a [tt, (s 4 0 1 3), ff, z, ff, z, ff, z]), [([(n 3)], 3)]⟩,
  ⟨[(a [ff, (s 0 0 1 3), ff, z, ff, (s 1 0 1 3), ff, z]), (a [ff, (s 2 0 1 3), ff, z, ff, (s 3 0 1 3), ff, z])], [([(n 4)], 3), ([(n 1)], 3), ([(n 1)], 3), ([(n 1)], 3)], (a [ff, (s 4 0 1 3), ff, z, ff, z, ff, z]), [([(n 3)], 3)]⟩,
  ⟨[(a [ff, (s 0 0 1 3), ff, z, ff, (s 1 0 1 3), ff, z]), (a [ff, (s 2 0 1 3), ff, z, ff, (s 3 0 1 3), ff, z])], [([(n 4)], 3), ([(n 1)], 3), ([(n 1)], 3), ([(n 4)], 3)], (a [ff, (s 4 0 1 3), ff, z, tt, (s 5 0 1 3), ff, z]), [([(n 3)], 3), ([(n 3)], 3)]⟩,
  ⟨[(a [ff, (s 0 0 1 3), ff, z, ff, (s 1 0 1 3), ff, z]), (a [ff, (s 2 0 1 3), ff, z, ff, (s 3 0 1 3), ff, z])], [([(n 4)], 3), ([(n 4)], 3), ([(n 1)], 3), ([(n 1)], 3)], (a [ff, (s 4 0 1 3), ff, z, ff, (s 5 0 1 3), ff, z]), [([(n 3)], 3), ([(n 3)], 3)]⟩,
  ⟨[(a [ff, (s 0 0 1 3), ff, z, ff, (s 1 0 1 3), ff, z]), (a [ff, (s 2 0 1 3), ff, z, ff, (s 3 0 1 3), ff, z])], [([(n 4)], 3), ([(n 4)], 3), ([(n 4)], 3), ([(n 1)], 3)], (a [ff, z, ff, z, ff, (s 4 0 1 3), ff, z]), [([(n 3)], 3)]⟩,
  ⟨[(a [ff, (s 0 0 1 3), ff, z, ff, (s 1 0 1 3), ff, z]), (a [ff, (s 2 0 1 3), ff, z, ff, z, ff, z])], [([(n 1)], 3), ([(n 1)], 3), ([(n 1)], 3)], (a [ff, z, ff, z, ff, (s 3 0 1 3), ff, z]), [([(n 1)], 3)]⟩,
  ⟨[(a [ff, (s 0 0 1 3), ff, z, ff, (s 1 0 1 3), ff, z]), (a [ff, (s 2 0 1 3), ff, z, ff, z, ff, z])], [([(n 1)], 3), ([(n 1)], 3), ([(n 4)], 3)], (a [tt, (s 3 0 1 3), ff, z, ff, (s 4 0 1 3), ff, z]), [([(n 3)], 3), ([(n 1)], 3)]⟩,
  ⟨[(a [ff, (s 0 0 1 3), ff, z, ff, (s 1 0 1 3), ff, z]), (a [ff, (s 2 0 1 3), ff, z, ff, z, ff, z])], [([(n 4)], 3), ([(n 1)], 3), ([(n 1)], 3)], (a [ff, (s 3 0 1 3), ff, z, ff, (s 4 0 1 3), ff, z]), [([(n 3)], 3), ([(n 1)], 3)]⟩,
  ⟨[(a [ff, (s 0 0 1 3), ff, z, ff, (s 1 0 1 3), ff, z]), (a [ff, (s 2 0 1 3), ff, z, ff, z, ff, z])], [([(n 4)], 3), ([(n 1)], 3), ([(n 4)], 3)], (a [ff, z, ff, z, ff, (s 3 0 1 3), ff, z]), [([(n 1)], 3)]⟩,
  ⟨[(a [ff, (s 0 0 1 3), ff, z, ff, (s 1 0 1 3), ff, z]), (a [ff, z, ff, z, ff, (s 2 0 1 3), ff, z])], [([(n 1)], 3), ([(n 1)], 3), ([(n 1)], 3)], (a [ff, (s 3 0 1 3), ff, z, ff, z, ff, z]), [([(n 1)], 3)]⟩,
  ⟨[(a [ff, (s 0 0 1 3), ff, z, ff, (s 1 0 1 3), ff, z]), (a [ff, z, ff, z, ff, (s 2 0 1 3), ff, z])], [([(n 1)], 3), ([(n 1)], 3), ([(n 4)], 3)], (a [ff, (s 3 0 1 3), ff, z, tt, (s 4 0 1 3), ff, z]), [([(n 1)], 3), ([(n 3)], 3)]⟩,
  ⟨[(a [ff, (s 0 0 1 3), ff, z, ff, (s 1 0 1 3), ff, z]), (a [ff, z, ff, z, ff, (s 2 0 1 3), ff, z])], [([(n 1)], 3), ([(n 4)], 3), ([(n 1)], 3)], (a [ff, (s 3 0 1 3), ff, z, ff, (s 4 0 1 3), ff, z]), [([(n 1)], 3), ([(n 3)], 3)]⟩,
  ⟨[(a [ff, (s 0 0 1 3), ff, z, ff, (s 1 0 1 3), ff, z]), (a [ff, z, ff, z, ff, z, ff, z])], [([(n 1)], 3), ([(n 1)], 3)], (a [ff, (s 2 0 1 3), ff, z, ff, (s 3 0 1 3), ff, z]), [([(n 1)], 3), ([(n 1)], 3)]⟩,
  ⟨[(a [ff, (s 0 0 1 3), ff, z, ff, (s 1 0 1 3), ff, z]), (a [ff, z, ff, z, ff, z, ff, z])], [([(n 4)], 3), ([(n 4)], 3)], (a [ff, (s 2 0 1 3), ff, z, ff, (s 3 0 1 3), ff, z]), [([(n 4)], 3), ([(n 4)], 3)]⟩,
  ⟨[(a [ff, (s 0 0 1 3), ff, z, ff, (s 1 0 1 3), ff, z]), (a [tt, (s 2 0 1 3), ff, z, tt, (s 3 0 1 3), ff, z])], [([(n 1)], 3), ([(n 1)], 3), ([(n 3)], 3), ([(n 3)], 3)], (a [ff, (s 4 0 1 3), ff, z, ff, (s 5 0 1 3), ff, z]), [([(n 4)], 3), ([(n 4)], 3)]⟩,
  ⟨[(a [ff, (s 0 0 1 3), ff, z, ff, z, ff, z]), (a [ff, (s 1 0 1 3), ff, z, ff, (s 2 0 1 3), ff, z])], [([(n 1)], 3), ([(n 1)], 3), ([(n 1)], 3)], (a [ff, z, ff, z, tt, (s 3 0 1 3), ff, z]), [([(n 1)], 3)]⟩,
  ⟨[(a [ff, (s 0 0 1 3), ff, z, ff, z, ff, z]), (a [ff, (s 1 0 1 3), ff, z, ff, (s 2 0 1 3), ff, z])], [([(n 1)], 3), ([(n 4)], 3), ([(n 1)], 3)], (a [tt, (s 3 0 1 3), ff, z, tt, (s 4 0 1 3), ff, z]), [([(n 3)], 3), ([(n 1)], 3)]⟩,
  ⟨[(a [ff, (s 0 0 1 3), ff, z, ff, z, ff, z]), (a [ff, (s 1 0 1 3), ff, z, ff, (s 2 0 1 3), ff, z])], [([(n 4)], 3), ([(n 1)], 3), ([(n 1)], 3)], (a [ff, (s 3 0 1 3), ff, z, tt, (s 4 0 1 3), ff, z]), [([(n 3)], 3), ([(n 1)], 3)]⟩,
  ⟨[(a [ff, (s 0 0 1 3), ff, z, ff, z, ff, z]), (a [ff, (s 1 0 1 3), ff, z, ff, z, ff, z])], [([(n 4)], 3), ([(n 1)], 3)], (a [ff, (s 2 0 1 3), ff, z, ff, z, ff, z]), [([(n 3)], 3)]⟩,
  ⟨[(a [ff, (s 0 0 1 3), ff, z, ff, z, ff, z]), (a [ff, z, ff, z, ff, (s 1 0 1 3), ff, z])], [([(n 1)], 3), ([(n 1)], 3)], (a [ff, (s 2 0 1 3), ff, z, tt, (s 3 0 1 3), ff, z]), [([(n 1)], 3), ([(n 1)], 3)]⟩,
  ⟨[(a [ff, (s 0 0 1 3), ff, z, ff, z, ff, z]), (a [ff, z, ff, z, ff, z, ff, z])], [([(n 1)], 3)], (a [ff, (s 1 0 1 3), ff, z, ff, z, ff, z]), [([(n 1)], 3)]⟩,
  ⟨[(a [ff, (s 0 0 1 3), ff, z, ff, z, ff, z]), (a [tt, (s 1 0 1 3), ff, z, tt, (s 2 0 1 3), ff, z])], [([(n 1)], 3), ([(n 3)], 3), ([(n 4)], 3)], (a [ff, (s 3 0 1 3), ff, z, ff, (s 4 0 1 3), ff, z]), [([(n 4)], 3), ([(n 4)], 3)]⟩,
  ⟨[(a [ff, z, ff, z, ff, (s 0 0 1 3), ff, z]), (a [ff, (s 1 0 1 3), ff, z, ff, (s 2 0 1 3), ff, z])], [([(n 1)], 3), ([(n 1)], 3), ([(n 1)], 3)], (a [tt, (s 3 0 1 3), ff, z, ff, z, ff, z]), [([(n 1)], 3)]⟩,
  ⟨[(a [ff, z, ff, z, ff, (s 0 0 1 3), ff, z]), (a [ff, (s 1 0 1 3), ff, z, ff, (s 2 0 1 3), ff, z])], [([(n 1)], 3), ([(n 1)], 3), ([(n 4)], 3)], (a [tt, (s 3 0 1 3), ff, z, tt, (s 4 0 1 3), ff, z]), [([(n 1)], 3), ([(n 3)], 3)]⟩,
  ⟨[(a [ff, z, ff, z, ff, (s 0 0 1 3), ff, z]), (a [ff, (s 1 0 1 3), ff, z, ff, (s 2 0 1 3), ff, z])], [([(n 4)], 3), ([(n 1)], 3), ([(n 1)], 3)], (a [tt, (s 3 0 1 3), ff, z, ff, (s 4 0 1 3), ff, z]), [([(n 1)], 3), ([(n 3)], 3)]⟩,
  ⟨[(a [ff, z, ff, z, ff, (s 0 0 1 3), ff, z]), (a [ff, (s 1 0 1 3), ff, z, ff, (s 2 0 1 3), ff, z])], [([(n 4)], 3), ([(n 1)], 3), ([(n 4)], 3)], (a [tt, (s 3 0 1 3), ff, z, ff, z, ff, z]), [([(n 1)], 3)]⟩,
  ⟨[(a [ff, z, ff, z, ff, (s 0 0 1 3), ff, z]), (a [ff, (s 1 0 1 3), ff, z, ff, z, ff, z])], [([(n 1)], 3), ([(n 1)], 3)], (a [tt, (s 2 0 1 3), ff, z, ff, (s 3 0 1 3), ff, z]), [([(n 1)], 3), ([(n 1)], 3)]⟩,
  ⟨[(a [ff, z, ff, z, ff, (s 0 0 1 3), ff, z]), (a [ff, z, ff, z, ff, (s 1 0 1 3), ff, z])], [([(n 1)], 3), ([(n 4)], 3)], (a [ff, z, ff, z, tt, (s 2 0 1 3), ff, z]), [([(n 3)], 3)]⟩,
  ⟨[(a [ff, z, ff, z, ff, z, ff, z]), (a [ff, (s 0 0 1 3), ff, z, ff, (s 1 0 1 3), ff, z])], [([(n 1)], 3), ([(n 1)], 3)], (a [tt, (s 2 0 1 3), ff, z, tt, (s 3 0 1 3), ff, z]), [([(n 1)], 3), ([(n 1)], 3)]⟩,
  ⟨[(a [ff, z, ff, z, ff, z, ff, z]), (a [ff, z, ff, z, ff, (s 0 0 1 3), ff, z])], [([(n 1)], 3)], (a [ff, z, ff, z, tt, (s 1 0 1 3), ff, z]), [([(n 1)], 3)]⟩,
  ⟨[(a [ff, z, ff, z, ff, z, ff, z]), (a [ff, z, ff, z, ff, z, ff, z])], [], (a [ff, z, ff, z, ff, z, ff, z]), []⟩,
  ⟨[(a [ff, z, ff, z, ff, z, ff, z]), (a [tt, (s 0 0 1 3), ff, z, tt, (s 1 0 1 3), ff, z])], [([(n 4)], 3), ([(n 4)], 3)], (a [ff, (s 2 0 1 3), ff, z, ff, (s 3 0 1 3), ff, z]), [([(n 4)], 3), ([(n 4)], 3)]⟩]

theorem c109 : l109.all (fun e => e.check Tryz.prog (memo T31) 100000 109) = true := by kernel_rfl

def T32 : Memo := (.node (none) (.node (none) (.node (none) (.node (none) (.node (none) (.node (none) .nil (.node (none) (.node (some l159) .nil .nil) .nil)) (.node (none) (.node (none) .nil (.node (some l207) .nil .nil)) .nil)) (.node (none) (.node (none) (.node (some l71) .nil .nil) (.node (none) (.node (some l167) .nil .nil) .nil)) (.node (none) (.node (none) (.node (some l151) .nil .nil) .nil) .nil))) (.node (none) (.node (none) .nil (.node (none) (.node (none) .nil (.node (some l211) .nil .nil)) .nil)) (.node (none) (.node (none) .nil (.node (none) (.node (some l171) .nil .nil) .nil)) (.node (none) .nil (.node (some l123) .nil .nil))))) (.node (none) (.node (none) (.node (none) (.node (none) .nil (.node (none) (.node (some l161) .nil .nil) .nil)) (.node (none) (.node (none) .nil (.node (some l209) .nil .nil)) (.node (some l113) .nil .nil))) (.node (none) (.node (none) .nil (.node (none) (.node (some l169) .nil .nil) .nil)) (.node (none) (.node (some l89) .nil .nil) .nil))) (.node (none) (.node (none) (.node (none) .nil (.node (none) (.node (some l165) .nil .nil) .nil)) (.node (none) .nil (.node (some l117) .nil .nil))) (.node (none) (.node (none) .nil (.node (some l109) .nil .nil)) (.node (some l61) .nil .nil))))) (.node (none) (.node (none) (.node (none) (.node (none) (.node (none) .nil (.node (none) (.node (some l160) .nil .nil) .nil)) (.node (none) .nil (.node (some l112) (.node (none) (.node (some l304) .nil .nil) .nil) .nil))) (.node (none) (.node (none) .nil (.node (none) (.node (some l168) .nil .nil) .nil)) .nil)) (.node (none) (.node (none) (.node (none) .nil (.node (none) (.node (some l164) .nil .nil) .nil)) (.node (none) (.node (none) .nil (.node (some l212) .nil .nil)) (.node (some l116) .nil .nil))) (.node (none) (.node (none) .nil (.node (some l108) (.node (some l172) .nil .nil) .nil)) (.node (none) .nil (.node (some l124) .nil .nil))))) (.node (none) (.node (none) (.node (none) .nil (.node (none) (.node (none) .nil (.node (some l210) .nil .nil)) .nil)) (.node (none) (.node (none) .nil (.node (none) (.node (some l170) .nil .nil) .nil)) .nil)) (.node (none) (.node (none) (.node (some l38) .nil (.node (none) (.node (some l166) .nil .nil) .nil)) (.node (none) .nil (.node (some l118) .nil .nil))) .nil))))
theorem ok32 : T32.OK Tryz.prog := Memo.ok_put mixed ok31 rfl c109

/-- Dot -/
def l355 : List Entry := [
  ⟨[(a [ff, (s 0 0 1 3), ff, z, ff, z, ff, z]), (a [ff, (s 1 0 1 3), ff, z, ff, (s 2 0 1 3), ff, z])], [([(n 1)], 3), ([(n 1)], 3), ([(n 1)], 3)], (a [ff, (s 3 0 1 3), ff, z]), [([(n 1)], 3)]⟩,
  ⟨[(a [ff, (s 0 0 1 3), ff, z, ff, z, ff, z]), (a [ff, (s 1 0 1 3), ff, z, ff, (s 2 0 1 3), ff, z])], [([(n 1)], 3), ([(n 4)], 3), ([(n 1)], 3)], (a [ff, (s 3 0 1 3), ff, z]), [([(n 4)], 3)]⟩,
  ⟨[(a [ff, (s 0 0 1 3), ff, z, ff, z, ff, z]), (a [ff, (s 1 0 1 3), ff, z, ff, (s 2 0 1 3), ff, z])], [([(n 3)], 3), ([(n 1)], 3), ([(n 1)], 3)], (a [ff, (s 3 0 1 3), ff, z]), [([(n 3)], 3)]⟩,
  ⟨[(a [ff, (s 0 0 1 3), ff, z, ff, z, ff, z]), (a [ff, (s 1 0 1 3), ff, z, ff, (s 2 0 1 3), ff, z])], [([(n 3)], 3), ([(n 1)], 3), ([(n 4)], 3)], (a [ff, (s 3 0 1 3), ff, z]), [([(n 3)], 3)]⟩,
  ⟨[(a [ff, (s 0 0 1 3), ff, z, ff, z, ff, z]), (a [ff, (s 1 0 1 3), ff, z, ff, (s 2 0 1 3), ff, z])], [([(n 3)], 3), ([(n 4)], 3), ([(n 1)], 3)], (a [ff, (s 3 0 1 3), ff, z]), [([(n 12)], 3)]⟩,
  ⟨[(a [ff, (s 0 0 1 3), ff, z, ff, z, ff, z]), (a [ff, (s 1 0 1 3), ff, z, ff, (s 2 0 1 3), ff, z])], [([(n 3)], 3), ([(n 4)], 3), ([(n 4)], 3)], (a [ff, (s 3 0 1 3), ff, z]), [([(n 12)], 3)]⟩,
  ⟨[(a [ff, (s 0 0 1 3), ff, z, ff, z, ff, z]), (a [ff, (s 1 0 1 3), ff, z, ff, z, ff, z])], [([(n 1)], 3), ([(n 1)], 3)], (a [ff, (s 2 0 1 3), ff, z]), [([(n 1)], 3)]⟩,
  ⟨[(a [ff, (s 0 0 1 3), ff, z, ff, z, ff, z]), (a [ff, (s 1 0 1 3), ff, z, ff, z, ff, z])], [([(n 1)], 3), ([(n 4)], 3)], (a [ff, (s 2 0 1 3), ff, z]), [([(n 4)], 3)]⟩,
  ⟨[(a [ff, (s 0 0 1 3), ff, z, ff, z, ff, z]), (a [ff, z, ff, z, ff, (s 1 0 1 3), ff, z])], [([(n 1)], 3), ([(n 1)], 3)], (a [ff, z, ff, z]), []⟩,
  ⟨[(a [ff, (s 0 0 1 3), ff, z, ff, z, ff, z]), (a [ff, z, ff, z, ff, (s 1 0 1 3), ff, z])], [([(n 3)], 3), ([(n 1)], 3)], (a [ff, z, ff, z]), []⟩,
  ⟨[(a [ff, (s 0 0 1 3), ff, z, ff, z, ff, z]), (a [ff, z, ff, z, ff, (s 1 0 1 3), ff, z])], [([(n 3)], 3), ([(n 4)], 3)], (a [ff, z, ff, z]), []⟩,
  ⟨[(a [ff, (s 0 0 1 3), ff, z, ff, z, ff, z]), (a [ff, z, ff, z, ff, z, ff, z])], [([(n 1)], 3)], (a [ff, z, ff, z]), []⟩,
  ⟨[(a [ff, z, ff, z, ff, (s 0 0 1 3), ff, z]), (a [ff, (s 1 0 1 3), ff, z, ff, (s 2 0 1 3), ff, z])], [([(n 1)], 3), ([(n 1)], 3), ([(n 1)], 3)], (a [ff, (s 3 0 1 3), ff, z]), [([(n 1)], 3)]⟩,
  ⟨[(a [ff, z, ff, z, ff, (s 0 0 1 3), ff, z]), (a [ff, (s 1 0 1 3), ff, z, ff, (s 2 0 1 3), ff, z])], [([(n 1)], 3), ([(n 1)], 3), ([(n 4)], 3)], (a [ff, (s 3 0 1 3), ff, z]), [([(n 4)], 3)]⟩,
  ⟨[(a [ff, z, ff, z, ff, (s 0 0 1 3), ff, z]), (a [ff, (s 1 0 1 3), ff, z, ff, (s 2 0 1 3), ff, z])], [([(n 3)], 3), ([(n 1)], 3), ([(n 1)], 3)], (a [ff, (s 3 0 1 3), ff, z]), [([(n 3)], 3)]⟩,
  ⟨[(a [ff, z, ff, z, ff, (s 0 0 1 3), ff, z]), (a [ff, (s 1 0 1 3), ff, z, ff, (s 2 0 1 3), ff, z])], [([(n 3)], 3), ([(n 1)], 3), ([(n 4)], 3)], (a [ff, (s 3 0 1 3), ff, z]), [([(n 12)], 3)]⟩,
  ⟨[(a [ff, z, ff, z, ff, (s 0 0 1 3), ff, z]), (a [ff, (s 1 0 1 3), ff, z, ff, (s 2 0 1 3), ff, z])], [([(n 3)], 3), ([(n 4)], 3), ([(n 1)], 3)], (a [ff, (s 3 0 1 3), ff, z]), [([(n 3)], 3)]⟩,
  ⟨[(a [ff, z, ff, z, ff, (s 0 0 1 3), ff, z]), (a [ff, (s 1 0 1 3), ff, z, ff, (s 2 0 1 3), ff, z])], [([(n 3)], 3), ([(n 4)], 3), ([(n 4)], 3)], (a [ff, (s 3 0 1 3), ff, z]), [([(n 12)], 3)]⟩,
  ⟨[(a [ff, z, ff, z, ff, (s 0 0 1 3), ff, z]), (a [ff, (s 1 0 1 3), ff, z, ff, z, ff, z])], [([(n 1)], 3), ([(n 1)], 3)], (a [ff, z, ff, z]), []⟩,
  ⟨[(a [ff, z, ff, z, ff, (s 0 0 1 3), ff, z]), (a [ff, (s 1 0 1 3), ff, z, ff, z, ff, z])], [([(n 3)], 3), ([(n 1)], 3)], (a [ff, z, ff, z]), []⟩,
  ⟨[(a [ff, z, ff, z, ff, (s 0 0 1 3), ff, z]), (a [ff, (s 1 0 1 3), ff, z, ff, z, ff, z])], [([(n 3)], 3), ([(n 4)], 3)], (a [ff, z, ff, z]), []⟩,
  ⟨[(a [ff, z, ff, z, ff, (s 0 0 1 3), ff, z]), (a [ff, z, ff, z, ff, (s 1 0 1 3), ff, z])], [([(n 1)], 3), ([(n 1)], 3)], (a [ff, (s 2 0 1 3), ff, z]), [([(n 1)], 3)]⟩,
  ⟨[(a [ff, z, ff, z, ff, (s 0 0 1 3), ff, z]), (a [ff, z, ff, z, ff, (s 1 0 1 3), ff, z])], [([(n 1)], 3), ([(n 4)], 3)], (a [ff, (s 2 0 1 3), ff, z]), [([(n 4)], 3)]⟩,
  ⟨[(a [ff, z, ff, z, ff, (s 0 0 1 3), ff, z]), (a [ff, z, ff, z, ff, z, ff, z])], [([(n 1)], 3)], (a [ff, z, ff, z]), []⟩,
  ⟨[(a [ff, z, ff, z, tt, (s 0 0 1 3), ff, z]), (a [ff, (s 1 0 1 3), ff, z, ff, (s 2 0 1 3), ff, z])], [([(n 1)], 3), ([(n 1)], 3), ([(n 1)], 3)], (a [tt, (s 3 0 1 3), ff, z]), [([(n 1)], 3)]⟩,
  ⟨[(a [ff, z, ff, z, tt, (s 0 0 1 3), ff, z]), (a [ff, (s 1 0 1 3), ff, z, ff, (s 2 0 1 3), ff, z])], [([(n 1)], 3), ([(n 1)], 3), ([(n 4)], 3)], (a [tt, (s 3 0 1 3), ff, z]), [([(n 4)], 3)]⟩,
  ⟨[(a [ff, z, ff, z, tt, (s 0 0 1 3), ff, z]), (a [ff, (s 1 0 1 3), ff, z, ff, (s 2 0 1 3), ff, z])], [([(n 3)], 3), ([(n 1)], 3), ([(n 1)], 3)], (a [tt, (s 3 0 1 3), ff, z]), [([(n 3)], 3)]⟩,
  ⟨[(a [ff, z, ff, z, tt, (s 0 0 1 3), ff, z]), (a [ff, (s 1 0 1 3), ff, z, ff, (s 2 0 1 3), ff, z])], [([(n 3)], 3), ([(n 1)], 3), ([(n 4)], 3)], (a [tt, (s 3 0 1 3), ff, z]), [([(n 12)], 3)]⟩,
  ⟨[(a [ff, z, ff, z, tt, (s 0 0 1 3), ff, z]), (a [ff, (s 1 0 1 3), ff, z, ff, (s 2 0 1 3), ff, z])], [([(n 3)], 3), ([(n 4)], 3), ([(n 1)], 3)], (a [tt, (s 3 0 1 3), ff, z]), [([(n 3)], 3)]⟩,
  ⟨[(a [ff, z, ff, z, tt, (s 0 0 1 3), ff, z]), (a [ff, (s 1 0 1 3), ff, z, ff, (s 2 0 1 3), ff, z])], [([(n 3)], 3), ([(n 4)], 3), ([(n 4)], 3)], (a [tt, (s 3 0 1 3), ff, z]), [([(n 12)], 3)]⟩,
  ⟨[(a [ff, z, ff, z, tt, (s 0 0 1 3), ff, z]), (a [ff, (s 1 0 1 3), ff, z, ff, z, ff, z])], [([(n 1)], 3), ([(n 1)], 3)], (a [ff, z, ff, z]), []⟩,
  ⟨[(a [ff, z, ff, z, tt, (s 0 0 1 3), ff, z]), (a [ff, (s 1 0 1 3), ff, z, ff, z, ff, z])], [([(n 3)], 3), ([(n 1)], 3)], (a [ff, z, ff, z]), []⟩,
  ⟨[(a [ff, z, ff, z, tt, (s 0 0 1 3), ff, z]), (a [ff, (s 1 0 1 3), ff, z, ff, z, ff, z])], [([(n 3)], 3), ([(n 4)], 3)], (a [ff, z, ff, z]), []⟩,
  ⟨[(a [ff, z, ff, z, tt, (s 0 0 1 3), ff, z]), (a [ff, z, ff, z, ff, (s 1 0 1 3), ff, z])], [([(n 1)], 3), ([(n 1)], 3)], (a [tt, (s 2 0 1 3), ff, z]), [([(n 1)], 3)]⟩,
  ⟨[(a [ff, z, ff, z, tt, (s 0 0 1 3), ff, z]), (a [ff, z, ff, z, ff, (s 1 0 1 3), ff, z])], [([(n 1)], 3), ([(n 4)], 3)], (a [tt, (s 2 0 1 3), ff, z]), [([(n 4)], 3)]⟩,
  ⟨[(a [ff, z, ff, z, tt, (s 0 0 1 3), ff, z]), (a [ff, z, ff, z, ff, z, ff, z])], [([(n 1)], 3)], (a [ff, z, ff, z]), []⟩,
  ⟨[(a [tt, (s 0 0 1 3), ff, z, ff, z, ff, z]), (a [ff, (s 1 0 1 3), ff, z, ff, (s 2 0 1 3), ff, z])], [([(n 1)], 3), ([(n 1)], 3), ([(n 1)], 3)], (a [tt, (s 3 0 1 3), ff, z]), [([(n 1)], 3)]⟩,
  ⟨[(a [tt, (s 0 0 1 3), ff, z, ff, z, ff, z]), (a [ff, (s 1 0 1 3), ff, z, ff, (s 2 0 1 3), ff, z])], [([(n 1)], 3), ([(n 4)], 3), ([(n 1)], 3)], (a [tt, (s 3 0 1 3), ff, z]), [([(n 4)], 3)]⟩,
  ⟨[(a [tt, (s 0 0 1 3), ff, z, ff, z, ff, z]), (a [ff, (s 1 0 1 3), ff, z, ff, (s 2 0 1 3), ff, z])], [([(n 3)], 3), ([(n 1)], 3), ([(n 1)], 3)], (a [tt, (s 3 0 1 3), ff, z]), [([(n 3)], 3)]⟩,
  ⟨[(a [tt, (s 0 0 1 3), ff, z, ff, z, ff, z]), (a [ff, (s 1 0 1 3), ff, z, ff, (s 2 0 1 3), ff, z])], [([(n 3)], 3), ([(n 1)], 3), ([(n 4)], 3)], (a [tt, (s 3 0 1 3), ff, z]), [([(n 3)], 3)]⟩,
  ⟨[(a [tt, (s 0 0 1 3), ff, z, ff, z, ff, z]), (a [ff, (s 1 0 1 3), ff, z, ff, (s 2 0 1 3), ff, z])], [([(n 3)], 3), ([(n 4)], 3), ([(n 1)], 3)], (a [tt, (s 3 0 1 3), ff, z]), [([(n 12)], 3)]⟩,
  ⟨[(a [tt, (s 0 0 1 3), ff, z, ff, z, ff, z]), (a [ff, (s 1 0 1 3), ff, z, ff, (s 2 0 1 3), ff, z])], [([(n 3)], 3), ([(n 4)], 3), ([(n 4)], 3)], (a [tt, (s 3 0 1 3), ff, z]), [([(n 12)], 3)]⟩,
  ⟨[(a [tt, (s 0 0 1 3), ff, z, ff, z, ff, z]), (a [ff, (s 1 0 1 3), ff, z, ff, z, ff, z])], [([(n 1)], 3), ([(n 1)], 3)], (a [tt, (s 2 0 1 3), ff, z]), [([(n 1)], 3)]⟩,
  ⟨[(a [tt, (s 0 0 1 3), ff, z, ff, z, ff, z]), (a [ff, (s 1 0 1 3), ff, z, ff, z, ff, z])], [([(n 1)], 3), ([(n 4)], 3)], (a [tt, (s 2 0 1 3), ff, z]), [([(n 4)], 3)]⟩,
  ⟨[(a [tt, (s 0 0 1 3), ff, z, ff, z, ff, z]), (a [ff, z, ff, z, ff, (s 1 0 1 3), ff, z])], [([(n 1)], 3), ([(n 1)], 3)], (a [ff, z, ff, z]), []⟩,
  ⟨[(a [tt, (s 0 0 1 3), ff, z, ff, z, ff, z]), (a [ff, z, ff, z, ff, (s 1 0 1 3), ff, z])], [([(n 3)], 3), ([(n 1)], 3)], (a [ff, z, ff, z]), []⟩,
  ⟨[(a [tt, (s 0 0 1 3), ff, z, ff, z, ff, z]), (a [ff, z, ff, z, ff, (s 1 0 1 3), ff, z])], [([(n 3)], 3), ([(n 4)], 3)], (a [ff, z, ff, z]), []⟩,
  ⟨[(a [tt, (s 0 0 1 3), ff, z, ff, z, ff, z]), (a [ff, z, ff, z, ff, z, ff, z])], [([(n 1)], 3)], (a [ff, z, ff, z]), []⟩]

theorem c355 : l355.all (fun e => e.check Tryz.prog (memo T32) 100000 355) = true := by kernel_rfl

def T33 : Memo := (.node (none) (.node (none) (.node (none) (.node (none) (.node (none) (.node (none) .nil (.node (none) (.node (some l159) .nil .nil) .nil)) (.node (none) (.node (none) .nil (.node (some l207) .nil .nil)) .nil)) (.node (none) (.node (none) (.node (some l71) .nil .nil) (.node (none) (.node (some l167) .nil .nil) .nil)) (.node (none) (.node (none) (.node (some l151) .nil .nil) .nil) .nil))) (.node (none) (.node (none) (.node (none) .nil (.node (none) .nil (.node (none) (.node (some l355) .nil .nil) .nil))) (.node (none) (.node (none) .nil (.node (some l211) .nil .nil)) .nil)) (.node (none) (.node (none) .nil (.node (none) (.node (some l171) .nil .nil) .nil)) (.node (none) .nil (.node (some l123) .nil .nil))))) (.node (none) (.node (none) (.node (none) (.node (none) .nil (.node (none) (.node (some l161) .nil .nil) .nil)) (.node (none) (.node (none) .nil (.node (some l209) .nil .nil)) (.node (some l113) .nil .nil))) (.node (none) (.node (none) .nil (.node (none) (.node (some l169) .nil .nil) .nil)) (.node (none) (.node (some l89) .nil .nil) .nil))) (.node (none) (.node (none) (.node (none) .nil (.node (none) (.node (some l165) .nil .nil) .nil)) (.node (none) .nil (.node (some l117) .nil .nil))) (.node (none) (.node (none) .nil (.node (some l109) .nil .nil)) (.node (some l61) .nil .nil))))) (.node (none) (.node (none) (.node (none) (.node (none) (.node (none) .nil (.node (none) (.node (some l160) .nil .nil) .nil)) (.node (none) .nil (.node (some l112) (.node (none) (.node (some l304) .nil .nil) .nil) .nil))) (.node (none) (.node (none) .nil (.node (none) (.node (some l168) .nil .nil) .nil)) .nil)) (.node (none) (.node (none) (.node (none) .nil (.node (none) (.node (some l164) .nil .nil) .nil)) (.node (none) (.node (none) .nil (.node (some l212) .nil .nil)) (.node (some l116) .nil .nil))) (.node (none) (.node (none) .nil (.node (some l108) (.node (some l172) .nil .nil) .nil)) (.node (none) .nil (.node (some l124) .nil .nil))))) (.node (none) (.node (none) (.node (none) .nil (.node (none) (.node (none) .nil (.node (some l210) .nil .nil)) .nil)) (.node (none) (.node (none) .nil (.node (none) (.node (some l170) .nil .nil) .nil)) .nil)) (.node (none) (.node (none) (.node (some l38) .nil (.node (none) (.node (some l166) .nil .nil) .nil)) (.node (none) .nil (.node (some l118) .nil .nil))) .nil))))
theorem ok33 : T33.OK Tryz.prog := Memo.ok_put mixed ok32 rfl c355

/-- Cross -/
def l301 : List Entry := [
  ⟨[(a [ff, (s 0 0 1 3), ff, z, ff, z, ff, z]), (a [ff, (s 1 0 1 3), ff, z, ff, (s 2 0 1 3), ff, z])], [([(n 1)], 3), ([(n 1)], 3), ([(n 1)], 3)], (a [ff, (s 3 0 1 3), ff, z]), [([(n 1)], 3)]⟩,
  ⟨[(a [ff, (s 0 0 1 3), ff, z, ff, z, ff, z]), (a [ff, (s 1 0 1 3), ff, z, ff, (s 2 0 1 3), ff, z])], [([(n 1)], 3), ([(n 1)], 3), ([(n 3)], 3)], (a [ff, (s 3 0 1 3), ff, z]), [([(n 3)], 3)]⟩,
  ⟨[(a [ff, (s 0 0 1 3), ff, z, ff, z, ff, z]), (a [ff, (s 1 0 1 3), ff, z, ff, (s 2 0 1 3), ff, z])], [([(n 3)], 3), ([(n 3)], 3), ([(n 1)], 3)], (a [ff, (s 3 0 1 3), ff, z]), [([(n 3)], 3)]⟩,
  ⟨[(a [ff, (s 0 0 1 3), ff, z, ff, z, ff, z]), (a [ff, (s 1 0 1 3), ff, z, ff, (s 2 0 1 3), ff, z])], [([(n 3)], 3), ([(n 3)], 3), ([(n 3)], 3)], (a [ff, (s 3 0 1 3), ff, z]), [([(n 9)], 3)]⟩,
  ⟨[(a [ff, z, ff, z, ff, (s 0 0 1 3), ff, z]), (a [tt, (s 1 0 1 3), ff, z, ff, (s 2 0 1 3), ff, z])], [([(n 1)], 3), ([(n 1)], 3), ([(n 1)], 3)], (a [ff, (s 3 0 1 3), ff, z]), [([(n 1)], 3)]⟩,
  ⟨[(a [ff, z, ff, z, ff, (s 0 0 1 3), ff, z]), (a [tt, (s 1 0 1 3), ff, z, ff, (s 2 0 1 3), ff, z])], [([(n 1)], 3), ([(n 3)], 3), ([(n 1)], 3)], (a [ff, (s 3 0 1 3), ff, z]), [([(n 3)], 3)]⟩,
  ⟨[(a [ff, z, ff, z, ff, (s 0 0 1 3), ff, z]), (a [tt, (s 1 0 1 3), ff, z, ff, (s 2 0 1 3), ff, z])], [([(n 3)], 3), ([(n 1)], 3), ([(n 3)], 3)], (a [ff, (s 3 0 1 3), ff, z]), [([(n 3)], 3)]⟩,
  ⟨[(a [ff, z, ff, z, ff, (s 0 0 1 3), ff, z]), (a [tt, (s 1 0 1 3), ff, z, ff, (s 2 0 1 3), ff, z])], [([(n 3)], 3), ([(n 3)], 3), ([(n 3)], 3)], (a [ff, (s 3 0 1 3), ff, z]), [([(n 9)], 3)]⟩,
  ⟨[(a [ff, z, ff, z, tt, (s 0 0 1 3), ff, z]), (a [ff, (s 1 0 1 3), ff, z, tt, (s 2 0 1 3), ff, z])], [([(n 1)], 3), ([(n 1)], 3), ([(n 1)], 3)], (a [ff, (s 3 0 1 3), ff, z]), [([(n 1)], 3)]⟩,
  ⟨[(a [ff, z, ff, z, tt, (s 0 0 1 3), ff, z]), (a [ff, (s 1 0 1 3), ff, z, tt, (s 2 0 1 3), ff, z])], [([(n 1)], 3), ([(n 3)], 3), ([(n 1)], 3)], (a [ff, (s 3 0 1 3), ff, z]), [([(n 3)], 3)]⟩,
  ⟨[(a [ff, z, ff, z, tt, (s 0 0 1 3), ff, z]), (a [ff, (s 1 0 1 3), ff, z, tt, (s 2 0 1 3), ff, z])], [([(n 3)], 3), ([(n 1)], 3), ([(n 3)], 3)], (a [ff, (s 3 0 1 3), ff, z]), [([(n 3)], 3)]⟩,
  ⟨[(a [ff, z, ff, z, tt, (s 0 0 1 3), ff, z]), (a [ff, (s 1 0 1 3), ff, z, tt, (s 2 0 1 3), ff, z])], [([(n 3)], 3), ([(n 3)], 3), ([(n 3)], 3)], (a [ff, (s 3 0 1 3), ff, z]), [([(n 9)], 3)]⟩,
  ⟨[(a [tt, (s 0 0 1 3), ff, z, ff, z, ff, z]), (a [tt, (s 1 0 1 3), ff, z, tt, (s 2 0 1 3), ff, z])], [([(n 1)], 3), ([(n 1)], 3), ([(n 1)], 3)], (a [ff, (s 3 0 1 3), ff, z]), [([(n 1)], 3)]⟩,
  ⟨[(a [tt, (s 0 0 1 3), ff, z, ff, z, ff, z]), (a [tt, (s 1 0 1 3), ff, z, tt, (s 2 0 1 3), ff, z])], [([(n 1)], 3), ([(n 1)], 3), ([(n 3)], 3)], (a [ff, (s 3 0 1 3), ff, z]), [([(n 3)], 3)]⟩,
  ⟨[(a [tt, (s 0 0 1 3), ff, z, ff, z, ff, z]), (a [tt, (s 1 0 1 3), ff, z, tt, (s 2 0 1 3), ff, z])], [([(n 3)], 3), ([(n 3)], 3), ([(n 1)], 3)], (a [ff, (s 3 0 1 3), ff, z]), [([(n 3)], 3)]⟩,
  ⟨[(a [tt, (s 0 0 1 3), ff, z, ff, z, ff, z]), (a [tt, (s 1 0 1 3), ff, z, tt, (s 2 0 1 3), ff, z])], [([(n 3)], 3), ([(n 3)], 3), ([(n 3)], 3)], (a [ff, (s 3 0 1 3), ff, z]), [([(n 9)], 3)]⟩]

theorem c301 : l301.all (fun e => e.check Tryz.prog (memo T33) 100000 301) = true := by kernel_rfl

def T34 : Memo := (.node (none) (.node (none) (.node (none) (.node (none) (.node (none) (.node (none) .nil (.node (none) (.node (some l159) .nil .nil) .nil)) (.node (none) (.node (none) .nil (.node (some l207) .nil .nil)) .nil)) (.node (none) (.node (none) (.node (some l71) .nil .nil) (.node (none) (.node (some l167) .nil .nil) .nil)) (.node (none) (.node (none) (.node (some l151) .nil .nil) .nil) .nil))) (.node (none) (.node (none) (.node (none) .nil (.node (none) .nil (.node (none) (.node (some l355) .nil .nil) .nil))) (.node (none) (.node (none) .nil (.node (some l211) .nil .nil)) .nil)) (.node (none) (.node (none) .nil (.node (none) (.node (some l171) .nil .nil) .nil)) (.node (none) .nil (.node (some l123) .nil .nil))))) (.node (none) (.node (none) (.node (none) (.node (none) .nil (.node (none) (.node (some l161) .nil .nil) .nil)) (.node (none) (.node (none) .nil (.node (some l209) .nil .nil)) (.node (some l113) .nil .nil))) (.node (none) (.node (none) .nil (.node (none) (.node (some l169) .nil .nil) .nil)) (.node (none) (.node (some l89) .nil .nil) .nil))) (.node (none) (.node (none) (.node (none) .nil (.node (none) (.node (some l165) .nil .nil) .nil)) (.node (none) .nil (.node (some l117) .nil .nil))) (.node (none) (.node (none) .nil (.node (some l109) (.node (none) (.node (some l301) .nil .nil) .nil) .nil)) (.node (some l61) .nil .nil))))) (.node (none) (.node (none) (.node (none) (.node (none) (.node (none) .nil (.node (none) (.node (some l160) .nil .nil) .nil)) (.node (none) .nil (.node (some l112) (.node (none) (.node (some l304) .nil .nil) .nil) .nil))) (.node (none) (.node (none) .nil (.node (none) (.node (some l168) .nil .nil) .nil)) .nil)) (.node (none) (.node (none) (.node (none) .nil (.node (none) (.node (some l164) .nil .nil) .nil)) (.node (none) (.node (none) .nil (.node (some l212) .nil .nil)) (.node (some l116) .nil .nil))) (.node (none) (.node (none) .nil (.node (some l108) (.node (some l172) .nil .nil) .nil)) (.node (none) .nil (.node (some l124) .nil .nil))))) (.node (none) (.node (none) (.node (none) .nil (.node (none) (.node (none) .nil (.node (some l210) .nil .nil)) .nil)) (.node (none) (.node (none) .nil (.node (none) (.node (some l170) .nil .nil) .nil)) .nil)) (.node (none) (.node (none) (.node (some l38) .nil (.node (none) (.node (some l166) .nil .nil) .nil)) (.node (none) .nil (.node (some l118) .nil .nil))) .nil))))
theorem ok34 : T34.OK Tryz.prog := Memo.ok_put mixed ok33 rfl c301

/-- Side -/
def l204 : List Entry := [
  ⟨[(a [ff, (s 0 0 1 3), ff, z, ff, (s 1 0 1 3), ff, z]), (a [ff, (s 2 0 1 3), ff, z, ff, (s 3 0 1 3), ff, z]), (a [ff, (s 4 0 1 3), ff, z, ff, (s 5 0 1 3), ff, z])], [([(n 1)], 3), ([(n 1)], 3), ([(n 4)], 3), ([(n 1)], 3), ([(n 4)], 3), ([(n 4)], 3)], (n 1), []⟩,
  ⟨[(a [ff, (s 0 0 1 3), ff, z, ff, (s 1 0 1 3), ff, z]), (a [ff, (s 2 0 1 3), ff, z, ff, (s 3 0 1 3), ff, z]), (a [ff, (s 4 0 1 3), ff, z, ff, (s 5 0 1 3), ff, z])], [([(n 1)], 3), ([(n 4)], 3), ([(n 1)], 3), ([(n 1)], 3), ([(n 4)], 3), ([(n 1)], 3)], (n 1), []⟩,
  ⟨[(a [ff, (s 0 0 1 3), ff, z, ff, (s 1 0 1 3), ff, z]), (a [ff, (s 2 0 1 3), ff, z, ff, (s 3 0 1 3), ff, z]), (a [ff, (s 4 0 1 3), ff, z, ff, (s 5 0 1 3), ff, z])], [([(n 4)], 3), ([(n 1)], 3), ([(n 4)], 3), ([(n 4)], 3), ([(n 1)], 3), ([(n 4)], 3)], (n 1), []⟩,
  ⟨[(a [ff, (s 0 0 1 3), ff, z, ff, (s 1 0 1 3), ff, z]), (a [ff, (s 2 0 1 3), ff, z, ff, (s 3 0 1 3), ff, z]), (a [ff, (s 4 0 1 3), ff, z, ff, (s 5 0 1 3), ff, z])], [([(n 4)], 3), ([(n 4)], 3), ([(n 1)], 3), ([(n 4)], 3), ([(n 1)], 3), ([(n 1)], 3)], (n 1), []⟩,
  ⟨[(a [ff, (s 0 0 1 3), ff, z, ff, (s 1 0 1 3), ff, z]), (a [ff, (s 2 0 1 3), ff, z, ff, (s 3 0 1 3), ff, z]), (a [ff, (s 4 0 1 3), ff, z, ff, z, ff, z])], [([(n 4)], 3), ([(n 1)], 3), ([(n 1)], 3), ([(n 1)], 3), ([(n 1)], 3)], (n 1), []⟩,
  ⟨[(a [ff, (s 0 0 1 3), ff, z, ff, (s 1 0 1 3), ff, z]), (a [ff, (s 2 0 1 3), ff, z, ff, (s 3 0 1 3), ff, z]), (a [ff, z, ff, z, ff, (s 4 0 1 3), ff, z])], [([(n 1)], 3), ([(n 1)], 3), ([(n 1)], 3), ([(n 4)], 3), ([(n 4)], 3)], (n 1), []⟩,
  ⟨[(a [ff, (s 0 0 1 3), ff, z, ff, (s 1 0 1 3), ff, z]), (a [ff, (s 2 0 1 3), ff, z, ff, z, ff, z]), (a [ff, (s 3 0 1 3), ff, z, ff, z, ff, z])], [([(n 1)], 3), ([(n 1)], 3), ([(n 1)], 3), ([(n 4)], 3)], (n 1), []⟩,
  ⟨[(a [ff, (s 0 0 1 3), ff, z, ff, (s 1 0 1 3), ff, z]), (a [ff, z, ff, z, ff, (s 2 0 1 3), ff, z]), (a [ff, z, ff, z, ff, (s 3 0 1 3), ff, z])], [([(n 1)], 3), ([(n 4)], 3), ([(n 4)], 3), ([(n 1)], 3)], (n 1), []⟩,
  ⟨[(a [ff, (s 0 0 1 3), ff, z, ff, (s 1 0 1 3), ff, z]), (a [ff, z, ff, z, ff, (s 2 0 1 3), ff, z]), (a [ff, z, ff, z, ff, z, ff, z])], [([(n 1)], 3), ([(n 1)], 3), ([(n 1)], 3)], (n 1), []⟩,
  ⟨[(a [ff, (s 0 0 1 3), ff, z, ff, z, ff, z]), (a [ff, (s 1 0 1 3), ff, z, ff, (s 2 0 1 3), ff, z]), (a [ff, (s 3 0 1 3), ff, z, ff, (s 4 0 1 3), ff, z])], [([(n 4)], 3), ([(n 4)], 3), ([(n 1)], 3), ([(n 1)], 3), ([(n 1)], 3)], (n 1), []⟩,
  ⟨[(a [ff, (s 0 0 1 3), ff, z, ff, z, ff, z]), (a [ff, (s 1 0 1 3), ff, z, ff, (s 2 0 1 3), ff, z]), (a [ff, z, ff, z, ff, (s 3 0 1 3), ff, z])], [([(n 1)], 3), ([(n 1)], 3), ([(n 1)], 3), ([(n 1)], 3)], (n 1), []⟩,
  ⟨[(a [ff, (s 0 0 1 3), ff, z, ff, z, ff, z]), (a [ff, (s 1 0 1 3), ff, z, ff, z, ff, z]), (a [ff, (s 2 0 1 3), ff, z, ff, (s 3 0 1 3), ff, z])], [([(n 1)], 3), ([(n 4)], 3), ([(n 4)], 3), ([(n 1)], 3)], (n 1), []⟩,
  ⟨[(a [ff, z, ff, z, ff, (s 0 0 1 3), ff, z]), (a [ff, (s 1 0 1 3), ff, z, ff, (s 2 0 1 3), ff, z]), (a [ff, (s 3 0 1 3), ff, z, ff, (s 4 0 1 3), ff, z])], [([(n 1)], 3), ([(n 1)], 3), ([(n 1)], 3), ([(n 1)], 3), ([(n 4)], 3)], (n 1), []⟩,
  ⟨[(a [ff, z, ff, z, ff, (s 0 0 1 3), ff, z]), (a [ff, z, ff, z, ff, (s 1 0 1 3), ff, z]), (a [ff, (s 2 0 1 3), ff, z, ff, (s 3 0 1 3), ff, z])], [([(n 4)], 3), ([(n 1)], 3), ([(n 1)], 3), ([(n 1)], 3)], (n 1), []⟩,
  ⟨[(a [ff, z, ff, z, ff, (s 0 0 1 3), ff, z]), (a [ff, z, ff, z, ff, z, ff, z]), (a [ff, (s 1 0 1 3), ff, z, ff, z, ff, z])], [([(n 1)], 3), ([(n 1)], 3)], (n 1), []⟩,
  ⟨[(a [ff, z, ff, z, ff, z, ff, z]), (a [ff, (s 0 0 1 3), ff, z, ff, z, ff, z]), (a [ff, (s 1 0 1 3), ff, z, ff, (s 2 0 1 3), ff, z])], [([(n 1)], 3), ([(n 1)], 3), ([(n 1)], 3)], (n 1), []⟩]

theorem c204 : l204.all (fun e => e.check Tryz.prog (memo T34) 100000 204) = true := by kernel_rfl

def T35 : Memo := (.node (none) (.node (none) (.node (none) (.node (none) (.node (none) (.node (none) .nil (.node (none) (.node (some l159) .nil .nil) .nil)) (.node (none) (.node (none) .nil (.node (some l207) .nil .nil)) .nil)) (.node (none) (.node (none) (.node (some l71) .nil .nil) (.node (none) (.node (some l167) .nil .nil) .nil)) (.node (none) (.node (none) (.node (some l151) .nil .nil) .nil) .nil))) (.node (none) (.node (none) (.node (none) .nil (.node (none) .nil (.node (none) (.node (some l355) .nil .nil) .nil))) (.node (none) (.node (none) .nil (.node (some l211) .nil .nil)) .nil)) (.node (none) (.node (none) .nil (.node (none) (.node (some l171) .nil .nil) .nil)) (.node (none) .nil (.node (some l123) .nil .nil))))) (.node (none) (.node (none) (.node (none) (.node (none) .nil (.node (none) (.node (some l161) .nil .nil) .nil)) (.node (none) (.node (none) .nil (.node (some l209) .nil .nil)) (.node (some l113) .nil .nil))) (.node (none) (.node (none) .nil (.node (none) (.node (some l169) .nil .nil) .nil)) (.node (none) (.node (some l89) .nil .nil) .nil))) (.node (none) (.node (none) (.node (none) .nil (.node (none) (.node (some l165) .nil .nil) .nil)) (.node (none) .nil (.node (some l117) .nil .nil))) (.node (none) (.node (none) .nil (.node (some l109) (.node (none) (.node (some l301) .nil .nil) .nil) .nil)) (.node (some l61) .nil .nil))))) (.node (none) (.node (none) (.node (none) (.node (none) (.node (none) .nil (.node (none) (.node (some l160) .nil .nil) .nil)) (.node (none) .nil (.node (some l112) (.node (none) (.node (some l304) .nil .nil) .nil) .nil))) (.node (none) (.node (none) .nil (.node (none) (.node (some l168) .nil .nil) .nil)) .nil)) (.node (none) (.node (none) (.node (none) .nil (.node (none) (.node (some l164) .nil .nil) .nil)) (.node (none) (.node (none) .nil (.node (some l212) .nil .nil)) (.node (some l116) .nil .nil))) (.node (none) (.node (none) (.node (none) .nil (.node (some l204) .nil .nil)) (.node (some l108) (.node (some l172) .nil .nil) .nil)) (.node (none) .nil (.node (some l124) .nil .nil))))) (.node (none) (.node (none) (.node (none) .nil (.node (none) (.node (none) .nil (.node (some l210) .nil .nil)) .nil)) (.node (none) (.node (none) .nil (.node (none) (.node (some l170) .nil .nil) .nil)) .nil)) (.node (none) (.node (none) (.node (some l38) .nil (.node (none) (.node (some l166) .nil .nil) .nil)) (.node (none) .nil (.node (some l118) .nil .nil))) .nil))))
theorem ok35 : T35.OK Tryz.prog := Memo.ok_put mixed ok34 rfl c204

/-- Still -/
def l69 : List Entry := [
  ⟨[], [], (a [ff, (s 0 0 1 3), ff, z, ff, z, ff, z]), [([(n 1)], 3)]⟩]

theorem c69 : l69.all (fun e => e.check Tryz.prog (memo T35) 100000 69) = true := by kernel_rfl

def T36 : Memo := (.node (none) (.node (none) (.node (none) (.node (none) (.node (none) (.node (none) .nil (.node (none) (.node (some l159) .nil .nil) .nil)) (.node (none) (.node (none) .nil (.node (some l207) .nil .nil)) .nil)) (.node (none) (.node (none) (.node (some l71) .nil .nil) (.node (none) (.node (some l167) .nil .nil) .nil)) (.node (none) (.node (none) (.node (some l151) .nil .nil) .nil) .nil))) (.node (none) (.node (none) (.node (none) .nil (.node (none) .nil (.node (none) (.node (some l355) .nil .nil) .nil))) (.node (none) (.node (none) .nil (.node (some l211) .nil .nil)) .nil)) (.node (none) (.node (none) .nil (.node (none) (.node (some l171) .nil .nil) .nil)) (.node (none) .nil (.node (some l123) .nil .nil))))) (.node (none) (.node (none) (.node (none) (.node (none) .nil (.node (none) (.node (some l161) .nil .nil) .nil)) (.node (none) (.node (none) .nil (.node (some l209) .nil .nil)) (.node (some l113) .nil .nil))) (.node (none) (.node (none) .nil (.node (none) (.node (some l169) .nil .nil) .nil)) (.node (none) (.node (some l89) .nil .nil) .nil))) (.node (none) (.node (none) (.node (none) (.node (some l69) .nil .nil) (.node (none) (.node (some l165) .nil .nil) .nil)) (.node (none) .nil (.node (some l117) .nil .nil))) (.node (none) (.node (none) .nil (.node (some l109) (.node (none) (.node (some l301) .nil .nil) .nil) .nil)) (.node (some l61) .nil .nil))))) (.node (none) (.node (none) (.node (none) (.node (none) (.node (none) .nil (.node (none) (.node (some l160) .nil .nil) .nil)) (.node (none) .nil (.node (some l112) (.node (none) (.node (some l304) .nil .nil) .nil) .nil))) (.node (none) (.node (none) .nil (.node (none) (.node (some l168) .nil .nil) .nil)) .nil)) (.node (none) (.node (none) (.node (none) .nil (.node (none) (.node (some l164) .nil .nil) .nil)) (.node (none) (.node (none) .nil (.node (some l212) .nil .nil)) (.node (some l116) .nil .nil))) (.node (none) (.node (none) (.node (none) .nil (.node (some l204) .nil .nil)) (.node (some l108) (.node (some l172) .nil .nil) .nil)) (.node (none) .nil (.node (some l124) .nil .nil))))) (.node (none) (.node (none) (.node (none) .nil (.node (none) (.node (none) .nil (.node (some l210) .nil .nil)) .nil)) (.node (none) (.node (none) .nil (.node (none) (.node (some l170) .nil .nil) .nil)) .nil)) (.node (none) (.node (none) (.node (some l38) .nil (.node (none) (.node (some l166) .nil .nil) .nil)) (.node (none) .nil (.node (some l118) .nil .nil))) .nil))))
theorem ok36 : T36.OK Tryz.prog := Memo.ok_put mixed ok35 rfl c69

/-- Valid -/
def l120 : List Entry := [
  ⟨[(a [ff, (s 0 0 1 3), ff, z, ff, z, ff, z])], [([(n 1)], 3)], tt, []⟩]

theorem c120 : l120.all (fun e => e.check Tryz.prog (memo T36) 100000 120) = true := by kernel_rfl

def T37 : Memo := (.node (none) (.node (none) (.node (none) (.node (none) (.node (none) (.node (none) .nil (.node (none) (.node (some l159) .nil .nil) .nil)) (.node (none) (.node (none) .nil (.node (some l207) .nil .nil)) .nil)) (.node (none) (.node (none) (.node (some l71) .nil .nil) (.node (none) (.node (some l167) .nil .nil) .nil)) (.node (none) (.node (none) (.node (some l151) .nil .nil) .nil) .nil))) (.node (none) (.node (none) (.node (none) .nil (.node (none) .nil (.node (none) (.node (some l355) .nil .nil) .nil))) (.node (none) (.node (none) .nil (.node (some l211) .nil .nil)) .nil)) (.node (none) (.node (none) .nil (.node (none) (.node (some l171) .nil .nil) .nil)) (.node (none) .nil (.node (some l123) .nil .nil))))) (.node (none) (.node (none) (.node (none) (.node (none) .nil (.node (none) (.node (some l161) .nil .nil) .nil)) (.node (none) (.node (none) .nil (.node (some l209) .nil .nil)) (.node (some l113) .nil .nil))) (.node (none) (.node (none) .nil (.node (none) (.node (some l169) .nil .nil) .nil)) (.node (none) (.node (some l89) .nil .nil) .nil))) (.node (none) (.node (none) (.node (none) (.node (some l69) .nil .nil) (.node (none) (.node (some l165) .nil .nil) .nil)) (.node (none) .nil (.node (some l117) .nil .nil))) (.node (none) (.node (none) .nil (.node (some l109) (.node (none) (.node (some l301) .nil .nil) .nil) .nil)) (.node (some l61) .nil .nil))))) (.node (none) (.node (none) (.node (none) (.node (none) (.node (none) .nil (.node (none) (.node (some l160) .nil .nil) .nil)) (.node (none) .nil (.node (some l112) (.node (none) (.node (some l304) .nil .nil) .nil) .nil))) (.node (none) (.node (none) .nil (.node (none) (.node (some l168) .nil .nil) .nil)) (.node (none) .nil (.node (some l120) .nil .nil)))) (.node (none) (.node (none) (.node (none) .nil (.node (none) (.node (some l164) .nil .nil) .nil)) (.node (none) (.node (none) .nil (.node (some l212) .nil .nil)) (.node (some l116) .nil .nil))) (.node (none) (.node (none) (.node (none) .nil (.node (some l204) .nil .nil)) (.node (some l108) (.node (some l172) .nil .nil) .nil)) (.node (none) .nil (.node (some l124) .nil .nil))))) (.node (none) (.node (none) (.node (none) .nil (.node (none) (.node (none) .nil (.node (some l210) .nil .nil)) .nil)) (.node (none) (.node (none) .nil (.node (none) (.node (some l170) .nil .nil) .nil)) .nil)) (.node (none) (.node (none) (.node (some l38) .nil (.node (none) (.node (some l166) .nil .nil) .nil)) (.node (none) .nil (.node (some l118) .nil .nil))) .nil))))
theorem ok37 : T37.OK Tryz.prog := Memo.ok_put mixed ok36 rfl c120

/-- Rotate -/
def l110 : List Entry := [
  ⟨[(a [ff, (s 0 0 1 3), ff, z, ff, z, ff, z]), (a [ff, z, ff, z, ff, z, ff, z])], [([(n 1)], 3)], (a [ff, z, ff, z, ff, z, ff, z]), []⟩,
  ⟨[(a [ff, (s 0 0 1 3), ff, z, ff, z, ff, z]), (a [tt, (s 1 0 1 3), ff, z, tt, (s 2 0 1 3), ff, z])], [([(n 1)], 3), ([(n 3)], 3), ([(n 3)], 3)], (a [tt, (s 3 0 1 3), ff, z, tt, (s 4 0 1 3), ff, z]), [([(n 3)], 3), ([(n 3)], 3)]⟩,
  ⟨[(a [ff, (s 0 0 1 3), ff, z, ff, z, ff, z]), (a [tt, (s 1 0 1 3), ff, z, tt, (s 2 0 1 3), ff, z])], [([(n 1)], 3), ([(n 3)], 3), ([(n 4)], 3)], (a [tt, (s 3 0 1 3), ff, z, tt, (s 4 0 1 3), ff, z]), [([(n 3)], 3), ([(n 4)], 3)]⟩,
  ⟨[(a [ff, (s 0 0 1 3), ff, z, ff, z, ff, z]), (a [tt, (s 1 0 1 3), ff, z, tt, (s 2 0 1 3), ff, z])], [([(n 1)], 3), ([(n 4)], 3), ([(n 4)], 3)], (a [tt, (s 3 0 1 3), ff, z, tt, (s 4 0 1 3), ff, z]), [([(n 4)], 3), ([(n 4)], 3)]⟩]

theorem c110 : l110.all (fun e => e.check Tryz.prog (memo T37) 100000 110) = true := by kernel_rfl

def T38 : Memo := (.node (none) (.node (none) (.node (none) (.node (none) (.node (none) (.node (none) .nil (.node (none) (.node (some l159) .nil .nil) .nil)) (.node (none) (.node (none) .nil (.node (some l207) .nil .nil)) .nil)) (.node (none) (.node (none) (.node (some l71) .nil .nil) (.node (none) (.node (some l167) .nil .nil) .nil)) (.node (none) (.node (none) (.node (some l151) .nil .nil) .nil) .nil))) (.node (none) (.node (none) (.node (none) .nil (.node (none) .nil (.node (none) (.node (some l355) .nil .nil) .nil))) (.node (none) (.node (none) .nil (.node (some l211) .nil .nil)) .nil)) (.node (none) (.node (none) .nil (.node (none) (.node (some l171) .nil .nil) .nil)) (.node (none) .nil (.node (some l123) .nil .nil))))) (.node (none) (.node (none) (.node (none) (.node (none) .nil (.node (none) (.node (some l161) .nil .nil) .nil)) (.node (none) (.node (none) .nil (.node (some l209) .nil .nil)) (.node (some l113) .nil .nil))) (.node (none) (.node (none) .nil (.node (none) (.node (some l169) .nil .nil) .nil)) (.node (none) (.node (some l89) .nil .nil) .nil))) (.node (none) (.node (none) (.node (none) (.node (some l69) .nil .nil) (.node (none) (.node (some l165) .nil .nil) .nil)) (.node (none) .nil (.node (some l117) .nil .nil))) (.node (none) (.node (none) .nil (.node (some l109) (.node (none) (.node (some l301) .nil .nil) .nil) .nil)) (.node (some l61) .nil .nil))))) (.node (none) (.node (none) (.node (none) (.node (none) (.node (none) .nil (.node (none) (.node (some l160) .nil .nil) .nil)) (.node (none) .nil (.node (some l112) (.node (none) (.node (some l304) .nil .nil) .nil) .nil))) (.node (none) (.node (none) .nil (.node (none) (.node (some l168) .nil .nil) .nil)) (.node (none) .nil (.node (some l120) .nil .nil)))) (.node (none) (.node (none) (.node (none) .nil (.node (none) (.node (some l164) .nil .nil) .nil)) (.node (none) (.node (none) .nil (.node (some l212) .nil .nil)) (.node (some l116) .nil .nil))) (.node (none) (.node (none) (.node (none) .nil (.node (some l204) .nil .nil)) (.node (some l108) (.node (some l172) .nil .nil) .nil)) (.node (none) .nil (.node (some l124) .nil .nil))))) (.node (none) (.node (none) (.node (none) .nil (.node (none) (.node (none) .nil (.node (some l210) .nil .nil)) .nil)) (.node (none) (.node (none) .nil (.node (none) (.node (some l170) .nil .nil) .nil)) .nil)) (.node (none) (.node (none) (.node (some l38) .nil (.node (none) (.node (some l166) .nil .nil) .nil)) (.node (none) .nil (.node (some l118) .nil .nil))) (.node (none) (.node (none) .nil (.node (some l110) .nil .nil)) .nil)))))
theorem ok38 : T38.OK Tryz.prog := Memo.ok_put mixed ok37 rfl c110

/-- Back -/
def l163 : List Entry := [
  ⟨[(a [ff, (s 0 0 1 3), ff, z, ff, z, ff, z])], [([(n 1)], 3)], (a [ff, (s 0 0 1 3), ff, z, ff, z, ff, z]), []⟩]

theorem c163 : l163.all (fun e => e.check Tryz.prog (memo T38) 100000 163) = true := by kernel_rfl

def T39 : Memo := (.node (none) (.node (none) (.node (none) (.node (none) (.node (none) (.node (none) .nil (.node (none) (.node (some l159) .nil .nil) .nil)) (.node (none) (.node (none) .nil (.node (some l207) .nil .nil)) .nil)) (.node (none) (.node (none) (.node (some l71) .nil .nil) (.node (none) (.node (some l167) .nil .nil) .nil)) (.node (none) (.node (none) (.node (some l151) .nil .nil) .nil) .nil))) (.node (none) (.node (none) (.node (none) .nil (.node (none) (.node (some l163) .nil .nil) (.node (none) (.node (some l355) .nil .nil) .nil))) (.node (none) (.node (none) .nil (.node (some l211) .nil .nil)) .nil)) (.node (none) (.node (none) .nil (.node (none) (.node (some l171) .nil .nil) .nil)) (.node (none) .nil (.node (some l123) .nil .nil))))) (.node (none) (.node (none) (.node (none) (.node (none) .nil (.node (none) (.node (some l161) .nil .nil) .nil)) (.node (none) (.node (none) .nil (.node (some l209) .nil .nil)) (.node (some l113) .nil .nil))) (.node (none) (.node (none) .nil (.node (none) (.node (some l169) .nil .nil) .nil)) (.node (none) (.node (some l89) .nil .nil) .nil))) (.node (none) (.node (none) (.node (none) (.node (some l69) .nil .nil) (.node (none) (.node (some l165) .nil .nil) .nil)) (.node (none) .nil (.node (some l117) .nil .nil))) (.node (none) (.node (none) .nil (.node (some l109) (.node (none) (.node (some l301) .nil .nil) .nil) .nil)) (.node (some l61) .nil .nil))))) (.node (none) (.node (none) (.node (none) (.node (none) (.node (none) .nil (.node (none) (.node (some l160) .nil .nil) .nil)) (.node (none) .nil (.node (some l112) (.node (none) (.node (some l304) .nil .nil) .nil) .nil))) (.node (none) (.node (none) .nil (.node (none) (.node (some l168) .nil .nil) .nil)) (.node (none) .nil (.node (some l120) .nil .nil)))) (.node (none) (.node (none) (.node (none) .nil (.node (none) (.node (some l164) .nil .nil) .nil)) (.node (none) (.node (none) .nil (.node (some l212) .nil .nil)) (.node (some l116) .nil .nil))) (.node (none) (.node (none) (.node (none) .nil (.node (some l204) .nil .nil)) (.node (some l108) (.node (some l172) .nil .nil) .nil)) (.node (none) .nil (.node (some l124) .nil .nil))))) (.node (none) (.node (none) (.node (none) .nil (.node (none) (.node (none) .nil (.node (some l210) .nil .nil)) .nil)) (.node (none) (.node (none) .nil (.node (none) (.node (some l170) .nil .nil) .nil)) .nil)) (.node (none) (.node (none) (.node (some l38) .nil (.node (none) (.node (some l166) .nil .nil) .nil)) (.node (none) .nil (.node (some l118) .nil .nil))) (.node (none) (.node (none) .nil (.node (some l110) .nil .nil)) .nil)))))
theorem ok39 : T39.OK Tryz.prog := Memo.ok_put mixed ok38 rfl c163

/-- After -/
def l162 : List Entry := [
  ⟨[(a [ff, (s 0 0 1 3), ff, z, ff, z, ff, z]), (a [ff, (s 1 0 1 3), ff, z, ff, z, ff, z])], [([(n 1)], 3), ([(n 1)], 3)], (a [ff, (s 2 0 1 3), ff, z, ff, z, ff, z]), [([(n 1)], 3)]⟩]

theorem c162 : l162.all (fun e => e.check Tryz.prog (memo T39) 100000 162) = true := by kernel_rfl

def T40 : Memo := (.node (none) (.node (none) (.node (none) (.node (none) (.node (none) (.node (none) .nil (.node (none) (.node (some l159) .nil .nil) .nil)) (.node (none) (.node (none) .nil (.node (some l207) .nil .nil)) .nil)) (.node (none) (.node (none) (.node (some l71) .nil .nil) (.node (none) (.node (some l167) .nil .nil) .nil)) (.node (none) (.node (none) (.node (some l151) .nil .nil) .nil) .nil))) (.node (none) (.node (none) (.node (none) .nil (.node (none) (.node (some l163) .nil .nil) (.node (none) (.node (some l355) .nil .nil) .nil))) (.node (none) (.node (none) .nil (.node (some l211) .nil .nil)) .nil)) (.node (none) (.node (none) .nil (.node (none) (.node (some l171) .nil .nil) .nil)) (.node (none) .nil (.node (some l123) .nil .nil))))) (.node (none) (.node (none) (.node (none) (.node (none) .nil (.node (none) (.node (some l161) .nil .nil) .nil)) (.node (none) (.node (none) .nil (.node (some l209) .nil .nil)) (.node (some l113) .nil .nil))) (.node (none) (.node (none) .nil (.node (none) (.node (some l169) .nil .nil) .nil)) (.node (none) (.node (some l89) .nil .nil) .nil))) (.node (none) (.node (none) (.node (none) (.node (some l69) .nil .nil) (.node (none) (.node (some l165) .nil .nil) .nil)) (.node (none) .nil (.node (some l117) .nil .nil))) (.node (none) (.node (none) .nil (.node (some l109) (.node (none) (.node (some l301) .nil .nil) .nil) .nil)) (.node (some l61) .nil .nil))))) (.node (none) (.node (none) (.node (none) (.node (none) (.node (none) .nil (.node (none) (.node (some l160) .nil .nil) .nil)) (.node (none) .nil (.node (some l112) (.node (none) (.node (some l304) .nil .nil) .nil) .nil))) (.node (none) (.node (none) .nil (.node (none) (.node (some l168) .nil .nil) .nil)) (.node (none) .nil (.node (some l120) .nil .nil)))) (.node (none) (.node (none) (.node (none) .nil (.node (none) (.node (some l164) .nil .nil) .nil)) (.node (none) (.node (none) .nil (.node (some l212) .nil .nil)) (.node (some l116) .nil .nil))) (.node (none) (.node (none) (.node (none) .nil (.node (some l204) .nil .nil)) (.node (some l108) (.node (some l172) .nil .nil) .nil)) (.node (none) .nil (.node (some l124) .nil .nil))))) (.node (none) (.node (none) (.node (none) (.node (none) .nil (.node (none) (.node (some l162) .nil .nil) .nil)) (.node (none) (.node (none) .nil (.node (some l210) .nil .nil)) .nil)) (.node (none) (.node (none) .nil (.node (none) (.node (some l170) .nil .nil) .nil)) .nil)) (.node (none) (.node (none) (.node (some l38) .nil (.node (none) (.node (some l166) .nil .nil) .nil)) (.node (none) .nil (.node (some l118) .nil .nil))) (.node (none) (.node (none) .nil (.node (some l110) .nil .nil)) .nil)))))
theorem ok40 : T40.OK Tryz.prog := Memo.ok_put mixed ok39 rfl c162

end Tab
end Go.Proofs.YtdejleegamcioaaGreat

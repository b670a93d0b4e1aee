/- Plain functions on numbers and lists: what the package models computes. No program in sight. -/
import GoSem.Core.Value
namespace Go.Proofs.YtempdomhbfokmaaGreatDoor

/-- int(int32(n)) -/
def wr (n : Int) : Int := (n + 2147483648) % 4294967296 - 2147483648
theorem wr_range (n : Int) : -2147483648 ≤ wr n ∧ wr n ≤ 2147483647 := by unfold wr; omega
theorem wr_of (n : Int) (h : -2147483648 ≤ n ∧ n ≤ 2147483647) : wr n = n := by unfold wr; omega
def word (n : Int) : Prop := -2147483648 ≤ n ∧ n ≤ 2147483647

/-- A model: its numbers and lists. -/
structure Model where
  kind : Int
  vocab : Nat
  width : Nat
  top : Nat
  cuts : List Int
  embed : List Int
  place : List Int
  mix : List Int
  out : List Int
  soft : List Int
  odds : List Int

def inRange (lo hi : Int) (l : List Int) : Prop := ∀ x ∈ l, lo ≤ x ∧ x ≤ hi

/-- What Check asks. -/
structure Model.Ok (m : Model) : Prop where
  kind : 1 ≤ m.kind ∧ m.kind ≤ 3
  vocab : 2 ≤ m.vocab ∧ m.vocab ≤ 16
  width : 1 ≤ m.width ∧ m.width ≤ 5
  top : 1 ≤ m.top ∧ m.top ≤ m.vocab
  attend : m.kind = 1 → m.mix.length = 3 * m.width * m.width
  cell : m.kind = 2 → m.mix.length = 2 * m.width * m.width
  conv : m.kind = 3 → ∃ t, 1 ≤ t ∧ t ≤ 4 ∧ m.mix.length = t * (m.width * m.width)
  lcuts : m.cuts.length = 4
  lembed : m.embed.length = m.vocab * m.width
  lout : m.out.length = m.vocab * m.width
  lplace : ∃ t, 1 ≤ t ∧ t ≤ 16 ∧ m.place.length = t * m.width
  lsoft : 1 ≤ m.soft.length ∧ m.soft.length ≤ 64
  lodds : 1 ≤ m.odds.length ∧ m.odds.length ≤ 64
  cuts : inRange 1 15 m.cuts
  embed : inRange (-128) 127 m.embed
  place : inRange (-128) 127 m.place
  mix : inRange (-128) 127 m.mix
  out : inRange (-128) 127 m.out
  soft : inRange 0 1000 m.soft
  odds : inRange 0 1000 m.odds
  odds0 : m.odds.getD 0 0 ≠ 0

/-- (n + 1<<(by-1)) >> by -/
def shiftF (n c : Int) : Int := (n + 2 ^ (c - 1).toNat) / 2 ^ c.toNat
def rowF (l : List Int) (i w : Nat) : List Int := (l.drop (i * w)).take w
def dotF (a b : List Int) : Int := (List.zip a b).foldl (fun s p => wr (s + wr (p.1 * p.2))) 0
def addRow (x y : List Int) : List Int := List.zipWith (fun a b => wr (a + b)) x y
def Model.matrix (m : Model) (k : Nat) : List Int := rowF m.mix k (m.width * m.width)
def Model.cut (m : Model) (k : Nat) : Int := m.cuts.getD k 0
def Model.rows (m : Model) : Nat := m.place.length / m.width
def Model.x (m : Model) (t i : Nat) : List Int := addRow (rowF m.embed t m.width) (rowF m.place (i % m.rows) m.width)
/-- the entry of token t at place i -/
def Model.entry (m : Model) (t i : Nat) : List Int :=
  if m.kind = 1 then (List.range 3).flatMap fun k => (List.range m.width).map fun o => shiftF (dotF (rowF (m.matrix k) o m.width) (m.x t i)) (m.cut 0)
  else m.x t i
def Model.len (m : Model) : Nat := if m.kind = 1 then 3 * m.width else m.width
end Go.Proofs.YtempdomhbfokmaaGreatDoor

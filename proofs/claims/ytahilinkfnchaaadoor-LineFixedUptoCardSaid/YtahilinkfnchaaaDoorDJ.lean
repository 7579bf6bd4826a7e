/- Desk: commands as lines, plain; the signs of a command's fields. -/
import Derived.Test.YtahilinkfnchaaaDoorDH
import Derived.Laws.RangeString
set_option linter.unusedVariables false
set_option linter.unusedSimpArgs false
namespace Go.Proofs.YtahilinkfnchaaaDoor.T
open Go Go.RowKit Go.Proofs
set_option maxRecDepth 10000

structure Com where
  kind : Int
  name : ByteArray
  other : ByteArray
  off : Int
  count : Int
  drive : Int
  keep : Int
  data : List UInt8
def noCom : Com := ⟨0, nE, nE, 0, 0, 0, 0, []⟩
def comV (c : Com) (da : Option (Nat × Nat)) (dc : Option Nat) : List AV := [.int .i64 c.kind, .str c.name, .str c.other, .int .i64 c.off, .int .i64 c.count, .int .i64 c.drive, .int .i64 c.keep, .slice da (ob c.data).length dc]
def tabW : List (List UInt8 × List UInt8) := [([99, 114, 101, 97, 116, 101], [110]), ([115, 116, 111, 114, 101], [110, 102, 120]), ([102, 101, 116, 99, 104], [110, 102, 99]), ([99, 117, 116], [110, 99]), ([114, 101, 109, 111, 118, 101], [110]), ([108, 105, 115, 116], []),
  ([115, 110, 97, 112], [111]), ([108, 111, 111, 107], [111, 110, 102, 99]), ([98, 97, 99, 107], [111]), ([117, 110, 115, 110, 97, 112], [111]), ([115, 110, 97, 112, 115], []), ([115, 121, 110, 99], []),
  ([112, 111, 119, 101, 114], [107]), ([112, 111, 119, 101, 114, 115, 121, 110, 99], [99, 107]), ([98, 114, 101, 97, 107], [100, 102]), ([102, 97, 105, 108], [100]), ([114, 101, 110, 101, 119], [100]), ([104, 101, 97, 108], []), ([112, 111, 119, 101, 114, 104, 101, 97, 108], [99, 107])]
def sigW (k : Nat) : List UInt8 := (tabW.getD k ([], [])).2
def wordW (k : Nat) : List UInt8 := (tabW.getD k ([], [])).1
def isSign (s : UInt8) : Prop := s = 110 ∨ s = 111 ∨ s = 102 ∨ s = 99 ∨ s = 100 ∨ s = 107 ∨ s = 120
instance (s : UInt8) : Decidable (isSign s) := by unfold isSign; exact inferInstance
theorem sig_ok : ∀ p ∈ tabW, ∀ s ∈ p.2, isSign s := by decide
theorem sig_sign {k : Nat} {s : UInt8} (h : s ∈ sigW k) : isSign s := by
  unfold sigW at h
  by_cases hk : k < tabW.length
  · rw [List.getD_eq_getElem?_getD, List.getElem?_eq_getElem hk] at h
    exact sig_ok _ (List.getElem_mem hk) s h
  · rw [List.getD_eq_getElem?_getD, List.getElem?_eq_none (by omega)] at h
    cases h

/-- One field told: its word, and the command without it. -/
def showS (s : UInt8) (c : Com) : Option (List UInt8 × Com) :=
  if s = 110 then (if goodName c.name = true then some (c.name.data.toList, { c with name := nE }) else none)
  else if s = 111 then (if goodName c.other = true then some (c.other.data.toList, { c with other := nE }) else none)
  else if s = 102 then some (Lib.itoa c.off, { c with off := 0 })
  else if s = 99 then some (Lib.itoa c.count, { c with count := 0 })
  else if s = 100 then some (Lib.itoa c.drive, { c with drive := 0 })
  else if s = 107 then some (Lib.itoa c.keep, { c with keep := 0 })
  else some (hexL c.data, { c with data := [] })
def showL : List UInt8 → Com → Option (List (List UInt8) × Com)
  | [], c => some ([], c)
  | s :: l, c => (showS s c).bind fun q => (showL l q.2).bind fun r => some (q.1 :: r.1, r.2)
def Com.bare (c : Com) : Prop := c.name = nE ∧ c.other = nE ∧ c.off = 0 ∧ c.count = 0 ∧ c.drive = 0 ∧ c.keep = 0 ∧ c.data = []
/-- The words of a command. -/
def ShowP (c : Com) (ws : List (List UInt8)) : Prop := 1 ≤ c.kind ∧ c.kind ≤ 19 ∧ ∃ ps c', showL (sigW (c.kind - 1).toNat) c = some (ps, c') ∧ c'.bare ∧ ws = wordW (c.kind - 1).toNat :: ps
/-- One field read. -/
def readS (s : UInt8) (w : List UInt8) (c : Com) : Com × Bool :=
  if s = 110 then ({ c with name := B w }, goodName (B w))
  else if s = 111 then ({ c with other := B w }, goodName (B w))
  else if s = 102 then ({ c with off := (numL w).1 }, (numL w).2)
  else if s = 99 then ({ c with count := (numL w).1 }, (numL w).2)
  else if s = 100 then ({ c with drive := (numL w).1 }, (numL w).2)
  else if s = 107 then ({ c with keep := (numL w).1 }, (numL w).2)
  else ({ c with data := (unhexL w).getD [] }, (unhexL w).isSome)
def readL : List UInt8 → List (List UInt8) → Com → Bool → Com × Bool
  | [], _, c, ok => (c, ok)
  | s :: l, ws, c, ok => readL l (ws.drop 1) (readS s (ws.getD 0 []) c).1 (ok && (readS s (ws.getD 0 []) c).2)
def kindI (w : List UInt8) : Option Nat := tabW.findIdx? fun p => p.1 == w
def readP (l : List UInt8) : Option Com := match kindI ((cutW l).getD 0 []) with
  | none => none
  | some k => if (cutW l).length ≠ (sigW k).length + 1 then none else
    (if (readL (sigW k) ((cutW l).drop 1) { noCom with kind := 1 + k } true).2 = true then some (readL (sigW k) ((cutW l).drop 1) { noCom with kind := 1 + k } true).1 else none)

/-! ### the signs -/
def fo (s : UInt8) : Nat := if s = 110 then 1 else if s = 111 then 2 else if s = 102 then 3 else if s = 99 then 4 else if s = 100 then 5 else if s = 107 then 6 else 7
theorem field_spec {n : Nat} (hn : 1 ≤ n) (Y : YldF) {s : UInt8} (hs : isSign s) (i : Nat) (h : AHeap) (nx : Nat) :
    ∃ nx', nx ≤ nx' ∧ callP Tryd.prog keepT n Y 28 [.ptr (some (i, 0)), .int .i32 ((s.toNat : Nat) : Int)] h nx = some (.tuple [.ptr (if s = 110 ∨ s = 111 then some (i, fo s) else none), .ptr (if s = 102 ∨ s = 99 ∨ s = 100 ∨ s = 107 then some (i, fo s) else none), .ptr (if s = 120 then some (i, fo s) else none)], h, nx') := by
  obtain ⟨n, rfl⟩ : ∃ m, n = m + 1 := ⟨n - 1, by omega⟩
  rw [F28_eq]
  rcases hs with rfl | rfl | rfl | rfl | rfl | rfl | rfl
  all_goals exact ⟨_, by omega, rfl⟩
theorem word_sign {sg : List UInt8} (hsg : ∀ s ∈ sg, isSign s) {pos : Nat} (hp : pos < sg.length) : Utf8.decode (B sg) pos = ((sg[pos]'hp).toNat, 1) := by
  have hlt : (sg[pos]'hp).toNat < 128 := by
    rcases hsg _ (List.getElem_mem hp) with h | h | h | h | h | h | h <;> rw [h] <;> decide
  have hb : pos < (B sg).size := by rw [B_size]; exact hp
  have e : (B sg)[pos]'hb = sg[pos]'hp := by simp [B]; rfl
  rw [decode_ascii (B sg) pos hb (by rw [e]; exact hlt), e]
end Go.Proofs.YtahilinkfnchaaaDoor.T

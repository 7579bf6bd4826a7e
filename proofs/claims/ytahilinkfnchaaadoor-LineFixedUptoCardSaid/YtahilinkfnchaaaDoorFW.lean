/- Desk: the world at the start: what the row's list of variables gives. -/
import Derived.Test.YtahilinkfnchaaaDoorRows
import Derived.Lib.LaidTab
import Derived.Stop.LaidErr
import Derived.MakeChecks
import Derived.LaidLaws
import Derived.Test.YtahilinkfnchaaaDoorTI
import Derived.Test.YtahilinkfnchaaaDoorFH
set_option linter.unusedVariables false
set_option linter.unusedSimpArgs false
namespace Go.Proofs.YtahilinkfnchaaaDoor.T
open Go Go.RowKit Go.Proofs
open Go.Proofs.YtahilinkfnchaaaDoor (Rows.laid_math_bits_deBruijn32tab Rows.laid_math_bits_deBruijn64tab Rows.laid_internal_strconv_uint64pow10 Rows.laid_unicode_utf8_acceptRanges Rows.laid_strconv_ErrRange Rows.laid_strconv_ErrSyntax Rows.laid_quickset_desk_words Rows.laid_unicode_utf8_first Rows.uptoBulk Rows.uptoBulkAll Rows.uptoSmall)
set_option maxRecDepth 100000

theorem star127 : "*" ++ "errors.errorString" = "*errors.errorString" := by decide
theorem row127 (u : TypeId) (h : Tryd.prog.typeName? 3 u = some "*errors.errorString") : u = 127 :=
  typeName_ptr_named (nm := "errors.errorString") (by rw [star127]; kernel_rfl) (by kernel_rfl) (by decide) u (by rw [star127]; exact h)
abbrev sixLaid : List (String × DataW Unit) := [("math/bits.deBruijn32tab", Rows.laid_math_bits_deBruijn32tab), ("math/bits.deBruijn64tab", Rows.laid_math_bits_deBruijn64tab), ("internal/strconv.uint64pow10", Rows.laid_internal_strconv_uint64pow10), ("unicode/utf8.acceptRanges", Rows.laid_unicode_utf8_acceptRanges), ("strconv.ErrRange", Rows.laid_strconv_ErrRange), ("strconv.ErrSyntax", Rows.laid_strconv_ErrSyntax)]
theorem desk_world {W : World} {r : List (String × DataW Unit)} (h : laidMet Tryd.prog (sixLaid ++ r) W) (hs : W.ShapedOpen Tryd.prog) : DeskW W := by
  have h2 : laidMet Tryd.prog (("internal/strconv.uint64pow10", Lib.tabData .u64 Lib.pow10Tab) :: ("unicode/utf8.acceptRanges", Rows.laid_unicode_utf8_acceptRanges) :: ("strconv.ErrRange", Rows.laid_strconv_ErrRange) :: ("strconv.ErrSyntax", Rows.laid_strconv_ErrSyntax) :: r) W := h.tail.tail
  have h4 : laidMet Tryd.prog (("strconv.ErrRange", Rows.laid_strconv_ErrRange) :: ("strconv.ErrSyntax", Rows.laid_strconv_ErrSyntax) :: r) W := h2.tail.tail
  have h5 : laidMet Tryd.prog (("strconv.ErrSyntax", Rows.laid_strconv_ErrSyntax) :: r) W := h4.tail
  refine ⟨Lib.tabIs_of_head (g := 1) (t := 108) (e := 89) (n := 20) (by kernel_rfl) (by kernel_rfl) Tryd.underlying108 Tryd.underlying89 (by kernel_rfl) (by kernel_rfl) h2, Tryd.split.s1_3 W hs, ?_, ?_⟩
  · obtain ⟨a, s, hv, _⟩ := laid_sentinel h5 (g := 3) (ti := 74) (tp := 127) (te := 129) (ts := 9) (by kernel_rfl) (by kernel_rfl) Tryd.underlying74 row127 Tryd.underlying127 Tryd.underlying129 rfl rfl Tryd.underlying9 (by kernel_rfl) (by kernel_rfl)
    exact ⟨_, World.var?_cell (by kernel_rfl) hv 0, .inr ⟨_, _, rfl⟩⟩
  · obtain ⟨a, s, hv, _⟩ := laid_sentinel h4 (g := 4) (ti := 74) (tp := 127) (te := 129) (ts := 9) (by kernel_rfl) (by kernel_rfl) Tryd.underlying74 row127 Tryd.underlying127 Tryd.underlying129 rfl rfl Tryd.underlying9 (by kernel_rfl) (by kernel_rfl)
    exact ⟨_, World.var?_cell (by kernel_rfl) hv 0, .inr ⟨_, _, rfl⟩⟩

/-! ### a world that fits -/
mutual
def flatD : DataW Unit → List Value
  | .lit l => [l.toCell]
  | .agg ps => flatL ps
  | _ => []
def flatL : List (DataW Unit) → List Value
  | [] => []
  | d :: l => flatD d ++ flatL l
end
noncomputable def laidWorld (os : Os) : World :=
  let N := (World.settled Tryd.prog os).heap.size
  let w0 := World.holding Tryd.prog os ⟨#[.cells #[.string ⟨#[118, 97, 108, 117, 101, 32, 111, 117, 116, 32, 111, 102, 32, 114, 97, 110, 103, 101]⟩] 129, .cells #[.string ⟨#[105, 110, 118, 97, 108, 105, 100, 32, 115, 121, 110, 116, 97, 120]⟩] 129], #[], []⟩
  let put (h : Array Obj) (g : Nat) (cs : Array Value) : Array Obj := h.modify g fun
    | .cells _ t frozen => .cells cs t frozen
    | o => o
  let h0 := put (put w0.heap 3 #[.iface 127 (.pointer (some ⟨N + 1, 0, none⟩))]) 4 #[.iface 127 (.pointer (some ⟨N, 0, none⟩))]
  let h1 := put (put (put h0 1 (flatD Rows.laid_internal_strconv_uint64pow10).toArray) 7 (flatD Rows.laid_math_bits_deBruijn32tab).toArray) 8 (flatD Rows.laid_math_bits_deBruijn64tab).toArray
  let h2 := put (put (put h1 5 (flatD Rows.laid_unicode_utf8_first).toArray) 6 (flatD Rows.laid_unicode_utf8_acceptRanges).toArray) 0 (flatD Rows.laid_quickset_desk_words).toArray
  { w0 with heap := h2 }
theorem laid_met7 (os : Os) (args : Array Value) : laidMet Tryd.prog (sixLaid ++ [("unicode/utf8.first", Rows.laid_unicode_utf8_first)]) ((laidWorld os).forCall (fun _ _ => 0) ⟨#[], args, []⟩).memory :=
  laidMet_of_run' 8 (by kernel_rfl) (by kernel_rfl)
theorem laid_met8 (os : Os) (args : Array Value) : laidMet Tryd.prog (sixLaid ++ [("quickset/desk.words", Rows.laid_quickset_desk_words), ("unicode/utf8.first", Rows.laid_unicode_utf8_first)]) ((laidWorld os).forCall (fun _ _ => 0) ⟨#[], args, []⟩).memory :=
  laidMet_of_run' 8 (by kernel_rfl) (by kernel_rfl)

/-! ### what the bound gives -/
theorem desk_size {W : World} {x : String × DataW Unit} {r : List (String × DataW Unit)} (h : laidMet Tryd.prog (x :: ("math/bits.deBruijn64tab", Rows.laid_math_bits_deBruijn64tab) :: r) W) : 9 ≤ W.heap.size := by
  obtain ⟨ps, ⟨g, t, cs, fuel, p, q, hg, _, hv, _⟩, _⟩ := h.tail
  have hg8 : Tryd.prog.globalNamed "math/bits.deBruijn64tab" = some 8 := by kernel_rfl
  unfold World.var? at hv
  rw [hg8, Option.bind_some] at hv
  rcases Nat.lt_or_ge 8 W.heap.size with h' | h'
  · exact h'
  · simp [Array.getElem?_eq_none h'] at hv
theorem one_le {H : Type} (d : DataW H) : 1 ≤ Rows.uptoBulk d := by
  cases d with
  | lit l => cases l <;> simp [Rows.uptoBulk]
  | nil => simp [Rows.uptoBulk]
  | ptr d => simp [Rows.uptoBulk]
  | slice elems spare => simp [Rows.uptoBulk]
  | agg parts => simp [Rows.uptoBulk]
  | iface t d => simp [Rows.uptoBulk]
  | map entries => simp [Rows.uptoBulk]
  | held h => simp [Rows.uptoBulk]
theorem part_le {H : Type} {d : DataW H} {l : List (DataW H)} (h : d ∈ l) : Rows.uptoBulk d ≤ Rows.uptoBulkAll l := by
  induction l with
  | nil => cases h
  | cons x r ih =>
    simp only [Rows.uptoBulkAll]
    cases List.mem_cons.1 h with
    | inl e => subst e; omega
    | inr e => have := ih e; omega
theorem length_le {H : Type} (l : List (DataW H)) : l.length ≤ Rows.uptoBulkAll l := by
  induction l with
  | nil => simp [Rows.uptoBulkAll]
  | cons x r ih => have := one_le x; simp only [Rows.uptoBulkAll, List.length_cons]; omega
theorem bulk_slice {H : Type} {enc : TypeId × Value → H} {P : Program} {W : World} {base : Nat} {spare : Nat → Bool} {held : Bool} {t e : TypeId} {a : Option Addr} {len cap : Nat} {d : DataW H} {ps : List MemPlace} (hu : P.underlying t = some (.slice e)) (h : DataW.Trod enc P W base spare held t (.slice a len cap) d ps) : len ≤ Rows.uptoBulk d := by
  obtain ⟨fuel, hf⟩ := h
  rcases DataW.trod_slice hu hf with ⟨hcs, _⟩ | ⟨x, l, c, elems, rest, fl, _, hcs, hx, _, _, _, hel, _, _, _⟩
  · simp [Value.cells] at hcs
    obtain ⟨rfl, rfl, rfl⟩ := hcs
    exact Nat.zero_le _
  · simp [Value.cells] at hcs
    obtain ⟨rfl, rfl, rfl⟩ := hcs
    obtain ⟨hx, _⟩ := Prod.mk.inj hx
    subst hx
    have := length_le (elems.map (·.1))
    simp only [Rows.uptoBulk, List.length_map] at this ⊢
    omega
theorem small_part {H : Type} {d : DataW H} {l : List (DataW H)} (hk : Rows.uptoSmall H l = true) (h : d ∈ l) : Rows.uptoBulk d ≤ 1048576 := by
  have := part_le h
  have h2 : Rows.uptoBulkAll l ≤ 1048576 := of_decide_eq_true hk
  omega

/-! ### the start, with the package variables' places kept -/
def globM (K : Nat) : PMap := fun g => if g < K then some ⟨g, 0, 0, 0⟩ else none
theorem globM_in (K : Nat) : GlobIn (globM K) K := fun g hg => ⟨⟨g, 0, 0, 0⟩, by unfold globM; rw [if_pos hg], rfl, rfl⟩
theorem Start.glob (w : World) (K : Nat) : Start w (globM K) (fun _ => none) K [] [] :=
  ⟨by simp [RelL], ⟨Nat.le_refl _, fun _ _ q => (by cases q), fun i hi => ⟨rfl, by
    rcases hi with hi | hi
    · exact hi.elim
    · unfold globM; rw [if_neg (by omega)]⟩, fun _ _ _ _ _ _ _ q => (by cases q), fun _ _ q => (by cases q)⟩⟩
end Go.Proofs.YtahilinkfnchaaaDoor.T

/- Desk: the words' table at the start. -/
import Derived.Test.YtahilinkfnchaaaDoorFW
import Derived.Test.YtahilinkfnchaaaDoorDK
import Derived.OpenShut
set_option linter.unusedVariables false
set_option linter.unusedSimpArgs false
namespace Go.Proofs.YtahilinkfnchaaaDoor.T
open Go Go.RowKit Go.Proofs
open Go.Proofs.YtahilinkfnchaaaDoor (Rows.laid_quickset_desk_words)
set_option maxRecDepth 100000

def ssW : List ByteArray := tabW.flatMap fun p => [B p.1, B p.2]
theorem words_ss : wordsC = ssW.map AV.str := rfl
theorem laid_tab : (Rows.laid_quickset_desk_words : DataW Unit) = .agg (tabW.map fun p => .agg [.lit (.string p.1), .lit (.string p.2)]) := rfl
theorem cells_words {enc : TypeId × Value → Unit} {w : World} {base : Nat} {sp : Nat → Bool} {held : Bool} {fuel : Nat} {cs : List Value} {p : List MemPlace} (h : DataW.trod enc Tryd.prog w base sp held fuel 59 cs = some (Rows.laid_quickset_desk_words, p)) : cs = ssW.map Value.string := by
  have c58 : Tryd.prog.cellsOf 58 = 2 := by kernel_rfl
  have c59 : Tryd.prog.cellsOf 59 = 38 := by kernel_rfl
  have c9 : Tryd.prog.cellsOf 9 = 1 := by kernel_rfl
  obtain ⟨xs, m, rfl, hx, hl, hn, hr⟩ := DataW.trod_array Tryd.underlying59 h
  rw [c58] at hr
  rw [c59] at hl
  have hd : xs.map (·.1) = tabW.map fun p => DataW.agg [.lit (.string p.1), .lit (.string p.2)] := by
    have := congrArg Prod.fst hx
    rw [laid_tab] at this
    simpa using this.symm
  have key : ∀ (i : Nat) (hi : i < 19), ∃ a b, cs[i * 2]? = some a ∧ cs[i * 2 + 1]? = some b ∧ a = .string (B (wordW i)) ∧ b = .string (B (sigW i)) := by
    intro i hi
    have h1 := hr i hi
    have hxi : i < xs.length := by omega
    rw [List.getElem?_eq_getElem hxi] at h1
    have h2 : (xs[i]).1 = DataW.agg [.lit (.string (wordW i)), .lit (.string (sigW i))] := by
      have := congrArg (fun l => l[i]?) hd
      simp only [List.getElem?_map, List.getElem?_eq_getElem hxi, Option.map_some] at this
      have ht : tabW[i]? = some (wordW i, sigW i) := by
        unfold wordW sigW
        rw [List.getD_eq_getElem?_getD, List.getElem?_eq_getElem (show i < tabW.length from hi)]; rfl
      rw [ht] at this
      simpa using this
    obtain ⟨ys, m2, rfl, hy, hl2, hn2, hr2⟩ := DataW.trod_array Tryd.underlying58 h1
    rw [c9] at hr2
    have hy1 : ys.map (·.1) = [.lit (.string (wordW i)), .lit (.string (sigW i))] := by
      have := congrArg Prod.fst hy
      rw [h2] at this
      simpa using this.symm
    have one : ∀ (j : Nat) (hj : j < 2) (w0 : List UInt8), (ys.map (·.1))[j]? = some (.lit (.string w0)) → cs[i * 2 + j]? = some (.string (B w0)) := by
      intro j hj w0 hw
      have h3 := hr2 j hj
      have hyj : j < ys.length := by omega
      rw [List.getElem?_eq_getElem hyj] at h3
      obtain ⟨s, e1, e2, _⟩ := DataW.trod_string Tryd.underlying9 h3
      rw [List.getElem?_map, List.getElem?_eq_getElem hyj, Option.map_some] at hw
      have e3 : s.data.toList = w0 := by
        have := congrArg Prod.fst e2
        rw [Option.some.inj hw] at this
        simpa using this.symm
      have e4 := congrArg (fun l => l[0]?) e1
      simp only [List.getElem?_take, List.getElem?_drop, Nat.mul_one] at e4
      have e5 : cs[i * 2 + j]? = some (.string s) := by simpa [hj] using e4
      rw [e5, ← e3, B_of]
    exact ⟨_, _, one 0 (by omega) _ (by rw [hy1]; rfl), one 1 (by omega) _ (by rw [hy1]; rfl), rfl, rfl⟩
  apply List.ext_getElem?
  intro q
  by_cases hq : q < 38
  · obtain ⟨a, b, k1, k2, rfl, rfl⟩ := key (q / 2) (by omega)
    have hw := words_row ⟨q / 2, by omega⟩
    rw [words_ss] at hw
    have e0 := congrArg (fun l : List AV => l[0]?) hw
    have e1 := congrArg (fun l : List AV => l[1]?) hw
    simp only [List.getElem?_take, List.getElem?_drop, List.getElem?_map] at e0 e1
    rw [List.getElem?_map]
    rcases Nat.mod_two_eq_zero_or_one q with c | c
    · have hqe : q / 2 * 2 + 0 = q := by omega
      have hqe' : q / 2 * 2 = q := by omega
      rw [hqe'] at k1
      simp only [hqe] at e0
      have e0' : (ssW[q]?).map AV.str = some (AV.str (B (wordW (q / 2)))) := by simpa using e0
      obtain ⟨s, hs, hs2⟩ := Option.map_eq_some_iff.1 e0'
      rw [k1, hs, Option.map_some]
      rw [AV.str.inj hs2]
    · have hqe : q / 2 * 2 + 1 = q := by omega
      rw [hqe] at k2
      simp only [hqe] at e1
      have e0' : (ssW[q]?).map AV.str = some (AV.str (B (sigW (q / 2)))) := by simpa using e1
      obtain ⟨s, hs, hs2⟩ := Option.map_eq_some_iff.1 e0'
      rw [k2, hs, Option.map_some]
      rw [AV.str.inj hs2]
  · have hsl : (ssW.map Value.string).length = 38 := by rw [List.length_map]; rfl
    rw [List.getElem?_eq_none (by omega), List.getElem?_eq_none (by omega)]
theorem words_cells {W : World} {r : List (String × DataW Unit)} (h : laidMet Tryd.prog (("quickset/desk.words", Rows.laid_quickset_desk_words) :: r) W) (j : Nat) : W.cell? ⟨0, j, none⟩ = (ssW.map Value.string)[j]? := by
  obtain ⟨ps, ⟨g, t, cs, fuel, p, q, hg, hty, hvar, hd, _, _⟩, _⟩ := h
  have hg0 : Tryd.prog.globalNamed "quickset/desk.words" = some 0 := by kernel_rfl
  have ht0 : (Tryd.prog.globals[0]?).map (·.type) = some 59 := by kernel_rfl
  obtain rfl := Option.some.inj (hg0.symm.trans hg)
  obtain rfl := Option.some.inj (ht0.symm.trans hty)
  have e := cells_words hd
  have := World.var?_cell hg0 hvar j
  rw [this, ← e]
  simp

def globM2 (K : Nat) : PMap := fun g => if g = 0 then some ⟨0, 0, 38, 2⟩ else if g < K then some ⟨g, 0, 0, 0⟩ else none
theorem globM2_in (K : Nat) : GlobIn (globM2 K) K := fun g hg => by
  unfold globM2
  by_cases c : g = 0
  · subst c; exact ⟨⟨0, 0, 38, 2⟩, by rw [if_pos rfl], rfl, rfl⟩
  · exact ⟨⟨g, 0, 0, 0⟩, by rw [if_neg c, if_pos hg], rfl, rfl⟩
def wordsH : AHeap := fun g => if g = 0 then some ⟨wordsC, 2, false⟩ else none
theorem Start.words {W : World} {r : List (String × DataW Unit)} (h : laidMet Tryd.prog (("quickset/desk.words", Rows.laid_quickset_desk_words) :: r) W) (K : Nat) (hK : 0 < K) (hW : 0 < W.heap.size) : Start W (globM2 K) wordsH K [] [] := by
  have hb : ∀ i b, wordsH i = some b → i = 0 ∧ b = ⟨wordsC, 2, false⟩ := fun i b q => by
    unfold wordsH at q
    split at q
    · rename_i e; exact ⟨e, (Option.some.inj q).symm⟩
    · cases q
  refine ⟨by simp [RelL], ⟨Nat.le_refl _, fun i b q => ?_, fun i hi => ?_, fun i j bi bj pi pj hij hi hj ho => ?_, fun i b q hl => ?_⟩⟩
  · obtain ⟨rfl, rfl⟩ := hb i b q
    refine ⟨⟨0, 0, 38, 2⟩, by unfold globM2; rw [if_pos rfl], fun _ => rfl, fun _ => Nat.le_refl _, hW, fun _ => ⟨ssW.map Value.string, by rw [words_ss]; exact str_relL _ _, fun j v hj => ?_⟩, fun _ => rfl, by simp, fun _ => hW, fun e => absurd e (by decide)⟩
    have := words_cells h j
    rw [Nat.zero_add, this]; exact hj
  · rcases hi with hi | hi
    · exact hi.elim
    · unfold wordsH globM2
      rw [if_neg (by omega), if_neg (by omega), if_neg (by omega)]; exact ⟨rfl, rfl⟩
  · obtain ⟨_, rfl⟩ := hb i bi hi
    cases ho
  · obtain ⟨_, rfl⟩ := hb i b q
    exact absurd hl (by decide)
end Go.Proofs.YtahilinkfnchaaaDoor.T

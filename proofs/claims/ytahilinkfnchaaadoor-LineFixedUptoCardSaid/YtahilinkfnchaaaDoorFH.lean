/- Desk: bytes as digits, walked by the kit; contracts of texts laid at this program. -/
import Derived.Test.YtahilinkfnchaaaDoorTU
import Derived.Test.YtahilinkfnchaaaDoorPf
import Derived.Shelf.Lay
import Derived.Shelf.Strconv.Itoa3
import Derived.Shelf.Strconv.AtoiAll
import Derived.Shelf.Strings.SplitShaped
import Derived.Shelf.Strings.OnBuilder
import Derived.Shelf.Strings.BuilderK
import Derived.Shelf.Small.Strs
import Derived.Ground.NamesProg
import Derived.WalkKit
import Derived.BigCall
set_option linter.unusedVariables false
set_option linter.unusedSimpArgs false
namespace Go.Proofs
open Go.Shelf Go.RowKit
shelf_lay Lays.n156 Nm 156 at Tryd as Tryd.join
shelf_lay Lays.n169 Nm 169 at Tryd as Tryd.bstr
shelf_lay LaysM.n171 Nm 171 at Tryd as Tryd.itoa
shelf_lay LaysC.n172 Nm 172 at Tryd as Tryd.atoi
shelf_lay LaysM.n146 Nm 146 at Tryd as Tryd.split
shelf_lay Lays.n137 Nm 137 at Tryd as Tryd.indexB
def Tryd.wbyte_ren : Ren := ⟨fun x => match x with | 167 => 33 | n => Tryd.join_ren.f n, Tryd.join_ren.t, Tryd.join_ren.g⟩
theorem Tryd.wbyte : Lays.n167 Tryd.prog Tryd.wbyte_ren where
  mixed := Tryd.join.mixed
  f167 := Eq.trans Tryd.func33 (by kernel_rfl)
  f240 := Tryd.join.f240
  f276 := Tryd.join.f276
  t0 := Tryd.join.t0
  a0 := Tryd.join.a0
  z0 := Tryd.join.z0
  v0 := Tryd.join.v0
  t4 := Tryd.join.t4
  a4 := Tryd.join.a4
  z4 := Tryd.join.z4
  v4 := Tryd.join.v4
  t5 := Tryd.underlying5
  a5 := Tryd.isAgg5
  z5 := Tryd.sizeOf5
  v5 := Tryd.zeroValue5
  t9 := Tryd.join.t9
  a9 := Tryd.join.a9
  z9 := Tryd.join.z9
  v9 := Tryd.join.v9
  t20 := Tryd.join.t20
  a20 := Tryd.join.a20
  z20 := Tryd.join.z20
  v20 := Tryd.join.v20
  t37 := Tryd.join.t37
  a37 := Tryd.join.a37
  z37 := Tryd.join.z37
  v37 := Tryd.join.v37
  t70 := Tryd.join.t70
  a70 := Tryd.join.a70
  z70 := Tryd.join.z70
  v70 := Tryd.join.v70
  t72 := Tryd.join.t72
  a72 := Tryd.join.a72
  z72 := Tryd.join.z72
  v72 := Tryd.join.v72
  t75 := Tryd.join.t75
  a75 := Tryd.join.a75
  z75 := Tryd.join.z75
  v75 := Tryd.join.v75
  t164 := Tryd.join.t164
  a164 := Tryd.join.a164
  z164 := Tryd.join.z164
  v164 := Tryd.join.v164
theorem Tryd.extraJ : Builder.Extra Tryd.prog Tryd.join_ren where
  sizeBuilder := by kernel_rfl
  liesBuilder := by kernel_rfl
  t5 := Tryd.underlying5
  a5 := Tryd.isAgg5
  z5 := Tryd.sizeOf5
  v5 := Tryd.zeroValue5
  infoByte := by kernel_rfl
  cellsByte := by kernel_rfl
  sizeByte := by kernel_rfl
  neB5 := by decide
theorem Tryd.extraW : Builder.Extra Tryd.prog Tryd.wbyte_ren where
  sizeBuilder := by kernel_rfl
  liesBuilder := by kernel_rfl
  t5 := Tryd.underlying5
  a5 := Tryd.isAgg5
  z5 := Tryd.sizeOf5
  v5 := Tryd.zeroValue5
  infoByte := by kernel_rfl
  cellsByte := by kernel_rfl
  sizeByte := by kernel_rfl
  neB5 := by decide
theorem Tryd.extraS : Builder.Extra Tryd.prog Tryd.bstr_ren where
  sizeBuilder := by kernel_rfl
  liesBuilder := by kernel_rfl
  t5 := Tryd.underlying5
  a5 := Tryd.isAgg5
  z5 := Tryd.sizeOf5
  v5 := Tryd.zeroValue5
  infoByte := by kernel_rfl
  cellsByte := by kernel_rfl
  sizeByte := by kernel_rfl
  neB5 := by decide
theorem Tryd.writeByte (B b : Nat) (bs : List Value) (c : Int) (w : World) (h : Lib.IsBuilderF 72 5 B b bs w) (hlen : bs.length + 1 ≤ 140737488355328) (hBw : B ≤ w.heap.size) :
    Calls Tryd.prog 33 #[.pointer (some ⟨b, 0, none⟩), .int .u8 c] w fun e w' => e = .returned .nilIface ∧ (Lib.BuilderAtF 72 5 B b (.pointer (some ⟨b, 0, none⟩)) (bs ++ [.int .u8 c]) w' ∧ Below B w w' ∧ Lib.OthersKept 5 (some b) w w') :=
  Any.Builder_WriteByte_k Tryd.wbyte Tryd.extraW B b bs c w h hlen hBw
theorem Tryd.stringOf (B b : Nat) (l : List UInt8) (w : World) (h : Lib.IsBuilderF 72 5 B b (Lib.byteCells l) w) (hBw : B ≤ w.heap.size) :
    Calls Tryd.prog 34 #[.pointer (some ⟨b, 0, none⟩)] w fun e w' => e = .returned (.string ⟨l.toArray⟩) ∧ (Lib.IsBuilderF 72 5 B b (Lib.byteCells l) w' ∧ Below B w w' ∧ Lib.OthersKept 5 (some b) w w') :=
  Any.Builder_String_any_k Tryd.bstr Tryd.extraS B b l w h hBw
end Go.Proofs
namespace Go.Proofs.YtahilinkfnchaaaDoor.T
open Go Go.RowKit Go.Proofs

theorem hexD_get (n : Nat) (h : n < 16) : ∀ q, ((⟨#[48, 49, 50, 51, 52, 53, 54, 55, 56, 57, 97, 98, 99, 100, 101, 102]⟩ : ByteArray)[n]'q) = hexD.getD n 0 := by
  rcases n with _ | _ | _ | _ | _ | _ | _ | _ | _ | _ | _ | _ | _ | _ | _ | _ | n
  all_goals first
    | (intro q; rfl)
    | omega
theorem hexL_len : ∀ l : List UInt8, (l.flatMap hexP).length = 2 * l.length
  | [] => rfl
  | b :: l => by rw [List.flatMap_cons, List.length_append, hexL_len l, List.length_cons]; show 2 + _ = _; omega
theorem take_next {l : List UInt8} {j : Nat} {x : UInt8} (h : l[j]? = some x) : (l.take (j + 1)).flatMap hexP = (l.take j).flatMap hexP ++ hexP x := by
  rw [List.take_add_one, h, List.flatMap_append]
  simp

set_option maxHeartbeats 4000000 in
set_option maxRecDepth 1000000 in
theorem hex_walk (bk o k : Nat) (bs : List UInt8) (w : World) (hc : ∀ (j : Nat) x, bs[j]? = some x → w.cell? ⟨bk, o + j, none⟩ = some (.int .u8 (x.toNat : Int))) (hbk : bk < w.heap.size) (hne : bs ≠ []) (hl : bs.length ≤ 35184372088832) (hk : bs.length ≤ k) :
    Calls Tryd.prog 20 #[.slice (some ⟨bk, o, none⟩) bs.length k] w fun e w' => e = .returned (.string ⟨(hexL bs).toArray⟩) ∧ Go.RowKit.Below w.heap.size w w' := by
  have h0 : 0 < bs.length := by cases bs with | nil => exact absurd rfl hne | cons _ _ => simp
  have hz : (((bs.length : Nat) : Int) == 0) = false := by rw [beq_eq_false_iff_ne]; omega
  go_enter Tryd.func20, Tryd.ntmps20
  go_wp2
  go_loopw [11] (fun i wr => ∃ j : Nat, i = .int .i64 (j : Int) ∧ j ≤ bs.length ∧ Lib.IsBuilderF 72 5 w.heap.size w.heap.size (Lib.byteCells ((bs.take j).flatMap hexP)) wr ∧ Go.RowKit.Below w.heap.size w wr) (fun i wr => bs.length - (intOf i).toNat)
  case atStart => exact ⟨0, rfl, Nat.zero_le _, Lib.IsBuilderF.of (Lib.fresh_isBuilder 72 5 w), (Go.RowKit.Below.refl _ w).alloc (Nat.le_refl _) _⟩
  case round =>
    obtain ⟨j, rfl, hj, hI, hbw⟩ := hrel
    have hsz : w.heap.size ≤ wr.heap.size := hbw.size
    have hlen : ((bs.take j).flatMap hexP).length ≤ 2 * j := by
      rw [hexL_len, List.length_take]; omega
    by_cases hlt : j < bs.length
    · obtain ⟨x, hx⟩ : ∃ x, bs[j]? = some x := ⟨_, List.getElem?_eq_getElem hlt⟩
      have hcell : wr.cell? ⟨bk, o + j, none⟩ = some (.int .u8 (x.toNat : Int)) := (hbw.cell (p := ⟨bk, o + j, none⟩) hbk).trans (hc j x hx)
      have hx := take_next hx
      have h256 := x.toNat_lt
      have hb1 : 0 ≤ (x.toNat : Int) / 16 ∧ (x.toNat : Int) / 16 < 16 := by omega
      have hb2 : 0 ≤ (x.toNat : Int) % 16 ∧ (x.toNat : Int) % 16 < 16 := by omega
      go_wp2_with (go_at_call 33; refine (Tryd.writeByte w.heap.size w.heap.size _ _ _ hI (by rw [Lib.byteCells_length]; omega) hsz).mono ?_)
      rintro e W1 ⟨rfl, h1, b1, k1⟩
      · have hl2 : ∀ v : Value, (Lib.byteCells ((bs.take j).flatMap hexP) ++ [v]).length + 1 ≤ 140737488355328 := fun v => by rw [List.length_append, Lib.byteCells_length]; simp only [List.length_singleton]; omega
        have hsz1 : w.heap.size ≤ W1.heap.size := Nat.le_trans hsz b1.size
        go_wp2_with (go_at_call 33; refine (Tryd.writeByte w.heap.size w.heap.size _ _ _ (Or.inr h1) (hl2 _) hsz1).mono ?_)
        · rintro e W2 ⟨rfl, h2, b2, k2⟩
          go_wp2
          go_roundw
          case rel =>
            refine ⟨j + 1, by go_num, by omega, Or.inr ?_, (hbw.trans b1).trans b2⟩
            rw [hx, Lib.byteCells_append]
            rw [List.append_assoc] at h2
            rw [hexD_get _ (by omega), hexD_get _ (by omega)] at h2
            exact h2
          case measure => simp [intOf]; omega
    · go_wp2_with (go_at_call 34; refine (Tryd.stringOf w.heap.size w.heap.size _ _ hI hsz).mono ?_)
      rintro e W1 ⟨rfl, _, b1, _⟩
      go_wp2
      go_ret
      have hj' : j = bs.length := by omega
      subst hj'
      rw [List.take_length]
      exact ⟨by unfold hexL; rw [if_neg hne]; rfl, hbw.trans b1⟩
theorem hex_nil (a : Option Addr) (k : Nat) (w : World) : Calls Tryd.prog 20 #[.slice a 0 k] w fun e w' => e = .returned (.string ⟨#[45]⟩) ∧ Go.RowKit.Below w.heap.size w w' := by
  go_enter Tryd.func20, Tryd.ntmps20
  go_wp2
  go_ret
  exact ⟨rfl, Go.RowKit.Below.refl _ _⟩

/-! ### the contracts, as the machine wants them -/
def isErr (ev : Value) : Prop := ev = .nilIface ∨ ∃ te pe, ev = .iface te pe
/-- What is known of package variables all along. -/
def DeskW (w : World) : Prop := Lib.TabIs Tryd.prog w "internal/strconv.uint64pow10" .u64 Lib.pow10Tab ∧ (∃ m, w.cell? ⟨Tryd.split_ren.g 1, 0, none⟩ = some (.int .i64 m)) ∧
  (∃ ev, w.cell? ⟨Tryd.atoi_ren.g 15, 0, none⟩ = some ev ∧ isErr ev) ∧ ∃ ev, w.cell? ⟨Tryd.atoi_ren.g 16, 0, none⟩ = some ev ∧ isErr ev
theorem DeskW.go {N : Nat} {w w' : World} (hN : Tryd.prog.globals.size ≤ N) (h : DeskW w) (hb : Below N w w') : DeskW w' := by
  have hblk : ∀ g, g < Tryd.prog.globals.size → w'.heap[g]? = w.heap[g]? := fun g hg => hb.old.block g (by omega)
  have hcell : ∀ g, g < Tryd.prog.globals.size → w'.cell? ⟨g, 0, none⟩ = w.cell? ⟨g, 0, none⟩ := fun g hg => World.cell?_of_block (w := w) (hblk g hg)
  obtain ⟨h1, ⟨m, h2⟩, ⟨e1, h3, h4⟩, ⟨e2, h5, h6⟩⟩ := h
  refine ⟨?_, ⟨m, (hcell _ (by decide +kernel)).trans h2⟩, ⟨e1, (hcell _ (by decide +kernel)).trans h3, h4⟩, ⟨e2, (hcell _ (by decide +kernel)).trans h5, h6⟩⟩
  unfold Lib.TabIs World.var? at h1 ⊢
  rw [show Tryd.prog.globalNamed "internal/strconv.uint64pow10" = some 1 by kernel_rfl, Option.bind_some] at h1 ⊢
  rw [hblk 1 (by decide +kernel)]
  exact h1
theorem grow_below (w : World) (k : Nat) (os : Array Obj) : Go.RowKit.Below w.heap.size w (Go.Sort.grow (w.drewN k) os) :=
  (show Go.RowKit.Below w.heap.size w (w.drewN k) from ⟨rfl, rfl, rfl, Nat.le_refl _, fun _ _ => rfl⟩).trans ⟨rfl, rfl, rfl, by simp [Go.Sort.grow], fun i hi => by
    show (w.heap ++ os)[i]? = w.heap[i]?
    rw [Array.getElem?_append_left hi]⟩
theorem orcs_list [Glo] {P : Program} {l : List (Nat × List (Nat × Bool × List Nat))} {L : List (Nat × Bool × List Nat)} (h : orcsIn l = L) (k : ∀ p ∈ L, OrcOk P p.2.2 p.1) : OrcsOk P (keepOf l) := fun f q hq => by
  have := orcsIn_ok l f q hq
  rw [h] at this
  exact k _ this
theorem orcs [Glo] (hw : ∀ w, Glo.wd w → DeskW w) : OrcsOk Tryd.prog keepT := by
  refine orcs_list (l := keepL) (L := [(19, true, [5]), (20, true, [10]), (21, true, [6]), (22, true, [7]), (38, true, [8, 103]), (39, true, [9])]) (by kernel_rfl) ?_
  intro p hp
  simp only [List.mem_cons, List.not_mem_nil, or_false] at hp
  rcases hp with rfl | rfl | rfl | rfl | rfl | rfl
  · refine orc_itoa fun n w h0 h1 hwd => (Any.strconv_Itoa Tryd.itoa n h0 h1 w (hw w hwd).1).mono fun e w' ⟨he, k, os, hg⟩ => ⟨he, ?_⟩
    subst hg
    exact grow_below w k os
  · exact orc_hex hex_nil fun bk o k bs w hc hbk hne hl hk => hex_walk bk o k bs w hc hbk hne hl hk
  · exact orc_join (fun a k sep w => Any.strings_Join_none Tryd.join Tryd.extraJ a k sep w) fun bk o k ss sep w hc hbk hN hk hl => Any.strings_Join Tryd.join Tryd.extraJ bk o k ss sep w hc hbk hN hk hl
  · refine orc_split (t9 := 9) fun s sep w hwd hs h1 => ?_
    obtain ⟨m, hm⟩ := (hw w hwd).2.1
    exact Any.strings_Split { Tryd.split with } Tryd.split.i9 s sep m w hs hm h1
  · refine orc_atoi (fun s v w hs hwd h => (Any.strconv_Atoi_ok Tryd.atoi s (by omega) v h w).mono fun e w' ⟨he, hw'⟩ => ⟨he, ?_⟩) (fun s w hs hwd hA hB => ?_) (fun s w hs hwd h => ?_)
    · rcases hw' with rfl | ⟨t, rfl⟩
      · exact Go.RowKit.Below.refl _ _
      · exact Lib.bytesWorld_below _ _ _
    · obtain ⟨ev, h1, h2⟩ := (hw w hwd).2.2.1
      exact (Any.strconv_Atoi_syntax Tryd.atoi s hs (by
        cases hx : Lib.atoiAll s.data.toList with
        | ok v => exact absurd hx (hA v)
        | range => exact absurd hx hB
        | _ => rfl) ev w h1 h2).mono fun e w' ⟨n, he, _, _, hb⟩ => ⟨_, he, hb⟩
    · obtain ⟨ev, h1, h2⟩ := (hw w hwd).2.2.2
      exact (Any.strconv_Atoi_range Tryd.atoi s hs h ev w h1 h2).mono fun e w' ⟨n, he, _, _, hb⟩ => ⟨_, he, hb⟩
  · refine orc_indexB fun s b w => (Any.strings_IndexByte Tryd.indexB s (b.toNat : Int) w).mono fun e w' ⟨he, hw'⟩ => ⟨?_, hw' ▸ Go.RowKit.Below.refl _ _⟩
    rw [he]; simp
end Go.Proofs.YtahilinkfnchaaaDoor.T

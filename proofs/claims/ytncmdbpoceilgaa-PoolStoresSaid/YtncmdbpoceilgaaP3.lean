/- Pools: in memory; the plain step; fetch, room. -/
import Derived.Test.YtncmdbpoceilgaaP2
set_option linter.unusedVariables false
set_option linter.unusedSimpArgs false
namespace Go.Proofs.Ytncmdbpoceilgaa.T
open Go Go.RowKit Go.Proofs
set_option maxRecDepth 10000

abbrev Objs := List (ByteArray × List Int)
structure Pl where
  obj : Objs
  snaps : List (ByteArray × Objs)
structure Cmd where
  kind : Int
  name : ByteArray
  other : ByteArray
  off : Int
  count : Int
  data : List Int
structure Tld where
  code : Int
  size : Int
  data : List Int
  names : List ByteArray
def noT (e : Int) : Tld := ⟨e, 0, [], []⟩

/-! ### the plain step -/
def fetchP (x : List Int) (c : Cmd) : Tld := if c.off < 0 then noT 2 else if c.count < 0 then noT 2 else ⟨0, x.length, (x.drop c.off.toNat).take c.count.toNat, []⟩
def roomP {β : Type} (l : List (ByteArray × β)) (s : ByteArray) (most : Nat) : Int :=
  if goodName s = false then 4 else if (getO s l).isSome = true then 7 else if l.length = most then 8 else 0
def objectP (s : Pl) (x : List Int) (c : Cmd) : Tld × Pl :=
  if c.kind = 3 then (fetchP x c, s)
  else if c.kind = 5 then (noT 0, { s with obj := delO c.name s.obj })
  else if c.kind = 2 then
    if c.data.length = 0 then (noT 1, s) else if c.data.length > 400 then (noT 1, s)
    else if c.off < 0 then (noT 2, s) else if c.off > 1024 - (c.data.length : Int) then (noT 2, s)
    else let y := writeP x c.off.toNat c.data; (⟨0, y.length, [], []⟩, { s with obj := setO c.name y s.obj })
  else
    if c.count < 0 then (noT 2, s) else if c.count > 1024 then (noT 2, s)
    else let y := resizeP x c.count.toNat; (⟨0, y.length, [], []⟩, { s with obj := setO c.name y s.obj })
def snapP (s : Pl) (c : Cmd) : Tld × Pl :=
  if c.kind = 7 then
    let e := roomP s.snaps c.other 3
    if e = 0 then (noT e, { s with snaps := setO c.other s.obj s.snaps }) else (noT e, s)
  else match getO c.other s.snaps with
  | none => (noT 6, s)
  | some l =>
    if c.kind = 9 then (noT 0, { s with obj := l })
    else if c.kind = 10 then (noT 0, { s with snaps := delO c.other s.snaps })
    else match getO c.name l with
    | none => (noT 6, s)
    | some x => (fetchP x c, s)
def stepP (s : Pl) (c : Cmd) : Tld × Pl :=
  if c.kind = 1 then
    let e := roomP s.obj c.name 4
    if e = 0 then (noT 0, { s with obj := setO c.name [] s.obj }) else (noT e, s)
  else if c.kind = 6 then (⟨0, 0, [], sortS (s.obj.map (·.1))⟩, s)
  else if c.kind = 11 then (⟨0, 0, [], sortS (s.snaps.map (·.1))⟩, s)
  else if c.kind = 7 ∨ c.kind = 8 ∨ c.kind = 9 ∨ c.kind = 10 then snapP s c
  else if c.kind = 2 ∨ c.kind = 3 ∨ c.kind = 4 ∨ c.kind = 5 then
    match getO c.name s.obj with
    | none => (noT 6, s)
    | some x => objectP s x c
  else if c.kind = 12 then (noT 0, s) else (noT 3, s)

/-- Sizes are small. -/
def OkO (l : Objs) : Prop := ∀ x ∈ l, x.1.size ≤ 8 ∧ x.2.length ≤ 1024
structure Pl.Ok (s : Pl) : Prop where
  obj : OkO s.obj
  olen : s.obj.length ≤ 4
  snaps : ∀ x ∈ s.snaps, x.1.size ≤ 8 ∧ OkO x.2 ∧ x.2.length ≤ 4
  slen : s.snaps.length ≤ 3

/-! ### memory -/
def Txt (h : AHeap) (nx : Nat) (A : Nat → Prop) (v : AV) (ns : List ByteArray) : Prop := ∃ a c, v = .slice a ns.length c ∧ Sl h nx a ns.length 1 (ns.map AV.str) ∧ Av A a ns.length
theorem Txt.go {h h' : AHeap} {nx nx' : Nat} {A A' D : Nat → Prop} {v : AV} {ns : List ByteArray} (b : Txt h nx A v ns) (f : Frm D h nx h' nx') (d : ∀ i, i < nx → D i → A i) (g : ∀ i, i < nx → A' i → A i) : Txt h' nx' A' v ns := by
  obtain ⟨a, c, e, s, v⟩ := b
  exact ⟨a, c, e, s.fr (v.go s d) f, v.go s g⟩
theorem Txt.none (h : AHeap) (nx : Nat) (A : Nat → Prop) (a : Option (Nat × Nat)) (c : Option Nat) : Txt h nx A (.slice a 0 c) [] := ⟨a, c, rfl, ⟨rfl, fun j hj => by simp at hj⟩, Av.none⟩
def ToldR (h : AHeap) (nx : Nat) (A : Nat → Prop) (t : Tld) (r : List AV) : Prop := ∃ d e, r = [.int .i64 t.code, .bool false, .int .i64 t.size, d, e] ∧ Byt .u8 h nx A d t.data ∧ Txt h nx A e t.names
theorem ToldR.go {h h' : AHeap} {nx nx' : Nat} {A A' D : Nat → Prop} {t : Tld} {r : List AV} (b : ToldR h nx A t r) (f : Frm D h nx h' nx') (d : ∀ i, i < nx → D i → A i) (g : ∀ i, i < nx → A' i → A i) : ToldR h' nx' A' t r := by
  obtain ⟨x, y, e, b1, b2⟩ := b
  exact ⟨x, y, e, b1.go f d g, b2.go f d g⟩
theorem ToldR.no (h : AHeap) (nx : Nat) (A : Nat → Prop) (e : Int) : ToldR h nx A (noT e) [.int .i64 e, .bool false, .int .i64 0, .slice none 0 none, .slice none 0 none] :=
  ⟨_, _, rfl, Byt.none _ _ _ _ _, Txt.none _ _ _ _ _⟩

/-- A map in memory. -/
def MapM {β : Type} (R : β → AV → Prop) (h : AHeap) (o : Nat) (l : List (ByteArray × β)) : Prop := ∃ cs, h o = some ⟨cs, MB, true⟩ ∧ All2 (Ent R) l cs
def RB (h : AHeap) (nx : Nat) (A : Nat → Prop) (bs : List Int) (v : AV) : Prop := Byt .u8 h nx A v bs
def RM (h : AHeap) (nx : Nat) (A : Nat → Prop) (l : Objs) (v : AV) : Prop := ∃ j, v = .mapv (some j) ∧ j < nx ∧ ¬ A j ∧ MapM (RB h nx A) h j l
theorem MapM.mono {β : Type} {R R' : β → AV → Prop} {h h' : AHeap} {o : Nat} {l : List (ByteArray × β)} (m : MapM R h o l) (e : h' o = h o) (k : ∀ x v, R x v → R' x v) : MapM R' h' o l := by
  obtain ⟨cs, e1, e2⟩ := m
  exact ⟨cs, e.trans e1, e2.mono fun x c ⟨v, p, q⟩ => ⟨v, p, k _ _ q⟩⟩
theorem RM.go {h h' : AHeap} {nx nx' : Nat} {A A' D : Nat → Prop} {l : Objs} {v : AV} (b : RM h nx A l v) (f : Frm D h nx h' nx') (d : ∀ i, i < nx → D i → A i) (g : ∀ i, i < nx → A' i → A i) : RM h' nx' A' l v := by
  obtain ⟨j, e, j1, j2, m⟩ := b
  exact ⟨j, e, by have := f.1; omega, fun q => j2 (g j j1 q), m.mono (f.2 j j1 fun q => j2 (d j j1 q)) fun x u r => Byt.go r f d g⟩

def Bst (S o k : Nat) : Nat → Prop := fun i => i = S ∨ i = o ∨ i = k
/-- What data lie apart from. -/
def Avd (X : Nat → Prop) (S o k : Nat) : Nat → Prop := fun i => Bst S o k i ∨ X i
structure PM (X : Nat → Prop) (h : AHeap) (nx S o k : Nat) (s : Pl) : Prop where
  st : h S = some ⟨[.mapv (some o), .mapv (some k), .slice none 0 none], 3, true⟩
  ob : MapM (RB h nx (Avd X S o k)) h o s.obj
  sn : MapM (RM h nx (Avd X S o k)) h k s.snaps
  lS : S < nx
  lo : o < nx
  lk : k < nx
  So : S ≠ o
  Sk : S ≠ k
  ok : o ≠ k
  lX : ∀ i, X i → i < nx
variable {X : Nat → Prop}

/-- What lay is there still. -/
theorem PM.ext {h h' : AHeap} {nx nx' S o k : Nat} {s : Pl} (p : PM X h nx S o k s) (x : Ext h nx h' nx') : PM X h' nx' S o k s :=
  ⟨(x.2 S p.lS).trans p.st, p.ob.mono (x.2 o p.lo) fun _ _ r => Byt.go r (x.fr fun _ => False) (fun _ _ q => q.elim) fun _ _ q => q,
   p.sn.mono (x.2 k p.lk) fun _ _ r => RM.go r (x.fr fun _ => False) (fun _ _ q => q.elim) fun _ _ q => q, by have := p.lS; have := x.1; omega, by have := p.lo; have := x.1; omega, by have := p.lk; have := x.1; omega, p.So, p.Sk, p.ok, fun i hi => by have := p.lX i hi; have := x.1; omega⟩
theorem PM.empty {h : AHeap} {nx S o k : Nat} {s : Pl} (p : PM X h nx S o k s) : s = s := rfl

/-- What a call that may turn the pool comes to. -/
def DoRes (X : Nat → Prop) (h : AHeap) (nx S o k : Nat) (t : Tld) (s' : Pl) (r : Option (AV × AHeap × Nat)) : Prop :=
  ∃ row h' nx' o', r = some (.agg row, h', nx') ∧ ToldR h' nx' (fun i => i < nx ∨ i = o') t row ∧ PM X h' nx' S o' k s' ∧ Frm (Bst S o k) h nx h' nx' ∧ (o' = o ∨ nx ≤ o')

/-- Behind a call whose answer is handed on: the result's cell is new. -/
theorem DoRes.tail {h hh : AHeap} {nx S o k i n1 : Nat} {t : Tld} {s s' : Pl} {c : Option (AV × AHeap × Nat)} (w : DoRes X hh n1 S o k t s' c) (x : Ext h nx hh n1) (hi : nx ≤ i) (hi2 : i < n1) {l : List AV} (hb : hh i = some ⟨l, 5, true⟩) (hl : l.length = 5) (p : PM X h nx S o k s) :
    DoRes X h nx S o k t s' (c.bind fun r5 => (asAgg 5 r5.1).bind fun d6 =>
      (asI .i64 (d6.getD 0 .bad)).bind fun n7 =>
      (asB (d6.getD 1 .bad)).bind fun t8 =>
      (asI .i64 (d6.getD 2 .bad)).bind fun n9 =>
      (asSl (d6.getD 3 .bad)).bind fun s10 =>
      (asSl (d6.getD 4 .bad)).bind fun s11 =>
      (stA r5.2.1 i 0 (.agg [(.int .i64 n7), (.bool t8), (.int .i64 n9), (.slice s10.1 s10.2.1 s10.2.2), (.slice s11.1 s11.2.1 s11.2.2)]) 5).bind fun b12 =>
      (ldR (AHeap.put r5.2.1 i (some b12)) i 0 5).bind fun l14 =>
      (asAgg 5 (AV.agg l14)).bind fun d15 =>
      (asI .i64 (d15.getD 0 .bad)).bind fun n16 =>
      (asB (d15.getD 1 .bad)).bind fun t17 =>
      (asI .i64 (d15.getD 2 .bad)).bind fun n18 =>
      (asSl (d15.getD 3 .bad)).bind fun s19 =>
      (asSl (d15.getD 4 .bad)).bind fun s20 =>
      some ((AV.agg [(.int .i64 n16), (.bool t17), (.int .i64 n18), (.slice s19.1 s19.2.1 s19.2.2), (.slice s20.1 s20.2.1 s20.2.2)]), AHeap.put r5.2.1 i (some b12), r5.2.2)) := by
  obtain ⟨row, h', nx', o', e, ⟨d, u, rfl, ⟨da, dc, rfl, d1, d2⟩, ⟨ua, uc, rfl, u1, u2⟩⟩, q, f, ho⟩ := w
  have hiB : ¬ Bst S o k i := by have := p.lS; have := p.lo; have := p.lk; unfold Bst; omega
  have ho' : i ≠ o' := by have := p.lo; omega
  have hb' : h' i = some ⟨l, 5, true⟩ := (f.2 i hi2 hiB).trans hb
  rw [tail5 e hb' hl]
  have x' : Frm (fun j => j = i) h' nx' (h'.put i (some ⟨[.int .i64 t.code, .bool false, .int .i64 t.size, .slice da t.data.length dc, .slice ua t.names.length uc], 5, true⟩)) nx' := (Frm.refl _ h' nx').put (.inl rfl) (Nat.le_refl _)
  have hlt : i < nx' := by have := f.1; omega
  have hne : ∀ j, Bst S o' k j → j ≠ i := fun j hj => by
    have := p.lS; have := p.lk
    rcases hj with rfl | rfl | rfl
    · omega
    · exact ho'.symm
    · omega
  refine ⟨_, _, nx', o', rfl, ?_, ?_, ?_, ?_⟩
  · refine ⟨_, _, rfl, ⟨da, dc, rfl, d1.fr (d2.less fun j hj => .inl (by omega)) x', d2.go d1 fun j hj q => ?_⟩, ⟨ua, uc, rfl, u1.fr (u2.less fun j hj => .inl (by omega)) x', u2.go u1 fun j hj q => ?_⟩⟩
    · rcases q with q | q
      · left; have := x.1; omega
      · exact .inr q
    · rcases q with q | q
      · left; have := x.1; omega
      · exact .inr q
  · have hkeep : ∀ j, Bst S o' k j → (h'.put i (some ⟨[.int .i64 t.code, .bool false, .int .i64 t.size, .slice da t.data.length dc, .slice ua t.names.length uc], 5, true⟩)) j = h' j := fun j hj => put_ne (hne j hj)
    have hBy : ∀ bs v, RB h' nx' (Avd X S o' k) bs v → RB (h'.put i (some ⟨[.int .i64 t.code, .bool false, .int .i64 t.size, .slice da t.data.length dc, .slice ua t.names.length uc], 5, true⟩)) nx' (Avd X S o' k) bs v := fun bs v ⟨a, c, e, b1, b2⟩ => by
      refine ⟨a, c, e, b1.fr (fun hn pp ep q => ?_) x', b2⟩
      -- a row's block is no bytes' block
      obtain ⟨pb, bb, e1, e2, e3, e4, _⟩ := b1.2 0 hn
      rw [e1] at ep; obtain rfl := Option.some.inj ep
      have q' : pb.1 = i := q
      rw [q', hb'] at e3
      obtain rfl := Option.some.inj e3
      cases e4
    refine ⟨(hkeep S (.inl rfl)).trans q.st, q.ob.mono (hkeep o' (.inr (.inl rfl))) hBy, q.sn.mono (hkeep k (.inr (.inr rfl))) fun lo v ⟨j, ej, j1, j2, m⟩ => ?_, q.lS, q.lo, q.lk, q.So, q.Sk, q.ok, q.lX⟩
    refine ⟨j, ej, j1, j2, m.mono (put_ne fun q => ?_) hBy⟩
    subst q
    obtain ⟨cs, m1, _⟩ := m
    rw [hb'] at m1
    exact absurd (congrArg (fun b => b.map ABlk.es) m1) (by simp; decide)
  · exact ⟨by have := x.1; have := f.1; omega, fun j hj hd => by
      rw [put_ne (by omega)]; exact (f.2 j (by have := x.1; omega) hd).trans (x.2 j hj)⟩
  · rcases ho with ho | ho
    · exact .inl ho
    · right; have := x.1; omega
end Go.Proofs.Ytncmdbpoceilgaa.T

/- Part 5 of a proof in many texts, put together: definitions and lemmas. The theorem stands in the last text; no conditions. -/
import Derived.Test.YtmfdjipijifabaaDoorPart4
import Derived.Carry
import Derived.Deep.Slices
import Derived.ProofKit
import Derived.Test.YtmfdjipijifabaaDoorProg
section
/- The abstract machine, eighteenth part: one more element behind a slice that grows. -/
set_option linter.unusedVariables false
set_option linter.unusedSimpArgs false
namespace Go.Ab

/-- Nothing is laid yet beyond what is told. -/
def Fresh (m : Mem) : Prop := ∀ i, m.next ≤ i → m.mode i = .dead

/-- A block was laid, and nothing else was changed. -/
structure Lay (M : Mem) (p q : Nat) (cs : List AVal) (M2 : Mem) : Prop where
  next : M2.next = M.next + q
  low : ∀ id, id < M.next → M2.cell id = M.cell id ∧ M2.mode id = M.mode id ∧ M2.siz id = M.siz id
  dead : ∀ id, M.next ≤ id → id ≠ M.next + p → M2.mode id = M.mode id
  live : M2.mode (M.next + p) ≠ .dead
  cell : ∀ o, o < cs.length → M2.cell (M.next + p) o = cs[o]?

theorem Lay.put (m : Mem) (cs ds : List AVal) (p q n k : Nat) (hn : cs.length ≤ n) (hpq : p < q) : Lay m p q cs { cell := fun i o => if i = m.next + p ∧ o < n then cs[o]? else if i = m.next + p then ds[o]? else m.cell i o, mode := upd m.mode (m.next + p) .rw, siz := upd m.siz (m.next + p) k, next := m.next + q } := by
  refine ⟨rfl, fun id h => ?_, fun id h h2 => if_neg h2, by simp, fun o ho => ?_⟩
  · have : ¬ id = m.next + p := by omega
    simp [upd, this]
  · simp only []
    rw [if_pos ⟨trivial, by omega⟩]

theorem Lay.alloc (m : Mem) (cs : List AVal) (p q k : Nat) (hpq : p < q) : Lay m p q cs { cell := fun i o => if i = m.next + p then cs[o]? else m.cell i o, mode := upd m.mode (m.next + p) .rw, siz := upd m.siz (m.next + p) k, next := m.next + q } := by
  refine ⟨rfl, fun id h => ?_, fun id h h2 => if_neg h2, by simp, fun o ho => by simp⟩
  have : ¬ id = m.next + p := by omega
  simp [upd, this]

theorem Lay.grow {M M2 : Mem} {p q : Nat} {cs : List AVal} (h : Lay M p q cs M2) (hpq : p < q) : Grow M M2 :=
  ⟨by rw [h.next]; omega, fun id hi => (h.low id hi).1, fun id hi => (h.low id hi).2.1, fun id hi => (h.low id hi).2.2, fun hd id hi => by
    have := h.next
    rw [h.dead id (by omega) (by omega)]
    exact hd id (by omega)⟩

section
variable {α : Type} {enc : α → List AVal} {sz lo : Nat} {s : AVal} {l : List α} {m : Mem}

/-- Where a grown slice lies, nothing has changed. -/
theorem App.same {m' : Mem} (h : App enc sz s l lo m) (hn : m.next ≤ m'.next) (hs : ∀ id n, s = .own id 0 n sz → id < m.next → lo ≤ id → m'.cell id = m.cell id ∧ m'.mode id = m.mode id ∧ m'.siz id = m.siz id) : App enc sz s l lo m' := by
  rcases h with h | ⟨id, h1, h2, h3, h4, h5, h6⟩
  · exact .inl h
  · obtain ⟨g1, g2, g3⟩ := hs id _ h1 h3 h2
    exact .inr ⟨id, h1, h2, Nat.lt_of_lt_of_le h3 hn, g2.trans h4, g3.trans h5, fun o ho => by rw [g1]; exact h6 o ho⟩

theorem App.lenA {P : Program} {t e : TypeId} (hu : P.underlying t = some (.slice e)) (h : App enc sz s l lo m) : lenA P t s = some (.int .i64 l.length) := by
  rcases h with ⟨rfl, rfl⟩ | ⟨id, rfl, _⟩ <;> simp [Go.Ab.lenA, hu]

theorem App.nil : App enc sz .nils [] lo m := .inl ⟨rfl, rfl⟩

/-- An element of a grown slice. -/
theorem App.get (he : ∀ x, (enc x).length = sz) (h : App enc sz s l lo m) {i : Nat} (hi : i < l.length) :
    ∃ id, s = .own id 0 l.length sz ∧ lo ≤ id ∧ id < m.next ∧ m.mode id = .rw ∧ ∀ o, o < sz → m.cell id (i * sz + o) = (enc l[i])[o]? := by
  rcases h with ⟨rfl, _⟩ | ⟨id, h1, h2, h3, h4, h5, h6⟩
  · simp at hi
  · refine ⟨id, h1, h2, h3, h4, fun o ho => ?_⟩
    have hle : (i + 1) * sz ≤ l.length * sz := Nat.mul_le_mul_right _ hi
    rw [Nat.add_mul] at hle
    rw [h6 _ (by omega), ← List.getElem?_drop, flatMap_drop he, List.drop_eq_getElem_cons hi, List.flatMap_cons, List.getElem?_append_left (by rw [he]; exact ho)]

theorem App.push {P : Program} {t e : TypeId} {i : TypeInfo} {z : List AVal} (he : ∀ x, (enc x).length = sz) (hu : P.underlying t = some (.slice e)) (hi : P.info? e = some i) (hs : i.size = sz) (hb : i.bytes ≤ 100000) (hz : zeroA P e = some z) (hzl : z.length = sz) (hpos : 0 < sz)
    (h : App enc sz s l lo m) (hf : Fresh m) (hlo : lo ≤ m.next) (hl : l.length < 2 ^ 20) {p q : Nat} {v : α} {M2 : Mem} (hL : Lay m p q (enc v) M2) (hpq : p + 1 < q) :
    ∃ m', appendA P t t s (.own (m.next + p) 0 1 sz) M2 (m.next + (p + 1)) = some (.own (m.next + (p + 1)) 0 (l.length + 1) sz, m') ∧ App enc sz (.own (m.next + (p + 1)) 0 (l.length + 1) sz) (l ++ [v]) lo m' ∧ m'.next = m.next + q ∧
      Fresh m' ∧ (∀ id, id < m.next → (∀ n, s ≠ .own id 0 n sz) → m'.cell id = m.cell id ∧ m'.mode id = m.mode id ∧ m'.siz id = m.siz id) := by
  have hL1 := hL.next
  have hd : M2.mode (m.next + (p + 1)) = .dead := by rw [hL.dead _ (by omega) (by omega)]; exact hf _ (by omega)
  have hel : elemsA i.size (.own (m.next + p) 0 1 sz) M2 = some (1, enc v) := by
    have := cellsAt_of (m := M2) (id := m.next + p) (enc v) 0 (fun o ho => by rw [Nat.zero_add]; exact hL.cell o ho)
    rw [he] at this
    simp [elemsA, hs, hL.live, this]
  have hfr : ∀ id, m.next + q ≤ id → M2.mode id = .dead := fun id h => by rw [hL.dead id (by omega) (by omega)]; exact hf _ (by omega)
  rcases h with ⟨rfl, rfl⟩ | ⟨id, rfl, h2, h3, h4, h5, h6⟩
  · refine ⟨newBlk M2 (m.next + (p + 1)) (enc v), ?_, .inr ⟨m.next + (p + 1), rfl, by omega, by show m.next + (p + 1) < M2.next; omega, by simp [newBlk, upd], by simp [newBlk, upd, he], fun o ho => by simp [newBlk]⟩, hL1, fun id hid => ?_, fun id hid _ => ?_⟩
    · unfold appendA
      simp only [hu, hi, hz, hel]
      rw [if_pos ⟨by rw [hzl, hs], by omega, hd⟩, if_neg (by omega), if_pos ⟨by omega, by unfold maxLen; omega⟩, hs]
      rfl
    · have h1 : M2.next ≤ id := hid
      have h2 : ¬ id = m.next + (p + 1) := by omega
      show upd M2.mode (m.next + (p + 1)) Md.rw id = .dead
      rw [upd, if_neg h2]
      exact hfr id (by omega)
    · have h2 : ¬ id = m.next + (p + 1) := by omega
      have h3 := hL.low id hid
      simp [newBlk, upd, h2, h3.1, h3.2.1, h3.2.2]
  · have hlow := hL.low id h3
    have hne : id ≠ m.next + (p + 1) := by omega
    have hfl := flatMap_len he l
    have holds : cellsAt M2 id 0 (l.length * sz) = some (l.flatMap enc) := by
      have := cellsAt_of (m := M2) (id := id) (l.flatMap enc) 0 (fun o ho => by rw [Nat.zero_add, hlow.1]; exact h6 o (by rw [hfl] at ho; exact ho))
      rwa [hfl] at this
    refine ⟨{ newBlk M2 (m.next + (p + 1)) (l.flatMap enc ++ enc v) with mode := upd (upd M2.mode id .dead) (m.next + (p + 1)) .rw }, ?_, .inr ⟨m.next + (p + 1), by simp, by omega, by show m.next + (p + 1) < M2.next; omega, by simp [upd], by simp [newBlk, upd, hfl, he, Nat.add_mul], fun o ho => by simp [newBlk]⟩, hL1, fun id' hid => ?_, fun id' hid hne' => ?_⟩
    · unfold appendA
      simp only [hu, hi, hz, hel]
      have hbb : (l.length + 1) * i.bytes ≤ 140737488355328 := Nat.le_trans (Nat.mul_le_mul (Nat.succ_le_of_lt hl) hb) (by decide)
      rw [if_pos ⟨by rw [hzl, hs], by omega, hd⟩, if_pos ⟨hs.symm, hlow.2.1.trans h4, hne, by rw [hlow.2.2, h5]; omega, hbb, by unfold maxLen; omega⟩, holds]
    · have h1 : M2.next ≤ id' := hid
      have h2 : ¬ id' = m.next + (p + 1) := by omega
      have h3 : ¬ id' = id := by omega
      show upd (upd M2.mode id .dead) (m.next + (p + 1)) Md.rw id' = .dead
      rw [upd, if_neg h2, upd, if_neg h3]
      exact hfr id' (by omega)
    · have h7 : ¬ id' = m.next + (p + 1) := by omega
      have h8 : ¬ id' = id := fun e => hne' _ (by rw [e])
      have h9 := hL.low id' hid
      refine ⟨?_, ?_, ?_⟩
      · funext o
        simp [newBlk, h7, h9.1]
      · simp [upd, h7, h8, h9.2.1]
      · simp [newBlk, upd, h7, h9.2.2]

/-- One more element, behind whatever was done before. -/
theorem App.more {P : Program} {t e : TypeId} {i : TypeInfo} {z : List AVal} (he : ∀ x, (enc x).length = sz) (hu : P.underlying t = some (.slice e)) (hi : P.info? e = some i) (hs : i.size = sz) (hb : i.bytes ≤ 100000) (hz : zeroA P e = some z) (hzl : z.length = sz) (hpos : 0 < sz)
    (h : App enc sz s l lo m) {xid new : Nat} {v : α} (hx : m.mode xid ≠ .dead) (hxc : ∀ o, o < sz → m.cell xid o = (enc v)[o]?) (hlo : lo ≤ new) (hd : m.mode new = .dead) (hn : new < m.next) (hl : l.length < 2 ^ 20) :
    ∃ m', appendA P t t s (.own xid 0 1 sz) m new = some (.own new 0 (l.length + 1) sz, m') ∧ App enc sz (.own new 0 (l.length + 1) sz) (l ++ [v]) lo m' ∧ m'.next = m.next ∧
      (∀ id, id ≠ new → (∀ n, s ≠ .own id 0 n sz) → m'.cell id = m.cell id ∧ m'.mode id = m.mode id ∧ m'.siz id = m.siz id) ∧ (∀ id, id ≠ new → m.mode id = .dead → m'.mode id = .dead) := by
  have hel : elemsA i.size (.own xid 0 1 sz) m = some (1, enc v) := by
    have := cellsAt_of (m := m) (id := xid) (enc v) 0 (fun o ho => by rw [Nat.zero_add]; exact hxc o (by rw [he] at ho; exact ho))
    rw [he] at this
    simp [elemsA, hs, hx, this]
  rcases h with ⟨rfl, rfl⟩ | ⟨id, rfl, h2, h3, h4, h5, h6⟩
  · refine ⟨newBlk m new (enc v), ?_, .inr ⟨new, rfl, hlo, hn, by simp [newBlk, upd], by simp [newBlk, upd, he], fun o ho => by simp [newBlk]⟩, rfl, fun id hid _ => ?_, fun id hid hdd => ?_⟩
    · unfold appendA
      simp only [hu, hi, hz, hel]
      rw [if_pos ⟨by rw [hzl, hs], by omega, hd⟩, if_neg (by omega), if_pos ⟨by omega, by unfold maxLen; omega⟩, hs]
      rfl
    · simp [newBlk, upd, hid]
    · simp [newBlk, upd, hid, hdd]
  · have hne : id ≠ new := fun e => by rw [e, hd] at h4; cases h4
    have hfl := flatMap_len he l
    have holds : cellsAt m id 0 (l.length * sz) = some (l.flatMap enc) := by
      have := cellsAt_of (m := m) (id := id) (l.flatMap enc) 0 (fun o ho => by rw [Nat.zero_add]; exact h6 o (by rw [hfl] at ho; exact ho))
      rwa [hfl] at this
    refine ⟨{ newBlk m new (l.flatMap enc ++ enc v) with mode := upd (upd m.mode id .dead) new .rw }, ?_, .inr ⟨new, by simp, hlo, hn, by simp [upd], by simp [newBlk, upd, hfl, he, Nat.add_mul], fun o ho => by simp [newBlk]⟩, rfl, fun id' hid hne' => ?_, fun id' hid hdd => ?_⟩
    · unfold appendA
      simp only [hu, hi, hz, hel]
      have hbb : (l.length + 1) * i.bytes ≤ 140737488355328 := Nat.le_trans (Nat.mul_le_mul (Nat.succ_le_of_lt hl) hb) (by decide)
      rw [if_pos ⟨by rw [hzl, hs], by omega, hd⟩, if_pos ⟨hs.symm, h4, hne, by rw [h5]; omega, hbb, by unfold maxLen; omega⟩, holds]
    · have h8 : ¬ id' = id := fun e => hne' _ (by rw [e])
      refine ⟨?_, ?_, ?_⟩
      · funext o
        simp [newBlk, hid]
      · simp [upd, hid, h8]
      · simp [newBlk, upd, hid]
    · by_cases h9 : id' = id
      · simp [upd, hid, h9, hne]
      · simp [upd, hid, h9, hdd]

/-- A memory whose cells are the same, and in which all that was alive is alive. -/
def Alive (m m2 : Mem) : Prop := m2.cell = m.cell ∧ ∀ id, m.mode id ≠ .dead → m2.mode id ≠ .dead
theorem Alive.refl (m : Mem) : Alive m m := ⟨rfl, fun _ h => h⟩
theorem Alive.ro {m m2 : Mem} (h : Alive m m2) (id : Nat) : Alive m { m2 with mode := upd m2.mode id .ro } :=
  ⟨h.1, fun i hi => by
    show upd m2.mode id Md.ro i ≠ .dead
    unfold upd
    split
    · exact (by simp)
    · exact h.2 i hi⟩

theorem App.frozen (d : Nat) (he : ∀ x, (enc x).length = sz) (hin : ∀ x ∈ l, ∀ a ∈ enc x, ∀ m, freezeV (d + 1) a m = some (a, m)) (h : App enc sz s l lo m) {m2 : Mem} (ha : Alive m m2) :
    ∃ a' m', freezeV (d + 2) s m2 = some (a', m') ∧ SL enc a' l ∧ Alive m m' ∧ ∀ e m, freezeV (e + 1) a' m = some (a', m) := by
  rcases h with ⟨rfl, rfl⟩ | ⟨id, rfl, h2, h3, h4, h5, h6⟩
  · exact ⟨.nils, m2, rfl, .inl ⟨rfl, .inl rfl⟩, ha, fun e m => rfl⟩
  · have hfl := flatMap_len he l
    have holds : cellsAt m2 id 0 (l.length * sz) = some (l.flatMap enc) := by
      have := cellsAt_of (m := m2) (id := id) (l.flatMap enc) 0 (fun o ho => by rw [Nat.zero_add, ha.1]; exact h6 o (by rw [hfl] at ho; exact ho))
      rwa [hfl] at this
    refine ⟨.imm l.length (l.flatMap enc), { m2 with mode := upd m2.mode id .ro }, ?_, .inr rfl, ha.ro id, fun e m => rfl⟩
    simp only [freezeV]
    rw [if_neg (ha.2 id (by rw [h4]; simp)), holds]
    simp only []
    rw [freezeL_same _ _ (fun a hm m => ?_)]
    obtain ⟨x, hx, hax⟩ := List.mem_flatMap.1 hm
    exact hin x hx a hax m
end
end Go.Ab
end
section
/- The abstract machine, nineteenth part: how ranges over functions are reckoned. -/
set_option linter.unusedVariables false
set_option linter.unusedSimpArgs false
namespace Go.Ab

noncomputable def yStepO (C : Cfg) (call : CallF) (yh : YF) (ops : Array Oper) (new : Nat) (o : Oper) (x : YS) : Option YS :=
  match wantedA ops x.st.env o with
    | none => none
    | some false => (aStepO C call ops new o x.st).map fun s => ⟨s, yLess x.y o.dst, x.p⟩
    | some true => match yCallee x.y o with
      | some args => match x.p with
        | none => match yh (args.map (opd C x.st.env)) x.st.mem with
          | some (b, m, p) => some ⟨⟨setOpt x.st.env o.dst (.bool b), m⟩, yLess x.y o.dst, p⟩
          | none => none
        | some _ => none
      | none => (aStepO C call ops new o x.st).map fun s => ⟨s, if yMoved x.y o then (match o.dst with
          | some d => d :: yLess x.y o.dst
          | none => x.y) else yLess x.y o.dst, x.p⟩

theorem yStep_eq {C : Cfg} {call : CallF} {yh : YF} {ops : Array Oper} {base i : Nat} {x : YS} {o : Oper} (h : ops[i]? = some o) : yStep C call yh ops base i x = yStepO C call yh ops (base + i) o x := by
  unfold yStep yStepO
  rw [h]
  simp only [aStep_eq h]
  rfl

noncomputable def yRun (C : Cfg) (call : CallF) (yh : YF) (ops : Array Oper) : Nat → List Oper → YS → Option YS
  | _, [], x => some x
  | new, o :: r, x => (yStepO C call yh ops new o x).bind (yRun C call yh ops (new + 1) r)

theorem yOps_range {C : Cfg} {call : CallF} {yh : YF} {ops : Array Oper} {base : Nat} : ∀ (r pre : List Oper) (x : YS), ops.toList = pre ++ r →
    yOps C call yh ops base (List.range' pre.length r.length) x = yRun C call yh ops (base + pre.length) r x := by
  intro r
  induction r with
  | nil => intro pre x h; simp [yOps, yRun]
  | cons o r ih =>
    intro pre x h
    simp only [List.length_cons, List.range'_succ, yOps, yRun]
    have hi : ops[pre.length]? = some o := by rw [← Array.getElem?_toList, h]; simp
    rw [yStep_eq hi]
    congr 1
    funext x1
    have := ih (pre ++ [o]) x1 (by simp [h])
    simpa [Nat.add_assoc] using this

theorem yRegion {C : Cfg} {call : CallF} {yh : YF} {ops : Array Oper} {x : YS} : yOps C call yh ops x.st.mem.next (List.range ops.size) ⟨reserve x.st ops.size, x.y, x.p⟩ = yRun C call yh ops x.st.mem.next ops.toList ⟨reserve x.st ops.size, x.y, x.p⟩ := by
  have := yOps_range (C := C) (call := call) (yh := yh) (ops := ops) (base := x.st.mem.next) ops.toList [] ⟨reserve x.st ops.size, x.y, x.p⟩ rfl
  simpa [List.range_eq_range'] using this

theorem yrunS_ex : ∃ f : Cfg → CallF → YF → Array Oper → Nat → List Oper → YS → Option YS, f = yRun := ⟨yRun, rfl⟩
noncomputable def yrunS : Cfg → CallF → YF → Array Oper → Nat → List Oper → YS → Option YS := Classical.choose yrunS_ex
theorem yrunS_eq : yrunS = yRun := Classical.choose_spec yrunS_ex
theorem ystepS_ex : ∃ f : Cfg → CallF → YF → Array Oper → Nat → Oper → YS → Option YS, f = yStepO := ⟨yStepO, rfl⟩
noncomputable def ystepS : Cfg → CallF → YF → Array Oper → Nat → Oper → YS → Option YS := Classical.choose ystepS_ex
theorem ystepS_eq : ystepS = yStepO := Classical.choose_spec ystepS_ex
@[simp] theorem yrunS_nil {C : Cfg} {call : CallF} {yh : YF} {ops : Array Oper} {new : Nat} {x : YS} : yrunS C call yh ops new [] x = some x := by rw [yrunS_eq, yRun]
@[simp] theorem yrunS_cons {C : Cfg} {call : CallF} {yh : YF} {ops : Array Oper} {new : Nat} {o : Oper} {r : List Oper} {x : YS} : yrunS C call yh ops new (o :: r) x = (ystepS C call yh ops new o x).bind (yrunS C call yh ops (new + 1) r) := by rw [yrunS_eq, ystepS_eq, yRun]
@[simp] theorem ystepS_def {C : Cfg} {call : CallF} {yh : YF} {ops : Array Oper} {new : Nat} {o : Oper} {x : YS} : ystepS C call yh ops new o x = (match wantedA ops x.st.env o with
    | none => none
    | some false => (stepS C call ops new o x.st).map fun s => ⟨s, yLess x.y o.dst, x.p⟩
    | some true => match yCallee x.y o with
      | some args => match x.p with
        | none => match yh (args.map (opd C x.st.env)) x.st.mem with
          | some (b, m, p) => some ⟨⟨setOpt x.st.env o.dst (.bool b), m⟩, yLess x.y o.dst, p⟩
          | none => none
        | some _ => none
      | none => (stepS C call ops new o x.st).map fun s => ⟨s, if yMoved x.y o then (match o.dst with
          | some d => d :: yLess x.y o.dst
          | none => x.y) else yLess x.y o.dst, x.p⟩) := by rw [ystepS_eq, stepS_eq, yStepO]

section
variable {C : Cfg} {call : CallF} {yh : YF} {n : Nat} {x : YS}
@[simp] theorem yc_skip : yCode C call yh n .skip x = some (.normal, x) := rfl
@[simp] theorem yc_seq {a b : Code} : yCode C call yh n (.seq a b) x = (match yCode C call yh n a x with
    | some (.normal, x1) => yCode C call yh n b x1
    | r => r) := by rw [yCode]; rfl
@[simp] theorem yc_cond {c : Operand} {a b : Code} : yCode C call yh n (.cond c a b) x = (match opd C x.st.env c with
    | .bool t => if t then yCode C call yh n a x else yCode C call yh n b x
    | _ => none) := by rw [yCode]; rfl
@[simp] theorem yc_block {id : Nat} {c : Code} : yCode C call yh n (.block id c) x = (match yCode C call yh n c x with
    | some (.exit id', x1) => if id' = id then some (.normal, x1) else some (.exit id', x1)
    | r => r) := by rw [yCode]; rfl
@[simp] theorem yc_exit {id : Nat} : yCode C call yh n (.exit id) x = some (.exit id, x) := rfl
@[simp] theorem yc_ret : yCode C call yh n .ret x = some (.ret, x) := rfl
@[simp] theorem yc_region {id : Nat} {ops : Array Oper} : yCode C call yh n (.region id ops false) x = (yrunS C call yh ops x.st.mem.next ops.toList ⟨reserve x.st ops.size, x.y, x.p⟩).map fun x1 => (.normal, x1) := by
  rw [yCode, if_neg (by simp), yRegion, yrunS_eq]

def YRound (Inv : Nat → YS → Prop) (Post : AExit → YS → Prop) (j : Nat) : AExit × YS → Prop
  | (.normal, x) => 0 < j ∧ Inv (j - 1) x
  | (e, x) => Post e x

theorem yloop_rule {c : Code} {r : Option (AExit × YS)} (hl : yCode C call yh n (.loop c) x = r) (Inv : Nat → YS → Prop) (Post : AExit → YS → Prop) (j : Nat) (hj : j < n) (hi : Inv j x)
    (step : ∀ j x, Inv j x → ∃ p, yCode C call yh n c x = some p ∧ YRound Inv Post j p) : ∃ e x', r = some (e, x') ∧ e ≠ .normal ∧ Post e x' := by
  rw [yCode] at hl
  have key : ∀ (n' j : Nat) (x : YS), j < n' → Inv j x → ∃ e x', yLoop (yCode C call yh n c) n' x = some (e, x') ∧ e ≠ .normal ∧ Post e x' := by
    intro n'
    induction n' with
    | zero => intro j x h; omega
    | succ n' ih =>
      intro j x hj hi
      obtain ⟨⟨e, x1⟩, h1, h2⟩ := step j x hi
      simp only [yLoop]
      rw [h1]
      cases e with
      | normal => exact ih (j - 1) x1 (by have := h2.1; omega) h2.2
      | exit id => exact ⟨_, x1, rfl, by simp, h2⟩
      | ret => exact ⟨_, x1, rfl, by simp, h2⟩
  obtain ⟨e, x', h1, h2, h3⟩ := key n j x hj hi
  exact ⟨e, x', hl.symm.trans h1, h2, h3⟩
end

def rangeChk (fn : Func) (n : Nat) : Bool :=
  match fn.body with
  | some code => flat code && (codeOk fn.ntmps code && (decide (n + 1 ≤ fn.ntmps) && (!(fn.name == "runtime.NumGoroutine") && fn.results.toList.isEmpty)))
  | none => false

/-- A range over a function, reckoned. -/
theorem range_eq {C : Cfg} {call : CallF} {T : Nat → List (Nat × Nat)} {n : Nat} {g : Operand} {ps : Array Tmp} {ca cb : Code} {s : St} {f : FuncId} {captured : List AVal} (hg : opd C s.env g = .fn f [] captured) {fn : Func} (hf : C.P.funcs[f]? = some fn) (hc : rangeChk fn captured.length = true) :
    cCode C call T n (.rangeFunc g ps ca cb) s = rangeEnd s.env (yCode C call (roundF s.env ps (cCode C call T n ca) (cCode C call T n cb)) n (codeOf fn) ⟨⟨yEnv captured, s.mem⟩, [0], none⟩) := by
  unfold rangeChk at hc
  unfold codeOf
  rw [cCode]
  unfold rangeF
  rw [hg]
  simp only [hf]
  cases hb : fn.body with
  | none => rw [hb] at hc; cases hc
  | some code =>
    simp only [hb, Bool.and_eq_true, decide_eq_true_eq, Bool.not_eq_true'] at hc
    simp only [Option.getD_some]
    rw [if_pos ⟨hc.1, hc.2.1, hc.2.2.1, hc.2.2.2.1, hc.2.2.2.2⟩]

@[simp] theorem yEnv_zero {c : List AVal} : yEnv c 0 = .junk := rfl
@[simp] theorem yEnv_one {a : AVal} {r : List AVal} : yEnv (a :: r) 1 = a := rfl
@[simp] theorem yEnv_two {a b : AVal} {r : List AVal} : yEnv (a :: b :: r) 2 = b := rfl
@[simp] theorem yEnv_three {a b c : AVal} {r : List AVal} : yEnv (a :: b :: c :: r) 3 = c := rfl
attribute [simp] yCallee yMoved yLess YRound
end Go.Ab
end
section
/- From the readings of the arguments to the abstract machine's values. -/
set_option linter.unusedVariables false
set_option linter.unusedSimpArgs false
namespace Go.Ab
open Go Go.RowKit

/-- All old blocks. -/
def old (w : World) : Nat → Prop := fun b => b < w.heap.size

theorem flatMap_at {α : Type} {enc : α → List AVal} {sz : Nat} (he : ∀ x, (enc x).length = sz) (l : List α) {i q : Nat} (hq : q < sz) : (l.flatMap enc)[i * sz + q]? = (l[i]?).bind fun x => (enc x)[q]? := by
  rw [← List.getElem?_drop, flatMap_drop he]
  cases h : l.drop i with
  | nil =>
    have : l.length ≤ i := List.drop_eq_nil_iff.1 h
    rw [List.getElem?_eq_none this]
    rfl
  | cons x r =>
    have e : l[i]? = some x := by
      have := congrArg (·[0]?) h
      simpa using this
    rw [e, List.flatMap_cons, List.getElem?_append_left (by rw [he]; exact hq)]
    rfl

theorem exists_list {α : Type} {p : Nat → α → Prop} : ∀ {n : Nat}, (∀ i, i < n → ∃ x, p i x) → ∃ l : List α, l.length = n ∧ ∀ (i : Nat) (x : α), l[i]? = some x → p i x
  | 0, _ => ⟨[], rfl, fun i x hx => by simp at hx⟩
  | n + 1, h => by
    obtain ⟨l, h1, h2⟩ := exists_list (n := n) (fun i hi => h i (by omega))
    obtain ⟨x, hx⟩ := h n (by omega)
    refine ⟨l ++ [x], by simp [h1], fun i y hy => ?_⟩
    by_cases hi : i < l.length
    · rw [List.getElem?_append_left hi] at hy
      exact h2 i y hy
    · rw [List.getElem?_append_right (by omega)] at hy
      have hi' : i - l.length = 0 := by
        have := (List.getElem?_eq_some_iff.1 hy).1
        simp at this
        omega
      rw [hi'] at hy
      simp at hy
      subst hy
      have : i = n := by omega
      subst this
      exact hx

section
variable {H : Type} {ench : TypeId × Value → H} {P : Program} {w : World} {spare : Nat → Bool} {held : Bool}

/-- What one element of a slice reads as, as a value of the abstract machine. -/
def ElemOf {α : Type} (ench : TypeId × Value → H) (P : Program) (w : World) (spare : Nat → Bool) (held : Bool) (e : TypeId) (enc : α → List AVal) : Prop :=
  ∀ (n : Nat) (cs : List Value) (x : DataW H × List MemPlace), DataW.trod ench P w 0 spare held n e cs = some x →
    ∃ a : α, ∀ (j : Nat) (c : AVal), (enc a)[j]? = some c → ∃ v, cs[j]? = some v ∧ v.oneCell' = true ∧ VI (old w) w c v

theorem slice_one {r : Reach} {base : Nat} {t e : TypeId} {v : Value} (ht : P.underlying t = some (.slice e)) (h : Value.okWide P w r base t v) : v.oneCell' = true ∧ v.cells.toList = [v] := by
  unfold Value.okWide at h
  rw [ht] at h
  simp only [Cell.okWide, ht] at h
  cases v <;> simp_all [Cell.ok, Value.oneCell', Value.cells]

theorem sl_of_trod {α : Type} {enc : α → List AVal} {t e : TypeId} {sz : Nat} {r : Reach} {base : Nat} {v : Value} {d : DataW H} {ps : List MemPlace} (ht : P.underlying t = some (.slice e)) (hsz : P.cellsOf e = sz) (hpos : 0 < sz)
    (hl : ∀ a, (enc a).length = sz) (hE : ElemOf ench P w spare held e enc) (hv : Value.okWide P w r base t v) (h : DataW.Trod ench P w 0 spare held t v d ps) :
    ∃ (l : List α) (a : AVal), SL enc a l ∧ VI (old w) w a v := by
  obtain ⟨fuel, h⟩ := h
  obtain ⟨h1, hcs⟩ := slice_one ht hv
  rw [hcs] at h
  rcases Go.Deep.open_slice ht h with ⟨hc, _⟩ | ⟨a, len, cap, m, n, D, Pl, hc, _, hlc, _, hm, _, hel⟩
  · cases hc
    exact ⟨[], .nils, .inl ⟨rfl, .inl rfl⟩, .nils⟩
  · cases hc
    by_cases h0 : len = 0
    · subst h0
      exact ⟨[], .imm 0 [], .inr rfl, .imm0 _ _⟩
    have hmlen : len ≤ m := by rw [hm]; split <;> omega
    have hall : ∀ i, i < len → ∃ x : α, ∀ q, q < sz → ∃ u, w.cell? (a.add (i * sz + q)) = some u ∧ u.oneCell' = true ∧ ∀ c, (enc x)[q]? = some c → VI (old w) w c u := fun i hi => by
      obtain ⟨cs', g1, g2⟩ := hel i (by omega)
      obtain ⟨_, glen, gat⟩ := World.cells?_some g1
      obtain ⟨x, hx⟩ := hE n cs' _ g2
      refine ⟨x, fun q hq => ?_⟩
      have hq' : q < (enc x).length := by rw [hl]; exact hq
      obtain ⟨u, k1, k2, k3⟩ := hx q _ (List.getElem?_eq_getElem hq')
      have := gat q (by rw [hsz]; exact hq)
      rw [Go.Deep.add_add, k1, hsz] at this
      refine ⟨u, this, k2, fun c hc => ?_⟩
      rw [List.getElem?_eq_getElem hq'] at hc
      cases hc
      exact k3
    obtain ⟨l, hll, hlx⟩ := exists_list hall
    have hsp : a.spot = none := by
      have hl0 : 0 < l.length := by omega
      obtain ⟨u, k1, _⟩ := hlx 0 _ (List.getElem?_eq_getElem hl0) 0 hpos
      simp only [Nat.zero_mul, Nat.zero_add, Addr.add, if_pos] at k1
      unfold World.cell? at k1
      split at k1
      · split at k1
        · cases k1
        · rename_i hs; simpa using hs
      · cases k1
    have had : ∀ j, a.add j = ⟨a.block, a.off + j, none⟩ := fun j => by
      unfold Addr.add
      split
      · rename_i hj
        subst hj
        cases a
        simp at hsp
        subst hsp
        rfl
      · rfl
    have key : ∀ j c, (l.flatMap enc)[j]? = some c → ∃ u, w.cell? ⟨a.block, a.off + j, none⟩ = some u ∧ u.oneCell' = true ∧ VI (old w) w c u := fun j c hj => by
      have hdm : j = (j / sz) * sz + j % sz := by rw [Nat.mul_comm]; exact (Nat.div_add_mod j sz).symm
      have hq := Nat.mod_lt j hpos
      rw [hdm, flatMap_at hl l hq] at hj
      obtain ⟨x, hx, hc⟩ := Option.bind_eq_some_iff.1 hj
      obtain ⟨u, k1, k2, k3⟩ := hlx _ x hx _ hq
      rw [← hdm, had] at k1
      exact ⟨u, k1, k2, k3 c hc⟩
    have hb : old w a.block := by
      have hl0 : 0 < l.length := by omega
      obtain ⟨u, k1, _⟩ := hlx 0 _ (List.getElem?_eq_getElem hl0) 0 hpos
      rw [had] at k1
      unfold World.cell? at k1
      split at k1
      · rename_i c _ _ hh
        exact (Array.getElem?_eq_some_iff.1 hh).1
      · cases k1
    refine ⟨l, .imm l.length (l.flatMap enc), .inr rfl, ?_⟩
    have ea : a = ⟨a.block, a.off, none⟩ := by
      cases a
      simp at hsp
      subst hsp
      rfl
    rw [ea, hll]
    exact .imm len cap a.block a.off _ (fun j => (w.cell? ⟨a.block, a.off + j, none⟩).getD .nilFunc) hb hlc (fun j c hj => by
      obtain ⟨u, k1, k2, _⟩ := key j c hj
      rw [k1]
      exact ⟨rfl, k2⟩) (fun j c hj => by
      obtain ⟨u, k1, _, k3⟩ := key j c hj
      rw [k1]
      exact k3)

/-- The renaming of a memory in which only the package-level variables lie owns nothing. -/
theorem m0_below {C : Cfg} {I : Nat → Prop} {w w' : World} {r : AVal} {m' : Mem} {e : Ending} (h : CallPost C (ren0 C) I C.m0 w r m' e w') :
    ∃ v ρ' I', e = .returned v ∧ VR ρ' I' w' r v ∧ Below w.heap.size w w' := by
  obtain ⟨v, ρ', I', rfl, _, h2, h3, _⟩ := h
  refine ⟨v, ρ', I', rfl, h2, h3.os, h3.tape, h3.output, h3.size, fun b hb => h3.same b hb ?_⟩
  rintro ⟨id, base, k1, _⟩
  simp only [Cfg.m0] at k1
  split at k1 <;> cases k1

theorem VI.int_elem (I : Nat → Prop) (w : World) (k : IntKind) (n : Int) : VI I w (.int k n) (.int k n) := .int k n

theorem elem_int {e : TypeId} (he : P.underlying e = some (.int .i64)) : ElemOf ench P w spare held e (fun x : Int => [AVal.int .i64 x]) := fun n cs x hx => by
  obtain ⟨z, rfl, _⟩ := DataW.trod_int he hx
  refine ⟨z, fun j c hj => ?_⟩
  cases j with
  | zero => simp at hj; subst hj; exact ⟨_, rfl, rfl, .int _ _⟩
  | succ j => simp at hj
theorem elem_bool {e : TypeId} (he : P.underlying e = some .bool) : ElemOf ench P w spare held e (fun x : Bool => [AVal.bool x]) := fun n cs x hx => by
  obtain ⟨z, rfl, _⟩ := DataW.trod_bool he hx
  refine ⟨z, fun j c hj => ?_⟩
  cases j with
  | zero => simp at hj; subst hj; exact ⟨_, rfl, rfl, .bool _⟩
  | succ j => simp at hj

/-- A field of a struct that is one integer. -/
theorem field_int {t : TypeId} {fs : Array Field} {n : Nat} {cs : List Value} {x : DataW H × List MemPlace} (ht : P.underlying t = some (.struct fs)) (h : DataW.trod ench P w 0 spare held n t cs = some x) {i : Nat} {f : Field} (hf : fs[i]? = some f) {k : IntKind}
    (hk : P.underlying f.type = some (.int k)) : ∃ z, cs[f.offset]? = some (.int k z) := by
  obtain ⟨xs, m, _, _, _, hlen, hall⟩ := DataW.trod_struct ht h
  have hi : i < xs.length := by rw [hlen]; exact (Array.getElem?_eq_some_iff.1 hf).1
  have := hall i f hf
  rw [List.getElem?_eq_getElem hi] at this
  obtain ⟨z, hz, _⟩ := DataW.trod_int hk this
  refine ⟨z, ?_⟩
  have h2 : ((cs.drop f.offset).take (P.cellsOf f.type))[0]? = some (.int k z) := by rw [hz]; rfl
  rw [List.getElem?_take] at h2
  split at h2
  · rw [List.getElem?_drop] at h2
    simpa using h2
  · cases h2
end
end Go.Ab
end
section
/- The types of the program, the configuration of the abstract machine, and the bodies of the functions. -/
set_option linter.unusedVariables false
namespace Go.Proofs.YtmfdjipijifabaaDoor
open Go.Ab
@[simp] theorem sz3 : sizeT Tryd.prog 3 = some 1 := by kernel_rfl
@[simp] theorem ag3 : isAggT Tryd.prog 3 = some false := by kernel_rfl
@[simp] theorem zc3 : zeroA Tryd.prog 3 = some [AVal.int .i64 0] := by kernel_rfl
@[simp] theorem sz4 : sizeT Tryd.prog 4 = some 1 := by kernel_rfl
@[simp] theorem ag4 : isAggT Tryd.prog 4 = some false := by kernel_rfl
@[simp] theorem zc4 : zeroA Tryd.prog 4 = some [AVal.bool false] := by kernel_rfl
@[simp] theorem sz5 : sizeT Tryd.prog 5 = some 1 := by kernel_rfl
@[simp] theorem ag5 : isAggT Tryd.prog 5 = some false := by kernel_rfl
@[simp] theorem zc5 : zeroA Tryd.prog 5 = some [AVal.int .u8 0] := by kernel_rfl
@[simp] theorem sz9 : sizeT Tryd.prog 9 = some 1 := by kernel_rfl
@[simp] theorem ag9 : isAggT Tryd.prog 9 = some false := by kernel_rfl
@[simp] theorem zc9 : zeroA Tryd.prog 9 = some [AVal.str ByteArray.empty] := by kernel_rfl
@[simp] theorem sz22 : sizeT Tryd.prog 22 = some 1 := by kernel_rfl
@[simp] theorem ag22 : isAggT Tryd.prog 22 = some false := by kernel_rfl
@[simp] theorem zc22 : zeroA Tryd.prog 22 = some [AVal.nils] := by kernel_rfl
@[simp] theorem sz23 : sizeT Tryd.prog 23 = some 1 := by kernel_rfl
@[simp] theorem ag23 : isAggT Tryd.prog 23 = some false := by kernel_rfl
@[simp] theorem zc23 : zeroA Tryd.prog 23 = some [AVal.nils] := by kernel_rfl
@[simp] theorem sz24 : sizeT Tryd.prog 24 = some 1 := by kernel_rfl
@[simp] theorem ag24 : isAggT Tryd.prog 24 = some false := by kernel_rfl
@[simp] theorem zc24 : zeroA Tryd.prog 24 = some [AVal.nils] := by kernel_rfl
@[simp] theorem sz26 : sizeT Tryd.prog 26 = some 1 := by kernel_rfl
@[simp] theorem ag26 : isAggT Tryd.prog 26 = some false := by kernel_rfl
@[simp] theorem zc26 : zeroA Tryd.prog 26 = some [AVal.nils] := by kernel_rfl
@[simp] theorem sz27 : sizeT Tryd.prog 27 = some 1 := by kernel_rfl
@[simp] theorem ag27 : isAggT Tryd.prog 27 = some false := by kernel_rfl
@[simp] theorem zc27 : zeroA Tryd.prog 27 = some [AVal.nils] := by kernel_rfl
@[simp] theorem sz29 : sizeT Tryd.prog 29 = some 4 := by kernel_rfl
@[simp] theorem ag29 : isAggT Tryd.prog 29 = some true := by kernel_rfl
@[simp] theorem zc29 : zeroA Tryd.prog 29 = some [AVal.nils, AVal.nils, AVal.bool false, AVal.int .i64 0] := by kernel_rfl
@[simp] theorem sz30 : sizeT Tryd.prog 30 = some 1 := by kernel_rfl
@[simp] theorem ag30 : isAggT Tryd.prog 30 = some false := by kernel_rfl
@[simp] theorem zc30 : zeroA Tryd.prog 30 = some [AVal.nils] := by kernel_rfl
@[simp] theorem sz31 : sizeT Tryd.prog 31 = some 1 := by kernel_rfl
@[simp] theorem ag31 : isAggT Tryd.prog 31 = some false := by kernel_rfl
@[simp] theorem zc31 : zeroA Tryd.prog 31 = some [AVal.nils] := by kernel_rfl
@[simp] theorem sz33 : sizeT Tryd.prog 33 = some 2 := by kernel_rfl
@[simp] theorem ag33 : isAggT Tryd.prog 33 = some true := by kernel_rfl
@[simp] theorem zc33 : zeroA Tryd.prog 33 = some [AVal.nils, AVal.nils] := by kernel_rfl
@[simp] theorem sz36 : sizeT Tryd.prog 36 = some 1 := by kernel_rfl
@[simp] theorem ag36 : isAggT Tryd.prog 36 = some false := by kernel_rfl
@[simp] theorem zc36 : zeroA Tryd.prog 36 = some [AVal.int .i64 0] := by kernel_rfl
@[simp] theorem sz40 : sizeT Tryd.prog 40 = some 1 := by kernel_rfl
@[simp] theorem ag40 : isAggT Tryd.prog 40 = some false := by kernel_rfl
@[simp] theorem zc40 : zeroA Tryd.prog 40 = some [AVal.nils] := by kernel_rfl
@[simp] theorem sz44 : sizeT Tryd.prog 44 = some 5 := by kernel_rfl
@[simp] theorem ag44 : isAggT Tryd.prog 44 = some true := by kernel_rfl
@[simp] theorem zc44 : zeroA Tryd.prog 44 = some [AVal.int .i64 0, AVal.int .i64 0, AVal.int .i64 0, AVal.bool false, AVal.bool false] := by kernel_rfl
@[simp] theorem sz46 : sizeT Tryd.prog 46 = some 1 := by kernel_rfl
@[simp] theorem ag46 : isAggT Tryd.prog 46 = some false := by kernel_rfl
@[simp] theorem zc46 : zeroA Tryd.prog 46 = some [AVal.nils] := by kernel_rfl
@[simp] theorem sz51 : sizeT Tryd.prog 51 = some 4 := by kernel_rfl
@[simp] theorem ag51 : isAggT Tryd.prog 51 = some true := by kernel_rfl
@[simp] theorem zc51 : zeroA Tryd.prog 51 = some [AVal.int .u8 0, AVal.int .i64 0, AVal.int .i64 0, AVal.int .i64 0] := by kernel_rfl
@[simp] theorem sz53 : sizeT Tryd.prog 53 = some 7 := by kernel_rfl
@[simp] theorem ag53 : isAggT Tryd.prog 53 = some true := by kernel_rfl
@[simp] theorem zc53 : zeroA Tryd.prog 53 = some [AVal.int .u8 0, AVal.int .i64 0, AVal.int .i64 0, AVal.int .i64 0, AVal.int .i64 0, AVal.int .i64 0, AVal.int .i64 0] := by kernel_rfl
@[simp] theorem sz58 : sizeT Tryd.prog 58 = some 6 := by kernel_rfl
@[simp] theorem ag58 : isAggT Tryd.prog 58 = some true := by kernel_rfl
@[simp] theorem zc58 : zeroA Tryd.prog 58 = some [AVal.int .i64 0, AVal.int .i64 0, AVal.int .i64 0, AVal.int .i64 0, AVal.int .i64 0, AVal.int .i64 0] := by kernel_rfl
@[simp] theorem sz63 : sizeT Tryd.prog 63 = some 4 := by kernel_rfl
@[simp] theorem ag63 : isAggT Tryd.prog 63 = some true := by kernel_rfl
@[simp] theorem zc63 : zeroA Tryd.prog 63 = some [AVal.int .i64 0, AVal.int .i64 0, AVal.int .i64 0, AVal.int .i64 0] := by kernel_rfl
@[simp] theorem sz68 : sizeT Tryd.prog 68 = some 1 := by kernel_rfl
@[simp] theorem ag68 : isAggT Tryd.prog 68 = some false := by kernel_rfl
@[simp] theorem sz69 : sizeT Tryd.prog 69 = some 1 := by kernel_rfl
@[simp] theorem ag69 : isAggT Tryd.prog 69 = some false := by kernel_rfl
@[simp] theorem zc69 : zeroA Tryd.prog 69 = some [AVal.nilp] := by kernel_rfl
@[simp] theorem sz70 : sizeT Tryd.prog 70 = some 1 := by kernel_rfl
@[simp] theorem ag70 : isAggT Tryd.prog 70 = some false := by kernel_rfl
@[simp] theorem zc70 : zeroA Tryd.prog 70 = some [AVal.nils] := by kernel_rfl
@[simp] theorem sz72 : sizeT Tryd.prog 72 = some 7 := by kernel_rfl
@[simp] theorem ag72 : isAggT Tryd.prog 72 = some true := by kernel_rfl
@[simp] theorem zc72 : zeroA Tryd.prog 72 = some [AVal.nils, AVal.nils, AVal.bool false, AVal.int .i64 0, AVal.nils, AVal.nils, AVal.nils] := by kernel_rfl
@[simp] theorem sz74 : sizeT Tryd.prog 74 = some 12 := by kernel_rfl
@[simp] theorem ag74 : isAggT Tryd.prog 74 = some true := by kernel_rfl
@[simp] theorem zc74 : zeroA Tryd.prog 74 = some [AVal.int .u8 0, AVal.int .i64 0, AVal.int .i64 0, AVal.int .i64 0, AVal.int .i64 0, AVal.int .i64 0, AVal.int .i64 0, AVal.int .i64 0, AVal.int .i64 0, AVal.bool false, AVal.bool false, AVal.int .i64 0] := by kernel_rfl
@[simp] theorem sz77 : sizeT Tryd.prog 77 = some 4 := by kernel_rfl
@[simp] theorem ag77 : isAggT Tryd.prog 77 = some true := by kernel_rfl
@[simp] theorem zc77 : zeroA Tryd.prog 77 = some [AVal.int .i64 0, AVal.int .i64 0, AVal.int .i64 0, AVal.int .i64 0] := by kernel_rfl
@[simp] theorem sz97 : sizeT Tryd.prog 97 = some 1 := by kernel_rfl
@[simp] theorem ag97 : isAggT Tryd.prog 97 = some false := by kernel_rfl
@[simp] theorem sz108 : sizeT Tryd.prog 108 = some 1 := by kernel_rfl
@[simp] theorem ag108 : isAggT Tryd.prog 108 = some false := by kernel_rfl
@[simp] theorem sz117 : sizeT Tryd.prog 117 = some 2 := by kernel_rfl
@[simp] theorem ag117 : isAggT Tryd.prog 117 = some true := by kernel_rfl
@[simp] theorem zc117 : zeroA Tryd.prog 117 = some [AVal.int .i64 0, AVal.int .i64 0] := by kernel_rfl
@[simp] theorem sz118 : sizeT Tryd.prog 118 = some 8 := by kernel_rfl
@[simp] theorem ag118 : isAggT Tryd.prog 118 = some true := by kernel_rfl
@[simp] theorem zc118 : zeroA Tryd.prog 118 = some [AVal.int .i64 0, AVal.int .i64 0, AVal.int .i64 0, AVal.int .i64 0, AVal.int .i64 0, AVal.int .i64 0, AVal.int .i64 0, AVal.int .i64 0] := by kernel_rfl
@[simp] theorem sz120 : sizeT Tryd.prog 120 = some 1 := by kernel_rfl
@[simp] theorem ag120 : isAggT Tryd.prog 120 = some false := by kernel_rfl
@[simp] theorem zc120 : zeroA Tryd.prog 120 = some [AVal.int .u64 0] := by kernel_rfl
@[simp] theorem sz123 : sizeT Tryd.prog 123 = some 1 := by kernel_rfl
@[simp] theorem ag123 : isAggT Tryd.prog 123 = some false := by kernel_rfl
@[simp] theorem zc123 : zeroA Tryd.prog 123 = some [AVal.int .u64 0] := by kernel_rfl
attribute [simp] Tryd.underlying3 Tryd.underlying4 Tryd.underlying5 Tryd.underlying9 Tryd.underlying22 Tryd.underlying23 Tryd.underlying24 Tryd.underlying26 Tryd.underlying27 Tryd.underlying29 Tryd.underlying30 Tryd.underlying31 Tryd.underlying33 Tryd.underlying36 Tryd.underlying40 Tryd.underlying44 Tryd.underlying46 Tryd.underlying51 Tryd.underlying53 Tryd.underlying58 Tryd.underlying63 Tryd.underlying68 Tryd.underlying69 Tryd.underlying70 Tryd.underlying72 Tryd.underlying74 Tryd.underlying77 Tryd.underlying97 Tryd.underlying108 Tryd.underlying117 Tryd.underlying118 Tryd.underlying120 Tryd.underlying123
def pures : List Nat := [3,4,5,6,7,8,9,10,11,12,13,14,15,16,17,18,20,24,26,27,28,29,30,31,32,33,34,35,36,37,41,45,47,50,51,53,54,55,57,58,59,60,62,63,64,65,66,71,72,74,75]
noncomputable def windows : List AVal := [.int .i64 15, .int .i64 1023, .int .i64 15, .int .i64 1023, .int .i64 7, .int .i64 15, .int .i64 3, .int .i64 7]
noncomputable def C : Cfg where
  P := Tryd.prog
  ng := 1
  glob := fun g => if g = 0 then windows else []
  kind := fun f => if pures.contains f then .pure else if f = 44 then .shallow else .plain
@[simp] theorem C_P : C.P = Tryd.prog := rfl
@[simp] theorem C_ng : C.ng = 1 := rfl
def T (f id : Nat) : List (Nat × Nat) :=
  if f = 4 ∧ id = 6 then [(0, 2)] else
  if f = 5 ∧ id = 6 then [(2, 5), (1, 11), (2, 11), (5, 11), (6, 11), (7, 11)] else
  if f = 5 ∧ id = 8 then [(1, 2)] else
  if f = 5 ∧ id = 12 then [(1, 5), (2, 5), (5, 7), (1, 8), (2, 8), (1, 12)] else
  if f = 5 ∧ id = 13 then [(1, 4), (1, 6)] else
  if f = 5 ∧ id = 14 then [(1, 4), (1, 5), (4, 8), (5, 8), (6, 8), (1, 11), (6, 11), (8, 11), (1, 12), (6, 12), (8, 12)] else
  if f = 5 ∧ id = 28 then [(1, 2)] else
  if f = 8 ∧ id = 10 then [(4, 7)] else
  if f = 23 ∧ id = 9 then [(5, 8)] else
  if f = 23 ∧ id = 12 then [(4, 24)] else
  if f = 28 ∧ id = 2 then [(1, 7), (5, 7)] else
  if f = 35 ∧ id = 1 then [(1, 10), (4, 10), (6, 10), (9, 10), (1, 11), (4, 11), (6, 11), (9, 11), (6, 12), (9, 12)] else
  []
@[simp] theorem T_3_36 : T 3 36 = [] := by kernel_rfl
@[simp] theorem T_4_6 : T 4 6 = [(0, 2)] := by kernel_rfl
@[simp] theorem T_5_6 : T 5 6 = [(2, 5), (1, 11), (2, 11), (5, 11), (6, 11), (7, 11)] := by kernel_rfl
@[simp] theorem T_5_8 : T 5 8 = [(1, 2)] := by kernel_rfl
@[simp] theorem T_5_12 : T 5 12 = [(1, 5), (2, 5), (5, 7), (1, 8), (2, 8), (1, 12)] := by kernel_rfl
@[simp] theorem T_5_13 : T 5 13 = [(1, 4), (1, 6)] := by kernel_rfl
@[simp] theorem T_5_14 : T 5 14 = [(1, 4), (1, 5), (4, 8), (5, 8), (6, 8), (1, 11), (6, 11), (8, 11), (1, 12), (6, 12), (8, 12)] := by kernel_rfl
@[simp] theorem T_5_23 : T 5 23 = [] := by kernel_rfl
@[simp] theorem T_5_28 : T 5 28 = [(1, 2)] := by kernel_rfl
@[simp] theorem T_8_10 : T 8 10 = [(4, 7)] := by kernel_rfl
@[simp] theorem T_9_5 : T 9 5 = [] := by kernel_rfl
@[simp] theorem T_9_6 : T 9 6 = [] := by kernel_rfl
@[simp] theorem T_9_10 : T 9 10 = [] := by kernel_rfl
@[simp] theorem T_10_7 : T 10 7 = [] := by kernel_rfl
@[simp] theorem T_12_1 : T 12 1 = [] := by kernel_rfl
@[simp] theorem T_12_2 : T 12 2 = [] := by kernel_rfl
@[simp] theorem T_12_7 : T 12 7 = [] := by kernel_rfl
@[simp] theorem T_13_8 : T 13 8 = [] := by kernel_rfl
@[simp] theorem T_13_11 : T 13 11 = [] := by kernel_rfl
@[simp] theorem T_14_6 : T 14 6 = [] := by kernel_rfl
@[simp] theorem T_17_1 : T 17 1 = [] := by kernel_rfl
@[simp] theorem T_22_7 : T 22 7 = [] := by kernel_rfl
@[simp] theorem T_22_9 : T 22 9 = [] := by kernel_rfl
@[simp] theorem T_22_10 : T 22 10 = [] := by kernel_rfl
@[simp] theorem T_22_24 : T 22 24 = [] := by kernel_rfl
@[simp] theorem T_23_9 : T 23 9 = [(5, 8)] := by kernel_rfl
@[simp] theorem T_23_12 : T 23 12 = [(4, 24)] := by kernel_rfl
@[simp] theorem T_27_10 : T 27 10 = [] := by kernel_rfl
@[simp] theorem T_28_1 : T 28 1 = [] := by kernel_rfl
@[simp] theorem T_28_2 : T 28 2 = [(1, 7), (5, 7)] := by kernel_rfl
@[simp] theorem T_29_1 : T 29 1 = [] := by kernel_rfl
@[simp] theorem T_35_1 : T 35 1 = [(1, 10), (4, 10), (6, 10), (9, 10), (1, 11), (4, 11), (6, 11), (9, 11), (6, 12), (9, 12)] := by kernel_rfl
@[simp] theorem T_42_2 : T 42 2 = [] := by kernel_rfl
@[simp] theorem T_42_7 : T 42 7 = [] := by kernel_rfl
@[simp] theorem T_43_4 : T 43 4 = [] := by kernel_rfl
@[simp] theorem T_43_5 : T 43 5 = [] := by kernel_rfl
@[simp] theorem T_55_2 : T 55 2 = [] := by kernel_rfl
@[simp] theorem kd3 : C.kind 3 = .pure := by kernel_rfl
theorem chk3 : bodyChk (T 3) Tryd.f3 6 = true := by kernel_rfl
theorem body3 (call : CallF) (n : Nat) (m : Mem) (a0 a1 a2 a3 a4 a5 : AVal) : cBody C call (T 3) n 3 [a0, a1, a2, a3, a4, a5] m = fin C [.tmp 12] (cCode C call (T 3) n (codeOf Tryd.f3) ⟨envOf [a0, a1, a2, a3, a4, a5], m⟩) := cBody_eq Tryd.func3 chk3 (by kernel_rfl) m
@[simp] theorem kd4 : C.kind 4 = .pure := by kernel_rfl
theorem chk4 : bodyChk (T 4) Tryd.f4 0 = true := by kernel_rfl
theorem body4 (call : CallF) (n : Nat) (m : Mem) : cBody C call (T 4) n 4 [] m = fin C [.tmp 0] (cCode C call (T 4) n (codeOf Tryd.f4) ⟨envOf [], m⟩) := cBody_eq Tryd.func4 chk4 (by kernel_rfl) m
@[simp] theorem kd5 : C.kind 5 = .pure := by kernel_rfl
theorem chk5 : bodyChk (T 5) Tryd.f5 3 = true := by kernel_rfl
theorem body5 (call : CallF) (n : Nat) (m : Mem) (a0 a1 a2 : AVal) : cBody C call (T 5) n 5 [a0, a1, a2] m = fin C [.cell 6 29, .cell 7 33, .tmp 8] (cCode C call (T 5) n (codeOf Tryd.f5) ⟨envOf [a0, a1, a2], m⟩) := cBody_eq Tryd.func5 chk5 (by kernel_rfl) m
@[simp] theorem kd6 : C.kind 6 = .pure := by kernel_rfl
theorem chk6 : bodyChk (T 6) Tryd.f6 3 = true := by kernel_rfl
theorem body6 (call : CallF) (n : Nat) (m : Mem) (a0 a1 a2 : AVal) : cBody C call (T 6) n 6 [a0, a1, a2] m = fin C [.tmp 6, .tmp 7] (cCode C call (T 6) n (codeOf Tryd.f6) ⟨envOf [a0, a1, a2], m⟩) := cBody_eq Tryd.func6 chk6 (by kernel_rfl) m
@[simp] theorem kd7 : C.kind 7 = .pure := by kernel_rfl
theorem chk7 : bodyChk (T 7) Tryd.f7 2 = true := by kernel_rfl
theorem body7 (call : CallF) (n : Nat) (m : Mem) (a0 a1 : AVal) : cBody C call (T 7) n 7 [a0, a1] m = fin C [.tmp 4] (cCode C call (T 7) n (codeOf Tryd.f7) ⟨envOf [a0, a1], m⟩) := cBody_eq Tryd.func7 chk7 (by kernel_rfl) m
@[simp] theorem kd8 : C.kind 8 = .pure := by kernel_rfl
theorem chk8 : bodyChk (T 8) Tryd.f8 2 = true := by kernel_rfl
theorem body8 (call : CallF) (n : Nat) (m : Mem) (a0 a1 : AVal) : cBody C call (T 8) n 8 [a0, a1] m = fin C [.tmp 4, .tmp 5, .tmp 6] (cCode C call (T 8) n (codeOf Tryd.f8) ⟨envOf [a0, a1], m⟩) := cBody_eq Tryd.func8 chk8 (by kernel_rfl) m
@[simp] theorem kd9 : C.kind 9 = .pure := by kernel_rfl
theorem chk9 : bodyChk (T 9) Tryd.f9 5 = true := by kernel_rfl
theorem body9 (call : CallF) (n : Nat) (m : Mem) (a0 a1 a2 a3 a4 : AVal) : cBody C call (T 9) n 9 [a0, a1, a2, a3, a4] m = fin C [.tmp 10] (cCode C call (T 9) n (codeOf Tryd.f9) ⟨envOf [a0, a1, a2, a3, a4], m⟩) := cBody_eq Tryd.func9 chk9 (by kernel_rfl) m
@[simp] theorem kd10 : C.kind 10 = .pure := by kernel_rfl
theorem chk10 : bodyChk (T 10) Tryd.f10 3 = true := by kernel_rfl
theorem body10 (call : CallF) (n : Nat) (m : Mem) (a0 a1 a2 : AVal) : cBody C call (T 10) n 10 [a0, a1, a2] m = fin C [.tmp 6] (cCode C call (T 10) n (codeOf Tryd.f10) ⟨envOf [a0, a1, a2], m⟩) := cBody_eq Tryd.func10 chk10 (by kernel_rfl) m
@[simp] theorem kd11 : C.kind 11 = .pure := by kernel_rfl
theorem chk11 : bodyChk (T 11) Tryd.f11 3 = true := by kernel_rfl
theorem body11 (call : CallF) (n : Nat) (m : Mem) (a0 a1 a2 : AVal) : cBody C call (T 11) n 11 [a0, a1, a2] m = fin C [.tmp 6, .tmp 7] (cCode C call (T 11) n (codeOf Tryd.f11) ⟨envOf [a0, a1, a2], m⟩) := cBody_eq Tryd.func11 chk11 (by kernel_rfl) m
@[simp] theorem kd12 : C.kind 12 = .pure := by kernel_rfl
theorem chk12 : bodyChk (T 12) Tryd.f12 3 = true := by kernel_rfl
theorem body12 (call : CallF) (n : Nat) (m : Mem) (a0 a1 a2 : AVal) : cBody C call (T 12) n 12 [a0, a1, a2] m = fin C [.tmp 6] (cCode C call (T 12) n (codeOf Tryd.f12) ⟨envOf [a0, a1, a2], m⟩) := cBody_eq Tryd.func12 chk12 (by kernel_rfl) m
@[simp] theorem kd13 : C.kind 13 = .pure := by kernel_rfl
theorem chk13 : bodyChk (T 13) Tryd.f13 4 = true := by kernel_rfl
theorem body13 (call : CallF) (n : Nat) (m : Mem) (a0 a1 a2 a3 : AVal) : cBody C call (T 13) n 13 [a0, a1, a2, a3] m = fin C [.tmp 8] (cCode C call (T 13) n (codeOf Tryd.f13) ⟨envOf [a0, a1, a2, a3], m⟩) := cBody_eq Tryd.func13 chk13 (by kernel_rfl) m
@[simp] theorem kd14 : C.kind 14 = .pure := by kernel_rfl
theorem chk14 : bodyChk (T 14) Tryd.f14 2 = true := by kernel_rfl
theorem body14 (call : CallF) (n : Nat) (m : Mem) (a0 a1 : AVal) : cBody C call (T 14) n 14 [a0, a1] m = fin C [.tmp 4] (cCode C call (T 14) n (codeOf Tryd.f14) ⟨envOf [a0, a1], m⟩) := cBody_eq Tryd.func14 chk14 (by kernel_rfl) m
@[simp] theorem kd15 : C.kind 15 = .pure := by kernel_rfl
theorem chk15 : bodyChk (T 15) Tryd.f15 2 = true := by kernel_rfl
theorem body15 (call : CallF) (n : Nat) (m : Mem) (a0 a1 : AVal) : cBody C call (T 15) n 15 [a0, a1] m = fin C [.cell 4 51, .tmp 5] (cCode C call (T 15) n (codeOf Tryd.f15) ⟨envOf [a0, a1], m⟩) := cBody_eq Tryd.func15 chk15 (by kernel_rfl) m
@[simp] theorem kd16 : C.kind 16 = .pure := by kernel_rfl
theorem chk16 : bodyChk (T 16) Tryd.f16 2 = true := by kernel_rfl
theorem body16 (call : CallF) (n : Nat) (m : Mem) (a0 a1 : AVal) : cBody C call (T 16) n 16 [a0, a1] m = fin C [.tmp 4] (cCode C call (T 16) n (codeOf Tryd.f16) ⟨envOf [a0, a1], m⟩) := cBody_eq Tryd.func16 chk16 (by kernel_rfl) m
@[simp] theorem kd17 : C.kind 17 = .pure := by kernel_rfl
theorem chk17 : bodyChk (T 17) Tryd.f17 3 = true := by kernel_rfl
theorem body17 (call : CallF) (n : Nat) (m : Mem) (a0 a1 a2 : AVal) : cBody C call (T 17) n 17 [a0, a1, a2] m = fin C [.tmp 6] (cCode C call (T 17) n (codeOf Tryd.f17) ⟨envOf [a0, a1, a2], m⟩) := cBody_eq Tryd.func17 chk17 (by kernel_rfl) m
@[simp] theorem kd18 : C.kind 18 = .pure := by kernel_rfl
theorem chk18 : bodyChk (T 18) Tryd.f18 1 = true := by kernel_rfl
theorem body18 (call : CallF) (n : Nat) (m : Mem) (a0 : AVal) : cBody C call (T 18) n 18 [a0] m = fin C [.tmp 2] (cCode C call (T 18) n (codeOf Tryd.f18) ⟨envOf [a0], m⟩) := cBody_eq Tryd.func18 chk18 (by kernel_rfl) m
@[simp] theorem kd19 : C.kind 19 = .plain := by kernel_rfl
theorem chk19 : bodyChk (T 19) Tryd.f19 2 = true := by kernel_rfl
theorem body19 (call : CallF) (n : Nat) (m : Mem) (a0 a1 : AVal) : cBody C call (T 19) n 19 [a0, a1] m = fin C [.tmp 4] (cCode C call (T 19) n (codeOf Tryd.f19) ⟨envOf [a0, a1], m⟩) := cBody_eq Tryd.func19 chk19 (by kernel_rfl) m
@[simp] theorem kd20 : C.kind 20 = .pure := by kernel_rfl
theorem chk20 : bodyChk (T 20) Tryd.f20 1 = true := by kernel_rfl
theorem body20 (call : CallF) (n : Nat) (m : Mem) (a0 : AVal) : cBody C call (T 20) n 20 [a0] m = fin C [.tmp 2] (cCode C call (T 20) n (codeOf Tryd.f20) ⟨envOf [a0], m⟩) := cBody_eq Tryd.func20 chk20 (by kernel_rfl) m
@[simp] theorem kd21 : C.kind 21 = .plain := by kernel_rfl
theorem chk21 : bodyChk (T 21) Tryd.f21 2 = true := by kernel_rfl
theorem body21 (call : CallF) (n : Nat) (m : Mem) (a0 a1 : AVal) : cBody C call (T 21) n 21 [a0, a1] m = fin C [] (cCode C call (T 21) n (codeOf Tryd.f21) ⟨envOf [a0, a1], m⟩) := cBody_eq Tryd.func21 chk21 (by kernel_rfl) m
@[simp] theorem kd22 : C.kind 22 = .plain := by kernel_rfl
theorem chk22 : bodyChk (T 22) Tryd.f22 2 = true := by kernel_rfl
theorem body22 (call : CallF) (n : Nat) (m : Mem) (a0 a1 : AVal) : cBody C call (T 22) n 22 [a0, a1] m = fin C [] (cCode C call (T 22) n (codeOf Tryd.f22) ⟨envOf [a0, a1], m⟩) := cBody_eq Tryd.func22 chk22 (by kernel_rfl) m
@[simp] theorem kd23 : C.kind 23 = .plain := by kernel_rfl
theorem chk23 : bodyChk (T 23) Tryd.f23 2 = true := by kernel_rfl
theorem body23 (call : CallF) (n : Nat) (m : Mem) (a0 a1 : AVal) : cBody C call (T 23) n 23 [a0, a1] m = fin C [] (cCode C call (T 23) n (codeOf Tryd.f23) ⟨envOf [a0, a1], m⟩) := cBody_eq Tryd.func23 chk23 (by kernel_rfl) m
@[simp] theorem kd24 : C.kind 24 = .pure := by kernel_rfl
theorem chk24 : bodyChk (T 24) Tryd.f24 4 = true := by kernel_rfl
theorem body24 (call : CallF) (n : Nat) (m : Mem) (a0 a1 a2 a3 : AVal) : cBody C call (T 24) n 24 [a0, a1, a2, a3] m = fin C [.tmp 8, .tmp 9] (cCode C call (T 24) n (codeOf Tryd.f24) ⟨envOf [a0, a1, a2, a3], m⟩) := cBody_eq Tryd.func24 chk24 (by kernel_rfl) m
@[simp] theorem kd25 : C.kind 25 = .plain := by kernel_rfl
theorem chk25 : bodyChk (T 25) Tryd.f25 3 = true := by kernel_rfl
theorem body25 (call : CallF) (n : Nat) (m : Mem) (a0 a1 a2 : AVal) : cBody C call (T 25) n 25 [a0, a1, a2] m = fin C [] (cCode C call (T 25) n (codeOf Tryd.f25) ⟨envOf [a0, a1, a2], m⟩) := cBody_eq Tryd.func25 chk25 (by kernel_rfl) m
@[simp] theorem kd26 : C.kind 26 = .pure := by kernel_rfl
theorem chk26 : bodyChk (T 26) Tryd.f26 2 = true := by kernel_rfl
theorem body26 (call : CallF) (n : Nat) (m : Mem) (a0 a1 : AVal) : cBody C call (T 26) n 26 [a0, a1] m = fin C [.tmp 4] (cCode C call (T 26) n (codeOf Tryd.f26) ⟨envOf [a0, a1], m⟩) := cBody_eq Tryd.func26 chk26 (by kernel_rfl) m
@[simp] theorem kd27 : C.kind 27 = .pure := by kernel_rfl
theorem chk27 : bodyChk (T 27) Tryd.f27 4 = true := by kernel_rfl
theorem body27 (call : CallF) (n : Nat) (m : Mem) (a0 a1 a2 a3 : AVal) : cBody C call (T 27) n 27 [a0, a1, a2, a3] m = fin C [.cell 8 4] (cCode C call (T 27) n (codeOf Tryd.f27) ⟨envOf [a0, a1, a2, a3], m⟩) := cBody_eq Tryd.func27 chk27 (by kernel_rfl) m
@[simp] theorem kd28 : C.kind 28 = .pure := by kernel_rfl
theorem chk28 : bodyChk (T 28) Tryd.f28 3 = true := by kernel_rfl
theorem body28 (call : CallF) (n : Nat) (m : Mem) (a0 a1 a2 : AVal) : cBody C call (T 28) n 28 [a0, a1, a2] m = fin C [.tmp 6] (cCode C call (T 28) n (codeOf Tryd.f28) ⟨envOf [a0, a1, a2], m⟩) := cBody_eq Tryd.func28 chk28 (by kernel_rfl) m
@[simp] theorem kd29 : C.kind 29 = .pure := by kernel_rfl
theorem chk29 : bodyChk (T 29) Tryd.f29 3 = true := by kernel_rfl
theorem body29 (call : CallF) (n : Nat) (m : Mem) (a0 a1 a2 : AVal) : cBody C call (T 29) n 29 [a0, a1, a2] m = fin C [.tmp 6] (cCode C call (T 29) n (codeOf Tryd.f29) ⟨envOf [a0, a1, a2], m⟩) := cBody_eq Tryd.func29 chk29 (by kernel_rfl) m
@[simp] theorem kd30 : C.kind 30 = .pure := by kernel_rfl
theorem chk30 : bodyChk (T 30) Tryd.f30 2 = true := by kernel_rfl
theorem body30 (call : CallF) (n : Nat) (m : Mem) (a0 a1 : AVal) : cBody C call (T 30) n 30 [a0, a1] m = fin C [.tmp 4] (cCode C call (T 30) n (codeOf Tryd.f30) ⟨envOf [a0, a1], m⟩) := cBody_eq Tryd.func30 chk30 (by kernel_rfl) m
@[simp] theorem kd31 : C.kind 31 = .pure := by kernel_rfl
theorem chk31 : bodyChk (T 31) Tryd.f31 1 = true := by kernel_rfl
theorem body31 (call : CallF) (n : Nat) (m : Mem) (a0 : AVal) : cBody C call (T 31) n 31 [a0] m = fin C [.tmp 2] (cCode C call (T 31) n (codeOf Tryd.f31) ⟨envOf [a0], m⟩) := cBody_eq Tryd.func31 chk31 (by kernel_rfl) m
@[simp] theorem kd32 : C.kind 32 = .pure := by kernel_rfl
theorem chk32 : bodyChk (T 32) Tryd.f32 3 = true := by kernel_rfl
theorem body32 (call : CallF) (n : Nat) (m : Mem) (a0 a1 a2 : AVal) : cBody C call (T 32) n 32 [a0, a1, a2] m = fin C [.cell 6 51] (cCode C call (T 32) n (codeOf Tryd.f32) ⟨envOf [a0, a1, a2], m⟩) := cBody_eq Tryd.func32 chk32 (by kernel_rfl) m
@[simp] theorem kd33 : C.kind 33 = .pure := by kernel_rfl
theorem chk33 : bodyChk (T 33) Tryd.f33 1 = true := by kernel_rfl
theorem body33 (call : CallF) (n : Nat) (m : Mem) (a0 : AVal) : cBody C call (T 33) n 33 [a0] m = fin C [.tmp 2] (cCode C call (T 33) n (codeOf Tryd.f33) ⟨envOf [a0], m⟩) := cBody_eq Tryd.func33 chk33 (by kernel_rfl) m
@[simp] theorem kd34 : C.kind 34 = .pure := by kernel_rfl
theorem chk34 : bodyChk (T 34) Tryd.f34 2 = true := by kernel_rfl
theorem body34 (call : CallF) (n : Nat) (m : Mem) (a0 a1 : AVal) : cBody C call (T 34) n 34 [a0, a1] m = fin C [.tmp 4] (cCode C call (T 34) n (codeOf Tryd.f34) ⟨envOf [a0, a1], m⟩) := cBody_eq Tryd.func34 chk34 (by kernel_rfl) m
@[simp] theorem kd35 : C.kind 35 = .pure := by kernel_rfl
theorem chk35 : bodyChk (T 35) Tryd.f35 3 = true := by kernel_rfl
theorem body35 (call : CallF) (n : Nat) (m : Mem) (a0 a1 a2 : AVal) : cBody C call (T 35) n 35 [a0, a1, a2] m = fin C [.tmp 6] (cCode C call (T 35) n (codeOf Tryd.f35) ⟨envOf [a0, a1, a2], m⟩) := cBody_eq Tryd.func35 chk35 (by kernel_rfl) m
@[simp] theorem kd36 : C.kind 36 = .pure := by kernel_rfl
theorem chk36 : bodyChk (T 36) Tryd.f36 3 = true := by kernel_rfl
theorem body36 (call : CallF) (n : Nat) (m : Mem) (a0 a1 a2 : AVal) : cBody C call (T 36) n 36 [a0, a1, a2] m = fin C [.tmp 6] (cCode C call (T 36) n (codeOf Tryd.f36) ⟨envOf [a0, a1, a2], m⟩) := cBody_eq Tryd.func36 chk36 (by kernel_rfl) m
@[simp] theorem kd37 : C.kind 37 = .pure := by kernel_rfl
theorem chk37 : bodyChk (T 37) Tryd.f37 1 = true := by kernel_rfl
theorem body37 (call : CallF) (n : Nat) (m : Mem) (a0 : AVal) : cBody C call (T 37) n 37 [a0] m = fin C [.tmp 2] (cCode C call (T 37) n (codeOf Tryd.f37) ⟨envOf [a0], m⟩) := cBody_eq Tryd.func37 chk37 (by kernel_rfl) m
@[simp] theorem kd38 : C.kind 38 = .plain := by kernel_rfl
theorem chk38 : bodyChk (T 38) Tryd.f38 2 = true := by kernel_rfl
theorem body38 (call : CallF) (n : Nat) (m : Mem) (a0 a1 : AVal) : cBody C call (T 38) n 38 [a0, a1] m = fin C [.tmp 4] (cCode C call (T 38) n (codeOf Tryd.f38) ⟨envOf [a0, a1], m⟩) := cBody_eq Tryd.func38 chk38 (by kernel_rfl) m
@[simp] theorem kd39 : C.kind 39 = .plain := by kernel_rfl
theorem chk39 : bodyChk (T 39) Tryd.f39 2 = true := by kernel_rfl
theorem body39 (call : CallF) (n : Nat) (m : Mem) (a0 a1 : AVal) : cBody C call (T 39) n 39 [a0, a1] m = fin C [.tmp 4] (cCode C call (T 39) n (codeOf Tryd.f39) ⟨envOf [a0, a1], m⟩) := cBody_eq Tryd.func39 chk39 (by kernel_rfl) m
@[simp] theorem kd40 : C.kind 40 = .plain := by kernel_rfl
theorem chk40 : bodyChk (T 40) Tryd.f40 4 = true := by kernel_rfl
theorem body40 (call : CallF) (n : Nat) (m : Mem) (a0 a1 a2 a3 : AVal) : cBody C call (T 40) n 40 [a0, a1, a2, a3] m = fin C [.tmp 8] (cCode C call (T 40) n (codeOf Tryd.f40) ⟨envOf [a0, a1, a2, a3], m⟩) := cBody_eq Tryd.func40 chk40 (by kernel_rfl) m
@[simp] theorem kd41 : C.kind 41 = .pure := by kernel_rfl
theorem chk41 : bodyChk (T 41) Tryd.f41 3 = true := by kernel_rfl
theorem body41 (call : CallF) (n : Nat) (m : Mem) (a0 a1 a2 : AVal) : cBody C call (T 41) n 41 [a0, a1, a2] m = fin C [.cell 6 51, .tmp 7, .tmp 8] (cCode C call (T 41) n (codeOf Tryd.f41) ⟨envOf [a0, a1, a2], m⟩) := cBody_eq Tryd.func41 chk41 (by kernel_rfl) m
@[simp] theorem kd42 : C.kind 42 = .plain := by kernel_rfl
theorem chk42 : bodyChk (T 42) Tryd.f42 3 = true := by kernel_rfl
theorem body42 (call : CallF) (n : Nat) (m : Mem) (a0 a1 a2 : AVal) : cBody C call (T 42) n 42 [a0, a1, a2] m = fin C [.tmp 4] (cCode C call (T 42) n (codeOf Tryd.f42) ⟨envOf [a0, a1, a2], m⟩) := cBody_eq Tryd.func42 chk42 (by kernel_rfl) m
@[simp] theorem kd43 : C.kind 43 = .plain := by kernel_rfl
theorem chk43 : bodyChk (T 43) Tryd.f43 2 = true := by kernel_rfl
theorem body43 (call : CallF) (n : Nat) (m : Mem) (a0 a1 : AVal) : cBody C call (T 43) n 43 [a0, a1] m = fin C [] (cCode C call (T 43) n (codeOf Tryd.f43) ⟨envOf [a0, a1], m⟩) := cBody_eq Tryd.func43 chk43 (by kernel_rfl) m
@[simp] theorem kd44 : C.kind 44 = .shallow := by kernel_rfl
theorem chk44 : bodyChk (T 44) Tryd.f44 1 = true := by kernel_rfl
theorem body44 (call : CallF) (n : Nat) (m : Mem) (a0 : AVal) : cBody C call (T 44) n 44 [a0] m = fin C [.tmp 2] (cCode C call (T 44) n (codeOf Tryd.f44) ⟨envOf [a0], m⟩) := cBody_eq Tryd.func44 chk44 (by kernel_rfl) m
@[simp] theorem kd45 : C.kind 45 = .pure := by kernel_rfl
theorem chk45 : bodyChk (T 45) Tryd.f45 4 = true := by kernel_rfl
theorem body45 (call : CallF) (n : Nat) (m : Mem) (a0 a1 a2 a3 : AVal) : cBody C call (T 45) n 45 [a0, a1, a2, a3] m = fin C [.tmp 8] (cCode C call (T 45) n (codeOf Tryd.f45) ⟨envOf [a0, a1, a2, a3], m⟩) := cBody_eq Tryd.func45 chk45 (by kernel_rfl) m
@[simp] theorem kd46 : C.kind 46 = .plain := by kernel_rfl
theorem chk46 : bodyChk (T 46) Tryd.f46 2 = true := by kernel_rfl
theorem body46 (call : CallF) (n : Nat) (m : Mem) (a0 a1 : AVal) : cBody C call (T 46) n 46 [a0, a1] m = fin C [.tmp 4] (cCode C call (T 46) n (codeOf Tryd.f46) ⟨envOf [a0, a1], m⟩) := cBody_eq Tryd.func46 chk46 (by kernel_rfl) m
@[simp] theorem kd47 : C.kind 47 = .pure := by kernel_rfl
theorem chk47 : bodyChk (T 47) Tryd.f47 3 = true := by kernel_rfl
theorem body47 (call : CallF) (n : Nat) (m : Mem) (a0 a1 a2 : AVal) : cBody C call (T 47) n 47 [a0, a1, a2] m = fin C [.tmp 6] (cCode C call (T 47) n (codeOf Tryd.f47) ⟨envOf [a0, a1, a2], m⟩) := cBody_eq Tryd.func47 chk47 (by kernel_rfl) m
@[simp] theorem kd48 : C.kind 48 = .plain := by kernel_rfl
theorem chk48 : bodyChk (T 48) Tryd.f48 2 = true := by kernel_rfl
theorem body48 (call : CallF) (n : Nat) (m : Mem) (a0 a1 : AVal) : cBody C call (T 48) n 48 [a0, a1] m = fin C [.tmp 3] (cCode C call (T 48) n (codeOf Tryd.f48) ⟨envOf [a0, a1], m⟩) := cBody_eq Tryd.func48 chk48 (by kernel_rfl) m
@[simp] theorem kd49 : C.kind 49 = .plain := by kernel_rfl
theorem chk49 : bodyChk (T 49) Tryd.f49 2 = true := by kernel_rfl
theorem body49 (call : CallF) (n : Nat) (m : Mem) (a0 a1 : AVal) : cBody C call (T 49) n 49 [a0, a1] m = fin C [.tmp 3] (cCode C call (T 49) n (codeOf Tryd.f49) ⟨envOf [a0, a1], m⟩) := cBody_eq Tryd.func49 chk49 (by kernel_rfl) m
@[simp] theorem kd50 : C.kind 50 = .pure := by kernel_rfl
theorem chk50 : bodyChk (T 50) Tryd.f50 2 = true := by kernel_rfl
theorem body50 (call : CallF) (n : Nat) (m : Mem) (a0 a1 : AVal) : cBody C call (T 50) n 50 [a0, a1] m = fin C [.tmp 4] (cCode C call (T 50) n (codeOf Tryd.f50) ⟨envOf [a0, a1], m⟩) := cBody_eq Tryd.func50 chk50 (by kernel_rfl) m
@[simp] theorem kd51 : C.kind 51 = .pure := by kernel_rfl
theorem chk51 : bodyChk (T 51) Tryd.f51 3 = true := by kernel_rfl
theorem body51 (call : CallF) (n : Nat) (m : Mem) (a0 a1 a2 : AVal) : cBody C call (T 51) n 51 [a0, a1, a2] m = fin C [.tmp 6, .tmp 7] (cCode C call (T 51) n (codeOf Tryd.f51) ⟨envOf [a0, a1, a2], m⟩) := cBody_eq Tryd.func51 chk51 (by kernel_rfl) m
@[simp] theorem kd52 : C.kind 52 = .plain := by kernel_rfl
theorem chk52 : bodyChk (T 52) Tryd.f52 2 = true := by kernel_rfl
theorem body52 (call : CallF) (n : Nat) (m : Mem) (a0 a1 : AVal) : cBody C call (T 52) n 52 [a0, a1] m = fin C [.tmp 4] (cCode C call (T 52) n (codeOf Tryd.f52) ⟨envOf [a0, a1], m⟩) := cBody_eq Tryd.func52 chk52 (by kernel_rfl) m
@[simp] theorem kd53 : C.kind 53 = .pure := by kernel_rfl
theorem chk53 : bodyChk (T 53) Tryd.f53 4 = true := by kernel_rfl
theorem body53 (call : CallF) (n : Nat) (m : Mem) (a0 a1 a2 a3 : AVal) : cBody C call (T 53) n 53 [a0, a1, a2, a3] m = fin C [.tmp 8, .tmp 9] (cCode C call (T 53) n (codeOf Tryd.f53) ⟨envOf [a0, a1, a2, a3], m⟩) := cBody_eq Tryd.func53 chk53 (by kernel_rfl) m
@[simp] theorem kd54 : C.kind 54 = .pure := by kernel_rfl
theorem chk54 : bodyChk (T 54) Tryd.f54 1 = true := by kernel_rfl
theorem body54 (call : CallF) (n : Nat) (m : Mem) (a0 : AVal) : cBody C call (T 54) n 54 [a0] m = fin C [.tmp 2] (cCode C call (T 54) n (codeOf Tryd.f54) ⟨envOf [a0], m⟩) := cBody_eq Tryd.func54 chk54 (by kernel_rfl) m
@[simp] theorem kd55 : C.kind 55 = .pure := by kernel_rfl
theorem chk55 : bodyChk (T 55) Tryd.f55 2 = true := by kernel_rfl
theorem body55 (call : CallF) (n : Nat) (m : Mem) (a0 a1 : AVal) : cBody C call (T 55) n 55 [a0, a1] m = fin C [.tmp 4] (cCode C call (T 55) n (codeOf Tryd.f55) ⟨envOf [a0, a1], m⟩) := cBody_eq Tryd.func55 chk55 (by kernel_rfl) m
@[simp] theorem kd56 : C.kind 56 = .plain := by kernel_rfl
theorem chk56 : bodyChk (T 56) Tryd.f56 2 = true := by kernel_rfl
theorem body56 (call : CallF) (n : Nat) (m : Mem) (a0 a1 : AVal) : cBody C call (T 56) n 56 [a0, a1] m = fin C [.tmp 4] (cCode C call (T 56) n (codeOf Tryd.f56) ⟨envOf [a0, a1], m⟩) := cBody_eq Tryd.func56 chk56 (by kernel_rfl) m
@[simp] theorem kd57 : C.kind 57 = .pure := by kernel_rfl
theorem chk57 : bodyChk (T 57) Tryd.f57 1 = true := by kernel_rfl
theorem body57 (call : CallF) (n : Nat) (m : Mem) (a0 : AVal) : cBody C call (T 57) n 57 [a0] m = fin C [.tmp 2] (cCode C call (T 57) n (codeOf Tryd.f57) ⟨envOf [a0], m⟩) := cBody_eq Tryd.func57 chk57 (by kernel_rfl) m
@[simp] theorem kd58 : C.kind 58 = .pure := by kernel_rfl
theorem chk58 : bodyChk (T 58) Tryd.f58 1 = true := by kernel_rfl
theorem body58 (call : CallF) (n : Nat) (m : Mem) (a0 : AVal) : cBody C call (T 58) n 58 [a0] m = fin C [.tmp 2] (cCode C call (T 58) n (codeOf Tryd.f58) ⟨envOf [a0], m⟩) := cBody_eq Tryd.func58 chk58 (by kernel_rfl) m
@[simp] theorem kd59 : C.kind 59 = .pure := by kernel_rfl
theorem chk59 : bodyChk (T 59) Tryd.f59 1 = true := by kernel_rfl
theorem body59 (call : CallF) (n : Nat) (m : Mem) (a0 : AVal) : cBody C call (T 59) n 59 [a0] m = fin C [.tmp 2] (cCode C call (T 59) n (codeOf Tryd.f59) ⟨envOf [a0], m⟩) := cBody_eq Tryd.func59 chk59 (by kernel_rfl) m
@[simp] theorem kd60 : C.kind 60 = .pure := by kernel_rfl
theorem chk60 : bodyChk (T 60) Tryd.f60 3 = true := by kernel_rfl
theorem body60 (call : CallF) (n : Nat) (m : Mem) (a0 a1 a2 : AVal) : cBody C call (T 60) n 60 [a0, a1, a2] m = fin C [.tmp 6] (cCode C call (T 60) n (codeOf Tryd.f60) ⟨envOf [a0, a1, a2], m⟩) := cBody_eq Tryd.func60 chk60 (by kernel_rfl) m
@[simp] theorem kd61 : C.kind 61 = .plain := by kernel_rfl
theorem chk61 : bodyChk (T 61) Tryd.f61 2 = true := by kernel_rfl
theorem body61 (call : CallF) (n : Nat) (m : Mem) (a0 a1 : AVal) : cBody C call (T 61) n 61 [a0, a1] m = fin C [.tmp 3] (cCode C call (T 61) n (codeOf Tryd.f61) ⟨envOf [a0, a1], m⟩) := cBody_eq Tryd.func61 chk61 (by kernel_rfl) m
@[simp] theorem kd62 : C.kind 62 = .pure := by kernel_rfl
theorem chk62 : bodyChk (T 62) Tryd.f62 4 = true := by kernel_rfl
theorem body62 (call : CallF) (n : Nat) (m : Mem) (a0 a1 a2 a3 : AVal) : cBody C call (T 62) n 62 [a0, a1, a2, a3] m = fin C [.tmp 8, .tmp 9] (cCode C call (T 62) n (codeOf Tryd.f62) ⟨envOf [a0, a1, a2, a3], m⟩) := cBody_eq Tryd.func62 chk62 (by kernel_rfl) m
@[simp] theorem kd63 : C.kind 63 = .pure := by kernel_rfl
theorem chk63 : bodyChk (T 63) Tryd.f63 1 = true := by kernel_rfl
theorem body63 (call : CallF) (n : Nat) (m : Mem) (a0 : AVal) : cBody C call (T 63) n 63 [a0] m = fin C [.tmp 2, .tmp 3] (cCode C call (T 63) n (codeOf Tryd.f63) ⟨envOf [a0], m⟩) := cBody_eq Tryd.func63 chk63 (by kernel_rfl) m
@[simp] theorem kd64 : C.kind 64 = .pure := by kernel_rfl
theorem chk64 : bodyChk (T 64) Tryd.f64 2 = true := by kernel_rfl
theorem body64 (call : CallF) (n : Nat) (m : Mem) (a0 a1 : AVal) : cBody C call (T 64) n 64 [a0, a1] m = fin C [.tmp 4, .tmp 5] (cCode C call (T 64) n (codeOf Tryd.f64) ⟨envOf [a0, a1], m⟩) := cBody_eq Tryd.func64 chk64 (by kernel_rfl) m
@[simp] theorem kd65 : C.kind 65 = .pure := by kernel_rfl
theorem chk65 : bodyChk (T 65) Tryd.f65 3 = true := by kernel_rfl
theorem body65 (call : CallF) (n : Nat) (m : Mem) (a0 a1 a2 : AVal) : cBody C call (T 65) n 65 [a0, a1, a2] m = fin C [.cell 6 51, .tmp 7] (cCode C call (T 65) n (codeOf Tryd.f65) ⟨envOf [a0, a1, a2], m⟩) := cBody_eq Tryd.func65 chk65 (by kernel_rfl) m
@[simp] theorem kd66 : C.kind 66 = .pure := by kernel_rfl
theorem chk66 : bodyChk (T 66) Tryd.f66 1 = true := by kernel_rfl
theorem body66 (call : CallF) (n : Nat) (m : Mem) (a0 : AVal) : cBody C call (T 66) n 66 [a0] m = fin C [.tmp 2] (cCode C call (T 66) n (codeOf Tryd.f66) ⟨envOf [a0], m⟩) := cBody_eq Tryd.func66 chk66 (by kernel_rfl) m
@[simp] theorem kd67 : C.kind 67 = .plain := by kernel_rfl
theorem chk67 : bodyChk (T 67) Tryd.f67 2 = true := by kernel_rfl
theorem body67 (call : CallF) (n : Nat) (m : Mem) (a0 a1 : AVal) : cBody C call (T 67) n 67 [a0, a1] m = fin C [.tmp 4] (cCode C call (T 67) n (codeOf Tryd.f67) ⟨envOf [a0, a1], m⟩) := cBody_eq Tryd.func67 chk67 (by kernel_rfl) m
@[simp] theorem kd68 : C.kind 68 = .plain := by kernel_rfl
theorem chk68 : bodyChk (T 68) Tryd.f68 2 = true := by kernel_rfl
theorem body68 (call : CallF) (n : Nat) (m : Mem) (a0 a1 : AVal) : cBody C call (T 68) n 68 [a0, a1] m = fin C [.tmp 4] (cCode C call (T 68) n (codeOf Tryd.f68) ⟨envOf [a0, a1], m⟩) := cBody_eq Tryd.func68 chk68 (by kernel_rfl) m
@[simp] theorem kd69 : C.kind 69 = .plain := by kernel_rfl
theorem chk69 : bodyChk (T 69) Tryd.f69 3 = true := by kernel_rfl
theorem body69 (call : CallF) (n : Nat) (m : Mem) (a0 a1 a2 : AVal) : cBody C call (T 69) n 69 [a0, a1, a2] m = fin C [.tmp 4] (cCode C call (T 69) n (codeOf Tryd.f69) ⟨envOf [a0, a1, a2], m⟩) := cBody_eq Tryd.func69 chk69 (by kernel_rfl) m
@[simp] theorem kd70 : C.kind 70 = .plain := by kernel_rfl
theorem chk70 : bodyChk (T 70) Tryd.f70 3 = true := by kernel_rfl
theorem body70 (call : CallF) (n : Nat) (m : Mem) (a0 a1 a2 : AVal) : cBody C call (T 70) n 70 [a0, a1, a2] m = fin C [] (cCode C call (T 70) n (codeOf Tryd.f70) ⟨envOf [a0, a1, a2], m⟩) := cBody_eq Tryd.func70 chk70 (by kernel_rfl) m
@[simp] theorem kd71 : C.kind 71 = .pure := by kernel_rfl
theorem chk71 : bodyChk (T 71) Tryd.f71 3 = true := by kernel_rfl
theorem body71 (call : CallF) (n : Nat) (m : Mem) (a0 a1 a2 : AVal) : cBody C call (T 71) n 71 [a0, a1, a2] m = fin C [.tmp 6] (cCode C call (T 71) n (codeOf Tryd.f71) ⟨envOf [a0, a1, a2], m⟩) := cBody_eq Tryd.func71 chk71 (by kernel_rfl) m
@[simp] theorem kd72 : C.kind 72 = .pure := by kernel_rfl
theorem chk72 : bodyChk (T 72) Tryd.f72 1 = true := by kernel_rfl
theorem body72 (call : CallF) (n : Nat) (m : Mem) (a0 : AVal) : cBody C call (T 72) n 72 [a0] m = fin C [.tmp 2] (cCode C call (T 72) n (codeOf Tryd.f72) ⟨envOf [a0], m⟩) := cBody_eq Tryd.func72 chk72 (by kernel_rfl) m
@[simp] theorem kd73 : C.kind 73 = .plain := by kernel_rfl
theorem chk73 : bodyChk (T 73) Tryd.f73 2 = true := by kernel_rfl
theorem body73 (call : CallF) (n : Nat) (m : Mem) (a0 a1 : AVal) : cBody C call (T 73) n 73 [a0, a1] m = fin C [.tmp 4] (cCode C call (T 73) n (codeOf Tryd.f73) ⟨envOf [a0, a1], m⟩) := cBody_eq Tryd.func73 chk73 (by kernel_rfl) m
@[simp] theorem kd74 : C.kind 74 = .pure := by kernel_rfl
theorem chk74 : bodyChk (T 74) Tryd.f74 1 = true := by kernel_rfl
theorem body74 (call : CallF) (n : Nat) (m : Mem) (a0 : AVal) : cBody C call (T 74) n 74 [a0] m = fin C [.tmp 2] (cCode C call (T 74) n (codeOf Tryd.f74) ⟨envOf [a0], m⟩) := cBody_eq Tryd.func74 chk74 (by kernel_rfl) m
@[simp] theorem kd75 : C.kind 75 = .pure := by kernel_rfl
theorem chk75 : bodyChk (T 75) Tryd.f75 1 = true := by kernel_rfl
theorem body75 (call : CallF) (n : Nat) (m : Mem) (a0 : AVal) : cBody C call (T 75) n 75 [a0] m = fin C [.tmp 2] (cCode C call (T 75) n (codeOf Tryd.f75) ⟨envOf [a0], m⟩) := cBody_eq Tryd.func75 chk75 (by kernel_rfl) m
@[simp] theorem kd76 : C.kind 76 = .plain := by kernel_rfl
theorem chk76 : bodyChk (T 76) Tryd.f76 2 = true := by kernel_rfl
theorem body76 (call : CallF) (n : Nat) (m : Mem) (a0 a1 : AVal) : cBody C call (T 76) n 76 [a0, a1] m = fin C [.tmp 4] (cCode C call (T 76) n (codeOf Tryd.f76) ⟨envOf [a0, a1], m⟩) := cBody_eq Tryd.func76 chk76 (by kernel_rfl) m
@[simp] theorem kd77 : C.kind 77 = .plain := by kernel_rfl
theorem chk77 : bodyChk (T 77) Tryd.f77 2 = true := by kernel_rfl
theorem body77 (call : CallF) (n : Nat) (m : Mem) (a0 a1 : AVal) : cBody C call (T 77) n 77 [a0, a1] m = fin C [.tmp 3] (cCode C call (T 77) n (codeOf Tryd.f77) ⟨envOf [a0, a1], m⟩) := cBody_eq Tryd.func77 chk77 (by kernel_rfl) m
end Go.Proofs.YtmfdjipijifabaaDoor
end
section
/- What the small functions compute. -/
set_option linter.unusedVariables false
set_option linter.unusedSimpArgs false
set_option maxRecDepth 100000
namespace Go.Proofs.YtmfdjipijifabaaDoor
open Go.Ab

theorem c36 (k : Nat) (hk : 1 ≤ k) (x lo hi : Int) (m : Mem) :
    cCall C T k 36 [.int .i64 x, .int .i64 lo, .int .i64 hi] m = some (.bool (decide (lo ≤ x) && decide (x ≤ hi)), m) := by
  refine pure_call kd36 0 hk (by simp; rfl) fun k hk => ?_
  rw [body36]
  by_cases h1 : lo ≤ x <;> by_cases h2 : x ≤ hi <;> simp [codeOf, Tryd.f36, h1, h2]
theorem c60 (k : Nat) (hk : 1 ≤ k) (x lo hi : Int) (m : Mem) :
    cCall C T k 60 [.int .i64 x, .int .i64 lo, .int .i64 hi] m = some (.bool (decide (lo ≤ x) && decide (x ≤ hi)), m) := by
  refine pure_call kd60 0 hk (by simp; rfl) fun k hk => ?_
  rw [body60]
  by_cases h1 : lo ≤ x <;> by_cases h2 : x ≤ hi <;> simp [codeOf, Tryd.f60, h1, h2]
theorem c71 (k : Nat) (hk : 1 ≤ k) (x lo hi : Int) (m : Mem) :
    cCall C T k 71 [.int .i64 x, .int .i64 lo, .int .i64 hi] m = some (.bool (decide (lo ≤ x) && decide (x ≤ hi)), m) := by
  refine pure_call kd71 0 hk (by simp; rfl) fun k hk => ?_
  rw [body71]
  by_cases h1 : lo ≤ x <;> by_cases h2 : x ≤ hi <;> simp [codeOf, Tryd.f71, h1, h2]
theorem c31 (k : Nat) (hk : 1 ≤ k) (x : Int) (m : Mem) :
    cCall C T k 31 [.int .i64 x] m = some (.bool (decide (x < 0) || decide (1099511627776 < x)), m) := by
  refine pure_call kd31 0 hk (by simp; rfl) fun k hk => ?_
  rw [body31]
  by_cases h1 : x < 0 <;> by_cases h2 : 1099511627776 < x <;> simp [codeOf, Tryd.f31, h1, h2]
theorem c7 (k : Nat) (hk : 1 ≤ k) (x n : Int) (hn : 0 < n) (hn' : n < 2 ^ 31) (m : Mem) :
    cCall C T k 7 [.int .i64 x, .int .i64 n] m = some (.int .i64 (x % n), m) := by
  refine pure_call kd7 0 hk (by simp; rfl) fun k hk => ?_
  rw [body7]
  have h0 : ¬ n = 0 := by omega
  have h1 := Int.tmod_lt_of_pos x hn
  have h2 : -n < x.tmod n := by have := Int.lt_tmod_of_pos x hn; omega
  have hw : IntKind.i64.wrap (x.tmod n + n) = x.tmod n + n := IntWalk.i64_in _ (by omega)
  have h3 : (x.tmod n + n).tmod n = x % n := by
    have hm : x.tmod n % n = x % n := by
      rw [Int.tmod_eq_emod]
      split
      · simp
      · have : (n.natAbs : Int) = n := by omega
        rw [this, Int.sub_emod]
        simp
    rw [Int.tmod_eq_emod_of_nonneg (by omega), Int.add_emod_right, hm]
  simp [codeOf, Tryd.f7, h0, hw, h3]

def IntsA (a : AVal) (l : List Int) : Prop := SL (fun x => [AVal.int .i64 x]) a l

theorem c14 (k : Nat) (a b : AVal) (x y : List Int) (ha : IntsA a x) (hb : IntsA b y) (hk : x.length + 3 ≤ k) (args : List AVal) (m m1 : Mem) (hf : freezeL (freezeV 8) args m = some ([a, b], m1)) (hx : x.length < 2 ^ 62) :
    cCall C T k 14 args m = some (.bool (decide (x = y)), m1) := by
  refine pure_call kd14 (x.length + 2) hk hf fun k hk => ?_
  have hla := ha.len Tryd.underlying24
  have hlb := hb.len Tryd.underlying24
  rw [body14]
  by_cases hxy : x.length = y.length
  · simp [codeOf, Tryd.f14, hla, hlb, hxy]
    generalize hl : cCode C _ _ _ (.loop _) _ = r
    obtain ⟨e, s', rfl, he, hp⟩ := loop_rule hl (fun j s => s.env 0 = a ∧ s.env 1 = b ∧ ∃ i, i + j = x.length ∧ s.env 5 = .int .i64 i ∧ x.take i = y.take i)
      (fun e s => (e = .exit 0 ∧ x = y) ∨ (e = .ret ∧ s.env 4 = .bool false ∧ x ≠ y)) x.length (by omega) (by simp) (by
        rintro j s ⟨h0, h1, i, hij, h5, ht⟩
        by_cases hi : i < x.length
        · have hax := ha.indexAddr Tryd.underlying24 sz3 (fun _ => rfl) (k := .i64) hi
          have hby := hb.indexAddr Tryd.underlying24 sz3 (fun _ => rfl) (k := .i64) (i := i) (by omega)
          by_cases he : x[i] = y[i]
          · have : x.take (i + 1) = y.take (i + 1) := by rw [List.take_succ_eq_append_getElem hi, List.take_succ_eq_append_getElem (by omega), ht, he]
            simp (disch := omega) [h0, h1, h5, hla, hlb, hi, hax, hby, load_iptr_one ag3 sz3, he, IntWalk.i64_in]
            exact ⟨by omega, i + 1, by omega, by simp, this⟩
          · simp [h0, h1, h5, hla, hlb, hi, hax, hby, load_iptr_one ag3 sz3, he]
            intro e; subst e; exact he rfl
        · have : x = y := by
            rw [List.take_of_length_le (by omega), List.take_of_length_le (by omega)] at ht
            exact ht
          simp [h0, h1, h5, hla, hlb, hi]
          exact this)
    rcases hp with ⟨rfl, h2⟩ | ⟨rfl, h1, h2⟩
    · simp [h2]
    · simp [h1, h2]
  · have : x ≠ y := fun e => hxy (by rw [e])
    have : (x.length : Int) ≠ y.length := by omega
    simp [codeOf, Tryd.f14, hla, hlb, this, *]
end Go.Proofs.YtmfdjipijifabaaDoor
end
section
/- What the functions of the backoff compute. -/
set_option linter.unusedVariables false
set_option linter.unusedSimpArgs false
set_option maxRecDepth 100000
namespace Go.Proofs.YtmfdjipijifabaaDoor
open Go.Ab

def hiOf : Nat → Int
  | 0 => 1023
  | 1 => 1023
  | 2 => 15
  | _ => 7
def loOf : Nat → Int
  | 0 => 15
  | 1 => 15
  | 2 => 7
  | _ => 3
def aft (cat t : Nat) : Int := min (hiOf cat) ((loOf cat + 1) * 2 ^ t - 1)

theorem aft_range {cat t : Nat} : 0 ≤ aft cat t ∧ aft cat t ≤ 1023 := by
  have h : (1 : Int) ≤ 2 ^ t := by exact_mod_cast Nat.one_le_two_pow
  unfold aft
  match cat with
  | 0 => simp only [hiOf, loOf]; omega
  | 1 => simp only [hiOf, loOf]; omega
  | 2 => simp only [hiOf, loOf]; omega
  | (n + 3) => simp only [hiOf, loOf]; omega

theorem fin4 {n : Nat} (h : n < 4) : n = 0 ∨ n = 1 ∨ n = 2 ∨ n = 3 := by omega
theorem fin7 {n : Nat} (h : n < 7) : n = 0 ∨ n = 1 ∨ n = 2 ∨ n = 3 ∨ n = 4 ∨ n = 5 ∨ n = 6 := by omega

theorem c55 (k : Nat) (hk : 1 ≤ k) (cat t : Nat) (hc : cat < 4) (ht : t < 7) (m : Mem) :
    cCall C T k 55 [.int .u8 cat, .int .i64 t] m = some (.int .i64 (aft cat t), m) := by
  refine pure_call kd55 0 hk (by simp; rfl) fun k hk => ?_
  rcases fin4 hc with rfl | rfl | rfl | rfl <;> rcases fin7 ht with rfl | rfl | rfl | rfl | rfl | rfl | rfl <;> kernel_rfl

theorem c64 (k : Nat) (hk : 2 ≤ k) (cat t : Nat) (hc : cat < 4) (ht : t < 7) (m : Mem) :
    cCall C T k 64 [.int .u8 cat, .int .i64 t] m = some (.tup [.int .i64 (aft cat t), .int .i64 0], m) := by
  refine pure_call kd64 1 hk (by simp; rfl) fun k hk => ?_
  rw [body64]
  have h1 := c55 k hk cat t hc ht
  have h2 : ¬ (4 : Int) ≤ cat := by omega
  have h3 : ¬ (7 : Int) ≤ t := by omega
  have h4 : IntKind.i64.wrap (cat : Int) = cat := IntWalk.i64_in _ (by omega)
  have h5 : ¬ (t : Int) < 0 := by omega
  simp [codeOf, Tryd.f64, h1, h2, h3, h4, h5]

structure Bk where
  cat : Nat
  t : Nat
  cnt : Int
  deriving DecidableEq

def Bk.enc (b : Bk) : List AVal := [.int .u8 b.cat, .int .i64 (aft b.cat b.t), .int .i64 b.cnt, .int .i64 b.t]
def Bk.ok (b : Bk) : Prop := b.cat < 4 ∧ b.t < 7 ∧ 0 ≤ b.cnt ∧ b.cnt ≤ aft b.cat b.t

theorem c37 (k : Nat) (hk : 3 ≤ k) (b : Bk) (hb : b.ok) (m : Mem) :
    cCall C T k 37 [.agg b.enc] m = some (.int .i64 0, m) := by
  refine pure_call kd37 2 hk (by simp [Bk.enc]; rfl) fun k hk => ?_
  rw [body37]
  obtain ⟨h1, h2, h3, h4⟩ := hb
  have h5 := c64 k hk b.cat b.t h1 h2
  have h6 : ¬ b.cnt < 0 := by omega
  have h7 : ¬ aft b.cat b.t < b.cnt := by omega
  simp [codeOf, Tryd.f37, h5, h6, h7]

def drawn (cat t : Nat) (d : Int) : Bk := ⟨cat, t, d % (aft cat t + 1)⟩

theorem c32 (k : Nat) (hk : 2 ≤ k) (cat t : Nat) (d : Int) (hc : cat < 4) (ht : t < 7) (hd : 0 ≤ d) (m : Mem) :
    cCall C T k 32 [.int .u8 cat, .int .i64 t, .int .i64 d] m = some (.agg (drawn cat t d).enc, m) := by
  refine pure_call kd32 1 hk (by simp; rfl) fun k hk => ?_
  rw [body32]
  have h1 := c55 k hk cat t hc ht
  have h2 := aft_range (cat := cat) (t := t)
  have h3 : ¬ aft cat t + 1 = 0 := by omega
  have h4 : d.tmod (aft cat t + 1) = d % (aft cat t + 1) := Int.tmod_eq_emod_of_nonneg hd
  have h5 : IntKind.i64.wrap (aft cat t + 1) = aft cat t + 1 := IntWalk.i64_in _ (by omega)
  generalize hg : aft cat t = g at *
  simp [codeOf, Tryd.f32, h1, h3, h4, h5, drawn, Bk.enc, hg]

theorem c15 (k : Nat) (hk : 3 ≤ k) (cat : Nat) (d : Int) (hc : cat < 4) (hd : 0 ≤ d) (hd' : d ≤ 1099511627776) (m : Mem) :
    cCall C T k 15 [.int .u8 cat, .int .i64 d] m = some (.tup [.agg (drawn cat 0 d).enc, .int .i64 0], m) := by
  refine pure_call kd15 2 hk (by simp; rfl) fun k hk => ?_
  rw [body15]
  have h1 : ∀ m, cCall C T k 32 [.int .u8 cat, .int .i64 0, .int .i64 d] m = _ := c32 k hk cat 0 d hc (by omega) hd
  have h2 := c31 k (by omega) d
  have h3 : ¬ d < 0 := by omega
  have h4 : ¬ 1099511627776 < d := by omega
  have h5 : ¬ (4 : Int) ≤ cat := by omega
  have h6 : IntKind.i64.wrap (cat : Int) = cat := IntWalk.i64_in _ (by omega)
  simp [codeOf, Tryd.f15, h1, h2, h3, h4, h5, h6, Bk.enc]

def Bk.idle (b : Bk) : Bk := { b with cnt := max (b.cnt - 1) 0 }
/-- The backoff after a success or a failure, and whether the frame was dropped. -/
def Bk.done (b : Bk) (bad : Bool) (d : Int) : Bk × Bool :=
  if bad && decide (b.t ≠ 6) then (drawn b.cat (b.t + 1) d, false) else (drawn b.cat 0 d, bad)

theorem c65_idle (k : Nat) (hk : 3 ≤ k) (b : Bk) (hb : b.ok) (d : Int) (m : Mem) :
    cCall C T k 65 [.agg b.enc, .int .u8 0, .int .i64 d] m = some (.tup [.agg b.idle.enc, .bool false], m) := by
  refine pure_call kd65 2 hk (by simp [Bk.enc]; rfl) fun k hk => ?_
  rw [body65]
  obtain ⟨h1, h2, h3, h4⟩ := hb
  have h5 := aft_range (cat := b.cat) (t := b.t)
  have h6 : IntKind.i64.wrap (b.cnt - 1) = b.cnt - 1 := IntWalk.i64_in _ (by omega)
  have h7 : (if 0 > b.cnt - 1 then 0 else b.cnt - 1) = max (b.cnt - 1) 0 := by split <;> omega
  simp [codeOf, Tryd.f65, h6, Bk.enc, Bk.idle] 
  omega

theorem c65_done (k : Nat) (hk : 3 ≤ k) (b : Bk) (hb : b.ok) (bad : Bool) (d : Int) (hd : 0 ≤ d) (m : Mem) :
    cCall C T k 65 [.agg b.enc, .int .u8 (if bad then 3 else 2), .int .i64 d] m = some (.tup [.agg (b.done bad d).1.enc, .bool (b.done bad d).2], m) := by
  refine pure_call kd65 2 hk (by simp [Bk.enc]; rfl) fun k hk => ?_
  rw [body65]
  obtain ⟨h1, h2, h3, h4⟩ := hb
  have h6 : IntKind.i64.wrap ((b.t : Int) + 1) = ((b.t + 1 : Nat) : Int) := IntWalk.i64_in _ (by omega)
  have g0 : ∀ m, cCall C T k 32 [.int .u8 b.cat, .int .i64 0, .int .i64 d] m = _ := c32 k (by omega) b.cat 0 d h1 (by omega) hd
  cases bad with
  | false => simp [codeOf, Tryd.f65, h6, Bk.enc, Bk.done, g0, drawn]
  | true =>
    by_cases ht : b.t = 6
    · simp [codeOf, Tryd.f65, h6, Bk.enc, Bk.done, g0, ht, drawn]
    · have g1 := c32 k (by omega) b.cat (b.t + 1) d h1 (by omega) hd
      have ht' : ¬ (b.t : Int) = 6 := by omega
      simp only [Int.natCast_add, Int.cast_ofNat_Int] at g1 h6
      simp [codeOf, Tryd.f65, h6, Bk.enc, Bk.done, g1, ht, ht', drawn]

theorem c41_idle (k : Nat) (hk : 4 ≤ k) (b : Bk) (hb : b.ok) (m : Mem) :
    cCall C T k 41 [.agg b.enc, .int .u8 0, .int .i64 0] m = some (.tup [.agg b.idle.enc, .bool false, .int .i64 0], m) := by
  refine pure_call kd41 3 hk (by simp [Bk.enc]; rfl) fun k hk => ?_
  rw [body41]
  have h1 := c37 k hk b hb
  have h2 := c65_idle k hk b hb 0
  have h3 := c31 k (by omega) 0
  simp only [Bk.enc] at h1 h2 h3
  simp [codeOf, Tryd.f41, Bk.enc, h1, h2, h3]

theorem c41_done (k : Nat) (hk : 4 ≤ k) (b : Bk) (hb : b.ok) (h0 : b.cnt = 0) (bad : Bool) (d : Int) (hd : 0 ≤ d) (hd' : d ≤ 1099511627776) (m : Mem) :
    cCall C T k 41 [.agg b.enc, .int .u8 (if bad then 3 else 2), .int .i64 d] m = some (.tup [.agg (b.done bad d).1.enc, .bool (b.done bad d).2, .int .i64 0], m) := by
  refine pure_call kd41 3 hk (by simp [Bk.enc]; rfl) fun k hk => ?_
  rw [body41]
  have h1 := c37 k hk b hb
  have h2 := c65_done k hk b hb bad d hd
  have h3 := c31 k (by omega) d
  have h4 : ¬ d < 0 := by omega
  have h5 : ¬ 1099511627776 < d := by omega
  simp only [Bk.enc] at h1 h2 h3
  cases bad with
  | false =>
    simp only [Bool.false_eq_true, if_false, h0] at h1 h2
    simp [codeOf, Tryd.f41, Bk.enc, h0, h1, h2, h3, h4, h5]
  | true =>
    simp only [if_true, h0] at h1 h2
    simp [codeOf, Tryd.f41, Bk.enc, h0, h1, h2, h3, h4, h5]
end Go.Proofs.YtmfdjipijifabaaDoor
end
section
/- What the functions that look for an element compute. -/
set_option linter.unusedVariables false
set_option linter.unusedSimpArgs false
set_option maxRecDepth 100000
namespace Go.Proofs.YtmfdjipijifabaaDoor
open Go.Ab

def eInt (x : Int) : List AVal := [.int .i64 x]
theorem eInt_len (x : Int) : (eInt x).length = 1 := rfl
structure Rad where
  (x y p c : Int)
  deriving DecidableEq
def eRad (r : Rad) : List AVal := [.int .i64 r.x, .int .i64 r.y, .int .i64 r.p, .int .i64 r.c]
theorem eRad_len (x : Rad) : (eRad x).length = 4 := rfl
structure Sen where
  (n s e d : Int)
  deriving DecidableEq
def eSen (r : Sen) : List AVal := [.int .i64 r.n, .int .i64 r.s, .int .i64 r.e, .int .i64 r.d]
theorem eSen_len (x : Sen) : (eSen x).length = 4 := rfl

theorem c38 {a : AVal} {l : List Int} (ha : SL eInt a l) (hll : l.length < 2 ^ 62) (p : Int → Bool) (g : FuncId) (fs cs : List AVal) (K : Nat) (Q : Mem → Prop) (hQ : ∀ m m', Q m → Grow m m' → Q m')
    (hf : ∀ k, K ≤ k → ∀ x ∈ l, ∀ m, Q m → ∃ m', cCall C T k g (fs ++ [.int .i64 x] ++ cs) m = some (.bool (p x), m') ∧ Grow m m') :
    ∀ k, K + l.length + 2 ≤ k → ∀ m, Q m → ∃ m', cCall C T k 38 [a, .fn g fs cs] m = some (.int .i64 (match l.findIdx? p with | some i => (i : Int) | none => -1), m') ∧ Grow m m' := by
  intro k hk m hq
  obtain ⟨k, rfl⟩ : ∃ j, k = j + 1 := ⟨k - 1, by omega⟩
  have hla := ha.len (P := Tryd.prog) Tryd.underlying24
  simp only [cCall, kd38]
  rw [body38]
  simp [codeOf, Tryd.f38, hla]
  generalize hl : cCode C _ _ _ (.loop _) _ = r
  obtain ⟨e, s', rfl, he, hp⟩ := loop_rule hl (fun j s => s.env 0 = a ∧ s.env 1 = .fn g fs cs ∧ s.env 7 = .int .i64 l.length ∧ Grow m s.mem ∧ ∃ i, i + j = l.length ∧ s.env 8 = .int .i64 (i : Nat) ∧ ∀ x ∈ l.take i, p x = false)
    (fun e s => Grow m s.mem ∧ ((e = .exit 0 ∧ l.findIdx? p = none) ∨ (e = .ret ∧ ∃ i : Nat, s.env 4 = .int .i64 (i : Nat) ∧ l.findIdx? p = some i))) l.length (by omega) (by
      refine ⟨by simp, by simp, by simp, ⟨by simp, fun _ _ => rfl, fun _ _ => rfl, fun _ _ => rfl, fun h id hid => h id (by simp at hid; omega)⟩, 0, by simp, by simp, by simp⟩) (by
      rintro j s ⟨h0, h1, h7, hgr, i, hij, h8, ht⟩
      by_cases hi : i < l.length
      · have hax := ha.indexAddr (P := Tryd.prog) Tryd.underlying24 sz3 eInt_len (k := .i64) hi
        have hw : IntKind.i64.wrap ((i : Int) + 1) = ((i + 1 : Nat) : Int) := IntWalk.i64_in _ (by omega)
        obtain ⟨mm, hmm⟩ := skolem (fun m hm => hf k (by omega) l[i] (List.getElem_mem hi) m hm)
        have hcall : ∀ m, Q m → cCall C T k g (fs ++ .int .i64 l[i] :: cs) m = some (.bool (p l[i]), mm m) := fun m hm => by simpa using (hmm m hm).1
        have hqs : ∀ n, Q { cell := s.mem.cell, mode := s.mem.mode, siz := s.mem.siz, next := s.mem.next + n } := fun n => hQ m _ hq (hgr.trans (Grow.bump _ _))
        have hgs : ∀ n n', Grow m { cell := (mm { cell := s.mem.cell, mode := s.mem.mode, siz := s.mem.siz, next := s.mem.next + n }).cell, mode := (mm { cell := s.mem.cell, mode := s.mem.mode, siz := s.mem.siz, next := s.mem.next + n }).mode, siz := (mm { cell := s.mem.cell, mode := s.mem.mode, siz := s.mem.siz, next := s.mem.next + n }).siz, next := (mm { cell := s.mem.cell, mode := s.mem.mode, siz := s.mem.siz, next := s.mem.next + n }).next + n' } :=
          fun n n' => (hgr.trans (Grow.bump _ n)).trans ((hmm _ (hqs n)).2.trans (Grow.bump _ n'))
        cases hpx : p l[i] with
        | false =>
          simp [h0, h1, h7, h8, hi, hax, load_iptr_one ag3 sz3, eInt, hcall, hqs, hpx, hw]
          refine ⟨by omega, hgs _ _, i + 1, by omega, by simp, fun x hx => ?_⟩
          rw [List.take_succ_eq_append_getElem hi] at hx
          rcases List.mem_append.1 hx with hx | hx
          · exact ht x hx
          · rw [List.mem_singleton.1 hx]; exact hpx
        | true =>
          simp [h0, h1, h7, h8, hi, hax, load_iptr_one ag3 sz3, eInt, hcall, hqs, hpx, hw]
          refine ⟨hgs _ _, i, rfl, ?_⟩
          rw [List.findIdx?_eq_some_iff_getElem]
          refine ⟨hi, hpx, fun j' hj' => ?_⟩
          rw [Bool.not_eq_true]
          refine ht _ ?_
          rw [List.mem_take_iff_getElem]
          exact ⟨j', by omega, rfl⟩
      · simp [h0, h1, h7, h8, hi]
        refine ⟨hgr.trans (Grow.bump _ _), ?_⟩
        rw [List.take_of_length_le (by omega)] at ht
        exact ht)
  obtain ⟨hg, ⟨rfl, h2⟩ | ⟨rfl, i, h1, h2⟩⟩ := hp
  · simp [h2]
    exact hg.trans (Grow.bump _ _)
  · simp [h1, h2]
    exact hg

theorem c19 {a : AVal} {l : List Int} (ha : SL eInt a l) (hll : l.length < 2 ^ 62) (p : Int → Bool) (g : FuncId) (fs cs : List AVal) (K : Nat) (Q : Mem → Prop) (hQ : ∀ m m', Q m → Grow m m' → Q m')
    (hf : ∀ k, K ≤ k → ∀ x ∈ l, ∀ m, Q m → ∃ m', cCall C T k g (fs ++ [.int .i64 x] ++ cs) m = some (.bool (p x), m') ∧ Grow m m') :
    ∀ k, K + l.length + 3 ≤ k → ∀ m, Q m → ∃ m', cCall C T k 19 [a, .fn g fs cs] m = some (.bool (l.any p), m') ∧ Grow m m' := by
  intro k hk m hq
  obtain ⟨k, rfl⟩ : ∃ j, k = j + 1 := ⟨k - 1, by omega⟩
  obtain ⟨mm, hmm⟩ := skolem (c38 ha hll p g fs cs K Q hQ hf k (by omega))
  have hcall : ∀ m, Q m → cCall C T k 38 [a, .fn g fs cs] m = some _ := fun m hm => (hmm m hm).1
  have hq' : ∀ n, Q { cell := m.cell, mode := m.mode, siz := m.siz, next := m.next + n } := fun n => hQ m _ hq (Grow.bump _ _)
  simp only [cCall, kd19]
  rw [body19]
  cases hfi : l.findIdx? p with
  | none =>
    have : l.any p = false := by
      rw [List.findIdx?_eq_none_iff] at hfi
      simpa using hfi
    simp [codeOf, Tryd.f19, hcall, hq', hfi, this]
    exact (Grow.bump _ _).trans (hmm _ (hq' _)).2
  | some i =>
    have : l.any p = true := by
      obtain ⟨h1, h2, _⟩ := List.findIdx?_eq_some_iff_getElem.1 hfi
      exact List.any_eq_true.2 ⟨_, List.getElem_mem h1, h2⟩
    have hi : (0 : Int) ≤ i := by omega
    simp [codeOf, Tryd.f19, hcall, hq', hfi, this, hi]
    exact (Grow.bump _ _).trans (hmm _ (hq' _)).2


theorem c73 {a : AVal} {l : List Rad} (ha : SL eRad a l) (hll : l.length < 2 ^ 62) (p : Rad → Bool) (g : FuncId) (fs cs : List AVal) (K : Nat) (Q : Mem → Prop) (hQ : ∀ m m', Q m → Grow m m' → Q m')
    (hf : ∀ k, K ≤ k → ∀ x ∈ l, ∀ m, Q m → ∃ m', cCall C T k g (fs ++ [.agg (eRad x)] ++ cs) m = some (.bool (p x), m') ∧ Grow m m') :
    ∀ k, K + l.length + 2 ≤ k → ∀ m, Q m → ∃ m', cCall C T k 73 [a, .fn g fs cs] m = some (.int .i64 (match l.findIdx? p with | some i => (i : Int) | none => -1), m') ∧ Grow m m' := by
  intro k hk m hq
  obtain ⟨k, rfl⟩ : ∃ j, k = j + 1 := ⟨k - 1, by omega⟩
  have hla := ha.len (P := Tryd.prog) Tryd.underlying30
  simp only [cCall, kd73]
  rw [body73]
  simp [codeOf, Tryd.f73, hla]
  generalize hl : cCode C _ _ _ (.loop _) _ = r
  obtain ⟨e, s', rfl, he, hp⟩ := loop_rule hl (fun j s => s.env 0 = a ∧ s.env 1 = .fn g fs cs ∧ s.env 7 = .int .i64 l.length ∧ Grow m s.mem ∧ ∃ i, i + j = l.length ∧ s.env 8 = .int .i64 (i : Nat) ∧ ∀ x ∈ l.take i, p x = false)
    (fun e s => Grow m s.mem ∧ ((e = .exit 0 ∧ l.findIdx? p = none) ∨ (e = .ret ∧ ∃ i : Nat, s.env 4 = .int .i64 (i : Nat) ∧ l.findIdx? p = some i))) l.length (by omega) (by
      refine ⟨by simp, by simp, by simp, ⟨by simp, fun _ _ => rfl, fun _ _ => rfl, fun _ _ => rfl, fun h id hid => h id (by simp at hid; omega)⟩, 0, by simp, by simp, by simp⟩) (by
      rintro j s ⟨h0, h1, h7, hgr, i, hij, h8, ht⟩
      by_cases hi : i < l.length
      · have hax := ha.indexAddr (P := Tryd.prog) Tryd.underlying30 sz63 eRad_len (k := .i64) hi
        have hw : IntKind.i64.wrap ((i : Int) + 1) = ((i + 1 : Nat) : Int) := IntWalk.i64_in _ (by omega)
        obtain ⟨mm, hmm⟩ := skolem (fun m hm => hf k (by omega) l[i] (List.getElem_mem hi) m hm)
        have hcall : ∀ m, Q m → cCall C T k g (fs ++ .agg (eRad l[i]) :: cs) m = some (.bool (p l[i]), mm m) := fun m hm => by simpa using (hmm m hm).1
        have hqs : ∀ n, Q { cell := s.mem.cell, mode := s.mem.mode, siz := s.mem.siz, next := s.mem.next + n } := fun n => hQ m _ hq (hgr.trans (Grow.bump _ _))
        have hgs : ∀ n n', Grow m { cell := (mm { cell := s.mem.cell, mode := s.mem.mode, siz := s.mem.siz, next := s.mem.next + n }).cell, mode := (mm { cell := s.mem.cell, mode := s.mem.mode, siz := s.mem.siz, next := s.mem.next + n }).mode, siz := (mm { cell := s.mem.cell, mode := s.mem.mode, siz := s.mem.siz, next := s.mem.next + n }).siz, next := (mm { cell := s.mem.cell, mode := s.mem.mode, siz := s.mem.siz, next := s.mem.next + n }).next + n' } :=
          fun n n' => (hgr.trans (Grow.bump _ n)).trans ((hmm _ (hqs n)).2.trans (Grow.bump _ n'))
        cases hpx : p l[i] with
        | false =>
          simp [h0, h1, h7, h8, hi, hax, load_iptr_agg ag63 sz63 (eRad_len _), hcall, hqs, hpx, hw]
          refine ⟨by omega, hgs _ _, i + 1, by omega, by simp, fun x hx => ?_⟩
          rw [List.take_succ_eq_append_getElem hi] at hx
          rcases List.mem_append.1 hx with hx | hx
          · exact ht x hx
          · rw [List.mem_singleton.1 hx]; exact hpx
        | true =>
          simp [h0, h1, h7, h8, hi, hax, load_iptr_agg ag63 sz63 (eRad_len _), hcall, hqs, hpx, hw]
          refine ⟨hgs _ _, i, rfl, ?_⟩
          rw [List.findIdx?_eq_some_iff_getElem]
          refine ⟨hi, hpx, fun j' hj' => ?_⟩
          rw [Bool.not_eq_true]
          refine ht _ ?_
          rw [List.mem_take_iff_getElem]
          exact ⟨j', by omega, rfl⟩
      · simp [h0, h1, h7, h8, hi]
        refine ⟨hgr.trans (Grow.bump _ _), ?_⟩
        rw [List.take_of_length_le (by omega)] at ht
        exact ht)
  obtain ⟨hg, ⟨rfl, h2⟩ | ⟨rfl, i, h1, h2⟩⟩ := hp
  · simp [h2]
    exact hg.trans (Grow.bump _ _)
  · simp [h1, h2]
    exact hg

theorem c56 {a : AVal} {l : List Rad} (ha : SL eRad a l) (hll : l.length < 2 ^ 62) (p : Rad → Bool) (g : FuncId) (fs cs : List AVal) (K : Nat) (Q : Mem → Prop) (hQ : ∀ m m', Q m → Grow m m' → Q m')
    (hf : ∀ k, K ≤ k → ∀ x ∈ l, ∀ m, Q m → ∃ m', cCall C T k g (fs ++ [.agg (eRad x)] ++ cs) m = some (.bool (p x), m') ∧ Grow m m') :
    ∀ k, K + l.length + 3 ≤ k → ∀ m, Q m → ∃ m', cCall C T k 56 [a, .fn g fs cs] m = some (.bool (l.any p), m') ∧ Grow m m' := by
  intro k hk m hq
  obtain ⟨k, rfl⟩ : ∃ j, k = j + 1 := ⟨k - 1, by omega⟩
  obtain ⟨mm, hmm⟩ := skolem (c73 ha hll p g fs cs K Q hQ hf k (by omega))
  have hcall : ∀ m, Q m → cCall C T k 73 [a, .fn g fs cs] m = some _ := fun m hm => (hmm m hm).1
  have hq' : ∀ n, Q { cell := m.cell, mode := m.mode, siz := m.siz, next := m.next + n } := fun n => hQ m _ hq (Grow.bump _ _)
  simp only [cCall, kd56]
  rw [body56]
  cases hfi : l.findIdx? p with
  | none =>
    have : l.any p = false := by
      rw [List.findIdx?_eq_none_iff] at hfi
      simpa using hfi
    simp [codeOf, Tryd.f56, hcall, hq', hfi, this]
    exact (Grow.bump _ _).trans (hmm _ (hq' _)).2
  | some i =>
    have : l.any p = true := by
      obtain ⟨h1, h2, _⟩ := List.findIdx?_eq_some_iff_getElem.1 hfi
      exact List.any_eq_true.2 ⟨_, List.getElem_mem h1, h2⟩
    have hi : (0 : Int) ≤ i := by omega
    simp [codeOf, Tryd.f56, hcall, hq', hfi, this, hi]
    exact (Grow.bump _ _).trans (hmm _ (hq' _)).2


theorem c67 {a : AVal} {l : List Sen} (ha : SL eSen a l) (hll : l.length < 2 ^ 62) (p : Sen → Bool) (g : FuncId) (fs cs : List AVal) (K : Nat) (Q : Mem → Prop) (hQ : ∀ m m', Q m → Grow m m' → Q m')
    (hf : ∀ k, K ≤ k → ∀ x ∈ l, ∀ m, Q m → ∃ m', cCall C T k g (fs ++ [.agg (eSen x)] ++ cs) m = some (.bool (p x), m') ∧ Grow m m') :
    ∀ k, K + l.length + 2 ≤ k → ∀ m, Q m → ∃ m', cCall C T k 67 [a, .fn g fs cs] m = some (.int .i64 (match l.findIdx? p with | some i => (i : Int) | none => -1), m') ∧ Grow m m' := by
  intro k hk m hq
  obtain ⟨k, rfl⟩ : ∃ j, k = j + 1 := ⟨k - 1, by omega⟩
  have hla := ha.len (P := Tryd.prog) Tryd.underlying46
  simp only [cCall, kd67]
  rw [body67]
  simp [codeOf, Tryd.f67, hla]
  generalize hl : cCode C _ _ _ (.loop _) _ = r
  obtain ⟨e, s', rfl, he, hp⟩ := loop_rule hl (fun j s => s.env 0 = a ∧ s.env 1 = .fn g fs cs ∧ s.env 7 = .int .i64 l.length ∧ Grow m s.mem ∧ ∃ i, i + j = l.length ∧ s.env 8 = .int .i64 (i : Nat) ∧ ∀ x ∈ l.take i, p x = false)
    (fun e s => Grow m s.mem ∧ ((e = .exit 0 ∧ l.findIdx? p = none) ∨ (e = .ret ∧ ∃ i : Nat, s.env 4 = .int .i64 (i : Nat) ∧ l.findIdx? p = some i))) l.length (by omega) (by
      refine ⟨by simp, by simp, by simp, ⟨by simp, fun _ _ => rfl, fun _ _ => rfl, fun _ _ => rfl, fun h id hid => h id (by simp at hid; omega)⟩, 0, by simp, by simp, by simp⟩) (by
      rintro j s ⟨h0, h1, h7, hgr, i, hij, h8, ht⟩
      by_cases hi : i < l.length
      · have hax := ha.indexAddr (P := Tryd.prog) Tryd.underlying46 sz77 eSen_len (k := .i64) hi
        have hw : IntKind.i64.wrap ((i : Int) + 1) = ((i + 1 : Nat) : Int) := IntWalk.i64_in _ (by omega)
        obtain ⟨mm, hmm⟩ := skolem (fun m hm => hf k (by omega) l[i] (List.getElem_mem hi) m hm)
        have hcall : ∀ m, Q m → cCall C T k g (fs ++ .agg (eSen l[i]) :: cs) m = some (.bool (p l[i]), mm m) := fun m hm => by simpa using (hmm m hm).1
        have hqs : ∀ n, Q { cell := s.mem.cell, mode := s.mem.mode, siz := s.mem.siz, next := s.mem.next + n } := fun n => hQ m _ hq (hgr.trans (Grow.bump _ _))
        have hgs : ∀ n n', Grow m { cell := (mm { cell := s.mem.cell, mode := s.mem.mode, siz := s.mem.siz, next := s.mem.next + n }).cell, mode := (mm { cell := s.mem.cell, mode := s.mem.mode, siz := s.mem.siz, next := s.mem.next + n }).mode, siz := (mm { cell := s.mem.cell, mode := s.mem.mode, siz := s.mem.siz, next := s.mem.next + n }).siz, next := (mm { cell := s.mem.cell, mode := s.mem.mode, siz := s.mem.siz, next := s.mem.next + n }).next + n' } :=
          fun n n' => (hgr.trans (Grow.bump _ n)).trans ((hmm _ (hqs n)).2.trans (Grow.bump _ n'))
        cases hpx : p l[i] with
        | false =>
          simp [h0, h1, h7, h8, hi, hax, load_iptr_agg ag77 sz77 (eSen_len _), hcall, hqs, hpx, hw]
          refine ⟨by omega, hgs _ _, i + 1, by omega, by simp, fun x hx => ?_⟩
          rw [List.take_succ_eq_append_getElem hi] at hx
          rcases List.mem_append.1 hx with hx | hx
          · exact ht x hx
          · rw [List.mem_singleton.1 hx]; exact hpx
        | true =>
          simp [h0, h1, h7, h8, hi, hax, load_iptr_agg ag77 sz77 (eSen_len _), hcall, hqs, hpx, hw]
          refine ⟨hgs _ _, i, rfl, ?_⟩
          rw [List.findIdx?_eq_some_iff_getElem]
          refine ⟨hi, hpx, fun j' hj' => ?_⟩
          rw [Bool.not_eq_true]
          refine ht _ ?_
          rw [List.mem_take_iff_getElem]
          exact ⟨j', by omega, rfl⟩
      · simp [h0, h1, h7, h8, hi]
        refine ⟨hgr.trans (Grow.bump _ _), ?_⟩
        rw [List.take_of_length_le (by omega)] at ht
        exact ht)
  obtain ⟨hg, ⟨rfl, h2⟩ | ⟨rfl, i, h1, h2⟩⟩ := hp
  · simp [h2]
    exact hg.trans (Grow.bump _ _)
  · simp [h1, h2]
    exact hg

theorem c46 {a : AVal} {l : List Sen} (ha : SL eSen a l) (hll : l.length < 2 ^ 62) (p : Sen → Bool) (g : FuncId) (fs cs : List AVal) (K : Nat) (Q : Mem → Prop) (hQ : ∀ m m', Q m → Grow m m' → Q m')
    (hf : ∀ k, K ≤ k → ∀ x ∈ l, ∀ m, Q m → ∃ m', cCall C T k g (fs ++ [.agg (eSen x)] ++ cs) m = some (.bool (p x), m') ∧ Grow m m') :
    ∀ k, K + l.length + 3 ≤ k → ∀ m, Q m → ∃ m', cCall C T k 46 [a, .fn g fs cs] m = some (.bool (l.any p), m') ∧ Grow m m' := by
  intro k hk m hq
  obtain ⟨k, rfl⟩ : ∃ j, k = j + 1 := ⟨k - 1, by omega⟩
  obtain ⟨mm, hmm⟩ := skolem (c67 ha hll p g fs cs K Q hQ hf k (by omega))
  have hcall : ∀ m, Q m → cCall C T k 67 [a, .fn g fs cs] m = some _ := fun m hm => (hmm m hm).1
  have hq' : ∀ n, Q { cell := m.cell, mode := m.mode, siz := m.siz, next := m.next + n } := fun n => hQ m _ hq (Grow.bump _ _)
  simp only [cCall, kd46]
  rw [body46]
  cases hfi : l.findIdx? p with
  | none =>
    have : l.any p = false := by
      rw [List.findIdx?_eq_none_iff] at hfi
      simpa using hfi
    simp [codeOf, Tryd.f46, hcall, hq', hfi, this]
    exact (Grow.bump _ _).trans (hmm _ (hq' _)).2
  | some i =>
    have : l.any p = true := by
      obtain ⟨h1, h2, _⟩ := List.findIdx?_eq_some_iff_getElem.1 hfi
      exact List.any_eq_true.2 ⟨_, List.getElem_mem h1, h2⟩
    have hi : (0 : Int) ≤ i := by omega
    simp [codeOf, Tryd.f46, hcall, hq', hfi, this, hi]
    exact (Grow.bump _ _).trans (hmm _ (hq' _)).2

end Go.Proofs.YtmfdjipijifabaaDoor
end
section
/- What the functions of the radio world compute: checks. -/
set_option linter.unusedVariables false
set_option linter.unusedSimpArgs false
set_option maxRecDepth 100000
namespace Go.Proofs.YtmfdjipijifabaaDoor
open Go.Ab

theorem c58 (k : Nat) (hk : 2 ≤ k) (r : Rad) (h1 : -10000 ≤ r.x ∧ r.x ≤ 10000) (h2 : -10000 ≤ r.y ∧ r.y ≤ 10000) (h3 : 0 ≤ r.p ∧ r.p ≤ 300) (h4 : 1 ≤ r.c ∧ r.c ≤ 64) (m : Mem) :
    cCall C T k 58 [.agg (eRad r)] m = some (.bool true, m) := by
  refine pure_call kd58 1 hk (by simp [eRad]; rfl) fun k hk => ?_
  rw [body58]
  simp [codeOf, Tryd.f58, c60 k hk, h1, h2, h3, h4]

theorem c57 (k : Nat) (hk : 3 ≤ k) (r : Rad) (h1 : -10000 ≤ r.x ∧ r.x ≤ 10000) (h2 : -10000 ≤ r.y ∧ r.y ≤ 10000) (h3 : 0 ≤ r.p ∧ r.p ≤ 300) (h4 : 1 ≤ r.c ∧ r.c ≤ 64) (m : Mem) :
    cCall C T k 57 [.agg (eRad r)] m = some (.bool false, m) := by
  refine pure_call kd57 2 hk (by simp [eRad]; rfl) fun k hk => ?_
  rw [body57]
  have h5 := c58 k hk r h1 h2 h3 h4
  simp only [eRad] at h5
  simp [codeOf, Tryd.f57, h5]

theorem c59 (k : Nat) (hk : 2 ≤ k) (x : Int) (h1 : 0 ≤ x ∧ x ≤ 600) (m : Mem) :
    cCall C T k 59 [.int .i64 x] m = some (.bool false, m) := by
  refine pure_call kd59 1 hk (by simp; rfl) fun k hk => ?_
  rw [body59]
  simp [codeOf, Tryd.f59, c60 k hk, h1]

/-- A row of shadows. -/
def eRow (r : List Int) : List AVal := [.imm r.length (r.flatMap eInt)]
theorem eRow_len (r : List Int) : (eRow r).length = 1 := rfl
/-- A radio world: the radios, and the shadows. -/
structure Air where
  rs : List Rad
  sh : List (List Int)
def eAir (w : Air) : List AVal := [.imm w.rs.length (w.rs.flatMap eRad), .imm w.sh.length (w.sh.flatMap eRow)]

structure Air.ok (w : Air) : Prop where
  pos : 0 < w.rs.length
  most : w.rs.length ≤ 32
  rad : ∀ r ∈ w.rs, r.x = 7 ∧ r.y = -9 ∧ (0 ≤ r.p ∧ r.p ≤ 99) ∧ r.c = 6
  len : w.sh.length = w.rs.length
  row : ∀ i (h : i < w.sh.length), w.sh[i].length = w.rs.length
  diag : ∀ i (h : i < w.sh.length), w.sh[i][i]? = some 0
  bnd : ∀ r ∈ w.sh, ∀ x ∈ r, 0 ≤ x ∧ x ≤ 600

theorem sl_imm {α : Type} (enc : α → List AVal) (l : List α) : SL enc (.imm l.length (l.flatMap enc)) l := .inr rfl

theorem c33 (k : Nat) (w : Air) (hw : w.ok) (hk : 2 * w.rs.length + 10 ≤ k) (m : Mem) :
    cCall C T k 33 [.agg (eAir w)] m = some (.int .i64 0, m) := by
  refine pure_call kd33 (2 * w.rs.length + 9) hk (by simp [eAir]; rfl) fun k hk => ?_
  rw [body33]
  obtain ⟨mm, hmm⟩ := skolem (c56 (sl_imm eRad w.rs) (by have := hw.most; omega) (fun _ => false) 57 [] [] 3 (fun _ => True) (fun _ _ _ _ => trivial)
    (fun k hk x hx m _ => ⟨m, by
      have h := hw.rad x hx
      simpa using c57 k hk x (by omega) (by omega) (by omega) (by omega) m, Grow.refl m⟩) k (by omega))
  have g1 : ∀ m, cCall C T k 56 _ m = some _ := fun m => (hmm m trivial).1
  have g2 : ∀ m, Grow m (mm m) := fun m => (hmm m trivial).2
  have h1 : ¬ (w.rs.length : Int) < 1 := by have := hw.pos; omega
  have h2 : ¬ (32 : Int) < w.rs.length := by have := hw.most; omega
  have h3 : ((w.rs.length : Int) != 0) = true := by have := hw.pos; simp; intro h; simp [h] at this
  have h4 := hw.len
  have g3 : ∀ m id, id < m.next → (mm m).cell id = m.cell id := fun m id h => (g2 m).cell id h
  have g4 : ∀ m id, id < m.next → (mm m).mode id = m.mode id := fun m id h => (g2 m).mode id h
  simp [codeOf, Tryd.f33, eAir, lenA, g1, g3, g4, h1, h2, h3, h4]
  generalize hl : cCode C _ _ _ (.loop _) _ = r
  obtain ⟨e, s', rfl, he, hp⟩ := loop_rule hl (fun j s => s.env 3 = .int .i64 w.rs.length ∧ s.env 33 = .imm w.rs.length (w.sh.flatMap eRow) ∧ s.env 34 = .int .i64 w.rs.length ∧ ∃ i, i + j = w.rs.length ∧ s.env 35 = .int .i64 (i : Nat))
    (fun e s => e = .exit 0) w.rs.length (by omega) (by simp) (by
      rintro j s ⟨e3, e33, e34, i, hij, e35⟩
      by_cases hi : i < w.rs.length
      · have hi' : i < w.sh.length := by omega
        have hsh : SL eRow (.imm w.rs.length (w.sh.flatMap eRow)) w.sh := h4 ▸ sl_imm eRow w.sh
        have hax := hsh.indexAddr (P := Tryd.prog) Tryd.underlying31 sz24 eRow_len (k := .i64) hi'
        have hri := hw.row i hi'
        have hdi := hw.diag i hi'
        have hlr : i < w.sh[i].length := by omega
        have hd0 : w.sh[i][i] = 0 := by rw [List.getElem?_eq_getElem hlr] at hdi; exact Option.some.inj hdi
        have hbx := (sl_imm eInt w.sh[i]).indexAddr (P := Tryd.prog) Tryd.underlying24 sz3 eInt_len (k := .i64) hlr
        have hww : IntKind.i64.wrap ((i : Int) + 1) = ((i + 1 : Nat) : Int) := IntWalk.i64_in _ (by have := hw.most; omega)
        obtain ⟨nn, hnn⟩ := skolem (c19 (sl_imm eInt w.sh[i]) (by have := hw.most; omega) (fun _ => false) 59 [] [] 2 (fun _ => True) (fun _ _ _ _ => trivial)
          (fun k hk x hx m _ => ⟨m, by simpa using c59 k hk x (hw.bnd _ (List.getElem_mem hi') x hx) m, Grow.refl m⟩) k (by omega))
        have f1 : ∀ m, cCall C T k 19 _ m = some _ := fun m => (hnn m trivial).1
        rw [hri] at hbx f1
        simp [e3, e33, e34, e35, hi, hax, load_iptr_one ag24 sz24, eRow, hri, lenA, hbx, load_iptr_one ag3 sz3, eInt, hd0, f1, hww]
        exact ⟨by omega, i + 1, by omega, by simp⟩
      · simp [e3, e33, e34, e35, hi])
  subst hp
  simp

theorem c34 (k : Nat) (w : Air) (hw : w.ok) (a : AVal) (l : List Int) (ha : SL eInt a l) (hl : ∀ x ∈ l, 0 ≤ x ∧ x < w.rs.length) (hll : l.length < 2 ^ 62) (hk : l.length + 10 ≤ k) (args : List AVal) (m m1 : Mem)
    (hz : freezeL (freezeV 8) args m = some ([.agg (eAir w), a], m1)) :
    cCall C T k 34 args m = some (.bool true, m1) := by
  refine pure_call kd34 (l.length + 9) hk hz fun k hk => ?_
  rw [body34]
  have hm := hw.most
  obtain ⟨mm, hmm⟩ := skolem (c19 ha hll (fun _ => false) 61 [] [.ptr 1 0] 2 (fun m => 1 < m.next ∧ m.mode 1 = .rw ∧ m.cell 1 0 = some (.imm w.rs.length (w.rs.flatMap eRad)))
    (fun m m' h g => ⟨Nat.lt_of_lt_of_le h.1 g.next, (g.mode 1 h.1).trans h.2.1, by rw [g.cell 1 h.1]; exact h.2.2⟩)
    (fun k hk x hx m hm => by
      obtain ⟨k, rfl⟩ : ∃ j, k = j + 1 := ⟨k - 1, by omega⟩
      refine ⟨{ cell := m.cell, mode := m.mode, siz := m.siz, next := m.next + 9 }, ?_, Grow.bump _ _⟩
      have h1 : IntKind.i64.wrap ((w.rs.length : Int) - 1) = (w.rs.length : Int) - 1 := IntWalk.i64_in _ (by omega)
      have h2 : 0 ≤ x := (hl x hx).1
      have h3 : x ≤ (w.rs.length : Int) - 1 := by have := (hl x hx).2; omega
      simp only [cCall, kd61]
      simp only [List.nil_append, List.cons_append]
      rw [body61]
      simp [codeOf, Tryd.f61, hm.1, hm.2.1, hm.2.2, lenA, c60 k (by omega), h1, h2, h3]) k (by omega))
  have f1 : ∀ m, _ → cCall C T k 19 _ m = some _ := fun m h => (hmm m h).1
  simp [codeOf, Tryd.f34, eAir, f1]

theorem c16 (k : Nat) (w : Air) (hw : w.ok) (a : AVal) (l : List Int) (ha : SL eInt a l) (hl : ∀ x ∈ l, 0 ≤ x ∧ x < w.rs.length) (hll : l.length < 2 ^ 62) (hk : 2 * w.rs.length + l.length + 12 ≤ k) (args : List AVal) (m m1 : Mem)
    (hz : freezeL (freezeV 8) args m = some ([.agg (eAir w), a], m1)) (hza : ∀ m, freezeV 8 a m = some (a, m)) :
    cCall C T k 16 args m = some (.int .i64 0, m1) := by
  refine pure_call kd16 (2 * w.rs.length + l.length + 11) hk hz fun k hk => ?_
  rw [body16]
  have h1 := c33 k w hw (by omega)
  have h2 : ∀ m, cCall C T k 34 [.agg (eAir w), a] m = some _ := fun m => c34 k w hw a l ha hl hll (by omega) _ m m (by simp [eAir, hza])
  simp only [eAir] at h1 h2
  simp [codeOf, Tryd.f16, eAir, h1, h2]
end Go.Proofs.YtmfdjipijifabaaDoor
end

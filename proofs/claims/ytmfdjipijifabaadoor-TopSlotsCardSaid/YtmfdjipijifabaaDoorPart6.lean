/- Part 6 of a proof in many texts, put together: definitions and lemmas. The theorem stands in the last text; no conditions. -/
import Derived.Test.YtmfdjipijifabaaDoorPart5
section
/- What the functions of the radio world compute: levels. -/
set_option linter.unusedVariables false
set_option linter.unusedSimpArgs false
set_option maxRecDepth 100000
namespace Go.Proofs.YtmfdjipijifabaaDoor
open Go.Ab


theorem c62 (k : Nat) (hk : 41 ≤ k) (m : Mem) : cCall C T k 62 [.int .i64 7, .int .i64 (-9), .int .i64 7, .int .i64 (-9)] m = some (.tup [.int .i64 0, .int .i64 0], m) :=
  pure_conc kd62 40 hk (by simp; rfl) (by kernel_rfl)
theorem c63 (k : Nat) (hk : 21 ≤ k) (m : Mem) : cCall C T k 63 [.int .i64 0] m = some (.tup [.int .i64 400, .int .i64 0], m) :=
  pure_conc kd63 20 hk (by simp; rfl) (by kernel_rfl)
theorem c53 (k : Nat) (hk : 61 ≤ k) (m : Mem) : cCall C T k 53 [.int .i64 7, .int .i64 (-9), .int .i64 7, .int .i64 (-9)] m = some (.tup [.int .i64 0, .int .i64 0], m) :=
  pure_conc kd53 60 hk (by simp; rfl) (by kernel_rfl)
theorem c54 (k : Nat) (hk : 21 ≤ k) (m : Mem) : cCall C T k 54 [.int .i64 0] m = some (.int .i64 400, m) :=
  pure_conc kd54 20 hk (by simp; rfl) (by kernel_rfl)

theorem ld63 (a b c d : AVal) (r : List AVal) (m : Mem) : loadA Tryd.prog 63 (.iptr (a :: b :: c :: d :: r)) m = some (.agg [a, b, c, d]) := load_iptr_agg (cs := [a, b, c, d]) ag63 sz63 rfl
theorem ld77 (a b c d : AVal) (r : List AVal) (m : Mem) : loadA Tryd.prog 77 (.iptr (a :: b :: c :: d :: r)) m = some (.agg [a, b, c, d]) := load_iptr_agg (cs := [a, b, c, d]) ag77 sz77 rfl
theorem ld3 (a : AVal) (r : List AVal) (m : Mem) : loadA Tryd.prog 3 (.iptr (a :: r)) m = some a := load_iptr_one ag3 sz3
theorem ld24 (a : AVal) (r : List AVal) (m : Mem) : loadA Tryd.prog 24 (.iptr (a :: r)) m = some a := load_iptr_one ag24 sz24

/-- How strong i is at j. -/
def Air.lev (w : Air) (i j : Nat) : Int := (w.rs[i]?.map (·.p)).getD 0 - (400 + ((w.sh[i]?.bind (·[j]?)).getD 0))

structure Air.At (w : Air) (i j : Nat) where
  hi : i < w.rs.length
  hj : j < w.rs.length
  hi' : i < w.sh.length
  hj' : j < w.sh[i].length
  pi : 0 ≤ w.rs[i].p ∧ w.rs[i].p ≤ 99
  sij : 0 ≤ w.sh[i][j] ∧ w.sh[i][j] ≤ 600
  lev : w.lev i j = w.rs[i].p - (400 + w.sh[i][j])

theorem Air.ok.at {w : Air} (hw : w.ok) {i j : Nat} (hi : i < w.rs.length) (hj : j < w.rs.length) : w.At i j := by
  have hi' : i < w.sh.length := by have := hw.len; omega
  have hj' : j < w.sh[i].length := by have := hw.row i hi'; omega
  exact ⟨hi, hj, hi', hj', (hw.rad _ (List.getElem_mem hi)).2.2.1, hw.bnd _ (List.getElem_mem hi') _ (List.getElem_mem hj'), by simp [Air.lev, hi, hi', hj']⟩

theorem c35 (k : Nat) (w : Air) (hw : w.ok) (i j : Nat) (hi : i < w.rs.length) (hj : j < w.rs.length) (hk : 45 ≤ k) (m : Mem) :
    cCall C T k 35 [.agg (eAir w), .int .i64 i, .int .i64 j] m = some (.int .i64 (w.lev i j), m) := by
  refine pure_call kd35 44 hk (by simp [eAir]; rfl) fun k hk => ?_
  rw [body35]
  have hat := hw.at hi hj
  obtain ⟨_, _, hi', hj', pi, sij, hlev⟩ := hat
  have ri := hw.rad _ (List.getElem_mem hi)
  have rj := hw.rad _ (List.getElem_mem hj)
  have h1 := (sl_imm eRad w.rs).indexAddr (P := Tryd.prog) Tryd.underlying30 sz63 eRad_len (k := .i64) hi
  have h2 := (sl_imm eRad w.rs).indexAddr (P := Tryd.prog) Tryd.underlying30 sz63 eRad_len (k := .i64) hj
  have h3 := (sl_imm eRow w.sh).indexAddr (P := Tryd.prog) Tryd.underlying31 sz24 eRow_len (k := .i64) hi'
  have h4 := (sl_imm eInt w.sh[i]).indexAddr (P := Tryd.prog) Tryd.underlying24 sz3 eInt_len (k := .i64) hj'
  have h5 : 0 < w.sh.length := by omega
  have h6 : IntKind.i64.wrap (400 + w.sh[i][j]) = 400 + w.sh[i][j] := IntWalk.i64_in _ (by omega)
  have h7 : IntKind.i64.wrap (w.rs[i].p - (400 + w.sh[i][j])) = w.rs[i].p - (400 + w.sh[i][j]) := IntWalk.i64_in _ (by omega)
  simp [codeOf, Tryd.f35, eAir, lenA, h1, h2, h3, h4, h5, h6, h7, ld63, ld24, ld3, eRow, eInt, c62 k (by omega), c63 k (by omega), hlev, eRad, ri.1, ri.2.1, rj.1, rj.2.1]

theorem c51 (k : Nat) (w : Air) (hw : w.ok) (i j : Nat) (hi : i < w.rs.length) (hj : j < w.rs.length) (hk : 2 * w.rs.length + 60 ≤ k) (m : Mem) :
    cCall C T k 51 [.agg (eAir w), .int .i64 i, .int .i64 j] m = some (.tup [.int .i64 (w.lev i j), .int .i64 0], m) := by
  refine pure_call kd51 (2 * w.rs.length + 59) hk (by simp [eAir]; rfl) fun k hk => ?_
  rw [body51]
  have h1 : ∀ m m' : Mem, ∀ id, m'.mode id ≠ .dead → m'.cell id 0 = some (.int .i64 i) → m'.cell id 1 = some (.int .i64 j) →
      cCall C T k 16 [.agg (eAir w), .own id 0 2 1] m' = some (.int .i64 0, { cell := m'.cell, mode := upd m'.mode id .ro, siz := m'.siz, next := m'.next }) := by
    intro m m' id h1 h2 h3
    refine c16 k w hw _ [(i : Int), (j : Int)] (.inr rfl) ?_ (by simp) (by simp; omega) _ _ _ ?_ (fun _ => rfl)
    · intro x hx
      simp at hx
      rcases hx with rfl | rfl <;> omega
    · simp [eAir, freezeV, h1, h2, h3, eInt]
  have h2 := c35 k w hw i j hi hj (by omega)
  simp only [eAir] at h1 h2
  simp [codeOf, Tryd.f51, eAir, h1 C.m0, h2, buildSliceA, zeros]
end Go.Proofs.YtmfdjipijifabaaDoor
end
section
/- What the functions of the radio world compute: who hears whom. -/
set_option linter.unusedVariables false
set_option linter.unusedSimpArgs false
set_option maxRecDepth 100000
namespace Go.Proofs.YtmfdjipijifabaaDoor
open Go.Ab

/-- j hears i. -/
def Air.hear (w : Air) (i j : Nat) : Bool := decide (i ≠ j) && decide (-820 ≤ w.lev i j)

theorem c17 (k : Nat) (w : Air) (hw : w.ok) (i j : Nat) (hi : i < w.rs.length) (hj : j < w.rs.length) (hk : 46 ≤ k) (m : Mem) :
    cCall C T k 17 [.agg (eAir w), .int .i64 j, .int .i64 i] m = some (.bool (w.hear i j), m) := by
  refine pure_call kd17 45 hk (by simp [eAir]; rfl) fun k hk => ?_
  rw [body17]
  have ri := hw.rad _ (List.getElem_mem hi)
  have rj := hw.rad _ (List.getElem_mem hj)
  have h1 := (sl_imm eRad w.rs).indexAddr (P := Tryd.prog) Tryd.underlying30 sz63 eRad_len (k := .i64) hi
  have h2 := (sl_imm eRad w.rs).indexAddr (P := Tryd.prog) Tryd.underlying30 sz63 eRad_len (k := .i64) hj
  have h3 := c35 k w hw i j hi hj (by omega)
  simp only [eAir] at h3
  by_cases hij : i = j
  · subst hij
    simp [codeOf, Tryd.f17, eAir, Air.hear]
  · have hij' : ¬ (i : Int) = j := by omega
    have hb : ((i : Int) != j) = true := by simp [hij']
    by_cases hl : -820 ≤ w.lev i j <;> simp [codeOf, Tryd.f17, eAir, h1, h2, h3, eRad, ld3, hij, hij', hb, Air.hear, ri.2.2.2, rj.2.2.2, hl]

theorem c6 (k : Nat) (w : Air) (hw : w.ok) (i j : Nat) (hi : i < w.rs.length) (hj : j < w.rs.length) (hk : 2 * w.rs.length + 60 ≤ k) (m : Mem) :
    cCall C T k 6 [.agg (eAir w), .int .i64 j, .int .i64 i] m = some (.tup [.bool (w.hear i j), .int .i64 0], m) := by
  refine pure_call kd6 (2 * w.rs.length + 59) hk (by simp [eAir]; rfl) fun k hk => ?_
  rw [body6]
  have h1 : ∀ m m' : Mem, ∀ id, m'.mode id ≠ .dead → m'.cell id 0 = some (.int .i64 i) → m'.cell id 1 = some (.int .i64 j) →
      cCall C T k 16 [.agg (eAir w), .own id 0 2 1] m' = some (.int .i64 0, { cell := m'.cell, mode := upd m'.mode id .ro, siz := m'.siz, next := m'.next }) := by
    intro m m' id h1 h2 h3
    refine c16 k w hw _ [(i : Int), (j : Int)] (.inr rfl) ?_ (by simp) (by simp; omega) _ _ _ ?_ (fun _ => rfl)
    · intro x hx
      simp at hx
      rcases hx with rfl | rfl <;> omega
    · simp [eAir, freezeV, h1, h2, h3, eInt]
  have h2 := c17 k w hw i j hi hj (by omega)
  simp only [eAir] at h1 h2
  simp [codeOf, Tryd.f6, eAir, h1 C.m0, h2, buildSliceA, zeros]

theorem c28 (k : Nat) (w : Air) (hw : w.ok) (i j : Nat) (hi : i < w.rs.length) (hj : j < w.rs.length) (hk : 65 ≤ k) (m : Mem) :
    cCall C T k 28 [.agg (eAir w), .int .i64 i, .int .i64 j] m = some (.int .i64 (w.lev i j), m) := by
  refine pure_call kd28 64 hk (by simp [eAir]; rfl) fun k hk => ?_
  rw [body28]
  have hat := hw.at hi hj
  obtain ⟨_, _, hi', hj', pi, sij, hlev⟩ := hat
  have ri := hw.rad _ (List.getElem_mem hi)
  have rj := hw.rad _ (List.getElem_mem hj)
  have h1 := (sl_imm eRad w.rs).indexAddr (P := Tryd.prog) Tryd.underlying30 sz63 eRad_len (k := .i64) hi
  have h2 := (sl_imm eRad w.rs).indexAddr (P := Tryd.prog) Tryd.underlying30 sz63 eRad_len (k := .i64) hj
  have h3 := (sl_imm eRow w.sh).indexAddr (P := Tryd.prog) Tryd.underlying31 sz24 eRow_len (k := .i64) hi'
  have h4 := (sl_imm eInt w.sh[i]).indexAddr (P := Tryd.prog) Tryd.underlying24 sz3 eInt_len (k := .i64) hj'
  have h5 : 0 < w.sh.length := by omega
  have h6 : IntKind.i64.wrap (w.rs[i].p - 400) = w.rs[i].p - 400 := IntWalk.i64_in _ (by omega)
  have h7 : IntKind.i64.wrap (w.rs[i].p - 400 - w.sh[i][j]) = w.rs[i].p - 400 - w.sh[i][j] := IntWalk.i64_in _ (by omega)
  have h8 : w.rs[i].p - 400 - w.sh[i][j] = w.rs[i].p - (400 + w.sh[i][j]) := by omega
  rw [h8] at h7
  simp [codeOf, Tryd.f28, eAir, lenA, h1, h2, h3, h4, h5, h6, h7, h8, ld63, ld24, ld3, eRow, eInt, c53 k (by omega), c54 k (by omega), hlev, eRad, ri.1, ri.2.1, rj.1, rj.2.1]

theorem c29 (k : Nat) (w : Air) (hw : w.ok) (i j : Nat) (hi : i < w.rs.length) (hj : j < w.rs.length) (hk : 66 ≤ k) (m : Mem) :
    cCall C T k 29 [.agg (eAir w), .int .i64 j, .int .i64 i] m = some (.bool (w.hear i j), m) := by
  refine pure_call kd29 65 hk (by simp [eAir]; rfl) fun k hk => ?_
  rw [body29]
  have ri := hw.rad _ (List.getElem_mem hi)
  have rj := hw.rad _ (List.getElem_mem hj)
  have h1 := (sl_imm eRad w.rs).indexAddr (P := Tryd.prog) Tryd.underlying30 sz63 eRad_len (k := .i64) hi
  have h2 := (sl_imm eRad w.rs).indexAddr (P := Tryd.prog) Tryd.underlying30 sz63 eRad_len (k := .i64) hj
  have h3 := c28 k w hw i j hi hj (by omega)
  simp only [eAir] at h3
  by_cases hij : i = j
  · subst hij
    simp [codeOf, Tryd.f29, eAir, Air.hear]
  · have hij' : ¬ (i : Int) = j := by omega
    have hb : ((i : Int) != j) = true := by simp [hij']
    by_cases hl : -820 ≤ w.lev i j <;> simp [codeOf, Tryd.f29, eAir, h1, h2, h3, eRad, ld3, hij, hij', hb, Air.hear, ri.2.2.2, rj.2.2.2, hl]
end Go.Proofs.YtmfdjipijifabaaDoor
end
section
/- What the functions of the medium compute: checks. -/
set_option linter.unusedVariables false
set_option linter.unusedSimpArgs false
set_option maxRecDepth 100000
namespace Go.Proofs.YtmfdjipijifabaaDoor
open Go.Ab

def ovl (a b : Sen) : Bool := decide (a.s < b.e) && decide (b.s < a.e)

theorem c30 (k : Nat) (hk : 1 ≤ k) (a b : Sen) (m : Mem) : cCall C T k 30 [.agg (eSen a), .agg (eSen b)] m = some (.bool (ovl a b), m) := by
  refine pure_call kd30 0 hk (by simp [eSen]; rfl) fun k hk => ?_
  rw [body30]
  by_cases h1 : a.s < b.e <;> by_cases h2 : b.s < a.e <;> simp [codeOf, Tryd.f30, h1, h2, ovl]
theorem c50 (k : Nat) (hk : 1 ≤ k) (a b : Sen) (m : Mem) : cCall C T k 50 [.agg (eSen a), .agg (eSen b)] m = some (.bool (ovl a b), m) := by
  refine pure_call kd50 0 hk (by simp [eSen]; rfl) fun k hk => ?_
  rw [body50]
  by_cases h1 : a.s < b.e <;> by_cases h2 : b.s < a.e <;> simp [codeOf, Tryd.f50, h1, h2, ovl]

theorem Grow.alloc (m : Mem) (cs : List AVal) (n k : Nat) : Grow m { cell := fun i o => if i = m.next then cs[o]? else m.cell i o, mode := upd m.mode m.next .rw, siz := upd m.siz m.next k, next := m.next + (n + 1) } := by
  refine ⟨by simp, fun id h => ?_, fun id h => ?_, fun id h => ?_, fun h id hid => ?_⟩
  · funext o; exact if_neg (by omega)
  · exact if_neg (by omega)
  · exact if_neg (by omega)
  · show upd m.mode m.next Md.rw id = .dead
    simp only [] at hid
    rw [upd, if_neg (by omega)]
    exact h id (by omega)

theorem Grow.put (m : Mem) (cs ds : List AVal) (p q n k : Nat) (hpq : p < q) : Grow m { cell := fun i o => if i = m.next + p ∧ o < n then cs[o]? else if i = m.next + p then ds[o]? else m.cell i o, mode := upd m.mode (m.next + p) .rw, siz := upd m.siz (m.next + p) k, next := m.next + q } := by
  refine ⟨by simp, fun id h => ?_, fun id h => ?_, fun id h => ?_, fun h id hid => ?_⟩
  · funext o
    show (if id = m.next + p ∧ o < n then cs[o]? else if id = m.next + p then ds[o]? else m.cell id o) = m.cell id o
    rw [if_neg (by omega), if_neg (by omega)]
  · exact if_neg (by omega)
  · exact if_neg (by omega)
  · show upd m.mode (m.next + p) Md.rw id = .dead
    simp only [] at hid
    rw [upd, if_neg (by omega)]
    exact h id (by omega)

/-- A block that holds these cells, in a memory that is fresh beyond its end. -/
structure Holds (id : Nat) (cs : List AVal) (m : Mem) : Prop where
  lt : id < m.next
  rw : m.mode id = .rw
  cell : ∀ o, o < cs.length → m.cell id o = cs[o]?
  fresh : ∀ i, m.next ≤ i → m.mode i = .dead

theorem Holds.grow {id : Nat} {cs : List AVal} {m m' : Mem} (h : Holds id cs m) (g : Grow m m') : Holds id cs m' :=
  ⟨Nat.lt_of_lt_of_le h.lt g.next, (g.mode id h.lt).trans h.rw, fun o ho => by rw [g.cell id h.lt]; exact h.cell o ho, g.dead h.fresh⟩

theorem c49 (k : Nat) (hk : 2 ≤ k) (x s : Sen) (id : Nat) (m : Mem) (h : Holds id (eSen s) m) :
    ∃ m', cCall C T k 49 [.agg (eSen x), .ptr id 0] m = some (.bool (decide (x.n = s.n) && ovl x s), m') ∧ Grow m m' := by
  obtain ⟨k, rfl⟩ : ∃ j, k = j + 1 := ⟨k - 1, by omega⟩
  simp only [cCall, kd49]
  rw [body49]
  have h0 := h.cell 0 (by simp [eSen])
  have h1 := h.cell 1 (by simp [eSen])
  have h2 := h.cell 2 (by simp [eSen])
  have h3 := h.cell 3 (by simp [eSen])
  have hm := h.rw
  have hd := h.fresh m.next (Nat.le_refl _)
  have hne : ¬ id = m.next := by have := h.lt; omega
  have h5 := c50 k (by omega) x s
  simp only [eSen] at h0 h1 h2 h3 h5
  simp at h0 h1 h2 h3
  by_cases hn : x.n = s.n
  · rw [hn] at h5
    simp [codeOf, Tryd.f49, eSen, hd, hne, hm, h0, h1, h2, h3, hn, h5]
    exact Grow.alloc m _ 12 4
  · have hb : (x.n == s.n) = false := by simp [hn]
    simp [codeOf, Tryd.f49, eSen, hd, hne, hm, h0, h1, h2, h3, hn, hb, h5]
    exact Grow.alloc m _ 12 4

theorem SL.sliceTo {α : Type} {enc : α → List AVal} {sz : Nat} (he : ∀ x, (enc x).length = sz) {P : Program} {t e : TypeId} (hu : P.underlying t = some (.slice e)) (hs : sizeT P e = some sz) {a : AVal} {l : List α} (h : SL enc a l) (k : IntKind) {i : Nat} (hi : i ≤ l.length) :
    ∃ a', (∀ m, sliceA P t a none (some (.int k i)) none m = some a') ∧ SL enc a' (l.take i) := by
  rcases h with ⟨rfl, rfl | rfl⟩ | rfl
  · have : i = 0 := by simpa using hi
    subst this
    exact ⟨.nils, fun m => by simp [sliceA, hu, hs, boundsA, boundA], .inl ⟨by simp, .inl rfl⟩⟩
  · have : i = 0 := by simpa using hi
    subst this
    exact ⟨.emp, fun m => by simp [sliceA, hu, hs, boundsA, boundA], .inl ⟨by simp, .inr rfl⟩⟩
  · refine ⟨_, fun m => by simp [sliceA, hu, hs, boundsA, boundA, hi]; rfl, .inr ?_⟩
    rw [flatMap_take he]
    congr 1
    simp
    omega

structure SenOk (w : Air) (l : List Sen) : Prop where
  most : l.length ≤ 64
  one : ∀ s ∈ l, (0 ≤ s.n ∧ s.n < w.rs.length) ∧ (0 ≤ s.s ∧ s.s < s.e ∧ s.e ≤ 1099511627776) ∧ (-2000 ≤ s.d ∧ s.d ≤ 2000)
  apart : ∀ i j (hi : i < l.length) (hj : j < i), ¬ (l[j].n = l[i].n ∧ ovl l[j] l[i] = true)

theorem c26 (k : Nat) (w : Air) (hw : w.ok) (a : AVal) (l : List Sen) (ha : SL eSen a l) (hl : SenOk w l) (hza : ∀ m, freezeV 8 a m = some (a, m)) (hk : 2 * w.rs.length + l.length + 80 ≤ k) (m : Mem) :
    cCall C T k 26 [.agg (eAir w), a] m = some (.int .i64 0, m) := by
  refine pure_call kd26 (2 * w.rs.length + l.length + 79) hk (args' := [.agg (eAir w), a]) (by simp [eAir, hza]) fun k hk => ?_
  rw [body26]
  have h1 := c33 k w hw (by omega)
  have hla := ha.len (P := Tryd.prog) Tryd.underlying46
  have h2 : ¬ (64 : Int) < l.length := by have := hl.most; omega
  simp only [eAir] at h1
  simp [codeOf, Tryd.f26, eAir, h1, hla, h2]
  generalize hl' : cCode C _ _ _ (.loop _) _ = r
  obtain ⟨e, s', rfl, he, hp⟩ := loop_rule hl' (fun j s => s.env 1 = a ∧ s.env 2 = .ptr 1 0 ∧ s.env 17 = a ∧ s.env 18 = .int .i64 l.length ∧ Holds 1 (eAir w) s.mem ∧ ∃ i, i + j = l.length ∧ s.env 19 = .int .i64 (i : Nat))
    (fun e s => e = .exit 0) l.length (by omega) (by
      refine ⟨by simp, by simp, by simp, by simp, ⟨by simp, by simp [upd], ?_, ?_⟩, 0, by simp, by simp⟩
      · intro o ho; simp [eAir]
      · intro i hi
        simp at hi
        show upd C.m0.mode 1 Md.rw i = .dead
        rw [upd, if_neg (by omega), m0_mode, if_neg (by intro h; have := h.1; simp at this; omega)]) (by
      rintro j s ⟨e1, e2, e17, e18, hh, i, hij, e19⟩
      by_cases hi : i < l.length
      · have hax := ha.indexAddr (P := Tryd.prog) Tryd.underlying46 sz77 eSen_len (k := .i64) hi
        have hww : IntKind.i64.wrap ((i : Int) + 1) = ((i + 1 : Nat) : Int) := IntWalk.i64_in _ (by have := hl.most; omega)
        obtain ⟨a', hs1, hs2⟩ := SL.sliceTo eSen_len (P := Tryd.prog) Tryd.underlying46 sz77 ha .i64 (i := i) (by omega)
        have hfr : ∀ n, s.mem.mode (s.mem.next + n) = .dead := fun n => hh.fresh _ (by omega)
        have hone := hl.one _ (List.getElem_mem hi)
        obtain ⟨⟨g1, g2⟩, ⟨g3, g4, g5⟩, g6, g7⟩ := hone
        have k1 : ¬ l[i].n < 0 := by omega
        have k2 : ¬ (w.rs.length : Int) ≤ l[i].n := by omega
        have k3 : ¬ l[i].s < 0 := by omega
        have k4 : ¬ l[i].e ≤ l[i].s := by omega
        have k5 : ¬ 1099511627776 < l[i].e := by omega
        have k6 : ¬ l[i].d < -2000 := by omega
        have k7 : ¬ 2000 < l[i].d := by omega
        have w0 : s.mem.cell 1 0 = some (.imm w.rs.length (w.rs.flatMap eRad)) := hh.cell 0 (by simp [eAir])
        have hm1 := hh.rw
        obtain ⟨nn, hnn⟩ := skolem (c46 hs2 (by have := hl.most; simp; omega) (fun _ => false) 49 [] [.ptr (s.mem.next + 4) 0] 2 (Holds (s.mem.next + 4) (eSen l[i])) (fun m m' h g => h.grow g)
          (fun k hk x hx m hm => by
            obtain ⟨m', h1, h2⟩ := c49 k hk x l[i] _ m hm
            refine ⟨m', ?_, h2⟩
            obtain ⟨j', hj', rfl⟩ := List.getElem_of_mem hx
            have hj2 : j' < i := by simp at hj'; omega
            have := hl.apart i j' hi hj2
            have hf : (decide (l[j'].n = l[i].n) && ovl l[j'] l[i]) = false := by
              cases hov : ovl l[j'] l[i] <;> simp_all
            simp only [List.getElem_take] at h1
            rw [hf] at h1
            simpa using h1) k (by simp; omega))
        have f1 : ∀ m, Holds (s.mem.next + 4) (eSen l[i]) m → cCall C T k 46 [a', .fn 49 [] [.ptr (s.mem.next + 4) 0]] m = some (.bool false, nn m) := fun m h => by
          rw [(hnn m h).1, show (l.take i).any (fun _ => false) = false from List.any_eq_false.2 (fun x _ => by simp)]
        have hQ : ∀ (X : Nat → Nat → Option AVal) (Z : Nat → Nat), Holds (s.mem.next + 4) (eSen l[i]) { cell := fun i' o => if i' = s.mem.next + 4 ∧ o < 4 then (eSen l[i])[o]? else X i' o, mode := upd s.mem.mode (s.mem.next + 4) Md.rw, siz := Z, next := s.mem.next + 52 } := fun X Z => by
          refine ⟨by simp, by simp [upd], fun o ho => if_pos ⟨rfl, ho⟩, fun i' hi' => ?_⟩
          simp only [] at hi'
          show upd s.mem.mode (s.mem.next + 4) Md.rw i' = .dead
          rw [upd, if_neg (by omega)]
          exact hh.fresh _ (by omega)
        simp only [eSen] at f1 hQ
        simp [e1, e2, e17, e18, e19, hi, hax, hla, hww, hs1, hfr, k1, k2, k3, k4, k5, k6, k7, w0, hm1, lenA, eSen, ld77, f1, hQ]
        refine ⟨by omega, hh.grow ((Grow.put s.mem _ _ 4 52 4 4 (by omega)).trans ((hnn _ (hQ _ _)).2.trans (Grow.bump _ _))), i + 1, by omega, by simp⟩
      · simp [e1, e2, e17, e18, e19, hi])
  subst hp
  simp
end Go.Proofs.YtmfdjipijifabaaDoor
end
section
/- What the functions of the medium compute: who is busy. -/
set_option linter.unusedVariables false
set_option linter.unusedSimpArgs false
set_option maxRecDepth 100000
namespace Go.Proofs.YtmfdjipijifabaaDoor
open Go.Ab

theorem c66 (k : Nat) (hk : 1 ≤ k) (x : Int) (h1 : 0 ≤ x ∧ x ≤ 1099511627776) (m : Mem) :
    cCall C T k 66 [.int .i64 x] m = some (.bool false, m) := by
  refine pure_call kd66 0 hk (by simp; rfl) fun k hk => ?_
  rw [body66]
  have h2 : ¬ x < 0 := by omega
  have h3 : ¬ 1099511627776 < x := by omega
  simp [codeOf, Tryd.f66, h2, h3]

theorem c45 (k : Nat) (w : Air) (hw : w.ok) (a b : AVal) (l : List Sen) (ts : List Int) (ha : SL eSen a l) (hl : SenOk w l) (hb : SL eInt b ts) (hts : ∀ t ∈ ts, 0 ≤ t ∧ t ≤ 1099511627776) (htl : ts.length < 2 ^ 62)
    (hza : ∀ m, freezeV 8 a m = some (a, m)) (j : Nat) (hj : j < w.rs.length) (hk : 2 * w.rs.length + l.length + ts.length + 90 ≤ k)
    (args : List AVal) (m m1 : Mem) (hz : freezeL (freezeV 8) args m = some ([.agg (eAir w), a, .int .i64 j, b], m1)) :
    cCall C T k 45 args m = some (.int .i64 0, m1) := by
  refine pure_call kd45 (2 * w.rs.length + l.length + ts.length + 89) hk hz fun k hk => ?_
  rw [body45]
  have h1 := c26 k w hw a l ha hl hza (by omega)
  have h2 : ¬ (w.rs.length : Int) ≤ j := by omega
  have h3 : ¬ (j : Int) < 0 := by omega
  obtain ⟨mm, hmm⟩ := skolem (c19 hb htl (fun _ => false) 66 [] [] 1 (fun _ => True) (fun _ _ _ _ => trivial)
    (fun k hk x hx m _ => ⟨m, by simpa using c66 k hk x (hts x hx) m, Grow.refl m⟩) k (by omega))
  have f1 : ∀ m, cCall C T k 19 [b, .fn 66 [] []] m = some (.bool false, mm m) := fun m => by
    rw [(hmm m trivial).1, show ts.any (fun _ => false) = false from List.any_eq_false.2 (fun x _ => by simp)]
  simp only [eAir] at h1
  by_cases hjr : w.rs.length ≤ j
  · omega
  · simp [codeOf, Tryd.f45, eAir, h1, h2, h3, f1, lenA, hjr]
end Go.Proofs.YtmfdjipijifabaaDoor
end
section
/- What the filter computes. -/
set_option linter.unusedVariables false
set_option linter.unusedSimpArgs false
set_option maxRecDepth 100000
namespace Go.Proofs.YtmfdjipijifabaaDoor
open Go.Ab

theorem inf_of {P : Program} {t a b : Nat} (h : ((P.info? t).map fun i => (i.size, i.bytes)) = some (a, b)) : ∃ i, P.info? t = some i ∧ i.size = a ∧ i.bytes = b := by
  cases hi : P.info? t with
  | none => rw [hi] at h; cases h
  | some i => rw [hi] at h; simp at h; exact ⟨i, rfl, h.1, h.2⟩
theorem inf77 : ∃ i, Tryd.prog.info? 77 = some i ∧ i.size = 4 ∧ i.bytes = 32 := inf_of (by kernel_rfl)

theorem c68 {a : AVal} {l : List Sen} (ha : SL eSen a l) (hll : l.length < 2 ^ 20) (p : Sen → Bool) (g : FuncId) (fs cs : List AVal) (K : Nat) (Q : Mem → Prop) (hQ : ∀ m m', Q m → Grow m m' → Q m') (hQf : ∀ m, Q m → ∀ i, m.next ≤ i → m.mode i = .dead)
    (hf : ∀ k, K ≤ k → ∀ x ∈ l, ∀ m, Q m → ∃ m', cCall C T k g (fs ++ [.agg (eSen x)] ++ cs) m = some (.bool (p x), m') ∧ Grow m m') :
    ∀ k, K + l.length + 2 ≤ k → ∀ m, Q m → ∃ s' m', cCall C T k 68 [a, .fn g fs cs] m = some (s', m') ∧ Grow m m' ∧ App eSen 4 s' (l.filter p) m.next m' := by
  intro k hk m hq
  obtain ⟨k, rfl⟩ : ∃ j, k = j + 1 := ⟨k - 1, by omega⟩
  have hla := ha.len (P := Tryd.prog) Tryd.underlying46
  simp only [cCall, kd68]
  rw [body68]
  simp [codeOf, Tryd.f68, hla]
  generalize hl : cCode C _ _ _ (.loop _) _ = r
  obtain ⟨e, s', rfl, he, hp⟩ := loop_rule hl (fun j s => s.env 1 = .fn g fs cs ∧ s.env 7 = a ∧ s.env 8 = .int .i64 l.length ∧ Grow m s.mem ∧ ∃ i, i + j = l.length ∧ s.env 9 = .int .i64 (i : Nat) ∧ App eSen 4 (s.env 4) ((l.take i).filter p) m.next s.mem)
    (fun e s => e = .exit 0 ∧ Grow m s.mem ∧ App eSen 4 (s.env 4) (l.filter p) m.next s.mem) l.length (by omega) (by
      refine ⟨by simp, by simp, by simp, Grow.bump _ _, 0, by simp, by simp, .inl ⟨by simp, by simp⟩⟩) (by
      rintro j s ⟨e1, e7, e8, hgr, i, hij, e9, happ⟩
      by_cases hi : i < l.length
      · have hax := ha.indexAddr (P := Tryd.prog) Tryd.underlying46 sz77 eSen_len (k := .i64) hi
        have hww : IntKind.i64.wrap ((i : Int) + 1) = ((i + 1 : Nat) : Int) := IntWalk.i64_in _ (by omega)
        have hqs := hQ m _ hq hgr
        have hfr : ∀ n, s.mem.mode (s.mem.next + n) = .dead := fun n => hQf _ hqs _ (by omega)
        obtain ⟨nn, hnn⟩ := skolem (fun m hm => hf k (by omega) l[i] (List.getElem_mem hi) m hm)
        have f1 : ∀ m, Q m → cCall C T k g (fs ++ .agg (eSen l[i]) :: cs) m = some (.bool (p l[i]), nn m) := fun m hm => by simpa using (hnn m hm).1
        simp only [eSen] at f1
        simp [e1, e7, e8, e9, hi, hax, hww, hfr, eSen, ld77, f1]
        generalize hM1 : Mem.mk _ _ _ (s.mem.next + 8) = M1
        have g1 : Grow s.mem M1 := hM1 ▸ Grow.put s.mem _ _ 3 8 4 4 (by omega)
        have q1 : Q M1 := hQ _ _ hqs g1
        have c1 := f1 M1 q1
        have g2 := (hnn M1 q1).2
        have m3 : (nn M1).mode (s.mem.next + 3) = .rw := by
          rw [g2.mode _ (by rw [← hM1]; simp), ← hM1]; simp [upd]
        have x0 : (nn M1).cell (s.mem.next + 3) 0 = some (.int .i64 l[i].n) := by
          rw [g2.cell _ (by rw [← hM1]; simp), ← hM1]; simp
        have x1 : (nn M1).cell (s.mem.next + 3) 1 = some (.int .i64 l[i].s) := by
          rw [g2.cell _ (by rw [← hM1]; simp), ← hM1]; simp
        have x2 : (nn M1).cell (s.mem.next + 3) 2 = some (.int .i64 l[i].e) := by
          rw [g2.cell _ (by rw [← hM1]; simp), ← hM1]; simp
        have x3 : (nn M1).cell (s.mem.next + 3) 3 = some (.int .i64 l[i].d) := by
          rw [g2.cell _ (by rw [← hM1]; simp), ← hM1]; simp
        have q2 : Q (nn M1) := hQ _ _ q1 g2
        have hfr2 : ∀ n, (nn M1).mode ((nn M1).next + n) = .dead := fun n => hQf _ q2 _ (by omega)
        have happ2 : App eSen 4 (s.env 4) ((l.take i).filter p) m.next (nn M1) := (happ.grow g1).grow g2
        have hmn : m.next ≤ (nn M1).next := Nat.le_trans hgr.next (Nat.le_trans g1.next g2.next)
        have htk : (l.take (i + 1)).filter p = (l.take i).filter p ++ (if p l[i] then [l[i]] else []) := by
          rw [List.take_succ_eq_append_getElem hi, List.filter_append]
          congr 1
          cases hpl : p l[i] <;> simp [hpl]
        have hg2 : Grow m (nn M1) := hgr.trans (g1.trans g2)
        cases hpx : p l[i] with
        | false =>
          rw [hpx] at c1
          simp [c1, e1, e7, e8, e9, hww]
          refine ⟨_, _, ⟨rfl, rfl⟩, ?_⟩
          simp [e1, e7, e8]
          refine ⟨by omega, hg2.trans (Grow.bump _ _), i + 1, by omega, by simp, ?_⟩
          rw [htk, hpx]
          simpa using happ2.grow (Grow.bump _ _)
        | true =>
          rw [hpx] at c1
          simp [c1, m3, x0, x1, x2, x3, buildSliceA, zeros, hfr2]
          generalize hM2 : Mem.mk _ _ _ ((nn M1).next + 5) = M2
          obtain ⟨inf, i1, i2, i3⟩ := inf77
          have hlen : ((l.take i).filter p).length < 2 ^ 20 := by
            have h1 := List.length_filter_le p (l.take i)
            have h2 : (l.take i).length ≤ l.length := by simp; omega
            omega
          have hd2 : ∀ id, (nn M1).next ≤ id → id ≠ (nn M1).next + 2 → M2.mode id = .dead := fun id h1 h2 => by
            rw [← hM2]
            show upd (nn M1).mode ((nn M1).next + 2) Md.rw id = .dead
            rw [upd, if_neg h2]
            exact hQf _ q2 _ h1
          have low2 : ∀ id, id < (nn M1).next → M2.cell id = (nn M1).cell id ∧ M2.mode id = (nn M1).mode id ∧ M2.siz id = (nn M1).siz id := fun id h1 => by
            have h2 : ¬ id = (nn M1).next + 2 := by omega
            rw [← hM2]
            simp [upd, h2]
          have n2 : M2.next = (nn M1).next + 5 := by rw [← hM2]
          have g3 : Grow (nn M1) M2 := ⟨by omega, fun id h => (low2 id h).1, fun id h => (low2 id h).2.1, fun id h => (low2 id h).2.2, fun _ id h => hd2 id (by omega) (by omega)⟩
          obtain ⟨m3, a1, a2, a3, a4, a5⟩ := App.append (P := Tryd.prog) (t := 46) eSen_len Tryd.underlying46 i1 i2 (by omega) zc77 rfl (by omega) (happ2.grow g3) (xid := (nn M1).next + 2) (new := (nn M1).next + 3) (v := l[i])
            (by rw [← hM2]; simp [upd]) (fun o ho => by
              have : o = 0 ∨ o = 1 ∨ o = 2 ∨ o = 3 := by omega
              rw [← hM2]
              rcases this with rfl | rfl | rfl | rfl <;> simp [eSen]) (by omega) (hd2 _ (by omega) (by omega)) (by omega) hlen
          have g4 : Grow m m3 := ⟨by have := hg2.next; omega, fun id h => ((a4 id h).1.trans (g3.cell id (by omega))).trans (hg2.cell id h), fun id h => ((a4 id h).2.1.trans (g3.mode id (by omega))).trans (hg2.mode id h),
            fun id h => ((a4 id h).2.2.trans (g3.siz id (by omega))).trans (hg2.siz id h), fun _ id h => a5 id (by omega) (hd2 id (by omega) (by omega))⟩
          simp [a1, e1, e7, e8, e9, hww]
          refine ⟨_, _, ⟨rfl, rfl⟩, ?_⟩
          simp [e1, e7, e8]
          refine ⟨by omega, g4.trans (Grow.bump _ _), i + 1, by omega, by simp, ?_⟩
          rw [htk, hpx]
          simpa using a2.grow (Grow.bump _ _)
      · simp [e1, e7, e8, e9, hi]
        refine ⟨hgr.trans (Grow.bump _ _), ?_⟩
        rw [List.take_of_length_le (by omega)] at happ
        exact happ.grow (Grow.bump _ _))
  obtain ⟨rfl, h1, h2⟩ := hp
  simp
  exact ⟨_, _, ⟨rfl, rfl⟩, h1.trans (Grow.bump _ _), h2.grow (Grow.bump _ _)⟩
end Go.Proofs.YtmfdjipijifabaaDoor
end
section
/- What medium.sensed and medium.Busy compute. -/
set_option linter.unusedVariables false
set_option linter.unusedSimpArgs false
set_option maxRecDepth 100000
namespace Go.Proofs.YtmfdjipijifabaaDoor
open Go.Ab

/-- Two blocks. -/
structure Holds2 (id1 : Nat) (cs1 : List AVal) (id2 : Nat) (cs2 : List AVal) (m : Mem) : Prop where
  one : Holds id1 cs1 m
  two : Holds id2 cs2 m

theorem c69 (w : Air) (hw : w.ok) (j : Nat) (hj : j < w.rs.length) (x : Sen) (n : Nat) (hx : x.n = n) (hn : n < w.rs.length) (id1 id2 : Nat) (k : Nat) (hk : 2 * w.rs.length + 62 ≤ k) (m : Mem) (h : Holds2 id1 (eAir w) id2 [.int .i64 j] m) :
    ∃ m', cCall C T k 69 [.agg (eSen x), .ptr id1 0, .ptr id2 0] m = some (.bool (w.hear n j || decide (n = j)), m') ∧ Grow m m' := by
  obtain ⟨k, rfl⟩ : ∃ j, k = j + 1 := ⟨k - 1, by omega⟩
  simp only [cCall, kd69]
  rw [body69]
  have a0 := h.one.cell 0 (by simp [eAir])
  have a1 := h.one.cell 1 (by simp [eAir])
  have b0 := h.two.cell 0 (by simp)
  have m1 := h.one.rw
  have m2 := h.two.rw
  have hd := h.one.fresh m.next (Nat.le_refl _)
  have n1 : ¬ id1 = m.next := by have := h.one.lt; omega
  have n2 : ¬ id2 = m.next := by have := h.two.lt; omega
  have h5 := c6 k w hw n j hn hj (by omega)
  simp only [eAir] at a0 a1 h5
  simp at a0 a1 b0
  cases hh : w.hear n j with
  | true =>
    rw [hh] at h5
    simp [codeOf, Tryd.f69, eSen, hd, n1, n2, m1, m2, a0, a1, b0, h5, hx]
    exact Grow.alloc m _ 19 4
  | false =>
    rw [hh] at h5
    by_cases hnj : n = j
    · subst hnj
      simp [codeOf, Tryd.f69, eSen, hd, n1, n2, m1, m2, a0, a1, b0, h5, hx]
      exact Grow.alloc m _ 19 4
    · have hb : ((n : Int) == j) = false := by
        have : ¬ (n : Int) = j := by omega
        simp [this]
      simp [codeOf, Tryd.f69, eSen, hd, n1, n2, m1, m2, a0, a1, b0, h5, hx, hb, hnj]
      exact Grow.alloc m _ 19 4

theorem c48 (x : Sen) (t : Int) (id : Nat) (k : Nat) (hk : 1 ≤ k) (m : Mem) (h : Holds id [.int .i64 t] m) :
    ∃ m', cCall C T k 48 [.agg (eSen x), .ptr id 0] m = some (.bool (decide (x.s ≤ t) && decide (t < x.e)), m') ∧ Grow m m' := by
  obtain ⟨k, rfl⟩ : ∃ j, k = j + 1 := ⟨k - 1, by omega⟩
  simp only [cCall, kd48]
  rw [body48]
  have a0 := h.cell 0 (by simp)
  have m1 := h.rw
  have hd := h.fresh m.next (Nat.le_refl _)
  have n1 : ¬ id = m.next := by have := h.lt; omega
  simp at a0
  by_cases h1 : x.s ≤ t <;> by_cases h2 : t < x.e <;> simp [codeOf, Tryd.f48, eSen, hd, n1, m1, a0, h1, h2] <;> exact Grow.alloc m _ 12 4

/-- What a station senses. -/
def senses (w : Air) (j : Nat) (x : Sen) : Bool := w.hear x.n.toNat j || decide (x.n.toNat = j)

theorem App.lo_zero {α : Type} {enc : α → List AVal} {sz lo : Nat} {s : AVal} {l : List α} {m : Mem} (h : App enc sz s l lo m) : App enc sz s l 0 m := by
  rcases h with h | ⟨id, h1, h2, h3⟩
  · exact .inl h
  · exact .inr ⟨id, h1, Nat.zero_le _, h3⟩

theorem c47 (w : Air) (hw : w.ok) {a : AVal} {l : List Sen} (ha : SL eSen a l) (hza : ∀ m, freezeV 8 a m = some (a, m)) (hll : l.length < 2 ^ 20) (hn : ∀ x ∈ l, 0 ≤ x.n ∧ x.n < w.rs.length) (j : Nat) (hj : j < w.rs.length) (k : Nat) (hk : 2 * w.rs.length + l.length + 70 ≤ k) :
    ∃ a', SL eSen a' (l.filter (senses w j)) ∧ (∀ m, freezeV 8 a' m = some (a', m)) ∧ ∀ m, cCall C T k 47 [.agg (eAir w), a, .int .i64 j] m = some (a', m) := by
  have hbody : ∀ k, 2 * w.rs.length + l.length + 69 ≤ k → ∃ s' m', cBody C (cCall C T k) (T 47) k 47 [.agg (eAir w), a, .int .i64 j] C.m0 = some (s', m') ∧ App eSen 4 s' (l.filter (senses w j)) 0 m' := by
    intro k hk
    rw [body47]
    simp [codeOf, Tryd.f47, eAir]
    generalize hM : Mem.mk _ _ _ _ = M
    have fr : ∀ i, 8 ≤ i → M.mode i = .dead := fun i hi => by
      subst hM
      show upd (upd C.m0.mode 1 Md.rw) 2 Md.rw i = .dead
      rw [upd, if_neg (by omega), upd, if_neg (by omega), m0_mode, if_neg (by intro h; have := h.1; simp at this; omega)]
    have nx : M.next = 8 := by subst hM; rfl
    have hh : Holds2 1 (eAir w) 2 [.int .i64 j] M := by
      refine ⟨⟨by omega, by subst hM; simp [upd], fun o ho => ?_, fun i hi => fr i (by omega)⟩, ⟨by omega, by subst hM; simp [upd], fun o ho => ?_, fun i hi => fr i (by omega)⟩⟩
      · subst hM; simp [eAir]
      · subst hM; simp
    obtain ⟨s1, m1, h1, h2, h3⟩ := c68 ha hll (senses w j) 69 [] [.ptr 1 0, .ptr 2 0] (2 * w.rs.length + 62) (Holds2 1 (eAir w) 2 [.int .i64 j]) (fun m m' h g => ⟨h.one.grow g, h.two.grow g⟩) (fun m h => h.one.fresh)
        (fun k hk x hx m hm => by
          have := hn x hx
          simpa [senses] using c69 w hw j hj x x.n.toNat (by omega) (by omega) 1 2 k hk m hm) k (by omega) M hh
    simp [h1]
    exact ⟨_, _, ⟨rfl, rfl⟩, App.lo_zero h3⟩
  obtain ⟨s0, m0, hb0, hA0⟩ := hbody (2 * w.rs.length + l.length + 69) (Nat.le_refl _)
  obtain ⟨a', m', hf1, hf2, hf3⟩ := App.freeze eSen_len (by
    intro x _ c hc m
    simp [eSen] at hc
    rcases hc with rfl | rfl | rfl | rfl <;> rfl) hA0
  refine ⟨a', hf2, hf3, fun m => ?_⟩
  refine pure_conc kd47 (2 * w.rs.length + l.length + 69) (by omega) (args' := [.agg (eAir w), a, .int .i64 j]) (by simp [eAir, hza]) ?_
  rw [hb0]
  simp [fzd, hf1]
end Go.Proofs.YtmfdjipijifabaaDoor
end
section
/- What medium.Busy computes. -/
set_option linter.unusedVariables false
set_option linter.unusedSimpArgs false
set_option maxRecDepth 100000
namespace Go.Proofs.YtmfdjipijifabaaDoor
open Go.Ab

theorem c24 (k : Nat) (w : Air) (hw : w.ok) (a : AVal) (l : List Sen) (ha : SL eSen a l) (hl : SenOk w l) (hza : ∀ m, freezeV 8 a m = some (a, m)) (j : Nat) (hj : j < w.rs.length) (t : Int) (ht : 0 ≤ t ∧ t ≤ 1099511627776)
    (hk : 2 * w.rs.length + 2 * l.length + 100 ≤ k) (m : Mem) :
    cCall C T k 24 [.agg (eAir w), a, .int .i64 j, .int .i64 t] m = some (.tup [.bool ((l.filter (senses w j)).any fun x => decide (x.s ≤ t) && decide (t < x.e)), .int .i64 0], m) := by
  refine pure_call kd24 (2 * w.rs.length + 2 * l.length + 99) hk (args' := [.agg (eAir w), a, .int .i64 j, .int .i64 t]) (by simp [eAir, hza]) fun k hk => ?_
  rw [body24]
  obtain ⟨a', s1, s2, s3⟩ := c47 w hw ha hza (by have := hl.most; omega) (fun x hx => (hl.one x hx).1) j hj k (by omega)
  have h1 : ∀ m' : Mem, ∀ id, m'.mode id ≠ .dead → m'.cell id 0 = some (.int .i64 t) →
      cCall C T k 45 [.agg (eAir w), a, .int .i64 j, .own id 0 1 1] m' = some (.int .i64 0, { cell := m'.cell, mode := upd m'.mode id .ro, siz := m'.siz, next := m'.next }) := by
    intro m' id h1 h2
    have fo : freezeV 8 (.own id 0 1 1) m' = some (.imm 1 [.int .i64 t], { cell := m'.cell, mode := upd m'.mode id .ro, siz := m'.siz, next := m'.next }) := by simp [freezeV, h1, h2]
    refine c45 k w hw a _ l [t] ha hl (.inr rfl) (by simpa using ht) (by simp) hza j hj (by simp; omega) _ _ _ ?_
    simp [eAir, hza, fo, eInt]
  simp only [eAir] at h1 s3
  simp [codeOf, Tryd.f24, eAir, h1, s3, buildSliceA, zeros]
  generalize hM : Mem.mk _ _ _ _ = M
  have hh : Holds 2 [.int .i64 t] M := by
    refine ⟨by subst hM; simp, by subst hM; simp [upd], fun o ho => by subst hM; simp at ho; subst ho; simp, fun i hi => ?_⟩
    subst hM
    simp at hi
    have z : ∀ i, 1 ≤ i → C.m0.mode i = .dead := fun i hi => by rw [m0_mode, if_neg (by intro h; have := h.1; simp at this; omega)]
    have q : ∀ q, q < i → ¬ i = q := fun q h => by omega
    simp [upd, q 1 (by omega), q 2 (by omega), q 8 (by omega), q 9 (by omega), q 0 (by omega)]

  have hlf : (l.filter (senses w j)).length ≤ l.length := List.length_filter_le _ _
  obtain ⟨m1, h3, h4⟩ := c46 s1 (by have := hl.most; omega) (fun x => decide (x.s ≤ t) && decide (t < x.e)) 48 [] [.ptr 2 0] 1 (Holds 2 [.int .i64 t]) (fun m m' h g => h.grow g)
    (fun k hk x hx m hm => by simpa using c48 x t 2 k hk m hm) k (by omega) M hh
  simp [h3]
end Go.Proofs.YtmfdjipijifabaaDoor
end
section
/- What Can of the reference computes. -/
set_option linter.unusedVariables false
set_option linter.unusedSimpArgs false
set_option maxRecDepth 100000
namespace Go.Proofs.YtmfdjipijifabaaDoor
open Go.Ab

/-- Transmission k spoils transmission i at j. -/
def spoils (w : Air) (l : List Sen) (i j k : Nat) : Bool :=
  match l[k]?, l[i]? with
  | some x, some s => decide (k ≠ i) && (ovl x s && (decide (x.n.toNat = j) || decide (w.lev s.n.toNat j < w.lev x.n.toNat j + 100)))
  | _, _ => false
def canW (w : Air) (l : List Sen) (i j : Nat) : Bool :=
  match l[i]? with
  | some s => w.hear s.n.toNat j && (decide (s.d ≤ w.lev s.n.toNat j) && (List.range l.length).all fun k => !spoils w l i j k)
  | none => false

theorem lev_range {w : Air} (hw : w.ok) {i j : Nat} (hi : i < w.rs.length) (hj : j < w.rs.length) : -2000 ≤ w.lev i j ∧ w.lev i j ≤ 2000 := by
  obtain ⟨_, _, hi', hj', pi, sij, hlev⟩ := hw.at hi hj
  omega

theorem c13 (k : Nat) (w : Air) (hw : w.ok) (a : AVal) (l : List Sen) (ha : SL eSen a l) (hn : ∀ x ∈ l, 0 ≤ x.n ∧ x.n < w.rs.length) (hll : l.length < 2 ^ 20) (hza : ∀ m, freezeV 8 a m = some (a, m)) (i j : Nat) (hi : i < l.length) (hj : j < w.rs.length)
    (hk : l.length + 80 ≤ k) (m : Mem) :
    cCall C T k 13 [.agg (eAir w), a, .int .i64 i, .int .i64 j] m = some (.bool (canW w l i j), m) := by
  refine pure_call kd13 (l.length + 79) hk (args' := [.agg (eAir w), a, .int .i64 i, .int .i64 j]) (by simp [eAir, hza]) fun k hk => ?_
  rw [body13]
  have hla := ha.len (P := Tryd.prog) Tryd.underlying46
  have hax := ha.indexAddr (P := Tryd.prog) Tryd.underlying46 sz77 eSen_len (k := .i64) hi
  obtain ⟨n, hnn⟩ : ∃ n : Nat, l[i].n = n := ⟨l[i].n.toNat, by have := hn _ (List.getElem_mem hi); omega⟩
  have hnl : n < w.rs.length := by have := hn _ (List.getElem_mem hi); omega
  have h28 := c28 k w hw n j hnl hj (by omega)
  have h29 := c29 k w hw n j hnl hj (by omega)
  have rj := hw.rad _ (List.getElem_mem hj)
  have hjx := (sl_imm eRad w.rs).indexAddr (P := Tryd.prog) Tryd.underlying30 sz63 eRad_len (k := .i64) hj
  have hci : canW w l i j = (w.hear n j && (decide (l[i].d ≤ w.lev n j) && (List.range l.length).all fun k => !spoils w l i j k)) := by
    unfold canW
    rw [List.getElem?_eq_getElem hi]
    simp [hnn]
  simp only [eAir] at h28 h29
  cases hh : w.hear n j with
  | false =>
    rw [hh] at h29
    simp [codeOf, Tryd.f13, eAir, hla, hax, eSen, ld77, hnn, h28, h29, hci, hh]
  | true =>
    rw [hh] at h29
    by_cases hd : w.lev n j < l[i].d
    · have hd' : ¬ l[i].d ≤ w.lev n j := by omega
      simp [codeOf, Tryd.f13, eAir, hla, hax, eSen, ld77, hnn, h28, h29, hci, hh, hd, hd']
    · have hd' : l[i].d ≤ w.lev n j := by omega
      simp [codeOf, Tryd.f13, eAir, hla, hax, eSen, ld77, hnn, h28, h29, hci, hh, hd, hd']
      generalize hl' : cCode C _ _ _ (.loop _) _ = r
      obtain ⟨e, s', rfl, he, hp⟩ := loop_rule hl' (fun q s => s.env 1 = a ∧ s.env 2 = .int .i64 (i : Nat) ∧ s.env 3 = .int .i64 (j : Nat) ∧ s.env 4 = .ptr 1 0 ∧ s.env 9 = .ptr 7 0 ∧ s.env 10 = .int .i64 (w.lev n j) ∧
          (s.mem.mode 1 = .rw ∧ s.mem.cell 1 0 = some (.imm w.rs.length (w.rs.flatMap eRad)) ∧ s.mem.cell 1 1 = some (.imm w.sh.length (w.sh.flatMap eRow))) ∧
          (s.mem.mode 7 = .rw ∧ s.mem.cell 7 0 = some (.int .i64 n) ∧ s.mem.cell 7 1 = some (.int .i64 l[i].s) ∧ s.mem.cell 7 2 = some (.int .i64 l[i].e) ∧ s.mem.cell 7 3 = some (.int .i64 l[i].d)) ∧
          ∃ c, c + q = l.length ∧ s.env 11 = .int .i64 (c : Nat) ∧ ∀ c', c' < c → spoils w l i j c' = false)
        (fun e s => (e = .exit 0 ∧ ∀ c', c' < l.length → spoils w l i j c' = false) ∨ (e = .ret ∧ s.env 8 = .bool false ∧ ∃ c', c' < l.length ∧ spoils w l i j c' = true)) l.length (by omega) (by
          refine ⟨by simp, by simp, by simp, by simp, by simp, by simp, ⟨by simp [upd], by simp, by simp⟩, ⟨by simp [upd], by simp, by simp, by simp, by simp⟩, 0, by simp, by simp, by simp⟩) (by
          rintro q s ⟨e1, e2, e3, e4, e9, e10, ⟨p1, p2, p3⟩, ⟨q1, q2, q3, q4, q5⟩, c, hcq, e11, hsp⟩
          by_cases hc : c < l.length
          · have hcx := ha.indexAddr (P := Tryd.prog) Tryd.underlying46 sz77 eSen_len (k := .i64) hc
            have hww : IntKind.i64.wrap ((c : Int) + 1) = ((c + 1 : Nat) : Int) := IntWalk.i64_in _ (by omega)
            obtain ⟨n', hnn'⟩ : ∃ n : Nat, l[c].n = n := ⟨l[c].n.toNat, by have := hn _ (List.getElem_mem hc); omega⟩
            have hnl' : n' < w.rs.length := by have := hn _ (List.getElem_mem hc); omega
            have h28' := c28 k w hw n' j hnl' hj (by omega)
            have hnx := (sl_imm eRad w.rs).indexAddr (P := Tryd.prog) Tryd.underlying30 sz63 eRad_len (k := .i64) hnl'
            have rn := hw.rad _ (List.getElem_mem hnl')
            have hlr := lev_range hw hnl' hj
            have hlw : IntKind.i64.wrap (w.lev n' j + 100) = w.lev n' j + 100 := IntWalk.i64_in _ (by omega)
            have h30 := c30 k (by omega) l[c] l[i]
            have hsc : spoils w l i j c = (decide (c ≠ i) && (ovl l[c] l[i] && (decide (n' = j) || decide (w.lev n j < w.lev n' j + 100)))) := by
              unfold spoils
              rw [List.getElem?_eq_getElem hc, List.getElem?_eq_getElem hi]
              simp [hnn, hnn']
            have next : spoils w l i j c = false → ∀ c', c' < c + 1 → spoils w l i j c' = false := fun h c' hc' => by
              rcases Nat.lt_or_ge c' c with h1 | h1
              · exact hsp c' h1
              · rw [show c' = c by omega]; exact h
            simp only [eAir] at h28'
            simp only [eSen, hnn, hnn'] at h30
            by_cases hci' : c = i
            · have hs0 : spoils w l i j c = false := by rw [hsc]; simp [hci']
              subst hci'
              simp [e1, e2, e3, e4, e9, e10, e11, hc, hla, hww, p1, p2, p3, q1, q2, q3, q4, q5]
              exact ⟨by omega, c + 1, by omega, by simp, next hs0⟩
            · have hcz : ((c : Int) == i) = false := by
                have : ¬ (c : Int) = i := by omega
                simp [this]
              cases hov : ovl l[c] l[i] with
              | false =>
                have hs0 : spoils w l i j c = false := by rw [hsc]; simp [hov]
                rw [hov] at h30
                simp [e1, e2, e3, e4, e9, e10, e11, hc, hla, hcz, hww, p1, p2, p3, q1, q2, q3, q4, q5, hcx, eSen, ld77, hnn', h30]
                exact ⟨by omega, c + 1, by omega, by simp, next hs0⟩
              | true =>
                rw [hov] at h30
                by_cases hnj : n' = j
                · have hs1 : spoils w l i j c = true := by rw [hsc]; simp [hov, hnj, hci']
                  subst hnj
                  simp [e1, e2, e3, e4, e9, e10, e11, hc, hla, hcz, hww, p1, p2, p3, q1, q2, q3, q4, q5, hcx, eSen, ld77, ld3, hnn', h30]
                  exact ⟨c, hc, hs1⟩
                · have hnz : ((n' : Int) == j) = false := by
                    have : ¬ (n' : Int) = j := by omega
                    simp [this]
                  by_cases hlt : w.lev n j < w.lev n' j + 100
                  · have hs1 : spoils w l i j c = true := by rw [hsc]; simp [hov, hlt, hci']
                    simp [e1, e2, e3, e4, e9, e10, e11, hc, hla, hcz, hww, p1, p2, p3, q1, q2, q3, q4, q5, hcx, eSen, ld77, ld3, hnn', h30, hnz, hnx, hjx, eRad, rn.2.2.2, rj.2.2.2, h28', hlw, hlt]
                    exact ⟨c, hc, hs1⟩
                  · have hs0 : spoils w l i j c = false := by rw [hsc]; simp [hnj, hlt]
                    simp [e1, e2, e3, e4, e9, e10, e11, hc, hla, hcz, hww, p1, p2, p3, q1, q2, q3, q4, q5, hcx, eSen, ld77, ld3, hnn', h30, hnz, hnx, hjx, eRad, rn.2.2.2, rj.2.2.2, h28', hlw, hlt]
                    exact ⟨by omega, c + 1, by omega, by simp, next hs0⟩
          · simp [e1, e2, e3, e4, e9, e10, e11, hc, hla]
            intro c' hc'
            exact hsp c' (by omega))
      rcases hp with ⟨rfl, h1⟩ | ⟨rfl, h1, c', h2, h3⟩
      · simp
        intro c' hc'
        exact h1 c' hc'
      · simp [h1]
        exact ⟨c', h2, h3⟩
end Go.Proofs.YtmfdjipijifabaaDoor
end
section
/- The contest: encodings, and its smallest functions. -/
set_option linter.unusedVariables false
set_option linter.unusedSimpArgs false
set_option maxRecDepth 100000
namespace Go.Proofs.YtmfdjipijifabaaDoor
open Go.Ab

/-- A contender. -/
structure Con where
  b : Bk
  frames : Int
  air : Int
  to : Nat
  deriving DecidableEq
def eCon (c : Con) : List AVal := c.b.enc ++ [.int .i64 c.frames, .int .i64 c.air, .int .i64 c.to]
theorem eCon_len (c : Con) : (eCon c).length = 7 := rfl

/-- A station of a contest that goes on. -/
structure Sta where
  c : Con
  start : Int
  fin : Int
  asked : Bool
  spoiled : Bool
  reserved : Int
  deriving DecidableEq
def eSta (s : Sta) : List AVal := eCon s.c ++ [.int .i64 s.start, .int .i64 s.fin, .bool s.asked, .bool s.spoiled, .int .i64 s.reserved]
theorem eSta_len (s : Sta) : (eSta s).length = 12 := rfl

def Sta.sends (s : Sta) (t : Int) : Bool := decide (s.start ≤ t) && decide (t < s.fin)

/-- The block of the stations. -/
structure Stas (id : Nat) (l : List Sta) (m : Mem) : Prop where
  lt : id < m.next
  rw : m.mode id = .rw
  siz : m.siz id = l.length * 12
  cell : ∀ i (hi : i < l.length) o, o < 12 → m.cell id (i * 12 + o) = (eSta l[i])[o]?

theorem c39 (k : Nat) (hk : 1 ≤ k) (id : Nat) (l : List Sta) (i : Nat) (hi : i < l.length) (t : Int) (m : Mem) (h : Stas id l m) :
    ∃ n, cCall C T k 39 [.ptr id (i * 12), .int .i64 t] m = some (.bool (l[i].sends t), { cell := m.cell, mode := m.mode, siz := m.siz, next := m.next + n }) := by
  obtain ⟨k, rfl⟩ : ∃ j, k = j + 1 := ⟨k - 1, by omega⟩
  simp only [cCall, kd39]
  rw [body39]
  have h7 : m.cell id (i * 12 + 7) = some (.int .i64 l[i].start) := h.cell i hi 7 (by omega)
  have h8 : m.cell id (i * 12 + 8) = some (.int .i64 l[i].fin) := h.cell i hi 8 (by omega)
  have hm := h.rw
  refine ⟨16, ?_⟩
  by_cases h1 : l[i].start ≤ t <;> by_cases h2 : t < l[i].fin <;> simp [codeOf, Tryd.f39, hm, h7, h8, h1, h2, Sta.sends]
end Go.Proofs.YtmfdjipijifabaaDoor
end
section
/- The contest: what is free. -/
set_option linter.unusedVariables false
set_option linter.unusedSimpArgs false
set_option maxRecDepth 100000
namespace Go.Proofs.YtmfdjipijifabaaDoor
open Go.Ab

def eBool (b : Bool) : List AVal := [.bool b]
theorem eBool_len (b : Bool) : (eBool b).length = 1 := rfl
def eBRow (r : List Bool) : List AVal := [.imm r.length (r.flatMap eBool)]
theorem eBRow_len (r : List Bool) : (eBRow r).length = 1 := rfl

/-- The memory of a contest: its block, and the block of its stations. -/
structure CM (cid aid : Nat) (h : List (List Bool)) (ask : Bool) (l : List Sta) (d out : AVal) (m : Mem) : Prop where
  lt : cid < m.next
  rw : m.mode cid = .rw
  c1 : m.cell cid 1 = some (.imm h.length (h.flatMap eBRow))
  c2 : m.cell cid 2 = some (.bool ask)
  c4 : m.cell cid 4 = some (.own aid 0 l.length 12)
  c5 : m.cell cid 5 = some d
  c6 : m.cell cid 6 = some out
  st : Stas aid l m
  ne : cid ≠ aid
  fresh : ∀ i, m.next ≤ i → m.mode i = .dead

/-- A slice of truth values in memory. -/
structure Bools (id : Nat) (l : List Bool) (m : Mem) : Prop where
  live : m.mode id ≠ .dead
  cell : ∀ i (hi : i < l.length), m.cell id i = some (.bool l[i])

/-- Whether a station may go on: it does not send, has frames, is not reserved, and hears nobody. -/
def freeAt (h : List (List Bool)) (l : List Sta) (sending : List Bool) (i : Nat) (t : Int) : Bool :=
  match l[i]?, h[i]? with
  | some s, some row => !(sending[i]?.getD true) && (decide (s.c.frames ≠ 0) && (decide (s.reserved ≤ t) && (List.range sending.length).all fun k => !(sending[k]?.getD false && row[k]?.getD false)))
  | _, _ => false

theorem c40 (cid aid sid : Nat) (h : List (List Bool)) (ask : Bool) (l : List Sta) (d out : AVal) (sending : List Bool) (i : Nat) (t : Int) (hi : i < l.length) (hs : sending.length = l.length) (hh : h.length = l.length) (hr : ∀ i (hi : i < h.length), h[i].length = l.length) (hl : l.length < 2 ^ 20)
    (k : Nat) (hk : l.length + 5 ≤ k) (m : Mem) (hc : CM cid aid h ask l d out m) (hb : Bools sid sending m) :
    ∃ n, cCall C T k 40 [.ptr cid 0, .int .i64 i, .int .i64 t, .own sid 0 sending.length 1] m = some (.bool (freeAt h l sending i t), { cell := m.cell, mode := m.mode, siz := m.siz, next := m.next + n }) := by
  obtain ⟨k, rfl⟩ : ∃ j, k = j + 1 := ⟨k - 1, by omega⟩
  simp only [cCall, kd40]
  rw [body40]
  have hm := hc.rw
  have ha := hc.st.rw
  have c1 := hc.c1
  have c4 := hc.c4
  have h4 : m.cell aid (i * 12 + 4) = some (.int .i64 l[i].c.frames) := hc.st.cell i hi 4 (by omega)
  have h11 : m.cell aid (i * 12 + 11) = some (.int .i64 l[i].reserved) := hc.st.cell i hi 11 (by omega)
  have hsi := hb.cell i (by omega)
  have hsl := hb.live
  have own23 : ∀ q : Nat, q < sending.length → indexAddrA Tryd.prog 23 (.own sid 0 sending.length 1) (.int .i64 q) = some (.ptr sid q) := fun q hq => by simp [indexAddrA, hq]
  have own70 : indexAddrA Tryd.prog 70 (.own aid 0 l.length 12) (.int .i64 i) = some (.ptr aid (i * 12)) := by simp [indexAddrA, hi]
  have hi' : i < h.length := by omega
  have hhx := (sl_imm eBRow h).indexAddr (P := Tryd.prog) Tryd.underlying27 sz23 eBRow_len (k := .i64) hi'
  have hfa : freeAt h l sending i t = (!sending[i] && (decide (l[i].c.frames ≠ 0) && (decide (l[i].reserved ≤ t) && (List.range sending.length).all fun k => !(sending[k]?.getD false && h[i][k]?.getD false)))) := by
    unfold freeAt
    rw [List.getElem?_eq_getElem hi, List.getElem?_eq_getElem hi', List.getElem?_eq_getElem (show i < sending.length by omega)]
    rfl
  cases hsd : sending[i] with
  | true =>
    rw [hsd] at hsi
    refine ⟨29, ?_⟩
    simp [codeOf, Tryd.f40, hm, ha, c1, c4, own23 i (by omega), own70, hsl, hsi, hfa, hsd]
  | false =>
    rw [hsd] at hsi
    by_cases hf : l[i].c.frames = 0
    · refine ⟨29, ?_⟩
      rw [hf] at h4
      simp [codeOf, Tryd.f40, hm, ha, c1, c4, own23 i (by omega), own70, hsl, hsi, hfa, hsd, h4, hf]
    · have hfb : (l[i].c.frames == 0) = false := by simp [hf]
      by_cases ht : t < l[i].reserved
      · have ht' : ¬ l[i].reserved ≤ t := by omega
        refine ⟨29, ?_⟩
        simp [codeOf, Tryd.f40, hm, ha, c1, c4, own23 i (by omega), own70, hsl, hsi, hfa, hsd, h4, hf, hfb, h11, ht, ht']
      · have ht' : l[i].reserved ≤ t := by omega
        simp [codeOf, Tryd.f40, hm, ha, c1, c4, own23 i (by omega), own70, hsl, hsi, hsd, h4, hf, hfb, h11, ht, lenA]
        generalize hl' : cCode C _ _ _ (.loop _) _ = r
        obtain ⟨e, s', rfl, he, hp⟩ := loop_rule hl' (fun q s => s.env 0 = .ptr cid 0 ∧ s.env 1 = .int .i64 (i : Nat) ∧ s.env 38 = .own sid 0 sending.length 1 ∧ s.env 39 = .int .i64 sending.length ∧
            (∃ n, s.mem = { cell := m.cell, mode := m.mode, siz := m.siz, next := m.next + n }) ∧ ∃ c, c + q = sending.length ∧ s.env 40 = .int .i64 (c : Nat) ∧ ∀ c', c' < c → (sending[c']?.getD false && h[i][c']?.getD false) = false)
          (fun e s => (∃ n, s.mem = { cell := m.cell, mode := m.mode, siz := m.siz, next := m.next + n }) ∧ ((e = .exit 0 ∧ ∀ c', c' < sending.length → (sending[c']?.getD false && h[i][c']?.getD false) = false) ∨ (e = .ret ∧ s.env 8 = .bool false ∧ ∃ c', c' < sending.length ∧ (sending[c']?.getD false && h[i][c']?.getD false) = true))) sending.length (by omega) (by
            refine ⟨by simp, by simp, by simp, by simp, ⟨_, rfl⟩, 0, by simp, by simp, by simp⟩) (by
            rintro q s ⟨e0, e1, e38, e39, ⟨n, en⟩, c, hcq, e40, hall⟩
            by_cases hc2 : c < sending.length
            · have hww : IntKind.i64.wrap ((c : Int) + 1) = ((c + 1 : Nat) : Int) := IntWalk.i64_in _ (by omega)
              have hsc := hb.cell c hc2
              have hrl := hr i hi'
              have hcr : c < h[i].length := by omega
              have hbx := (sl_imm eBool h[i]).indexAddr (P := Tryd.prog) Tryd.underlying23 sz4 eBool_len (k := .i64) hcr
              have step : (sending[c]?.getD false && h[i][c]?.getD false) = false → ∀ c', c' < c + 1 → (sending[c']?.getD false && h[i][c']?.getD false) = false := fun hx c' hc' => by
                rcases Nat.lt_or_ge c' c with h1 | h1
                · exact hall c' h1
                · rw [show c' = c by omega]; exact hx
              rw [List.getElem?_eq_getElem hc2, List.getElem?_eq_getElem hcr] at step
              cases hs1 : sending[c] with
              | false =>
                rw [hs1] at hsc step
                simp [e0, e1, e38, e39, e40, en, hc2, own23 c hc2, hsl, hsc, hww]
                exact ⟨by omega, c + 1, by omega, by simp, by simpa using step rfl⟩
              | true =>
                rw [hs1] at hsc step
                cases hs2 : h[i][c] with
                | false =>
                  rw [hs2] at step
                  simp [e0, e1, e38, e39, e40, en, hc2, own23 c hc2, hsl, hsc, hww, hm, c1, hhx, eBRow, load_iptr_one ag23 sz23, hbx, eBool, hs2, load_iptr_one ag4 sz4]
                  exact ⟨by omega, c + 1, by omega, by simp, by simpa using step rfl⟩
                | true =>
                  simp [e0, e1, e38, e39, e40, en, hc2, own23 c hc2, hsl, hsc, hww, hm, c1, hhx, eBRow, load_iptr_one ag23 sz23, hbx, eBool, hs2, load_iptr_one ag4 sz4]
                  exact ⟨c, hc2, by simp [hc2, hcr, hs1, hs2]⟩
            · simp [e0, e1, e38, e39, e40, en, hc2]
              intro c' hc'
              simpa using hall c' (by omega))
        obtain ⟨⟨n, en⟩, hcase⟩ := hp
        have hfa2 : freeAt h l sending i t = (List.range sending.length).all fun k => !(sending[k]?.getD false && h[i][k]?.getD false) := by
          rw [hfa, hsd, decide_eq_true (show l[i].c.frames ≠ 0 from hf), decide_eq_true ht']
          simp
        rcases hcase with ⟨rfl, h1⟩ | ⟨rfl, h1, c', h2, h3⟩
        · have : freeAt h l sending i t = true := by
            rw [hfa2, List.all_eq_true]
            intro c' hc'
            rw [h1 c' (by simpa using hc')]
            rfl
          rw [this]
          simp [en]
        · have : freeAt h l sending i t = false := by
            rw [hfa2, List.all_eq_false]
            exact ⟨c', by simpa using h2, by rw [h3]; simp⟩
          rw [this]
          simp [en, h1]
end Go.Proofs.YtmfdjipijifabaaDoor
end
section
/- The contest: how its memory changes. -/
set_option linter.unusedVariables false
set_option linter.unusedSimpArgs false
set_option maxRecDepth 100000
namespace Go.Proofs.YtmfdjipijifabaaDoor
open Go.Ab

theorem CM.set {cid aid : Nat} {h : List (List Bool)} {ask : Bool} {l : List Sta} {d out : AVal} {m m' : Mem} (hc : CM cid aid h ask l d out m) {i : Nat} (hi : i < l.length) (s' : Sta)
    (hn : m.next ≤ m'.next) (hmode : m'.mode = m.mode) (hsiz : m'.siz = m.siz) (hcell : ∀ id o, ¬ (id = aid ∧ i * 12 ≤ o ∧ o < i * 12 + 12) → m'.cell id o = m.cell id o) (hnew : ∀ o, o < 12 → m'.cell aid (i * 12 + o) = (eSta s')[o]?) :
    CM cid aid h ask (l.set i s') d out m' := by
  have hne := hc.ne
  have hx : ∀ o, m'.cell cid o = m.cell cid o := fun o => hcell cid o (fun e => hne e.1)
  refine ⟨Nat.lt_of_lt_of_le hc.lt hn, by rw [hmode]; exact hc.rw, by rw [hx]; exact hc.c1, by rw [hx]; exact hc.c2, by rw [hx, List.length_set]; exact hc.c4, by rw [hx]; exact hc.c5, by rw [hx]; exact hc.c6,
    ⟨Nat.lt_of_lt_of_le hc.st.lt hn, by rw [hmode]; exact hc.st.rw, by rw [hsiz, List.length_set]; exact hc.st.siz, fun j hj o ho => ?_⟩, hne, fun j hj => by rw [hmode]; exact hc.fresh j (by omega)⟩
  rw [List.length_set] at hj
  by_cases hij : i = j
  · subst hij
    rw [List.getElem_set_self]
    exact hnew o ho
  · rw [List.getElem_set_ne hij, hcell aid (j * 12 + o) (by
      rintro ⟨_, h1, h2⟩
      have : j = i := by omega
      exact hij this.symm)]
    exact hc.st.cell j hj o ho

theorem CM.bump {cid aid : Nat} {h : List (List Bool)} {ask : Bool} {l : List Sta} {d out : AVal} {m : Mem} (hc : CM cid aid h ask l d out m) (n : Nat) : CM cid aid h ask l d out { cell := m.cell, mode := m.mode, siz := m.siz, next := m.next + n } :=
  ⟨Nat.lt_of_lt_of_le hc.lt (Nat.le_add_right _ _), hc.rw, hc.c1, hc.c2, hc.c4, hc.c5, hc.c6, ⟨Nat.lt_of_lt_of_le hc.st.lt (Nat.le_add_right _ _), hc.st.rw, hc.st.siz, hc.st.cell⟩, hc.ne, fun i hi => hc.fresh i (by simp only [] at hi; omega)⟩
end Go.Proofs.YtmfdjipijifabaaDoor
end
section
/- The contest: answers. -/
set_option linter.unusedVariables false
set_option linter.unusedSimpArgs false
set_option maxRecDepth 100000
namespace Go.Proofs.YtmfdjipijifabaaDoor
open Go.Ab

/-- All but one block stays as it was. -/
structure Keep (aid : Nat) (m m' : Mem) : Prop where
  next : m.next ≤ m'.next
  cell : ∀ id, id < m.next → id ≠ aid → m'.cell id = m.cell id
  mode : ∀ id, id < m.next → m'.mode id = m.mode id
  siz : ∀ id, id < m.next → m'.siz id = m.siz id

theorem Keep.refl (aid : Nat) (m : Mem) : Keep aid m m := ⟨Nat.le_refl _, fun _ _ _ => rfl, fun _ _ => rfl, fun _ _ => rfl⟩
theorem Keep.trans {aid : Nat} {m m' m'' : Mem} (h : Keep aid m m') (g : Keep aid m' m'') : Keep aid m m'' :=
  ⟨Nat.le_trans h.next g.next, fun id hi hne => (g.cell id (Nat.lt_of_lt_of_le hi h.next) hne).trans (h.cell id hi hne), fun id hi => (g.mode id (Nat.lt_of_lt_of_le hi h.next)).trans (h.mode id hi), fun id hi => (g.siz id (Nat.lt_of_lt_of_le hi h.next)).trans (h.siz id hi)⟩
theorem Keep.bump (aid : Nat) (m : Mem) (n : Nat) : Keep aid m { cell := m.cell, mode := m.mode, siz := m.siz, next := m.next + n } := ⟨Nat.le_add_right _ _, fun _ _ _ => rfl, fun _ _ => rfl, fun _ _ => rfl⟩

/-- Who hears the receiver of i keeps quiet until i has ended: the first c stations. -/
def ansL (h : List (List Bool)) (l : List Sta) (i : Nat) : Nat → List Sta
  | 0 => l
  | c + 1 => match l[i]?, (ansL h l i c)[c]? with
    | some s, some x => if c ≠ i ∧ (h[c]?.bind (·[s.c.to]?)).getD false = true then (ansL h l i c).set c { x with reserved := max x.reserved s.fin } else ansL h l i c
    | _, _ => ansL h l i c

theorem ansL_len (h : List (List Bool)) (l : List Sta) (i c : Nat) : (ansL h l i c).length = l.length := by
  induction c with
  | zero => rfl
  | succ c ih =>
    simp only [ansL]
    split
    · split
      · rw [List.length_set]; exact ih
      · exact ih
    · exact ih

theorem ansL_self (h : List (List Bool)) (l : List Sta) (i c : Nat) : (ansL h l i c)[i]? = l[i]? := by
  induction c with
  | zero => rfl
  | succ c ih =>
    simp only [ansL]
    split
    · split
      · rename_i hc
        rw [List.getElem?_set_ne hc.1]; exact ih
      · exact ih
    · exact ih

theorem c43 (cid aid : Nat) (h : List (List Bool)) (ask : Bool) (l : List Sta) (d out : AVal) (i : Nat) (hi : i < l.length) (hh : h.length = l.length) (hr : ∀ i (hi : i < h.length), h[i].length = l.length) (hto : l[i].c.to < l.length) (hl : l.length < 2 ^ 20)
    (k : Nat) (hk : l.length + 5 ≤ k) (m : Mem) (hc : CM cid aid h ask l d out m) :
    ∃ m', cCall C T k 43 [.ptr cid 0, .int .i64 i] m = some (.tup [], m') ∧ CM cid aid h ask (ansL h l i l.length) d out m' ∧ Keep aid m m' := by
  obtain ⟨k, rfl⟩ : ∃ j, k = j + 1 := ⟨k - 1, by omega⟩
  simp only [cCall, kd43]
  rw [body43]
  have hm := hc.rw
  have c4 := hc.c4
  have own70 : ∀ q : Nat, q < l.length → indexAddrA Tryd.prog 70 (.own aid 0 l.length 12) (.int .i64 q) = some (.ptr aid (q * 12)) := fun q hq => by simp [indexAddrA, hq]
  simp [codeOf, Tryd.f43, hm, c4, own70 i hi, lenA]
  generalize hl' : cCode C _ _ _ (.loop _) _ = r
  obtain ⟨e, s', rfl, he, hp⟩ := loop_rule hl' (fun q s => s.env 0 = .ptr cid 0 ∧ s.env 1 = .int .i64 (i : Nat) ∧ s.env 4 = .ptr aid (i * 12) ∧ s.env 16 = .int .i64 l.length ∧
      Keep aid m s.mem ∧ ∃ c, c + q = l.length ∧ s.env 17 = .int .i64 (c : Nat) ∧ CM cid aid h ask (ansL h l i c) d out s.mem)
    (fun e s => e = .exit 0 ∧ Keep aid m s.mem ∧ CM cid aid h ask (ansL h l i l.length) d out s.mem) l.length (by omega) (by
      refine ⟨by simp, by simp, by simp, by simp, Keep.bump _ _ _, 0, by simp, by simp, hc.bump _⟩) (by
      rintro q s ⟨e0, e1, e4, e16, hkp, c, hcq, e17, hcm⟩
      by_cases hcl : c < l.length
      · have hww : IntKind.i64.wrap ((c : Int) + 1) = ((c + 1 : Nat) : Int) := IntWalk.i64_in _ (by omega)
        have lenc := ansL_len h l i c
        have hcl' : c < (ansL h l i c).length := by omega
        have hi2 : i < (ansL h l i c).length := by omega
        have hself : (ansL h l i c)[i] = l[i] := by
          have := ansL_self h l i c
          rw [List.getElem?_eq_getElem hi2, List.getElem?_eq_getElem hi] at this
          exact Option.some.inj this
        have hm2 := hcm.rw
        have ha2 := hcm.st.rw
        have d1 := hcm.c1
        have d4 := hcm.c4
        rw [lenc] at d4
        have t6 : s.mem.cell aid (i * 12 + 6) = some (.int .i64 l[i].c.to) := by
          have := hcm.st.cell i hi2 6 (by omega); rw [hself] at this; exact this
        have t8 : s.mem.cell aid (i * 12 + 8) = some (.int .i64 l[i].fin) := by
          have := hcm.st.cell i hi2 8 (by omega); rw [hself] at this; exact this
        have t11 : s.mem.cell aid (c * 12 + 11) = some (.int .i64 (ansL h l i c)[c].reserved) := hcm.st.cell c hcl' 11 (by omega)
        have hch : c < h.length := by omega
        have hhx := (sl_imm eBRow h).indexAddr (P := Tryd.prog) Tryd.underlying27 sz23 eBRow_len (k := .i64) hch
        have htr : l[i].c.to < h[c].length := by rw [hr c hch]; exact hto
        have hbx := (sl_imm eBool h[c]).indexAddr (P := Tryd.prog) Tryd.underlying23 sz4 eBool_len (k := .i64) htr
        have hnext : ansL h l i (c + 1) = if c ≠ i ∧ h[c][l[i].c.to] = true then (ansL h l i c).set c { (ansL h l i c)[c] with reserved := max (ansL h l i c)[c].reserved l[i].fin } else ansL h l i c := by
          simp only [ansL]
          rw [List.getElem?_eq_getElem hi, List.getElem?_eq_getElem hcl']
          simp [hch, htr]
        by_cases hci : c = i
        · subst hci
          rw [if_neg (by simp)] at hnext
          simp [e0, e1, e4, e16, e17, hcl, hww]
          exact ⟨by omega, hkp.trans (Keep.bump _ _ _), c + 1, by omega, by simp, by rw [hnext]; exact hcm.bump _⟩
        · have hcz : ((c : Int) != i) = true := by
            have : ¬ (c : Int) = i := by omega
            simp [this]
          cases hhr : h[c][l[i].c.to] with
          | false =>
            rw [if_neg (by simp [hhr])] at hnext
            simp [e0, e1, e4, e16, e17, hcl, hww, hcz, hm2, ha2, d1, hhx, eBRow, load_iptr_one ag23 sz23, t6, hbx, eBool, load_iptr_one ag4 sz4, hhr]
            exact ⟨by omega, hkp.trans (Keep.bump _ _ _), c + 1, by omega, by simp, by rw [hnext]; exact hcm.bump _⟩
          | true =>
            rw [if_pos ⟨hci, hhr⟩] at hnext
            have hmax : (if (ansL h l i c)[c].reserved < l[i].fin then l[i].fin else (ansL h l i c)[c].reserved) = max (ansL h l i c)[c].reserved l[i].fin := by split <;> omega
            simp [e0, e1, e4, e16, e17, hcl, hww, hcz, hm2, ha2, d1, d4, hhx, eBRow, load_iptr_one ag23 sz23, t6, hbx, eBool, load_iptr_one ag4 sz4, hhr, own70 c hcl, t8, t11]
            rw [hmax]
            refine ⟨by omega, hkp.trans ⟨Nat.le_add_right _ _, fun id _ hne => ?_, fun _ _ => rfl, fun _ _ => rfl⟩, c + 1, by omega, by simp, ?_⟩
            · funext o
              exact if_neg (fun e => hne e.1)
            · rw [hnext]
              refine hcm.set hcl' _ (Nat.le_add_right _ _) rfl rfl (fun id o hno => if_neg (fun e => hno ⟨e.1, by omega, by omega⟩)) (fun o ho => ?_)
              have hold := hcm.st.cell c hcl' o ho
              by_cases h11 : o = 11
              · subst h11
                show (if aid = aid ∧ _ then _ else _) = _
                rw [if_pos ⟨rfl, by omega, by omega⟩]
                simp [eSta, eCon, Bk.enc]
              · show (if aid = aid ∧ _ then _ else _) = _
                rw [if_neg (by omega), hold]
                have : o = 0 ∨ o = 1 ∨ o = 2 ∨ o = 3 ∨ o = 4 ∨ o = 5 ∨ o = 6 ∨ o = 7 ∨ o = 8 ∨ o = 9 ∨ o = 10 := by omega
                rcases this with rfl | rfl | rfl | rfl | rfl | rfl | rfl | rfl | rfl | rfl | rfl <;> rfl
      · have : c = l.length := by omega
        subst this
        simp [e0, e1, e4, e16, e17]
        exact ⟨hkp.trans (Keep.bump _ _ _), hcm.bump _⟩)
  obtain ⟨rfl, h1, h2⟩ := hp
  simp
  exact ⟨h2, h1⟩
end Go.Proofs.YtmfdjipijifabaaDoor
end
section
/- The contest: who is disturbed. -/
set_option linter.unusedVariables false
set_option linter.unusedSimpArgs false
set_option maxRecDepth 100000
namespace Go.Proofs.YtmfdjipijifabaaDoor
open Go.Ab

theorem c39' (k : Nat) (hk : 1 ≤ k) (id : Nat) (l : List Sta) (i : Nat) (hi : i < l.length) (t : Int) (m : Mem) (h : Stas id l m) :
    cCall C T k 39 [.ptr id (i * 12), .int .i64 t] m = some (.bool (l[i].sends t), { cell := m.cell, mode := m.mode, siz := m.siz, next := m.next + 16 }) := by
  obtain ⟨k, rfl⟩ : ∃ j, k = j + 1 := ⟨k - 1, by omega⟩
  simp only [cCall, kd39]
  rw [body39]
  have h7 : m.cell id (i * 12 + 7) = some (.int .i64 l[i].start) := h.cell i hi 7 (by omega)
  have h8 : m.cell id (i * 12 + 8) = some (.int .i64 l[i].fin) := h.cell i hi 8 (by omega)
  have hm := h.rw
  by_cases h1 : l[i].start ≤ t <;> by_cases h2 : t < l[i].fin <;> simp [codeOf, Tryd.f39, hm, h7, h8, h1, h2, Sta.sends]

theorem Stas.bump {id : Nat} {l : List Sta} {m : Mem} (h : Stas id l m) (n : Nat) : Stas id l { cell := m.cell, mode := m.mode, siz := m.siz, next := m.next + n } :=
  ⟨Nat.lt_of_lt_of_le h.lt (Nat.le_add_right _ _), h.rw, h.siz, h.cell⟩

/-- Whether what i sends is disturbed at its receiver. -/
def distK (h : List (List Bool)) (l : List Sta) (i to : Nat) (t : Int) (k : Nat) : Bool :=
  match h[to]?, l[k]? with
  | some row, some s => decide (k ≠ i) && (row[k]?.getD false && s.sends t)
  | _, _ => false
def distAt (h : List (List Bool)) (l : List Sta) (i : Nat) (t : Int) : Bool :=
  match l[i]? with
  | some s => match h[s.c.to]?, l[s.c.to]? with
    | some row, some r => !(row[i]?.getD false) || (r.sends t || (List.range l.length).any fun k => distK h l i s.c.to t k)
    | _, _ => false
  | none => false

theorem c42 (cid aid bc bt : Nat) (h : List (List Bool)) (ask : Bool) (l : List Sta) (d out : AVal) (i : Nat) (t : Int) (hi : i < l.length) (hh : h.length = l.length) (hr : ∀ i (hi : i < h.length), h[i].length = l.length) (hto : l[i].c.to < l.length) (hl : l.length < 2 ^ 20)
    (k : Nat) (hk : l.length + 5 ≤ k) (m : Mem) (hc : CM cid aid h ask l d out m) (hbc : m.mode bc = .rw ∧ m.cell bc 0 = some (.ptr cid 0)) (hbt : m.mode bt = .rw ∧ m.cell bt 0 = some (.int .i64 t)) :
    ∃ n, cCall C T k 42 [.int .i64 i, .ptr bc 0, .ptr bt 0] m = some (.bool (distAt h l i t), { cell := m.cell, mode := m.mode, siz := m.siz, next := m.next + n }) := by
  obtain ⟨k, rfl⟩ : ∃ j, k = j + 1 := ⟨k - 1, by omega⟩
  simp only [cCall, kd42]
  rw [body42]
  have hm := hc.rw
  have ha := hc.st.rw
  have c1 := hc.c1
  have c4 := hc.c4
  obtain ⟨x1, x2⟩ := hbc
  obtain ⟨y1, y2⟩ := hbt
  generalize hto' : l[i].c.to = to at hto
  have hth : to < h.length := by omega
  have t6 : m.cell aid (i * 12 + 6) = some (.int .i64 to) := by have := hc.st.cell i hi 6 (by omega); rw [← hto']; exact this
  have own70 : ∀ q : Nat, q < l.length → indexAddrA Tryd.prog 70 (.own aid 0 l.length 12) (.int .i64 q) = some (.ptr aid (q * 12)) := fun q hq => by simp [indexAddrA, hq]
  have hhx := (sl_imm eBRow h).indexAddr (P := Tryd.prog) Tryd.underlying27 sz23 eBRow_len (k := .i64) hth
  have hrl := hr to hth
  have hbx : ∀ q : Nat, (hq : q < l.length) → indexAddrA Tryd.prog 23 (.imm h[to].length (h[to].flatMap eBool)) (.int .i64 q) = some (.iptr (eBool (h[to][q]'(by omega)) ++ (h[to].drop (q + 1)).flatMap eBool)) := fun q hq => (sl_imm eBool h[to]).indexAddr (P := Tryd.prog) Tryd.underlying23 sz4 eBool_len (k := .i64) (by omega)
  have hst : ∀ n, Stas aid l { cell := m.cell, mode := m.mode, siz := m.siz, next := m.next + n } := fun n => hc.st.bump n
  have s39 : ∀ q (hq : q < l.length) n, cCall C T k 39 [.ptr aid (q * 12), .int .i64 t] { cell := m.cell, mode := m.mode, siz := m.siz, next := m.next + n } = some (.bool (l[q].sends t), { cell := m.cell, mode := m.mode, siz := m.siz, next := m.next + (n + 16) }) := fun q hq n => by
    have := c39' k (by omega) aid l q hq t _ (hst n)
    simpa using this
  have hda : distAt h l i t = (!(h[to][i]'(by omega)) || (l[to].sends t || (List.range l.length).any fun k => distK h l i to t k)) := by
    unfold distAt
    rw [List.getElem?_eq_getElem hi]
    simp only [hto']
    rw [List.getElem?_eq_getElem hth, List.getElem?_eq_getElem hto]
    have : i < h[to].length := by omega
    simp [this]
  rw [hda]
  have hlw : ∀ q : Nat, q < l.length → IntKind.i64.wrap ((q : Int) + 1) = ((q + 1 : Nat) : Int) := fun q hq => IntWalk.i64_in _ (by omega)
  cases h1 : h[to][i]'(by omega) with
  | false =>
    refine ⟨34, ?_⟩
    simp [codeOf, Tryd.f42, hm, ha, c1, c4, x1, x2, y1, y2, own70 i hi, own70 to hto, t6, hhx, eBRow, load_iptr_one ag23 sz23, hbx i hi, eBool, load_iptr_one ag4 sz4, h1]
  | true =>
    cases h2 : l[to].sends t with
    | true =>
      have h39 := s39 to hto
      rw [h2] at h39
      refine ⟨50, ?_⟩
      simp [codeOf, Tryd.f42, hm, ha, c1, c4, x1, x2, y1, y2, own70 i hi, own70 to hto, t6, hhx, eBRow, load_iptr_one ag23 sz23, hbx i hi, eBool, load_iptr_one ag4 sz4, h1, h39]
    | false =>
      have h39 := s39 to hto
      rw [h2] at h39
      simp [codeOf, Tryd.f42, hm, ha, c1, c4, x1, x2, y1, y2, own70 i hi, own70 to hto, t6, hhx, eBRow, load_iptr_one ag23 sz23, hbx i hi, eBool, load_iptr_one ag4 sz4, h1, h39, lenA]
      generalize hl' : cCode C _ _ _ (.loop _) _ = r
      obtain ⟨e, s', rfl, he, hp⟩ := loop_rule hl' (fun q s => s.env 0 = .int .i64 (i : Nat) ∧ s.env 1 = .ptr bc 0 ∧ s.env 2 = .ptr bt 0 ∧ s.env 4 = .bool false ∧ s.env 5 = .int .i64 (to : Nat) ∧ s.env 42 = .int .i64 l.length ∧
          (∃ n, s.mem = { cell := m.cell, mode := m.mode, siz := m.siz, next := m.next + n }) ∧ ∃ c, c + q = l.length ∧ s.env 43 = .int .i64 (c : Nat) ∧ ∀ c', c' < c → distK h l i to t c' = false)
        (fun e s => (∃ n, s.mem = { cell := m.cell, mode := m.mode, siz := m.siz, next := m.next + n }) ∧ ((e = .exit 0 ∧ ∀ c', c' < l.length → distK h l i to t c' = false) ∨ (e = .ret ∧ s.env 4 = .bool true ∧ ∃ c', c' < l.length ∧ distK h l i to t c' = true))) l.length (by omega) (by
          refine ⟨by simp, by simp, by simp, by simp, by simp, by simp, ⟨_, rfl⟩, 0, by simp, by simp, by simp⟩) (by
          rintro q s ⟨e0, e1, e2, e4, e5, e42, ⟨n, en⟩, c, hcq, e43, hall⟩
          by_cases hc2 : c < l.length
          · have step : distK h l i to t c = false → ∀ c', c' < c + 1 → distK h l i to t c' = false := fun hx c' hc' => by
              rcases Nat.lt_or_ge c' c with h1 | h1
              · exact hall c' h1
              · rw [show c' = c by omega]; exact hx
            have hdk : distK h l i to t c = (decide (c ≠ i) && ((h[to][c]'(by omega)) && l[c].sends t)) := by
              unfold distK
              rw [List.getElem?_eq_getElem hth, List.getElem?_eq_getElem hc2]
              simp [show c < h[to].length by omega]
            have hk39 := s39 c hc2
            by_cases hci : c = i
            · subst hci
              rw [decide_eq_false (by simp)] at hdk
              simp [e0, e1, e2, e4, e5, e42, e43, en, hc2, hlw c hc2]
              exact ⟨by omega, c + 1, by omega, by simp, step (by simpa using hdk)⟩
            · have hcz : ((c : Int) != i) = true := by
                have : ¬ (c : Int) = i := by omega
                simp [this]
              rw [decide_eq_true hci, Bool.true_and] at hdk
              cases hrr : h[to][c]'(by omega) with
              | false =>
                rw [hrr] at hdk
                simp [e0, e1, e2, e4, e5, e42, e43, en, hc2, hlw c hc2, hcz, x1, x2, hm, c1, hhx, eBRow, load_iptr_one ag23 sz23, hbx c hc2, eBool, load_iptr_one ag4 sz4, hrr]
                exact ⟨by omega, c + 1, by omega, by simp, step (by simpa using hdk)⟩
              | true =>
                rw [hrr] at hdk
                cases hss : l[c].sends t with
                | false =>
                  rw [hss] at hdk hk39
                  simp [e0, e1, e2, e4, e5, e42, e43, en, hc2, hlw c hc2, hcz, x1, x2, y1, y2, hm, c1, c4, own70 c hc2, hhx, eBRow, load_iptr_one ag23 sz23, hbx c hc2, eBool, load_iptr_one ag4 sz4, hrr, hk39]
                  exact ⟨by omega, c + 1, by omega, by simp, step (by simpa using hdk)⟩
                | true =>
                  rw [hss] at hdk hk39
                  simp [e0, e1, e2, e4, e5, e42, e43, en, hc2, hlw c hc2, hcz, x1, x2, y1, y2, hm, c1, c4, own70 c hc2, hhx, eBRow, load_iptr_one ag23 sz23, hbx c hc2, eBool, load_iptr_one ag4 sz4, hrr, hk39]
                  exact ⟨c, hc2, by simpa using hdk⟩
          · simp [e0, e1, e2, e4, e5, e42, e43, en, hc2]
            intro c' hc'
            exact hall c' (by omega))
      obtain ⟨⟨n, en⟩, hcase⟩ := hp
      rcases hcase with ⟨rfl, h3⟩ | ⟨rfl, h3, c', h4, h5⟩
      · have : ((List.range l.length).any fun k => distK h l i to t k) = false := by
          rw [List.any_eq_false]
          intro c' hc'
          rw [h3 c' (by simpa using hc')]
          simp
        rw [this]
        simp [en]
      · have : ((List.range l.length).any fun k => distK h l i to t k) = true := by
          rw [List.any_eq_true]
          exact ⟨c', by simpa using h4, h5⟩
        rw [this]
        simp [en, h3]
end Go.Proofs.YtmfdjipijifabaaDoor
end
section
/- The contest as a law of its own: what a slot does to the stations, the draws and the bursts. -/
set_option linter.unusedVariables false
set_option linter.unusedSimpArgs false
namespace Go.Proofs.YtmfdjipijifabaaDoor
open Go.Ab

/-- The first c elements, changed. -/
def upto {α : Type} (f : Nat → α → α) (c : Nat) (l : List α) : List α := l.mapIdx fun i s => if i < c then f i s else s
section
variable {α : Type} {f : Nat → α → α} {c : Nat} {l : List α}
@[simp] theorem upto_len : (upto f c l).length = l.length := by simp [upto]
theorem upto_get (i : Nat) : (upto f c l)[i]? = l[i]?.map fun s => if i < c then f i s else s := by simp [upto, List.getElem?_mapIdx]
theorem upto_zero : upto f 0 l = l := by
  apply List.ext_getElem?
  intro i
  rw [upto_get]
  cases l[i]? <;> simp
theorem upto_succ (h : c < l.length) : upto f (c + 1) l = (upto f c l).set c (f c l[c]) := by
  apply List.ext_getElem?
  intro i
  by_cases hi : i = c
  · subst hi
    rw [upto_get, List.getElem?_set_self (by simpa using h), List.getElem?_eq_getElem h]
    simp
  · rw [List.getElem?_set_ne (fun e => hi e.symm), upto_get, upto_get]
    have : i < c + 1 ↔ i < c := by omega
    simp [this]
theorem upto_all : upto f l.length l = l.mapIdx f := by
  apply List.ext_getElem?
  intro i
  rw [upto_get, List.getElem?_mapIdx]
  rcases Nat.lt_or_ge i l.length with h | h
  · rw [List.getElem?_eq_getElem h]; simp [h]
  · rw [List.getElem?_eq_none h]; simp
end

/-- A burst. -/
structure Bur where
  who : Nat
  start : Int
  fin : Int
  asked : Bool
  good : Bool
  deriving DecidableEq
def eBur (b : Bur) : List AVal := [.int .i64 b.who, .int .i64 b.start, .int .i64 b.fin, .bool b.asked, .bool b.good]
theorem eBur_len (b : Bur) : (eBur b).length = 5 := rfl

/-- A station begins, or counts down. -/
def begS (ask : Bool) (t : Int) (s : Sta) : Sta :=
  if 0 < s.c.b.cnt then { s with c := { s.c with b := s.c.b.idle } }
  else { s with start := t, fin := if ask then t + 1 else t + s.c.air, asked := false, spoiled := false }
def begF (h : List (List Bool)) (ask : Bool) (l : List Sta) (t : Int) (i : Nat) (s : Sta) : Sta :=
  if freeAt h l (l.map (·.sends t)) i t = true then begS ask t s else s
def begL (h : List (List Bool)) (ask : Bool) (t : Int) (l : List Sta) : List Sta := l.mapIdx (begF h ask l t)

/-- Whether what i sends is bad now; whether its request is answered. -/
def heldAt (l : List Sta) (i : Nat) (t : Int) : Bool := match l[i]? with
  | some s => match l[s.c.to]? with
    | some r => decide (t < r.reserved)
    | none => false
  | none => false
def reqAt (ask : Bool) (l : List Sta) (i : Nat) (t : Int) : Bool := match l[i]? with
  | some s => ask && decide (s.start = t)
  | none => false
def onAt (l : List Sta) (i : Nat) (t : Int) : Bool := match l[i]? with
  | some s => s.sends t
  | none => false
def badAt (h : List (List Bool)) (ask : Bool) (l : List Sta) (t : Int) (i : Nat) : Bool := onAt l i t && (distAt h l i t || (reqAt ask l i t && heldAt l i t))
def ansAt (h : List (List Bool)) (ask : Bool) (l : List Sta) (t : Int) (i : Nat) : Bool := onAt l i t && (!(distAt h l i t || (reqAt ask l i t && heldAt l i t)) && reqAt ask l i t)
def spoil (s : Sta) : Sta := { s with spoiled := true }
def grant (t : Int) (s : Sta) : Sta := { s with asked := true, fin := t + 1 + s.c.air }

/-- Those of a list, changed. -/
def touch {α : Type} (f : α → α) (is : List Nat) (l : List α) : List α := l.mapIdx fun i s => if i ∈ is then f s else s
section
variable {α : Type} {f : α → α} {is : List Nat} {l : List α}
@[simp] theorem touch_len : (touch f is l).length = l.length := by simp [touch]
theorem touch_get (i : Nat) : (touch f is l)[i]? = l[i]?.map fun s => if i ∈ is then f s else s := by simp [touch, List.getElem?_mapIdx]
theorem touch_nil : touch f [] l = l := by
  apply List.ext_getElem?
  intro i
  rw [touch_get]
  cases l[i]? <;> simp
theorem touch_snoc {j : Nat} (hj : j < l.length) (hn : j ∉ is) : touch f (is ++ [j]) l = (touch f is l).set j (f l[j]) := by
  apply List.ext_getElem?
  intro i
  by_cases hi : i = j
  · subst hi
    rw [touch_get, List.getElem?_set_self (by simpa using hj), List.getElem?_eq_getElem hj]
    simp
  · rw [List.getElem?_set_ne (fun e => hi e.symm), touch_get, touch_get]
    simp [hi]
end

def badL (h : List (List Bool)) (ask : Bool) (t : Int) (l : List Sta) : List Nat := (List.range l.length).filter (badAt h ask l t)
def ansI (h : List (List Bool)) (ask : Bool) (t : Int) (l : List Sta) : List Nat := (List.range l.length).filter (ansAt h ask l t)
def answers (h : List (List Bool)) (is : List Nat) (l : List Sta) : List Sta := is.foldl (fun l i => ansL h l i l.length) l
def airL (h : List (List Bool)) (ask : Bool) (t : Int) (l : List Sta) : List Sta := answers h (ansI h ask t l) (touch (grant t) (ansI h ask t l) (touch spoil (badL h ask t l) l))

/-- The end of a transmission. -/
def finS (s : Sta) (d : Int) : Sta :=
  { s with c := { s.c with b := (s.c.b.done s.spoiled d).1, frames := if (s.c.b.done s.spoiled d).2 || !s.spoiled then s.c.frames - 1 else s.c.frames }, fin := 0 }
def burOf (i : Nat) (s : Sta) : Bur := ⟨i, s.start, s.fin, s.asked, !s.spoiled⟩
structure Con3 where
  l : List Sta
  d : List Int
  out : List Bur
def finOne (t : Int) (i : Nat) (x : Con3) : Con3 := match x.l[i]? with
  | some s => if s.fin = t + 1 then ⟨x.l.set i (finS s (x.d.headD 0)), x.d.tail, x.out ++ [burOf i s]⟩ else x
  | none => x
def finC (t : Int) (x : Con3) : Nat → Con3
  | 0 => x
  | c + 1 => finOne t c (finC t x c)
def slotR (h : List (List Bool)) (ask : Bool) (t : Int) (x : Con3) : Con3 :=
  finC t ⟨airL h ask t (begL h ask t x.l), x.d, x.out⟩ x.l.length
def runR (h : List (List Bool)) (ask : Bool) (l : List Sta) (d : List Int) : Nat → Con3
  | 0 => ⟨l, d, []⟩
  | n + 1 => slotR h ask n (runR h ask l d n)
end Go.Proofs.YtmfdjipijifabaaDoor
end
section
/- The contest as a law of its own: what always holds of the stations and the bursts. -/
set_option linter.unusedVariables false
set_option linter.unusedSimpArgs false
namespace Go.Proofs.YtmfdjipijifabaaDoor
open Go.Ab

def hr (h : List (List Bool)) (i k : Nat) : Bool := (h[i]?.bind (·[k]?)).getD false
/-- The transmissions: those that have ended, and those that go on. -/
def Tx (out : List Bur) (l : List Sta) (w : Nat) (a b : Int) : Prop :=
  (∃ x ∈ out, x.who = w ∧ x.start = a ∧ x.fin = b) ∨ (∃ s, l[w]? = some s ∧ s.fin ≠ 0 ∧ s.start = a ∧ s.fin = b)
def Act (out : List Bur) (l : List Sta) (k : Nat) (t : Int) : Prop := ∃ a b, Tx out l k a b ∧ a ≤ t ∧ t < b
/-- What i sends is disturbed at a time. -/
def Dst (h : List (List Bool)) (tos : Nat → Nat) (A : Nat → Int → Prop) (i : Nat) (t : Int) : Prop :=
  hr h (tos i) i = false ∨ A (tos i) t ∨ ∃ k, k ≠ i ∧ hr h (tos i) k = true ∧ A k t
theorem Dst.congr {h : List (List Bool)} {tos : Nat → Nat} {A B : Nat → Int → Prop} {i : Nat} {t : Int} (hab : ∀ k, A k t ↔ B k t) : Dst h tos A i t ↔ Dst h tos B i t := by
  unfold Dst
  simp only [hab]

structure MInv (h : List (List Bool)) (ask : Bool) (n : Nat) (tos : Nat → Nat) (t : Int) (l : List Sta) (out : List Bur) : Prop where
  len : l.length = n
  to : ∀ (i : Nat) (s : Sta), l[i]? = some s → s.c.to = tos i
  air : ∀ (i : Nat) (s : Sta), l[i]? = some s → 1 ≤ s.c.air ∧ s.c.air ≤ 6
  wf : ∀ (i : Nat) (s : Sta), l[i]? = some s → s.fin = 0 ∨ (0 ≤ s.start ∧ s.start ≤ t ∧ t < s.fin ∧ s.fin ≤ s.start + 7)
  bur : ∀ x ∈ out, x.who < n ∧ 0 ≤ x.start ∧ x.start < x.fin ∧ x.fin ≤ t + 1 ∧ x.fin ≤ x.start + 7
  apart : out.Pairwise fun x y => x.who = y.who → x.fin ≤ y.start
  apart' : ∀ x ∈ out, ∀ (s : Sta), l[x.who]? = some s → s.fin ≠ 0 → x.fin ≤ s.start
  polite : ∀ w a b w' a' b', Tx out l w a b → Tx out l w' a' b' → a < a' → a' < b → w ≠ w' ∧ hr h w' w = false
  good : ∀ x ∈ out, (x.asked = true → ask = true) ∧ (x.good = true ↔ (ask = true → x.asked = true) ∧ ∀ t', x.start ≤ t' → t' < x.fin → ¬ Dst h tos (Act out l) x.who t')
  cur : ∀ (i : Nat) (s : Sta), l[i]? = some s → s.fin ≠ 0 → (s.asked = true → ask = true) ∧ (t + 1 < s.fin → ask = true → s.asked = true) ∧ (s.spoiled = false ↔ (ask = true → s.asked = true) ∧ ∀ t', s.start ≤ t' → t' ≤ t → ¬ Dst h tos (Act out l) i t')

section
variable {h : List (List Bool)} {ask : Bool} {n : Nat} {tos : Nat → Nat} {t : Int} {l : List Sta} {out : List Bur}

/-- A transmission ends. -/
theorem MInv.fin {i : Nat} {s s' : Sta} (H : MInv h ask n tos t l out) (hi : l[i]? = some s) (hf : s.fin = t + 1) (ht : 0 ≤ t) (h0 : s'.fin = 0) (hto : s'.c.to = s.c.to) (hair : s'.c.air = s.c.air) :
    MInv h ask n tos t (l.set i s') (out ++ [burOf i s]) := by
  have hil : i < l.length := (List.getElem?_eq_some_iff.1 hi).1
  have hwf := H.wf i s hi
  have hne : s.fin ≠ 0 := by omega
  rw [or_iff_right hne] at hwf
  have get : ∀ (j : Nat) (x : Sta), (l.set i s')[j]? = some x → (j = i ∧ x = s') ∨ (j ≠ i ∧ l[j]? = some x) := by
    intro j x hx
    by_cases hj : j = i
    · subst hj
      rw [List.getElem?_set_self hil] at hx
      exact .inl ⟨rfl, (Option.some.inj hx).symm⟩
    · rw [List.getElem?_set_ne (fun e => hj e.symm)] at hx
      exact .inr ⟨hj, hx⟩
  have tx : ∀ w a b, Tx (out ++ [burOf i s]) (l.set i s') w a b ↔ Tx out l w a b := by
    intro w a b
    constructor
    · rintro (⟨x, hx, e1, e2, e3⟩ | ⟨x, hx, h1, e2, e3⟩)
      · rcases List.mem_append.1 hx with hx | hx
        · exact .inl ⟨x, hx, e1, e2, e3⟩
        · rw [List.mem_singleton] at hx
          subst hx
          simp only [burOf] at e1 e2 e3
          subst e1
          exact .inr ⟨s, hi, hne, e2, e3⟩
      · rcases get _ _ hx with ⟨rfl, rfl⟩ | ⟨_, hx⟩
        · exact absurd h0 h1
        · exact .inr ⟨x, hx, h1, e2, e3⟩
    · rintro (⟨x, hx, e1, e2, e3⟩ | ⟨x, hx, h1, e2, e3⟩)
      · exact .inl ⟨x, by simp [hx], e1, e2, e3⟩
      · by_cases hw : w = i
        · subst hw
          rw [hi] at hx
          cases hx
          exact .inl ⟨burOf w s, by simp, rfl, e2, e3⟩
        · exact .inr ⟨x, by rw [List.getElem?_set_ne (fun e => hw e.symm)]; exact hx, h1, e2, e3⟩
  have act : ∀ k t', Act (out ++ [burOf i s]) (l.set i s') k t' ↔ Act out l k t' := by
    intro k t'
    unfold Act
    simp only [tx]
  have dst : ∀ k t', Dst h tos (Act (out ++ [burOf i s]) (l.set i s')) k t' ↔ Dst h tos (Act out l) k t' := fun k t' => Dst.congr fun j => act j t'
  have hcur := H.cur i s hi hne
  refine ⟨by rw [List.length_set]; exact H.len, fun j x hx => ?_, fun j x hx => ?_, fun j x hx => ?_, fun x hx => ?_, ?_, fun x hx y hy hy0 => ?_, fun w a b w' a' b' h1 h2 => H.polite w a b w' a' b' ((tx _ _ _).1 h1) ((tx _ _ _).1 h2), fun x hx => ?_, fun j x hx hx0 => ?_⟩
  · rcases get _ _ hx with ⟨rfl, rfl⟩ | ⟨_, hx⟩
    · rw [hto]; exact H.to _ s hi
    · exact H.to j x hx
  · rcases get _ _ hx with ⟨rfl, rfl⟩ | ⟨_, hx⟩
    · rw [hair]; exact H.air _ s hi
    · exact H.air j x hx
  · rcases get _ _ hx with ⟨rfl, rfl⟩ | ⟨_, hx⟩
    · exact .inl h0
    · exact H.wf j x hx
  · rcases List.mem_append.1 hx with hx | hx
    · exact H.bur x hx
    · rw [List.mem_singleton] at hx
      subst hx
      refine ⟨?_, ?_, ?_, ?_, ?_⟩ <;> simp only [burOf] <;> first | (rw [← H.len]; exact hil) | omega
  · rw [List.pairwise_append]
    refine ⟨H.apart, List.pairwise_singleton _ _, fun x hx y hy hxy => ?_⟩
    rw [List.mem_singleton] at hy
    subst hy
    simp only [burOf] at hxy ⊢
    exact H.apart' x hx s (by rw [hxy]; exact hi) hne
  · rcases get _ _ hy with ⟨hw, rfl⟩ | ⟨hw, hy⟩
    · exact absurd h0 hy0
    · rcases List.mem_append.1 hx with hx | hx
      · exact H.apart' x hx y hy hy0
      · rw [List.mem_singleton] at hx
        subst hx
        exact absurd rfl hw
  · simp only [dst]
    rcases List.mem_append.1 hx with hx | hx
    · exact H.good x hx
    · rw [List.mem_singleton] at hx
      subst hx
      refine ⟨hcur.1, ?_⟩
      have := hcur.2.2
      simp only [burOf, hf]
      rw [Bool.not_eq_true', this]
      constructor
      · rintro ⟨q1, q2⟩
        exact ⟨q1, fun t' p1 p2 => q2 t' p1 (by omega)⟩
      · rintro ⟨q1, q2⟩
        exact ⟨q1, fun t' p1 p2 => q2 t' p1 (by omega)⟩
  · simp only [dst]
    rcases get _ _ hx with ⟨rfl, rfl⟩ | ⟨_, hx⟩
    · exact absurd h0 hx0
    · exact H.cur j x hx hx0

/-- What a slot does, up to its end. -/
def Slot (h : List (List Bool)) (ask : Bool) (tos : Nat → Nat) (t : Int) (l l2 : List Sta) : Prop :=
  l2.length = l.length ∧ ∀ (i : Nat) (s : Sta), l[i]? = some s → ∃ s2, l2[i]? = some s2 ∧ s2.c.to = s.c.to ∧ s2.c.air = s.c.air ∧
    ((s2.start = s.start ∧ s2.fin = s.fin ∧ s2.asked = s.asked ∧ (s2.spoiled = true ↔ s.spoiled = true ∨ (s.fin ≠ 0 ∧ Dst h tos (fun k _ => ∃ x, l2[k]? = some x ∧ x.fin ≠ 0) i t))) ∨
     (s.fin = 0 ∧ (∀ (k : Nat) (x : Sta), l[k]? = some x → x.fin ≠ 0 → hr h i k = false) ∧ s2.start = t ∧ t < s2.fin ∧ s2.fin ≤ t + 7 ∧ (s2.asked = true → ask = true) ∧ (t + 1 < s2.fin → ask = true → s2.asked = true) ∧
      (s2.spoiled = false ↔ (ask = true → s2.asked = true) ∧ ¬ Dst h tos (fun k _ => ∃ x, l2[k]? = some x ∧ x.fin ≠ 0) i t)))

theorem MInv.slot {l2 : List Sta} (H : MInv h ask n tos (t - 1) l out) (ht : 0 ≤ t) (hno : ∀ (i : Nat) (s : Sta), l[i]? = some s → s.fin ≠ t ∨ s.fin = 0) (S : Slot h ask tos t l l2) : MInv h ask n tos t l2 out := by
  obtain ⟨hlen, S⟩ := S
  have back : ∀ (i : Nat) (s2 : Sta), l2[i]? = some s2 → ∃ s, l[i]? = some s ∧ s2.c.to = s.c.to ∧ s2.c.air = s.c.air ∧
    ((s2.start = s.start ∧ s2.fin = s.fin ∧ s2.asked = s.asked ∧ (s2.spoiled = true ↔ s.spoiled = true ∨ (s.fin ≠ 0 ∧ Dst h tos (fun k _ => ∃ x, l2[k]? = some x ∧ x.fin ≠ 0) i t))) ∨
     (s.fin = 0 ∧ (∀ (k : Nat) (x : Sta), l[k]? = some x → x.fin ≠ 0 → hr h i k = false) ∧ s2.start = t ∧ t < s2.fin ∧ s2.fin ≤ t + 7 ∧ (s2.asked = true → ask = true) ∧ (t + 1 < s2.fin → ask = true → s2.asked = true) ∧
      (s2.spoiled = false ↔ (ask = true → s2.asked = true) ∧ ¬ Dst h tos (fun k _ => ∃ x, l2[k]? = some x ∧ x.fin ≠ 0) i t))) := by
    intro i s2 h2
    have hi : i < l.length := by rw [← hlen]; exact (List.getElem?_eq_some_iff.1 h2).1
    obtain ⟨s2', q1, q2⟩ := S i l[i] (List.getElem?_eq_getElem hi)
    rw [h2] at q1
    cases q1
    exact ⟨l[i], List.getElem?_eq_getElem hi, q2⟩
  have wf2 : ∀ (i : Nat) (s : Sta), l2[i]? = some s → s.fin = 0 ∨ (0 ≤ s.start ∧ s.start ≤ t ∧ t < s.fin ∧ s.fin ≤ s.start + 7) := by
    intro i s2 h2
    obtain ⟨s, q1, _, _, q2 | q2⟩ := back i s2 h2
    · have := H.wf i s q1
      have := hno i s q1
      omega
    · omega
  -- old transmissions abide; new ones begin now
  have txold : ∀ w a b, Tx out l w a b → Tx out l2 w a b := by
    rintro w a b (q | ⟨s, q1, q2, q3, q4⟩)
    · exact .inl q
    · obtain ⟨s2, r1, _, _, r2 | r2⟩ := S w s q1
      · exact .inr ⟨s2, r1, by omega, by omega, by omega⟩
      · exact absurd r2.1 q2
  have txnew : ∀ w a b, Tx out l2 w a b → Tx out l w a b ∨ (a = t ∧ ∀ (k : Nat) (x : Sta), l[k]? = some x → x.fin ≠ 0 → hr h w k = false ∧ k ≠ w) := by
    rintro w a b (q | ⟨s2, q1, q2, q3, q4⟩)
    · exact .inl (.inl q)
    · obtain ⟨s, r1, _, _, r2 | r2⟩ := back w s2 q1
      · exact .inl (.inr ⟨s, r1, by omega, by omega, by omega⟩)
      · refine .inr ⟨by omega, fun k x hx hx0 => ⟨r2.2.1 k x hx hx0, ?_⟩⟩
        rintro rfl
        rw [r1] at hx
        cases hx
        exact hx0 r2.1
  have txbef : ∀ w a b, Tx out l w a b → a < t ∧ (b ≤ t ∨ ∃ s, l[w]? = some s ∧ s.fin ≠ 0) := by
    rintro w a b (⟨x, q1, q2, q3, q4⟩ | ⟨s, q1, q2, q3, q4⟩)
    · have := H.bur x q1; omega
    · have := H.wf w s q1
      exact ⟨by omega, .inr ⟨s, q1, q2⟩⟩
  have act0 : ∀ k t', t' < t → (Act out l2 k t' ↔ Act out l k t') := by
    intro k t' ht'
    constructor
    · rintro ⟨a, b, q1, q2, q3⟩
      rcases txnew k a b q1 with q | q
      · exact ⟨a, b, q, q2, q3⟩
      · omega
    · rintro ⟨a, b, q1, q2, q3⟩
      exact ⟨a, b, txold k a b q1, q2, q3⟩
  have act1 : ∀ k, Act out l2 k t ↔ ∃ x, l2[k]? = some x ∧ x.fin ≠ 0 := by
    intro k
    constructor
    · rintro ⟨a, b, ⟨x, q1, q2, q3, q4⟩ | ⟨s, q1, q2, q3, q4⟩, p1, p2⟩
      · have := H.bur x q1; omega
      · exact ⟨s, q1, q2⟩
    · rintro ⟨x, q1, q2⟩
      have := wf2 k x q1
      exact ⟨x.start, x.fin, .inr ⟨x, q1, q2, rfl, rfl⟩, by omega, by omega⟩
  have dst0 : ∀ i t', t' < t → (Dst h tos (Act out l2) i t' ↔ Dst h tos (Act out l) i t') := fun i t' ht' => Dst.congr fun k => act0 k t' ht'
  have dst1 : ∀ i, Dst h tos (Act out l2) i t ↔ Dst h tos (fun k _ => ∃ x, l2[k]? = some x ∧ x.fin ≠ 0) i t := fun i => Dst.congr fun k => act1 k
  refine ⟨by rw [hlen]; exact H.len, fun i s2 h2 => ?_, fun i s2 h2 => ?_, wf2, fun x hx => ?_, H.apart, fun x hx s2 h2 h0 => ?_, fun w a b w' a' b' q1 q2 q3 q4 => ?_, fun x hx => ?_, fun i s2 h2 h0 => ?_⟩
  · obtain ⟨s, q1, q2, _⟩ := back i s2 h2
    rw [q2]; exact H.to i s q1
  · obtain ⟨s, q1, _, q2, _⟩ := back i s2 h2
    rw [q2]; exact H.air i s q1
  · have := H.bur x hx; exact ⟨this.1, this.2.1, this.2.2.1, by omega, this.2.2.2.2⟩
  · obtain ⟨s, q1, _, _, q2 | q2⟩ := back _ s2 h2
    · rw [q2.1]; exact H.apart' x hx s q1 (by omega)
    · have := H.bur x hx; omega
  · rcases txnew _ _ _ q2 with r2 | ⟨r2, r3⟩
    · rcases txnew _ _ _ q1 with r1 | ⟨r1, _⟩
      · exact H.polite w a b w' a' b' r1 r2 q3 q4
      · have := txbef _ _ _ r2; omega
    · rcases txnew _ _ _ q1 with r1 | ⟨r1, _⟩
      · obtain ⟨p1, p2 | ⟨s, p2, p3⟩⟩ := txbef _ _ _ r1
        · omega
        · have := r3 w s p2 p3
          exact ⟨this.2, this.1⟩
      · omega
  · have hb := H.bur x hx
    have hg := H.good x hx
    refine ⟨hg.1, hg.2.trans ?_⟩
    constructor
    · rintro ⟨p1, p2⟩
      exact ⟨p1, fun t' a1 a2 => by rw [dst0 _ _ (by omega)]; exact p2 t' a1 a2⟩
    · rintro ⟨p1, p2⟩
      exact ⟨p1, fun t' a1 a2 => by rw [← dst0 _ _ (by omega)]; exact p2 t' a1 a2⟩
  · obtain ⟨s, q1, _, _, ⟨p1, p2, p3, p4⟩ | ⟨p1, p2, p3, p4, p5, p6, p7, p8⟩⟩ := back i s2 h2
    · have hs0 : s.fin ≠ 0 := by omega
      have hwf := H.wf i s q1
      have hnt := hno i s q1
      obtain ⟨c1, c2, c3⟩ := H.cur i s q1 hs0
      have c2' : ask = true → s.asked = true := c2 (by omega)
      rw [p1, p2, p3]
      refine ⟨c1, fun _ => c2', ?_⟩
      have e1 : s2.spoiled = false ↔ s.spoiled = false ∧ ¬ Dst h tos (Act out l2) i t := by
        rw [dst1]
        constructor
        · intro hh
          refine ⟨?_, fun hd => ?_⟩
          · cases hs : s.spoiled with
            | false => rfl
            | true => rw [p4.2 (.inl hs)] at hh; cases hh
          · rw [p4.2 (.inr ⟨hs0, hd⟩)] at hh; cases hh
        · rintro ⟨hh, hd⟩
          cases hs2 : s2.spoiled with
          | false => rfl
          | true =>
            rcases p4.1 hs2 with e | e
            · rw [hh] at e; cases e
            · exact absurd e.2 hd
      rw [e1, c3]
      constructor
      · rintro ⟨⟨a1, a2⟩, a3⟩
        refine ⟨a1, fun t' b1 b2 => ?_⟩
        by_cases hb : t' = t
        · rw [hb]; exact a3
        · rw [dst0 _ _ (by omega)]; exact a2 t' b1 (by omega)
      · rintro ⟨a1, a2⟩
        refine ⟨⟨a1, fun t' b1 b2 => ?_⟩, a2 t (by omega) (by omega)⟩
        rw [← dst0 _ _ (by omega)]; exact a2 t' b1 (by omega)
    · refine ⟨p6, p7, p8.trans ?_⟩
      rw [← dst1]
      constructor
      · rintro ⟨a1, a2⟩
        refine ⟨a1, fun t' b1 b2 => ?_⟩
        rw [show t' = t by omega]; exact a2
      · rintro ⟨a1, a2⟩
        exact ⟨a1, a2 t (by omega) (by omega)⟩
end
end Go.Proofs.YtmfdjipijifabaaDoor
end
